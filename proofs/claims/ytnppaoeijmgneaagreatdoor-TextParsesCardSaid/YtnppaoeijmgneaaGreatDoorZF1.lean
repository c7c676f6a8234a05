/-
  Part 1 of the proof: AvB AvC AvD AvE AvF AvG AvH AvI AvJ AvR AvK AvL AvM AvN AvQ AvU N0 AvW Inst AvP Laid LB.
-/
import Derived.Still
import Derived.DeepKeys
import Derived.ProofKit
import Derived.SizedLaws
import Derived.Test.YtnppaoeijmgneaaGreatDoorRows
import Derived.Laws.BytesArg
import Derived.Shelf.Strings.OnBuilder
import Derived.Shelf.Small.Wraps
import Derived.Shelf.Strconv.Atoi
import Derived.Shelf.LaysM
import Derived.Shelf.Strconv.Itoa3
import Derived.Shelf.Strings.Prefix
import Derived.Shelf.Strings.Fields
import Derived.Shelf.Strings.Repeat
import Derived.Shelf.Strings.SlTrimAscii
import Derived.Test.YtnppaoeijmgneaaGreatDoorProg
import Derived.Test.YtnppaoeijmgneaaGreatDoorZF0
set_option linter.unusedSimpArgs false
set_option linter.unusedVariables false
section
namespace Go.Av
open Classical
def updF (dst : Option Tmp) (d : DV) (φ : Nat -> DV) : Nat -> DV := match dst with|some i => fun j => if i = j then d else φ j|none => φ
theorem look_putF (dst : Option Tmp) (d : DV) (t : Fr) : look (putF dst d t) = updF dst d (look t) := by
 cases dst with
 | none => rfl
 | some i =>
  funext j
  simp only [putF, look, updF]
  cases hb : Nat.beq i j with
  | true => rw [if_pos (Nat.eq_of_beq_eq_true hb)]
  | false => rw [if_neg (fun e => by subst e;simp at hb)]
def aevF (G : Nat -> DV) (φ : Nat -> DV) : Operand -> DV
 | .tmp i => φ i
 | .const v => .sc v
 | .global g => G g
 | .func f => .fn (.func f) [] []
theorem aevF_look (G : Nat -> DV) (t : Fr) : aevF G (look t) = aev G t := by funext x;cases x <;> rfl
theorem updF_comm {x y : Option Tmp} (d e : DV) (φ : Nat -> DV) (h : ∀ i, x = some i -> y ≠ some i) : updF y e (updF x d φ) = updF x d (updF y e φ) := by
 cases x with
 | none => rfl
 | some i =>
  cases y with
  | none => rfl
  | some j =>
   have hne : i ≠ j := fun he => h i rfl (he ▸ rfl)
   funext k
   simp only [updF]
   by_cases h1 : j = k <;> by_cases h2 : i = k
   ·exact absurd (h2.trans h1.symm) hne
   all_goals simp [h1, h2]
section
variable {P : Program} {G : Nat -> DV} {E : AX} {n : Nat} {σ : List ABlk} {ops : Array Oper} {md : Region.Mode}
def RelF (G : Nat -> DV) (E : AX) (n : Nat) (φ : Nat -> DV) (σ : List ABlk) (a : Act) (w : World) : Prop :=
 ∃ X : AX, X.w = w /\ X.σ = σ /\ Sto X /\ WExt E X /\ GOk G X /\ a.defers = [] /\ a.tmps.size = n /\ ∀ i, VRep X.lay (φ i) (a.tmps.getD i undef)
def Wd (n : Nat) (ops : Array Oper) (o : Oper) (φ : Nat -> DV) (b : Bool) : Prop := match o.guard with
 | none => b = true
 | some (j, want) => ∃ s c, (ops[j]?).bind (·.dst) = some s /\ s < n /\ φ s = .sc c /\ b = (yv c == some want)
def YA (P : Program) (G : Nat -> DV) (B n : Nat) (ops : Array Oper) (σ : List ABlk) (o : Oper) (d : DV) (φ : Nat -> DV) : Prop :=
 (∀ i, o.dst = some i -> i < n) /\ ((Wd n ops o φ true /\ OpSem P G B o (aevF G φ) σ (fun d' σ' => d' = d /\ σ' = σ)) \/ (Wd n ops o φ false /\ d = .sc undef))
theorem Wd.same {o : Oper} {φ φ' : Nat -> DV} {b : Bool} (h : Wd n ops o φ b) (he : ∀ t ∈ o.looksAt ops, φ' t = φ t) : Wd n ops o φ' b := by
 unfold Wd at *
 cases hg : o.guard with
 | none => rw [hg] at h;exact h
 | some gw =>
  obtain ⟨j, want⟩ := gw
  rw [hg] at h
  obtain ⟨s, c, h1, h2, h3, h4⟩ := h
  refine ⟨s, c, h1, h2, ?_, h4⟩
  rw [he s (by simp [Oper.looksAt, hg, h1])]
  exact h3
theorem OpSem.same {B : Nat} {o : Oper} {f f' : Operand -> DV} {K : DV -> List ABlk -> Prop} (h : OpSem P G B o f σ K) (he : ∀ x ∈ o.op.operands, f' x = f x) : OpSem P G B o f' σ K := fun X ρ h1 h2 h3 h4 h5 =>
 h X ρ h1 h2 h3 h4 fun x hx => by rw [<- he x hx];exact h5 x hx
theorem YA.same {B : Nat} {o : Oper} {d : DV} {φ φ' : Nat -> DV} (h : YA P G B n ops σ o d φ) (he : ∀ t ∈ o.looksAt ops, φ' t = φ t) : YA P G B n ops σ o d φ' := by
 obtain ⟨h0, h⟩ := h
 refine ⟨h0, ?_⟩
 rcases h with ⟨h1, h2⟩|⟨h1, h2⟩
 ·refine .inl ⟨h1.same he, h2.same fun x hx => ?_⟩
  cases x with
  | tmp t => exact he t (List.mem_append_left _ (List.mem_filterMap.2 ⟨.tmp t, by simpa using hx, rfl⟩))
  | _ => rfl
 ·exact .inr ⟨h1.same he, h2⟩
theorem upd_looks {o : Oper} {dst : Option Tmp} {d : DV} {φ : Nat -> DV} (h : ∀ i, dst = some i -> i ∉ o.looksAt ops) : ∀ t ∈ o.looksAt ops, updF dst d φ t = φ t := fun t ht => by
 cases dst with
 | none => rfl
 | some i =>
  simp only [updF]
  rw [if_neg (fun e => h i rfl (by rw [e];exact ht))]
def anyP (P : Program) (G : Nat -> DV) (B n : Nat) (md : Region.Mode) (ops : Array Oper) (σ : List ABlk) (m : Nat) (Fin : Array Bool -> (Nat -> DV) -> Prop) : Nat -> Array Bool -> (Nat -> DV) -> Prop
 | 0, listed, φ => (∀ j ∈ Region.ready md ops listed, m <= j) /\ Fin listed φ
 | r + 1, listed, φ => Region.ready md ops listed ≠ [] /\ ∀ i ∈ Region.ready md ops listed, i < m /\ ∃ o d, ops[i]? = some o /\ YA P G B n ops σ o d φ /\ anyP P G B n md ops σ m Fin r (listed.setIfInBounds i true) (updF o.dst d φ)
def Closed (md : Region.Mode) (ops : Array Oper) (listed : Array Bool) : Prop := ∀ (j : Nat) (o : Oper), ops[j]? = some o -> listed.getD j false = true -> ∀ e ∈ o.after, Region.binds md e = true -> listed.getD e.on false = true
theorem Closed.step {listed : Array Bool} (h : Closed md ops listed) {i : Nat} (hr : i ∈ Region.ready md ops listed) : Closed md ops (listed.setIfInBounds i true) := fun j o hj hl e he hb => by
 by_cases hij : i = j
 ·subst hij
  obtain ⟨_, o', ho', hall⟩ := mem_ready.1 hr
  rw [hj] at ho'
  cases ho'
  exact getD_set_true (hall e he hb)
 ·rw [getD_set_ne false hij] at hl
  exact getD_set_true (h j o hj hl e he hb)
def waits (md : Region.Mode) (ops : Array Oper) : Nat -> Nat -> List Nat
 | 0, j => [j]
 | k + 1, j => j :: (((ops[j]?).map (·.after.toList)).getD []).flatMap fun e => if Region.binds md e then waits md ops k e.on else []
theorem waits_listed {listed : Array Bool} (hc : Closed md ops listed) : ∀ (k j : Nat), listed.getD j false = true -> ∀ i ∈ waits md ops k j, listed.getD i false = true
 | 0, j, h, i, hi => by simp [waits] at hi;rw [hi];exact h
 | k + 1, j, h, i, hi => by
  simp only [waits, List.mem_cons, List.mem_flatMap] at hi
  rcases hi with rfl|⟨e, he, hi⟩
  ·exact h
  ·cases ho : ops[j]? with
   | none => simp [ho] at he
   | some o =>
    simp [ho] at he
    split at hi
    ·rename_i hb
     exact waits_listed hc k e.on (hc j o ho h e he hb) i hi
    ·simp at hi
theorem ready_waits {listed : Array Bool} (hc : Closed md ops listed) {j : Nat} (hr : j ∈ Region.ready md ops listed) (k : Nat) : ∀ i ∈ waits md ops k j, i ≠ j -> listed.getD i false = true := fun i hi hne => by
 cases k with
 | zero => simp [waits] at hi;exact absurd hi hne
 | succ k =>
  simp only [waits, List.mem_cons, List.mem_flatMap] at hi
  rcases hi with rfl|⟨e, he, hi⟩
  ·exact absurd rfl hne
  ·obtain ⟨_, o, ho, hall⟩ := mem_ready.1 hr
   simp [ho] at he
   split at hi
   ·rename_i hb
    exact waits_listed hc k e.on (hall e he hb) i hi
   ·simp at hi
def sufB (md : Region.Mode) (ops : Array Oper) (m : Nat) : Bool := (List.range ops.size).all fun j => decide (j < m) || (List.range m).all fun i => (waits md ops ops.size j).contains i
theorem sufB_spec {m : Nat} (h : sufB md ops m = true) {listed : Array Bool} (hc : Closed md ops listed) {i j : Nat} (hi : i < m) (hun : listed.getD i true = false) (hr : j ∈ Region.ready md ops listed) : j < m := by
 by_cases hj : j < m
 ·exact hj
 ·exfalso
  obtain ⟨_, o, ho, _⟩ := mem_ready.1 hr
  have hlt : j < ops.size := (Array.getElem?_eq_some_iff.1 ho).1
  have h1 := List.all_eq_true.1 h j (List.mem_range.2 hlt)
  simp only [hj, decide_false, Bool.false_or] at h1
  have h2 := List.all_eq_true.1 h1 i (List.mem_range.2 hi)
  have h3 := ready_waits hc hr ops.size i (by simpa using h2) (by omega)
  have : i < listed.size := by
   rcases Nat.lt_or_ge i listed.size with h|h
   ·exact h
   ·simp [Array.getElem?_eq_none h] at hun
  simp [this] at h3 hun
  rw [h3] at hun
  cases hun
theorem anyP_first {B m : Nat} {Fin : Array Bool -> (Nat -> DV) -> Prop} (hsuf : sufB md ops m = true) {i : Nat} {oi : Oper} {d : DV} (hi : ops[i]? = some oi) (him : i < m) :
  ∀ (r : Nat) (listed : Array Bool) (φ : Nat -> DV), Closed md ops listed ->
   (∀ j oj, ops[j]? = some oj -> j ≠ i -> listed.getD j true = false -> (∀ e ∈ oj.after, Region.binds md e = true -> e.on ≠ i) -> oi.apart ops oj = true) ->
   i ∈ Region.ready md ops listed -> YA P G B n ops σ oi d φ ->
   anyP P G B n md ops σ m Fin r (listed.setIfInBounds i true) (updF oi.dst d φ) -> anyP P G B n md ops σ m Fin (r + 1) listed φ := by
 intro r
 induction r with
 | zero =>
  intro listed φ hc hfree hr hy H
  refine ⟨fun h => (by rw [h] at hr;cases hr), fun j hj => ?_⟩
  by_cases hji : j = i
  ·subst hji;exact ⟨him, oi, d, hi, hy, H⟩
  ·have h1 := sufB_spec hsuf hc him (mem_ready.1 hr).1 hj
   have h2 := H.1 j (ready_mono hj hji)
   omega
 | succ r ih =>
  intro listed φ hc hfree hr hy H
  refine ⟨fun h => (by rw [h] at hr;cases hr), fun j hj => ?_⟩
  by_cases hji : j = i
  ·subst hji;exact ⟨him, oi, d, hi, hy, H⟩
  ·have hjm := sufB_spec hsuf hc him (mem_ready.1 hr).1 hj
   obtain ⟨_, oj, e, hoj, hyj, Hj⟩ := H.2 j (ready_mono hj hji)
   obtain ⟨hjun, oj', hoj', hall⟩ := mem_ready.1 hj
   rw [hoj] at hoj';cases hoj'
   have hnot : ∀ e ∈ oj.after, Region.binds md e = true -> e.on ≠ i := fun e he hb heq => by
    have h1 := hall e he hb
    have h0 := (mem_ready.1 hr).1
    rw [heq] at h1
    rcases Nat.lt_or_ge i listed.size with h'|h'
    ·simp [h'] at h0 h1;rw [h0] at h1;cases h1
    ·simp [Array.getElem?_eq_none h'] at h1
   obtain ⟨a1, a2, a3⟩ := Oper.apart_spec (hfree j oj hoj hji hjun hnot)
   refine ⟨hjm, oj, e, hoj, hyj.same fun t ht => (upd_looks (d := d) (φ := φ) a1 t ht).symm, ih _ _ (hc.step hj) ?_ (ready_mono hr (Ne.symm hji)) (hy.same (upd_looks a3)) ?_⟩
   ·intro k ok hk hki hun hno
    refine hfree k ok hk hki ?_ hno
    by_cases hjk : j = k
    ·subst hjk;exact hjun
    ·rw [getD_set_ne true hjk] at hun;exact hun
   ·rw [Array.setIfInBounds_comm _ _ hji, <- updF_comm d e φ a2]
    exact Hj
def Zp (P : Program) (G : Nat -> DV) (B n : Nat) (ops : Array Oper) (σ : List ABlk) (Q : (Nat -> DV) -> Prop) : List Oper -> (Nat -> DV) -> Prop
 | [], φ => Q φ
 | o :: l, φ => ∃ d, YA P G B n ops σ o d φ /\ Zp P G B n ops σ Q l (updF o.dst d φ)
def lexP (md : Region.Mode) (ops : Array Oper) : Nat -> Nat -> Array Bool -> Bool
 | 0, k, listed => (Region.ready md ops listed).all fun j => decide (k <= j)
 | r + 1, k, listed => (Region.ready md ops listed).contains k && Region.free md ops listed k && lexP md ops r (k + 1) (listed.setIfInBounds k true)
def listedTo (ops : Array Oper) : Nat -> Nat -> Array Bool -> Array Bool
 | 0, _, listed => listed
 | r + 1, k, listed => listedTo ops r (k + 1) (listed.setIfInBounds k true)
theorem anyP_lex {B m : Nat} {Fin : Array Bool -> (Nat -> DV) -> Prop} (hsuf : sufB md ops m = true) : ∀ (l : List Oper) (k : Nat) (listed : Array Bool) (φ : Nat -> DV), (∀ j, j < l.length -> l[j]? = ops[k + j]?) -> k + l.length = m -> Closed md ops listed ->
  lexP md ops l.length k listed = true -> Zp P G B n ops σ (fun φ' => Fin (listedTo ops l.length k listed) φ') l φ -> anyP P G B n md ops σ m Fin l.length listed φ
 | [], k, listed, φ, _, hk, _, hB, h => ⟨fun j hj => by simp only [lexP, List.length_nil] at hB;have := List.all_eq_true.1 hB j hj;simp at this hk;omega, h⟩
 | o :: l, k, listed, φ, hl, hk, hc, hB, h => by
  have h0 : ops[k]? = some o := by simpa using (hl 0 (by simp)).symm
  simp only [List.length_cons, lexP, Bool.and_eq_true] at hB
  obtain ⟨⟨hr, hf⟩, hB'⟩ := hB
  obtain ⟨d, hy, hK⟩ := h
  have hr' : k ∈ Region.ready md ops listed := by simpa using hr
  exact anyP_first hsuf h0 (by simp at hk;omega) l.length listed φ hc (Region.free_spec h0 hf) hr' hy
   (anyP_lex hsuf l (k + 1) _ _ (fun j hj => by have := hl (j + 1) (by simp;omega);simpa [Nat.add_assoc, Nat.add_comm 1 j] using this) (by simp at hk;omega) (hc.step hr') hB' hK)
theorem YA.run {o : Oper} {d : DV} {φ : Nat -> DV} {Q : Exit -> Act -> World -> Prop} {K : Act -> World -> Prop} {i : Nat} (hi : ops[i]? = some o) (hy : YA P G E.N n ops σ o d φ) (hk : ∀ a w, RelF G E n (updF o.dst d φ) σ a w -> K a w) {a : Act} {w : World} (hr : RelF G E n φ σ a w) : wpOp P ops Q i K a w := by
 unfold wpOp
 simp only [hi]
 obtain ⟨X, h1, h2, h3, h4, h5, h6, h7, h8⟩ := hr
 have hput : ∀ {X' : AX} {v : Value} {d' : DV}, X'.σ = σ -> Sto X' -> WExt X X' -> VRep X'.lay d' v -> RelF G E n (updF o.dst d' φ) σ (a.put o.dst v) X'.w := by
  intro X' v d' g1 g2 g3 g4
  refine ⟨X', rfl, g1, g2, h4.trans g3, h5.ext g3, ?_, ?_, fun j => ?_⟩
  ·cases ho : o.dst <;> exact h6
  ·cases ho : o.dst <;> simp [Act.put, h7]
  ·cases ho : o.dst with
   | none => exact (h8 j).ext g3
   | some s =>
    have hs := hy.1 s ho
    simp only [updF, Act.put]
    by_cases hsj : s = j
    ·subst hsj
     rw [if_pos rfl]
     simpa [Array.getD_eq_getD_getElem?, Array.getElem?_setIfInBounds, h7, hs] using g4
    ·rw [if_neg hsj]
     have := (h8 j).ext g3
     simpa [Array.getD_eq_getD_getElem?, Array.getElem?_setIfInBounds_ne hsj] using this
 have hwd : ∀ b, Wd n ops o φ b -> Region.wanted o (yielded ops a.tmps) = b := by
  intro b hb
  unfold Wd at hb
  cases hg : o.guard with
  | none => rw [hg] at hb;simp [Region.wanted, hg, hb]
  | some gw =>
   obtain ⟨j, want⟩ := gw
   rw [hg] at hb
   obtain ⟨s, c, e1, e2, e3, e4⟩ := hb
   have hv := h8 s
   rw [e3] at hv
   have hv := VRep.sc_eq hv
   have hget : a.tmps[s]? = some c := by
    have hlt : s < a.tmps.size := by rw [h7];exact e2
    simp only [Array.getD_eq_getD_getElem?] at hv
    rw [Array.getElem?_eq_getElem hlt] at hv ⊢
    simpa using hv
   have : yielded ops a.tmps j = yv c := by rw [yielded, e1, Option.bind_some, hget];cases c <;> rfl
   simp only [Region.wanted, hg, this, e4]
 rcases hy.2 with ⟨hw, hs⟩|⟨hw, rfl⟩
 ·rw [hwd true hw]
  simp only [if_true]
  refine .inl ?_
  have hx : ∀ x ∈ o.op.operands, VRep X.lay (aevF G φ x) (a.eval x) := fun x _ => by
   cases x with
   | tmp i => exact h8 i
   | const v => exact .sc v
   | global g => exact (h5 g).2
   | func f => exact .fn _ [] [] #[] #[] rfl rfl (fun j d h => by simp at h) (fun j d h => by simp at h)
  have hs := hs X a.eval h3 h2 h4.top h5 hx
  rw [h1] at hs
  unfold Oper.wp
  generalize (execOp a.eval o).run P w = x at *
  cases x with
  | ok nx w' =>
   cases nx <;> simp only [OPost] at hs <;> simp only [Oper.upon]
   case value v =>
    obtain ⟨X', e1, e2, e3, d', hv, rfl, hσ'⟩ := hs
    subst e1
    exact hk _ _ (hput hσ' e2 e3 hv)
   case skip =>
    obtain ⟨X', e1, e2, e3, d', hv, rfl, hσ'⟩ := hs
    subst e1
    exact hk _ _ (hput hσ' e2 e3 hv)
   case enter f args =>
    refine hs.2.mono fun e w'' ⟨v, he, X', e1, e2, e3, d', hv, hd, hσ'⟩ => ?_
    subst he
    subst hd
    subst e1
    exact hk _ _ (hput hσ' e2 e3 hv)
  | halt hh w' => simp only [OPost] at hs
 ·rw [hwd false hw]
  simp only [Bool.false_eq_true, if_false]
  have := hput (X' := X) (v := undef) h2 h3 (.refl X) (VRep.sc undef)
  rw [h1] at this
  exact hk _ _ this
theorem anyP_run {m : Nat} {Q : Exit -> Act -> World -> Prop} {f : Nat} {Fin : Array Bool -> (Nat -> DV) -> Prop} (hF : ∀ listed φ, Fin listed φ -> ∀ a w, RelF G E n φ σ a w -> wpAny P md ops Q f listed a w) : ∀ (r : Nat) (listed : Array Bool) (φ : Nat -> DV), anyP P G E.N n md ops σ m Fin r listed φ -> ∀ a w, RelF G E n φ σ a w -> wpAny P md ops Q (r + f) listed a w
 | 0, listed, φ, h, a, w, hr => by rw [Nat.zero_add];exact hF _ _ h.2 a w hr
 | r + 1, listed, φ, h, a, w, hr => by
  rw [Nat.add_right_comm]
  refine ⟨fun h0 => absurd h0 h.1, fun i hi => ?_⟩
  obtain ⟨_, o, d, ho, hy, hn⟩ := h.2 i hi
  exact hy.run ho (fun a' w' hr' => anyP_run hF r _ _ hn a' w' hr') hr
def forcedB (md : Region.Mode) (ops : Array Oper) : Nat -> Nat -> Array Bool -> Bool
 | 0, _, listed => (Region.ready md ops listed).isEmpty
 | r + 1, k, listed => (Region.ready md ops listed) == [k] && forcedB md ops r (k + 1) (listed.setIfInBounds k true)
theorem forced_run {Q : Exit -> Act -> World -> Prop} : ∀ (l : List Oper) (k : Nat) (listed : Array Bool), (∀ j, l[j]? = ops[k + j]?) -> forcedB md ops l.length k listed = true -> ∀ a w, wpList P ops Q l a w -> wpAny P md ops Q l.length listed a w
 | [], k, listed, _, hB, a, w, h => ⟨by simpa [forcedB] using hB, h⟩
 | o :: l, k, listed, hl, hB, a, w, h => by
  have h0 : ops[k]? = some o := by simpa using (hl 0).symm
  simp only [List.length_cons, forcedB, Bool.and_eq_true, beq_iff_eq] at hB
  refine ⟨fun he => (by rw [hB.1] at he;cases he), fun i hi => ?_⟩
  rw [hB.1] at hi
  simp at hi
  subst hi
  have ih := forced_run (Q := Q) l (i + 1) _ (fun j => by have := hl (j + 1);simpa [Nat.add_assoc, Nat.add_comm 1 j] using this) hB.2
  unfold wpOp
  simp only [h0]
  unfold wpList at h
  split
  ·rename_i hw
   rw [if_pos hw] at h
   exact h.imp (Oper.wp_mono fun a w => ih a w) id
  ·rename_i hw
   rw [if_neg hw] at h
   exact ih _ _ h
def drawB (ops : Array Oper) (m : Nat) : Bool :=
 Region.noSelect ops && sufB .any ops m && lexP .any ops m 0 (Array.replicate ops.size false) && forcedB .any ops (ops.size - m) m (listedTo ops m 0 (Array.replicate ops.size false))
theorem r_draw {id : Nat} {pre post : List Oper} {t : Fr} {N : ASt -> Prop} {xs : List (Nat × (ASt -> Prop))} {R : ASt -> Prop} (hm : P.follows .mixedOrders = true) (hB : drawB (pre ++ post).toArray pre.length = true)
  (h : Zp P G E.N n (pre ++ post).toArray σ (fun φ => ∃ t', (∀ i, look t' i = .any \/ look t' i = φ i) /\ Zc P G E n (pre ++ post).toArray post N ⟨t', σ⟩) pre (look t)) : WR P G E n (.region id (pre ++ post).toArray true) N xs R ⟨t, σ⟩ := fun a w hr => by
 simp only [drawB, Bool.and_eq_true] at hB
 obtain ⟨⟨⟨_, h2⟩, h3⟩, h4⟩ := hB
 have hr' : RelF G E n (look t) σ a { w with drawn := w.drawn + 1 } := by
  obtain ⟨X, e1, e2, e3, e4, e5, e6, e7, e8⟩ := hr
  have hk := Keep.drew X.w
  subst e1
  exact ⟨X.inW X.w.drew, rfl, e2, e3.inW hk, e4.trans (WExt.inW hk), e5.ext (WExt.inW hk), e6, e7, fun i => (e8 i).ext (WExt.inW hk)⟩
 have hpost : ((pre ++ post).toArray.size - pre.length) = post.length := by simp
 rw [hpost] at h4
 have hany := anyP_lex (Fin := fun listed φ => listed = listedTo (pre ++ post).toArray pre.length 0 (Array.replicate (pre ++ post).toArray.size false) /\ ∃ t', (∀ i, look t' i = .any \/ look t' i = φ i) /\ Zc P G E n (pre ++ post).toArray post N ⟨t', σ⟩)
  (md := .any) h2 pre 0 (Array.replicate (pre ++ post).toArray.size false) (look t) (fun j hj => by simp [List.getElem?_append_left hj]) (by simp) (fun j o _ hl => by simp [Array.getElem?_replicate] at hl;split at hl <;> simp at hl) h3 (by simpa using h)
 refine wp_region_any hm ?_
 have := anyP_run (E := E) (Q := QOf G E n N xs R) (f := post.length) (fun listed φ ⟨hl, t', ht', ho⟩ a w hrf => by
  subst hl
  refine forced_run post pre.length _ (fun j => by simp [List.getElem?_append_right]) h4 a w ?_
  obtain ⟨X, e1, e2, e3, e4, e5, e6, e7, e8⟩ := hrf
  refine wp_mono_list (ho a w ⟨X, e1, e2, e3, e4, e5, e6, e7, fun i => ?_⟩) fun e a' w' ⟨he, st', hr', hq⟩ => by subst he;exact ⟨st', hr', hq⟩
  rcases ht' i with h'|h'
  ·rw [h'];exact .any _
  ·rw [h'];exact e8 i) _ _ _ hany a _ hr'
 simpa using this
theorem r_drawn {id : Nat} {l : List Oper} {t : Fr} {N : ASt -> Prop} {xs : List (Nat × (ASt -> Prop))} {R : ASt -> Prop} (hm : P.follows .mixedOrders = true) (hB : drawB l.toArray l.length = true)
  (h : Zp P G E.N n l.toArray σ (fun φ => ∃ t', (∀ i, look t' i = .any \/ look t' i = φ i) /\ Zc P G E n l.toArray [] N ⟨t', σ⟩) l (look t)) : WR P G E n (.region id l.toArray true) N xs R ⟨t, σ⟩ := by
 have := r_draw (P := P) (G := G) (E := E) (n := n) (σ := σ) (id := id) (pre := l) (post := []) (t := t) (N := N) (xs := xs) (R := R) hm
 simp only [List.append_nil] at this
 exact this hB h
theorem r_drawm (m : Nat) {id : Nat} {l : List Oper} {t : Fr} {N : ASt -> Prop} {xs : List (Nat × (ASt -> Prop))} {R : ASt -> Prop} (hm : P.follows .mixedOrders = true) (hl : (l.take m).length = m) (hB : drawB l.toArray m = true)
  (h : Zp P G E.N n l.toArray σ (fun φ => ∃ t', (∀ i, look t' i = .any \/ look t' i = φ i) /\ Zc P G E n l.toArray (l.drop m) N ⟨t', σ⟩) (l.take m) (look t)) : WR P G E n (.region id l.toArray true) N xs R ⟨t, σ⟩ := by
 have := r_draw (P := P) (G := G) (E := E) (n := n) (σ := σ) (id := id) (pre := l.take m) (post := l.drop m) (t := t) (N := N) (xs := xs) (R := R) hm
 rw [hl] at this
 simp only [List.take_append_drop] at this
 exact this hB h
/-! The rules of the walk in the text's order. -/
variable {Q : (Nat -> DV) -> Prop} {l : List Oper} {t : Fr}
theorem look_put {i : Tmp} {d : DV} : look ((i, d) :: t) = updF (some i) d (look t) := look_putF (some i) d t
theorem look_same {s : Nat} {d : DV} (h : look t s = d) : look ((s, d) :: t) = look t := by
 funext i
 simp only [look]
 cases hb : Nat.beq s i with
 | true => have := Nat.eq_of_beq_eq_true hb;subst this;exact h.symm
 | false => rfl
theorem x_op {i : Tmp} {op : Op} {type : TypeId} {pos : String} {after : Array Edge} {d : DV} (hd : Nat.blt i n = true) (h : OpSem P G E.N ⟨some i, op, type, pos, after, none⟩ (aev G t) σ (fun d' σ' => d' = d /\ σ' = σ)) (k : Zp P G E.N n ops σ Q l (look ((i, d) :: t))) :
  Zp P G E.N n ops σ Q (⟨some i, op, type, pos, after, none⟩ :: l) (look t) := ⟨d, ⟨fun j hj => by cases hj;exact Nat.ble_eq.mp hd, .inl ⟨rfl, by rw [aevF_look];exact h⟩⟩, by rw [look_put] at k;exact k⟩
theorem x_gy {i : Tmp} {op : Op} {type : TypeId} {pos : String} {after : Array Edge} {j s : Nat} {want : Bool} {d : DV} (hj : (ops[j]?).bind (·.dst) = some s) (hl : look t s = .sc (.bool want)) (hs : Nat.blt s n = true) (hd : Nat.blt i n = true)
  (h : OpSem P G E.N ⟨some i, op, type, pos, after, some (j, want)⟩ (aev G t) σ (fun d' σ' => d' = d /\ σ' = σ)) (k : Zp P G E.N n ops σ Q l (look ((i, d) :: t))) : Zp P G E.N n ops σ Q (⟨some i, op, type, pos, after, some (j, want)⟩ :: l) (look t) :=
 ⟨d, ⟨fun j hj => by cases hj;exact Nat.ble_eq.mp hd, .inl ⟨⟨s, .bool want, hj, Nat.ble_eq.mp hs, hl, by cases want <;> rfl⟩, by rw [aevF_look];exact h⟩⟩, by rw [look_put] at k;exact k⟩
theorem x_gn {i : Tmp} {op : Op} {type : TypeId} {pos : String} {after : Array Edge} {j s : Nat} {want : Bool} (hj : (ops[j]?).bind (·.dst) = some s) (hl : look t s = .sc (.bool !want)) (hs : Nat.blt s n = true) (hd : Nat.blt i n = true)
  (k : Zp P G E.N n ops σ Q l (look ((i, .sc undef) :: t))) : Zp P G E.N n ops σ Q (⟨some i, op, type, pos, after, some (j, want)⟩ :: l) (look t) :=
 ⟨.sc undef, ⟨fun j hj => by cases hj;exact Nat.ble_eq.mp hd, .inr ⟨⟨s, .bool !want, hj, Nat.ble_eq.mp hs, hl, by cases want <;> rfl⟩, rfl⟩⟩, by rw [look_put] at k;exact k⟩
theorem x_sp {dst : Option Tmp} {op : Op} {type : TypeId} {pos : String} {after : Array Edge} {j s : Nat} {want b : Bool} (hj : (ops[j]?).bind (·.dst) = some s) (hl : look t s = .sc (.bool b)) (yes : b = true -> Zp P G E.N n ops σ Q (⟨dst, op, type, pos, after, some (j, want)⟩ :: l) (look ((s, .sc (.bool true)) :: t)))
  (no : b = false -> Zp P G E.N n ops σ Q (⟨dst, op, type, pos, after, some (j, want)⟩ :: l) (look ((s, .sc (.bool false)) :: t))) : Zp P G E.N n ops σ Q (⟨dst, op, type, pos, after, some (j, want)⟩ :: l) (look t) := by
 cases b with
 | true => have := yes rfl;rwa [look_same hl] at this
 | false => have := no rfl;rwa [look_same hl] at this
theorem x_sp_d {dst : Option Tmp} {op : Op} {type : TypeId} {pos : String} {after : Array Edge} {j s : Nat} {want : Bool} {p : Prop} [Decidable p] (hj : (ops[j]?).bind (·.dst) = some s) (hl : look t s = .sc (.bool (decide p))) (yes : p -> Zp P G E.N n ops σ Q (⟨dst, op, type, pos, after, some (j, want)⟩ :: l) (look ((s, .sc (.bool true)) :: t)))
  (no : ¬ p -> Zp P G E.N n ops σ Q (⟨dst, op, type, pos, after, some (j, want)⟩ :: l) (look ((s, .sc (.bool false)) :: t))) : Zp P G E.N n ops σ Q (⟨dst, op, type, pos, after, some (j, want)⟩ :: l) (look t) :=
 x_sp hj hl (fun h => yes (of_decide_eq_true h)) (fun h => no (of_decide_eq_false h))
theorem x_sp_t {dst : Option Tmp} {op : Op} {type : TypeId} {pos : String} {after : Array Edge} {j s : Nat} {want : Bool} {p : Prop} [Decidable p] (hj : (ops[j]?).bind (·.dst) = some s) (hl : look t s = .sc (.bool (decide p))) (hp : p) (yes : Zp P G E.N n ops σ Q (⟨dst, op, type, pos, after, some (j, want)⟩ :: l) (look ((s, .sc (.bool true)) :: t))) : Zp P G E.N n ops σ Q (⟨dst, op, type, pos, after, some (j, want)⟩ :: l) (look t) :=
 x_sp_d hj hl (fun _ => yes) (fun h => absurd hp h)
theorem x_sp_f {dst : Option Tmp} {op : Op} {type : TypeId} {pos : String} {after : Array Edge} {j s : Nat} {want : Bool} {p : Prop} [Decidable p] (hj : (ops[j]?).bind (·.dst) = some s) (hl : look t s = .sc (.bool (decide p))) (hp : ¬ p) (no : Zp P G E.N n ops σ Q (⟨dst, op, type, pos, after, some (j, want)⟩ :: l) (look ((s, .sc (.bool false)) :: t))) : Zp P G E.N n ops σ Q (⟨dst, op, type, pos, after, some (j, want)⟩ :: l) (look t) :=
 x_sp_d hj hl (fun h => absurd h hp) (fun _ => no)
theorem qJ {post : List Oper} {N : ASt -> Prop} (h : Zc P G E n ops post N ⟨t, σ⟩) : Zp P G E.N n ops σ (fun φ => ∃ t', (∀ i, look t' i = .any \/ look t' i = φ i) /\ Zc P G E n ops post N ⟨t', σ⟩) [] (look t) := ⟨t, fun _ => .inr rfl, h⟩
end
section
variable {P : Program} {G : Nat -> DV} {B : Nat} {f : Operand -> DV} {σ : List ABlk} {K : DV -> List ABlk -> Prop} {dst : Option Tmp} {type : TypeId} {pos : String} {after : Array Edge} {gd : Option (Nat × Bool)}
variable {α : Type} [Enc α]
/-! Slicing. -/
def cut (a : Option Addr) (l cap s : Nat) : Option Addr := if cap = l then a else a.map (·.add (l * s))
inductive Bnd : Option Value -> Option Value -> (len l h : Nat) -> Prop
 | lh {len l h : Nat} {k1 k2 : IntKind} {x y : Int} : x = l -> y = h -> l <= h -> Bnd (some (.int k1 x)) (some (.int k2 y)) len l h
 | h {len h : Nat} {k2 : IntKind} {y : Int} : y = h -> Bnd none (some (.int k2 y)) len 0 h
 | l {len l : Nat} {k1 : IntKind} {x : Int} : x = l -> l <= len -> Bnd (some (.int k1 x)) none len l len
 | all {len : Nat} : Bnd none none len 0 len
theorem run_slice_sl {t e size : Nat} {g1 g2 : Bool} {z1 : Nat} {td : TypeDesc} (ht : TyI P t (.slice e) g1 z1) (he : TyI P e td g2 size) {a : Option Addr} {len cap l h : Nat} {lo hi : Option Value} (hb : Bnd lo hi len l h) (hlen : len <= cap) (hc : h <= cap) (w : World) :
  (Instr.sliceAt t (.slice a len cap) lo hi none).run P w = .ok (.slice (cut a l cap size) (h - l) (cap - l)) w := by
 have h0 : (Instr.sliceAt t (.slice a len cap) lo hi none).run P w = (Instr.slice t (.slice a len cap) lo hi none).run P w := by simp [Instr.sliceAt, run_underlying ht.u]
 rw [h0]
 cases hb with
 | lh h1 h2 h3 =>
  subst h1;subst h2
  simp [Instr.slice, run_underlying ht.u, Instr.sliceBounds, Instr.sliceBound, asIntOf, Zv he, cut, hc, h3, Int.ofNat_le]
 | h h1 =>
  subst h1
  simp [Instr.slice, run_underlying ht.u, Instr.sliceBounds, Instr.sliceBound, asIntOf, Zv he, cut, hc, Int.ofNat_le]
 | l h1 h2 =>
  subst h1
  simp [Instr.slice, run_underlying ht.u, Instr.sliceBounds, Instr.sliceBound, asIntOf, Zv he, cut, h2, Int.ofNat_le]
 | all => simp [Instr.slice, run_underlying ht.u, Instr.sliceBounds, Instr.sliceBound, asIntOf, Zv he, cut]
theorem sl_sub {L : Lay} {es : Nat} {cs : List DV} {a : Option Addr} {len cap l h : Nat} (hv : VRep L (.sl es cs) (.slice a len cap)) (hlh : l <= h) (hh : h <= len) : VRep L (.sl es ((cs.drop (l * es)).take ((h - l) * es))) (.slice (cut a l cap es) (h - l) (cap - l)) := by
 obtain ⟨a', len', cap', fv, he, h1, h2, h3, h4, h5⟩ := hv.sl_inv
 cases he
 have hle : h * es <= cs.length := by rw [<- h1];exact Nat.mul_le_mul_right _ hh
 have hsub : (h - l) * es = h * es - l * es := Nat.sub_mul _ _ _
 have hll : l * es <= h * es := Nat.mul_le_mul_right _ hlh
 have hget : ∀ j d, ((cs.drop (l * es)).take ((h - l) * es))[j]? = some d -> cs[l * es + j]? = some d := fun j d hj => by
  rw [List.getElem?_take] at hj
  split at hj
  ·rwa [List.getElem?_drop] at hj
  ·cases hj
 refine .sl _ _ _ _ _ (fun j => fv (l * es + j)) (by simp;omega) (by omega) (fun d hd => h3 d (List.mem_of_mem_drop (List.mem_of_mem_take hd))) ?_ (fun j d hj => h5 _ d (hget j d hj))
 by_cases h0 : (h - l) * es = 0
 ·left;rw [h0, List.take_zero]
 ·right
  rcases h4 with h4|⟨b, o, rfl, h6⟩
  ·subst h4;simp at hle;omega
  ·refine ⟨b, o + l * es, ?_, fun j hj => ?_⟩
   ·have hne : cap ≠ l := fun e => by
     have : h = l := by omega
     rw [this] at h0;simp at h0
    simp [cut, hne, qb]
   ·rw [List.length_take, List.length_drop] at hj
    rw [Nat.add_assoc]
    exact h6 _ (by omega)
def optV (f : Operand -> DV) : Option Operand -> Option Value -> Prop
 | none, none => True
 | some x, some v => f x = .sc v
 | _, _ => False
theorem optV_eq {X : AX} {ρ : Operand -> Value} {x : Option Operand} {v : Option Value} (hf : ∀ y ∈ x.toList, VRep X.lay (f y) (ρ y)) (h : optV f x v) : x.map ρ = v := by
 cases x with
 | none =>
  cases v with
  | none => rfl
  | some v => exact h.elim
 | some x =>
  cases v with
  | none => exact h.elim
  | some v =>
   have h : f x = .sc v := h
   have h1 := hf x (by simp)
   rw [h] at h1
   rw [Option.map_some, VRep.sc_eq h1]
theorem s_slice_d {t e es : Nat} {g1 g2 : Bool} {z1 : Nat} {td : TypeDesc} {x : Operand} {lo hi : Option Operand} {vlo vhi : Option Value} {cs : List DV} {len l h : Nat} [ht : TyI P t (.slice e) g1 z1] [he : TyI P e td g2 es] (hx : f x = .sl es cs) (hlen : cs.length = len * es) (h0 : 0 < es)
  (hlo : optV f lo vlo) (hhi : optV f hi vhi) (hb : Bnd vlo vhi len l h) (hlh : l <= h) (hh : h <= len) (k : K (.sl es ((cs.drop (l * es)).take ((h - l) * es))) σ) : OpSem P G B ⟨dst, .slice t x lo hi none, type, pos, after, gd⟩ f σ K := fun X ρ hS hσ _ _ hf => by
 subst hσ
 have e1 := hf x (by simp [Op.operands]);rw [hx] at e1
 have e2 := optV_eq (fun y hy => hf y (by simp [Op.operands];simp at hy;simp [hy])) hlo
 have e3 := optV_eq (fun y hy => hf y (by simp [Op.operands];simp at hy;simp [hy])) hhi
 obtain ⟨a, len', cap, fv, e4, h1, h2, _⟩ := e1.sl_inv
 have : len' = len := Nat.eq_of_mul_eq_mul_right h0 (by omega)
 subst this
 rw [e4] at e1
 simp only [execOp, e4, e2, e3, Option.map_none, run_slice_sl ht he hb h2 (by omega), Sem.run_bind, Sem.run_pure, Result.andThen_ok]
 exact Wn hS (sl_sub e1 hlh hh) k
theorem s_slice_e {t e : Nat} {g1 g2 : Bool} {z1 : Nat} {td : TypeDesc} {x : Operand} {lo hi : Option Operand} {vlo vhi : Option Value} {xs : List α} {l h : Nat} [ht : TyI P t (.slice e) g1 z1] [he : TyI P e td g2 (Enc.es α)] (hx : f x = Qo xs)
  (hlo : optV f lo vlo) (hhi : optV f hi vhi) (hb : Bnd vlo vhi xs.length l h) (hlh : l <= h) (hh : h <= xs.length) (k : K (Qo ((xs.drop l).take (h - l))) σ) : OpSem P G B ⟨dst, .slice t x lo hi none, type, pos, after, gd⟩ f σ K :=
 s_slice_d hx (by rw [Qx]) Enc.pos hlo hhi hb hlh hh (by rw [encs_drop, encs_take];exact k)
theorem s_slice_h {t e : Nat} {g1 g2 : Bool} {z1 : Nat} {td : TypeDesc} {x y : Operand} {kd : IntKind} {i : Int} {xs : List α} [ht : TyI P t (.slice e) g1 z1] [he : TyI P e td g2 (Enc.es α)] (hx : f x = Qo xs) (hy : f y = .sc (.int kd i)) (h0 : 0 <= i) (hh : i.toNat <= xs.length)
  (k : K (Qo (xs.take i.toNat)) σ) : OpSem P G B ⟨dst, .slice t x none (some y) none, type, pos, after, gd⟩ f σ K :=
 s_slice_e (vlo := none) (l := 0) (h := i.toNat) hx trivial (vhi := some (.int kd i)) hy (.h (by omega)) (Nat.zero_le _) hh (by simpa using k)
theorem s_slice_hn {t e : Nat} {g1 g2 : Bool} {z1 : Nat} {td : TypeDesc} {x y : Operand} {kd : IntKind} {i : Nat} {xs : List α} [ht : TyI P t (.slice e) g1 z1] [he : TyI P e td g2 (Enc.es α)] (hx : f x = Qo xs) (hy : f y = .sc (.int kd (i : Nat))) (hh : i <= xs.length)
  (k : K (Qo (xs.take i)) σ) : OpSem P G B ⟨dst, .slice t x none (some y) none, type, pos, after, gd⟩ f σ K := s_slice_h hx hy (by omega) (by simpa using hh) (by simpa using k)
theorem s_slice_l {t e : Nat} {g1 g2 : Bool} {z1 : Nat} {td : TypeDesc} {x y : Operand} {kd : IntKind} {i : Int} {xs : List α} [ht : TyI P t (.slice e) g1 z1] [he : TyI P e td g2 (Enc.es α)] (hx : f x = Qo xs) (hy : f y = .sc (.int kd i)) (h0 : 0 <= i) (hh : i.toNat <= xs.length)
  (k : K (Qo (xs.drop i.toNat)) σ) : OpSem P G B ⟨dst, .slice t x (some y) none none, type, pos, after, gd⟩ f σ K :=
 s_slice_e (vhi := none) (l := i.toNat) (h := xs.length) hx (vlo := some (.int kd i)) hy trivial (.l (by omega) hh) hh (Nat.le_refl _) (by rw [List.take_of_length_le (by simp)];exact k)
/-! Typed cells of a row. -/
theorem s_idx_ref1 {t e : TypeId} {d : TypeDesc} {g1 g2 : Bool} {z1 : Nat} {x y : Operand} {m g len : Nat} {cs : List DV} {kd : IntKind} {i : Nat} [ht : TyI P t (.slice e) g1 z1] [he : TyI P e d g2 1]
  (hx : f x = .ref m g 0 len 1) (hm : σ[m]? = some (.row g cs)) (hy : f y = .sc (.int kd (i : Nat))) (h1 : i < len) (k : K (.ptr m g i) σ) : OpSem P G B ⟨dst, .indexAddr t x y, type, pos, after, gd⟩ f σ K :=
 s_idx_ref hx hm hy (by omega) (by simpa using h1) (by simpa using k)
theorem s_store_e1 {t : TypeId} {td : TypeDesc} {agg : Bool} {x y : Operand} {m g i : Nat} {l : List α} {z : α} {d : DV} {σ' : List ABlk} [ht : TyI P t td agg 1] (hx : f x = .ptr m g i) (hm : σ[m]? = some (.row g (Wf l))) (h1 : Enc.es α = 1) (hy : f y = d) (hd : dcells d = some (Enc.enc z))
  (hi : i < l.length) (hσ' : setA σ m (.row g (Wf (l.set i z))) = some σ') (k : K (.sc undef) σ') : OpSem P G B ⟨dst, .store t x y, type, pos, after, gd⟩ f σ K :=
 s_store_e hx hm hy hd h1 (by rw [h1, Nat.mul_one]) hi hσ' k
/-! min, max -/
theorem s_min {ts : Array TypeId} {x y : Operand} {k1 : IntKind} {a b : Int} (hx : f x = .sc (.int k1 a)) (hy : f y = .sc (.int k1 b)) (k : K (.sc (.int k1 (min a b))) σ) : OpSem P G B ⟨dst, .call ⟨.builtin .min, #[x, y], ts⟩, type, pos, after, gd⟩ f σ K := fun X ρ hS hσ _ _ hf => by
 subst hσ
 have e1 := hf x (by simp [Op.operands, Call.operands]);rw [hx] at e1
 have e2 := hf y (by simp [Op.operands, Call.operands]);rw [hy] at e2
 have : (Builtin.min_ ts type #[.int k1 a, .int k1 b]).run P X.w = .ok (.int k1 (min a b)) X.w := by
  simp only [Builtin.min_, Builtin.min2, List.foldlM_cons, List.foldlM_nil, Sem.run_bind, Sem.run_pure, Result.andThen_ok]
  rw [Int.min_def];split <;> split <;> first|rfl|(congr 2;omega)
 simp only [execOp, resolve, invoke, builtin, List.map_toArray, List.map_cons, List.map_nil, Sem.run_bind, Sem.run_pure, Result.andThen_ok, VRep.sc_eq e1, VRep.sc_eq e2, this]
 exact Wn hS (.sc _) k
/-! A slice against nil. -/
end
/-! A row cut short: less of it is known. -/
section
variable {P : Program} {G : Nat -> DV} {E : AX} {n : Nat} {st : ASt} {R : DV -> List ABlk -> Prop}
end
/-! Calls that write one row of the caller's. -/
section
variable {P : Program} {G : Nat -> DV}
end
end Go.Av
end
section
namespace Go.Av
section
variable {P : Program} {G : Nat -> DV} {B : Nat} {f : Operand -> DV} {σ : List ABlk} {K : DV -> List ABlk -> Prop} {dst : Option Tmp} {type : TypeId} {pos : String} {after : Array Edge} {gd : Option (Nat × Bool)}
theorem g_move {x : Operand} (h : OpSem P G B ⟨dst, .move x, type, pos, after, gd⟩ f σ K) : OpSem P G B ⟨dst, .move x, type, pos, after, gd⟩ f σ K := h
theorem g_assign {x : Operand} (h : OpSem P G B ⟨dst, .assign x, type, pos, after, gd⟩ f σ K) : OpSem P G B ⟨dst, .assign x, type, pos, after, gd⟩ f σ K := h
theorem Q1 {c x y : Operand} (h : OpSem P G B ⟨dst, .pick c x y, type, pos, after, gd⟩ f σ K) : OpSem P G B ⟨dst, .pick c x y, type, pos, after, gd⟩ f σ K := h
theorem g_alloc {t : TypeId} (h : OpSem P G B ⟨dst, .alloc t, type, pos, after, gd⟩ f σ K) : OpSem P G B ⟨dst, .alloc t, type, pos, after, gd⟩ f σ K := h
theorem g_box {t : TypeId} {x : Operand} (h : OpSem P G B ⟨dst, .box t x, type, pos, after, gd⟩ f σ K) : OpSem P G B ⟨dst, .box t x, type, pos, after, gd⟩ f σ K := h
theorem g_build {t : TypeId} {ps : Array (Nat × Operand)} (h : OpSem P G B ⟨dst, .build t ps, type, pos, after, gd⟩ f σ K) : OpSem P G B ⟨dst, .build t ps, type, pos, after, gd⟩ f σ K := h
theorem ZA {t : TypeId} {m : Nat} {ps : Array (Nat × Operand)} (h : OpSem P G B ⟨dst, .buildSlice t m ps, type, pos, after, gd⟩ f σ K) : OpSem P G B ⟨dst, .buildSlice t m ps, type, pos, after, gd⟩ f σ K := h
theorem QN {t : TypeId} {x : Operand} (h : OpSem P G B ⟨dst, .load t x, type, pos, after, gd⟩ f σ K) : OpSem P G B ⟨dst, .load t x, type, pos, after, gd⟩ f σ K := h
theorem Wr {t : TypeId} {x y : Operand} (h : OpSem P G B ⟨dst, .store t x y, type, pos, after, gd⟩ f σ K) : OpSem P G B ⟨dst, .store t x y, type, pos, after, gd⟩ f σ K := h
theorem g_nilCheck {x : Operand} (h : OpSem P G B ⟨dst, .nilCheck x, type, pos, after, gd⟩ f σ K) : OpSem P G B ⟨dst, .nilCheck x, type, pos, after, gd⟩ f σ K := h
theorem Qw {op : BinOp} {t : TypeId} {x y : Operand} {t' : TypeId} (h : OpSem P G B ⟨dst, .binOp op t x y t', type, pos, after, gd⟩ f σ K) : OpSem P G B ⟨dst, .binOp op t x y t', type, pos, after, gd⟩ f σ K := h
theorem g_unOp {op : UnOp} {t : TypeId} {x : Operand} (h : OpSem P G B ⟨dst, .unOp op t x, type, pos, after, gd⟩ f σ K) : OpSem P G B ⟨dst, .unOp op t x, type, pos, after, gd⟩ f σ K := h
theorem g_convert {t t' : TypeId} {x : Operand} (h : OpSem P G B ⟨dst, .convert t t' x, type, pos, after, gd⟩ f σ K) : OpSem P G B ⟨dst, .convert t t' x, type, pos, after, gd⟩ f σ K := h
theorem g_makeFunc {fn : Fn} {x y : Array Operand} (h : OpSem P G B ⟨dst, .makeFunc fn x y, type, pos, after, gd⟩ f σ K) : OpSem P G B ⟨dst, .makeFunc fn x y, type, pos, after, gd⟩ f σ K := h
theorem g_makeSlice {t : TypeId} {x y : Operand} (h : OpSem P G B ⟨dst, .makeSlice t x y, type, pos, after, gd⟩ f σ K) : OpSem P G B ⟨dst, .makeSlice t x y, type, pos, after, gd⟩ f σ K := h
theorem g_slice {t : TypeId} {x : Operand} {a b c : Option Operand} (h : OpSem P G B ⟨dst, .slice t x a b c, type, pos, after, gd⟩ f σ K) : OpSem P G B ⟨dst, .slice t x a b c, type, pos, after, gd⟩ f σ K := h
theorem QS {t : TypeId} {x : Operand} {m : Nat} (h : OpSem P G B ⟨dst, .fieldAddr t x m, type, pos, after, gd⟩ f σ K) : OpSem P G B ⟨dst, .fieldAddr t x m, type, pos, after, gd⟩ f σ K := h
theorem qp {t : TypeId} {x y : Operand} (h : OpSem P G B ⟨dst, .indexAddr t x y, type, pos, after, gd⟩ f σ K) : OpSem P G B ⟨dst, .indexAddr t x y, type, pos, after, gd⟩ f σ K := h
theorem g_index {t : TypeId} {x y : Operand} (h : OpSem P G B ⟨dst, .index t x y, type, pos, after, gd⟩ f σ K) : OpSem P G B ⟨dst, .index t x y, type, pos, after, gd⟩ f σ K := h
theorem g_extract {x : Operand} {m : Nat} (h : OpSem P G B ⟨dst, .extract x m, type, pos, after, gd⟩ f σ K) : OpSem P G B ⟨dst, .extract x m, type, pos, after, gd⟩ f σ K := h
theorem QK {c : Call} (h : OpSem P G B ⟨dst, .call c, type, pos, after, gd⟩ f σ K) : OpSem P G B ⟨dst, .call c, type, pos, after, gd⟩ f σ K := h
theorem Qz {o : Oper} (h : OpSem P G B o f σ K) : OpSem P G B o f σ K := h
variable {E : AX} {n : Nat} {N : ASt -> Prop} {xs : List (Nat × (ASt -> Prop))} {R : ASt -> Prop} {st : ASt}
theorem Wc {c : Code} (h : WR P G E n c N xs R st) : WR P G E n c N xs R st := h
theorem We {ops : Array Oper} {l : List Oper} (h : Zc P G E n ops l N st) : Zc P G E n ops l N st := h
theorem qM {ops : Array Oper} {l : List Oper} {Q : (Nat -> DV) -> Prop} {φ : Nat -> DV} (h : Zp P G B n ops σ Q l φ) : Zp P G B n ops σ Q l φ := h
end
section
variable {P : Program} {G : Nat -> DV} {B : Nat} {f : Operand -> DV} {σ : List ABlk} {K : DV -> List ABlk -> Prop} {dst : Option Tmp} {type : TypeId} {pos : String} {after : Array Edge} {gd : Option (Nat × Bool)}
variable {α : Type} [Enc α]
theorem Zy {z : α} {t t' e : TypeId} {d : TypeDesc} {g1 g2 : Bool} {z1 bytes m g len es : Nat} {zs : List Value} {x y : Operand} {cs : List DV} {l : List α} [ht : TyI P t (.slice e) g1 z1] [ht' : SrcTy P t'] [he : TyI P e d g2 es] [hb : TyB P e bytes] [hz : TyZ P e zs]
  {σ' : Nat -> List ABlk} (hzl : zs.length = es) (hx : f x = .ref m g 0 len es) (hm : σ[m]? = some (.row g cs)) (hcs : cs = Wf l) (hes : es = Enc.es α) (hlen : len = l.length) (hy : f y = .sl es (Enc.enc z)) (hby : (l.length + 1) * bytes <= 140737488355328) (hsm : l.length + 1 <= 9223372036854775807)
  (hσ' : ∀ g', setA σ m (.row g' (Wf (l ++ [z]))) = some (σ' g')) (k : ∀ g', B < g' -> K (.ref m g' 0 (l ++ [z]).length es) (σ' g')) : OpSem P G B ⟨dst, .call ⟨.builtin .append, #[x, y], #[t, t']⟩, type, pos, after, gd⟩ f σ K := by
 subst hes hcs
 exact s_app (xs := [z]) hzl hx hm hlen hy srcOf_one hby hsm hσ' k
variable {E : AX} {R : DV -> List ABlk -> Prop}
theorem c_ownedB {k g len es len' es' : Nat} {cs cs' : List DV} {σ : List ABlk} (hB : B <= E.N) (hk : σ[k]? = some (.row g cs)) (h1 : len' = len) (h2 : cs' = cs) (h3 : es' = es) : AClose E (fun d' σ' => ∃ g, B < g /\ d' = .ref 0 g 0 len' es' /\ σ' = [.row g cs']) (.ref k g 0 len es) σ :=
 c_own (m := 0) (Nat.zero_le _) hk fun g' hg => ⟨g', Nat.lt_of_le_of_lt hB hg, by rw [h1, h3], by rw [h2];rfl⟩
variable {n : Nat} {t : Fr} {ops : Array Oper} {l : List Oper} {Q : (Nat -> DV) -> Prop} {N : ASt -> Prop}
end
section
variable {P : Program} {G : Nat -> DV} {E : AX} {n : Nat} {N : ASt -> Prop} {xs : List (Nat × (ASt -> Prop))} {R : ASt -> Prop} {st : ASt}
theorem r_loopg {c : Code} {ι : Type} (I : ι -> Nat -> ASt) (pre : ι -> Prop) (μ : ι -> Nat) (x0 : ι) (g0 : Nat) (hg0 : E.N < g0) (h0 : ALe st (I x0 g0)) (hp0 : pre x0)
  (round : ∀ x g, pre x -> E.N < g -> WR P G E n c (fun st' => ∃ y g', pre y /\ E.N < g' /\ μ y < μ x /\ ALe st' (I y g')) xs R (I x g)) : WR P G E n (.loop c) N xs R st :=
 WY (fun z : ι × Nat => I z.1 z.2) (fun z => pre z.1 /\ E.N < z.2) (fun z => μ z.1) (x0, g0) h0 ⟨hp0, hg0⟩ fun ⟨x, g⟩ ⟨h1, h2⟩ a w hr =>
  wp_mono (round x g h1 h2 a w hr) fun e a' w' ⟨st', hr', hq⟩ => by
   refine ⟨st', hr', ?_⟩
   cases e with
   | normal => obtain ⟨y, g', h3, h4, h5, h6⟩ := hq;exact ⟨(y, g'), ⟨h3, h4⟩, h5, h6⟩
   | exit id => exact hq
   | ret => exact hq
   | goto l => exact hq.elim
   | panic ch => exact hq.elim
   | outgrown => exact hq.elim
end
end Go.Av
end
section
namespace Go.Av
open Classical
section
variable {P : Program} {G : Nat -> DV} {E : AX} {n : Nat} {N : ASt -> Prop} {xs : List (Nat × (ASt -> Prop))} {R : ASt -> Prop} {st : ASt}
theorem Sto.rowcell {X X1 : AX} (hS : Sto X) (hS1 : Sto X1) (hE : WExt X X1) (hw : X1.w = X.w) {m gm j : Nat} {cs : List DV} {d d' : DV} (hm : X.σ[m]? = some (.row gm cs)) (hm1 : X1.σ[m]? = some (.row gm cs)) (hρ : X1.ρ m = X.ρ m)
  (hj : cs[j]? = some d) (ho : d'.one = true) (hv : ∀ v, VRep X.lay d v -> VRep X1.lay d' v) : ∃ X2, X2.w = X.w /\ X2.σ = X1.σ.set m (.row gm (cs.set j d')) /\ Sto X2 /\ WExt X1 X2 := by
 have hok : ReplOk X1 m gm X1.w (X1.ρ m) (.row gm (cs.set j d')) X1.N := {
  live := Wt hm1, os := rfl, tape := rfl, output := rfl, size := Nat.le_refl _, block := fun _ _ _ => rfl
  gen := .inr ⟨rfl, Nat.le_refl _, rfl⟩
  lies := fun b n h => .inr ⟨n, h⟩
  shp := fun _ _ h => h }
 have hE2 := WExt.repl hS1 hok
 refine ⟨X1.repl m X1.w (X1.ρ m) (.row gm (cs.set j d')) X1.N, hw, rfl, Sto.repl' hS1 hok ?_, hE2⟩
 have key : ∀ ob, X.ρ m = ob -> (ABlk.row gm (cs.set j d')).holds (X1.repl m X1.w (X1.ρ m) (.row gm (cs.set j d')) X1.N).lay X1.w ob := fun ob hob => by
  have hh := hS.holds m _ hm
  rw [hob] at hh
  cases ob with
  | none =>
   have hh : cs = [] := hh
   subst hh;simp at hj
  | some x =>
   obtain ⟨b, nn⟩ := x
   obtain ⟨arr, T, fr, g1, g2, g3, g4, g5⟩ := hh
   refine ⟨arr, T, fr, by rw [hw];exact g1, g2, by simpa using g3, g4, fun i e hi => ?_⟩
   rw [List.getElem?_set] at hi
   split at hi
   ·rename_i hji
    subst hji
    split at hi
    ·cases hi
     exact ⟨ho, (hv _ (g5 j d hj).2).ext hE2⟩
    ·cases hi
   ·exact ⟨(g5 i e hi).1, ((g5 i e hi).2.ext hE).ext hE2⟩
 exact key _ hρ.symm
theorem Rel.ownin {a : Act} {w : World} (hr : Rel G E n st a w) {m gm j es : Nat} {cs : List DV} (hm : st.σ[m]? = some (.row gm cs)) (hj : cs[j]? = some (.sc (.slice none 0 0))) :
  ∃ g, E.N < g /\ Rel G E n ⟨st.t, st.σ.set m (.row gm (cs.set j (.ref st.σ.length g 0 0 es))) ++ [.row g []]⟩ a w := by
 obtain ⟨X, h1, h2, h3, h4, h5, h6, h7, h8⟩ := hr
 have hob : ∀ b nn, (none : Option (Nat × Nat)) = some (b, nn) -> X.w.heap.size <= b := fun _ _ h => by cases h
 have hE := WExt.push h3 (Keep.refl X.w) (B := .row (X.N + 1) []) rfl hob
 have hS1 := h3.push (Keep.refl X.w) (B := .row (X.N + 1) []) rfl hob rfl
 rw [<- h2] at hm
 have hml : m < X.σ.length := (List.getElem?_eq_some_iff.1 hm).1
 obtain ⟨X2, k1, k2, k3, k4⟩ := Sto.rowcell h3 hS1 hE rfl (d' := .ref X.σ.length (X.N + 1) 0 0 es) hm (by simp only [AX.push];rw [List.getElem?_append_left hml];exact hm) (by simp only [AX.push];rw [if_neg (by omega)]) hj rfl (fun v hv => by
  rw [VRep.sc_eq hv]
  refine .ref _ _ _ _ _ _ _ _ (Nat.le_refl _) fun ob hobb => ?_
  rw [AX.row_mk (AX.push_live.2 (.inr ⟨rfl, rfl⟩))] at hobb
  simp only [AX.push, if_true, Option.some.injEq] at hobb
  subst hobb
  exact ⟨rfl, rfl, rfl⟩)
 have hE2 := hE.trans k4
 refine ⟨X.N + 1, by have := h4.top;omega, X2, by rw [k1, h1], ?_, k3, h4.trans hE2, h5.ext hE2, h6, h7, fun i => (h8 i).ext hE2⟩
 rw [k2, <- h2]
 simp only [AX.push]
 rw [List.set_append_left _ _ hml]
theorem r_ownin {t : Fr} {σ : List ABlk} {c : Code} (m j es : Nat) {gm : Nat} {cs : List DV} {σ' : Nat -> List ABlk} (hm : σ[m]? = some (.row gm cs)) (hj : cs[j]? = some (.sc (.slice none 0 0))) (hσ' : ∀ g, setA σ m (.row gm (cs.set j (.ref σ.length g 0 0 es))) = some (σ' g))
  (k : ∀ g, E.N < g -> WR P G E n c N xs R ⟨t, σ' g ++ [.row g []]⟩) : WR P G E n c N xs R ⟨t, σ⟩ := fun a w hr => by
 obtain ⟨g, hg, hr'⟩ := hr.ownin (es := es) hm hj
 have := k g hg a w
 rw [qB (hσ' g)] at this
 exact this hr'
theorem Rel.pubin {a : Act} {w : World} (hr : Rel G E n st a w) {m gm j k g len es : Nat} {cs ds : List DV} (hne : m ≠ k) (hm : st.σ[m]? = some (.row gm cs)) (hj : cs[j]? = some (.ref k g 0 len es)) (hk : st.σ[k]? = some (.row g ds)) (hl : len * es = ds.length) :
  Rel G E n ⟨st.t, (st.σ.set k .gone).set m (.row gm (cs.set j (.sl es ds)))⟩ a w := by
 obtain ⟨X, h1, h2, h3, h4, h5, h6, h7, h8⟩ := hr
 have hE := qo (X := X) k
 rw [<- h2] at hm hk
 obtain ⟨X2, k1, k2, k3, k4⟩ := Sto.rowcell h3 (sto_gone h3 k) hE rfl (d' := .sl es ds) hm (by show (X.σ.set k .gone)[m]? = _;rw [List.getElem?_set, if_neg (Ne.symm hne)];exact hm) rfl hj rfl (fun v hv => pub_rep h3 hk hl hv)
 have hE2 := hE.trans k4
 exact ⟨X2, by rw [k1, h1], by rw [k2, <- h2], k3, h4.trans hE2, h5.ext hE2, h6, h7, fun i => (h8 i).ext hE2⟩
theorem r_pubin {t : Fr} {σ σ1 σ' : List ABlk} {c : Code} (m j : Nat) {gm k g len es : Nat} {cs ds : List DV} (hm : σ[m]? = some (.row gm cs)) (hj : cs[j]? = some (.ref k g 0 len es)) (hk : σ[k]? = some (.row g ds)) (hl : len * es = ds.length)
  (hσ1 : setA σ k .gone = some σ1) (hσ' : setA σ1 m (.row gm (cs.set j (.sl es ds))) = some σ') (kk : WR P G E n c N xs R ⟨t, σ'⟩) (hne : m ≠ k := by decide) : WR P G E n c N xs R ⟨t, σ⟩ := fun a w hr => by
 have := kk a w
 rw [qB hσ', qB hσ1] at this
 exact this (hr.pubin hne hm hj hk hl)
def effB : Op -> Bool
 | .store _ _ _ => true
 | .alloc _ => true
 | .box _ _ => true
 | .makeSlice _ _ _ => true
 | .makeMap _ _ => true
 | .mapUpdate _ _ _ _ => true
 | .call ⟨.builtin .append, _, _⟩ => true
 | .call ⟨.builtin .clear, _, _⟩ => true
 | .call ⟨.builtin .copy, _, _⟩ => true
 | _ => false
def nEff : List Oper -> Nat
 | [] => 0
 | o :: r => match effB o.op with|true => 0|false => nEff r + 1
theorem nEff_le : ∀ l : List Oper, (l.take (nEff l)).length = nEff l
 | [] => rfl
 | o :: r => by
  unfold nEff
  split
  ·rfl
  ·rw [List.take_succ_cons, List.length_cons, nEff_le r]
theorem Q8 {σ : List ABlk} {id : Nat} {l : List Oper} {t : Fr} (hm : P.follows .mixedOrders = true) (hB : drawB l.toArray (nEff l) = true)
  (h : Zp P G E.N n l.toArray σ (fun φ => ∃ t', (∀ i, look t' i = .any \/ look t' i = φ i) /\ Zc P G E n l.toArray (l.drop (nEff l)) N ⟨t', σ⟩) (l.take (nEff l)) (look t)) : WR P G E n (.region id l.toArray true) N xs R ⟨t, σ⟩ :=
 r_drawm (nEff l) hm (nEff_le l) hB h
theorem WC {st : ASt} {id : Nat} {l : List Oper} (h : WR P G E n (.region id l.toArray true) N xs R st) : WR P G E n (.region id l.toArray true) N xs R st := h
theorem Q9 {σ : List ABlk} {id : Nat} {l : List Oper} {t : Fr} (hN : Nat.beq (nEff l) l.length = true) (hm : P.follows .mixedOrders = true) (hB : drawB l.toArray l.length = true)
  (h : Zp P G E.N n l.toArray σ (fun φ => ∃ t', (∀ i, look t' i = .any \/ look t' i = φ i) /\ Zc P G E n l.toArray [] N ⟨t', σ⟩) l (look t)) : WR P G E n (.region id l.toArray true) N xs R ⟨t, σ⟩ := r_drawn hm hB h
end
section
variable {P : Program} {G : Nat -> DV} {B : Nat} {f : Operand -> DV} {σ : List ABlk} {K : DV -> List ABlk -> Prop} {dst : Option Tmp} {type : TypeId} {pos : String} {after : Array Edge} {gd : Option (Nat × Bool)}
variable {α : Type} [Enc α]
theorem s_app_r {t t' e : TypeId} {d : TypeDesc} {g1 g2 : Bool} {z1 bytes m g len es : Nat} {zs : List Value} {x y : Operand} {cs : List DV} {l xs : List α} [ht : TyI P t (.slice e) g1 z1] [ht' : SrcTy P t'] [he : TyI P e d g2 es] [hb : TyB P e bytes] [hz : TyZ P e zs]
  {σ' : Nat -> List ABlk} (hzl : zs.length = es) (hx : f x = .ref m g 0 len es) (hy : f y = Qo xs) (hm : σ[m]? = some (.row g cs)) (hcs : cs = Wf l) (hes : es = Enc.es α) (hlen : len = l.length) (hby : (l.length + xs.length) * bytes <= 140737488355328) (hsm : l.length + xs.length <= 9223372036854775807)
  (hσ' : ∀ g', setA σ m (.row g' (Wf (l ++ xs))) = some (σ' g')) (k : ∀ g', B < g' -> K (.ref m g' 0 (l ++ xs).length es) (σ' g')) : OpSem P G B ⟨dst, .call ⟨.builtin .append, #[x, y], #[t, t']⟩, type, pos, after, gd⟩ f σ K := by
 subst hes hcs
 exact s_app hzl hx hm hlen hy srcOf_slOf hby hsm hσ' k
end
section
variable {P : Program} {G : Nat -> DV} {E : AX} {n : Nat} {N : ASt -> Prop} {xs : List (Nat × (ASt -> Prop))} {R : ASt -> Prop} {st : ASt}
theorem pub_ptr {X : AX} (hS : Sto X) {k g : Nat} {cs : List DV} {v : Value} (hσ : X.σ[k]? = some (.row g cs)) (h : VRep X.lay (.ptr k g 0) v) : VRep { X with σ := X.σ.set k .gone }.lay (.ep cs) v := by
 have hW := qo (X := X) k
 obtain ⟨b, n, hρ, rfl⟩ := h.ptr_inv hσ
 obtain ⟨arr, T, fr, g1, g2, g3, g4, g5⟩ := hS.row hσ hρ
 refine .ep _ b 0 (fun j => arr.getD j undef) (fun d hd => ?_) (fun j hj => ?_) (fun j d hj => (g5 j d hj).2.ext hW)
 ·obtain ⟨j, hj⟩ := List.mem_iff_getElem?.1 hd
  exact (g5 j d hj).1
 ·refine AX.imm_mk (fun ⟨i, g', n', hl', hr'⟩ => ?_) (fun hh => hS.hid b ⟨k, g, n, Wt hσ, hρ⟩ hh) ?_
  ·have hli : X.live i g' /\ i ≠ k := by
    have hl' : ((X.σ.set k .gone)[i]?).bind ABlk.gen? = some g' := hl'
    rw [List.getElem?_set] at hl'
    split at hl'
    ·split at hl' <;> simp [ABlk.gen?] at hl'
    ·rename_i hne;exact ⟨hl', Ne.symm hne⟩
   exact hli.2 (hS.inj i k g' g b n' n hli.1 (Wt hσ) hr' hρ)
  ·have : 0 + j < arr.size := by omega
   simp only [Nat.zero_add] at this ⊢
   simp [World.cell?, g1, Array.getD_eq_getD_getElem?, this]
theorem Rel.pubptr {a : Act} {w : World} (hr : Rel G E n st a w) {i k g : Nat} {cs : List DV} (h : look st.t i = .ptr k g 0) (hk : st.σ[k]? = some (.row g cs)) : Rel G E n ⟨(i, .ep cs) :: st.t, st.σ.set k .gone⟩ a w := by
 obtain ⟨X, h1, h2, h3, h4, h5, h6, h7, h8⟩ := hr
 have hE := qo (X := X) k
 refine ⟨{ X with σ := X.σ.set k .gone }, h1, by rw [<- h2], sto_gone h3 k, h4.trans hE, h5.ext hE, h6, h7, fun j => ?_⟩
 simp only [look]
 cases hb : Nat.beq i j with
 | true =>
  have := Nat.eq_of_beq_eq_true hb
  subst this
  have hv := h8 i
  rw [h] at hv
  rw [<- h2] at hk
  exact pub_ptr h3 hk hv
 | false => exact (h8 j).ext hE
theorem r_pubptr {t : Fr} {σ : List ABlk} {c : Code} {σ' : List ABlk} {k g : Nat} {cs : List DV} (i : Nat) (h : look t i = .ptr k g 0) (hk : σ[k]? = some (.row g cs)) (hσ' : setA σ k .gone = some σ')
  (kk : WR P G E n c N xs R ⟨(i, .ep cs) :: t, σ'⟩) : WR P G E n c N xs R ⟨t, σ⟩ := fun a w hr => by
 rw [qB hσ'] at kk
 exact kk a w (hr.pubptr h hk)
variable {B : Nat} {f : Operand -> DV} {σ : List ABlk} {K : DV -> List ABlk -> Prop} {dst : Option Tmp} {type : TypeId} {pos : String} {after : Array Edge} {gd : Option (Nat × Bool)}
theorem s_callv_p {x : Operand} {args : Array Operand} {ts : Array TypeId} {fid : FuncId} {first cap ds : List DV} {d : DV} [FnOk P fid] (hx : f x = .fn (.func fid) first cap) (hds : reL (first ++ args.toList.map f ++ cap) = some ds) (h : Pure P G fid ds d) (hc : d.clo = true) (k : K d σ) :
  OpSem P G B ⟨dst, .call ⟨.value x, args, ts⟩, type, pos, after, gd⟩ f σ K := s_callv hx hds ((h.lift hc).mono fun _ _ ⟨h1, h2⟩ => by rw [h1, h2];exact k)
theorem reL_some : ∀ l : List DV, reL l = some l
 | [] => rfl
 | d :: r => by cases d <;> simp [reL, reD, reL_some r]
theorem s_callv_q {x : Operand} {args : Array Operand} {ts : Array TypeId} {fid : FuncId} {first cap : List DV} {d : DV} [FnOk P fid] (hx : f x = .fn (.func fid) first cap) (h : Pure P G fid (first ++ args.toList.map f ++ cap) d) (hc : d.clo = true) (k : K d σ) :
  OpSem P G B ⟨dst, .call ⟨.value x, args, ts⟩, type, pos, after, gd⟩ f σ K := s_callv hx (reL_some _) ((h.lift hc).mono fun _ _ ⟨h1, h2⟩ => by rw [h1, h2];exact k)
theorem qi {f : Fn} {a b : List DV} (ha : ∀ d ∈ a, d.clo = true) (hb : ∀ d ∈ b, d.clo = true) : (DV.fn f a b).clo = true := by
 simp only [DV.clo, Bool.and_eq_true, List.all_eq_true];exact ⟨fun x _ => ha x.1 x.2, fun x _ => hb x.1 x.2⟩
theorem Z3 {cs : List DV} (h : ∀ d ∈ cs, d.clo = true) : (DV.ep cs).clo = true := by simp only [DV.clo, List.all_eq_true];exact fun x _ => h x.1 x.2
end
section
variable {P : Program} {G : Nat -> DV} {B : Nat} {f : Operand -> DV} {σ : List ABlk} {K : DV -> List ABlk -> Prop} {dst : Option Tmp} {type : TypeId} {pos : String} {after : Array Edge} {gd : Option (Nat × Bool)}
variable {α : Type} [Enc α]
end
section
variable {P : Program} {G : Nat -> DV} {E : AX} {n : Nat} {N : ASt -> Prop} {xs : List (Nat × (ASt -> Prop))} {R : ASt -> Prop} {st : ASt}
theorem r_loop2 {c : Code} {ι κ : Type} (I : ι -> κ -> ASt) (pre : ι -> κ -> Prop) (μ : ι -> κ -> Nat) (x0 : ι) (y0 : κ) (h0 : ALe st (I x0 y0)) (hp0 : pre x0 y0)
  (round : ∀ x y, pre x y -> WR P G E n c (fun st' => ∃ x' y', pre x' y' /\ μ x' y' < μ x y /\ ALe st' (I x' y')) xs R (I x y)) : WR P G E n (.loop c) N xs R st :=
 WY (fun z : ι × κ => I z.1 z.2) (fun z => pre z.1 z.2) (fun z => μ z.1 z.2) (x0, y0) h0 hp0 fun ⟨x, y⟩ h1 a w hr =>
  wp_mono (round x y h1 a w hr) fun e a' w' ⟨st', hr', hq⟩ => by
   refine ⟨st', hr', ?_⟩
   cases e with
   | normal => obtain ⟨x', y', h3, h4, h5⟩ := hq;exact ⟨(x', y'), h3, h4, h5⟩
   | exit id => exact hq
   | ret => exact hq
   | goto l => exact hq.elim
   | panic ch => exact hq.elim
   | outgrown => exact hq.elim
end
section
variable {P : Program} {G : Nat -> DV} {B : Nat} {f : Operand -> DV} {σ : List ABlk} {K : DV -> List ABlk -> Prop} {dst : Option Tmp} {type : TypeId} {pos : String} {after : Array Edge} {gd : Option (Nat × Bool)}
end
section
variable {P : Program} {G : Nat -> DV} {E : AX}
variable {B : Nat} {f : Operand -> DV} {σ : List ABlk} {K : DV -> List ABlk -> Prop} {dst : Option Tmp} {type : TypeId} {pos : String} {after : Array Edge} {gd : Option (Nat × Bool)}
variable {α : Type} [Enc α]
end
section
variable {P : Program} {G : Nat -> DV} {B : Nat} {f : Operand -> DV} {σ : List ABlk} {K : DV -> List ABlk -> Prop} {dst : Option Tmp} {type : TypeId} {pos : String} {after : Array Edge} {gd : Option (Nat × Bool)}
end
section
variable {P : Program} {G : Nat -> DV} {B : Nat} {f : Operand -> DV} {σ : List ABlk} {K : DV -> List ABlk -> Prop} {dst : Option Tmp} {type : TypeId} {pos : String} {after : Array Edge} {gd : Option (Nat × Bool)}
/-! The same with the place named. -/
end
section
variable {P : Program} {G : Nat -> DV} {E : AX} {n : Nat} {N : ASt -> Prop}
/-! A closure takes its variables: they are no longer written. -/
end
theorem Zb : ∀ d ∈ ([] : List DV), d.clo = true := fun d h => by simp at h
theorem Ww {d : DV} {r : List DV} (h : d.clo = true) (k : ∀ e ∈ r, e.clo = true) : ∀ e ∈ d :: r, e.clo = true := fun e he => by
 rcases List.mem_cons.1 he with rfl|he
 ·exact h
 ·exact k e he
section
variable {P : Program} {G : Nat -> DV} {B : Nat} {f : Operand -> DV} {σ : List ABlk} {K : DV -> List ABlk -> Prop} {dst : Option Tmp} {type : TypeId} {pos : String} {after : Array Edge} {gd : Option (Nat × Bool)}
end
section
theorem WA {P : Program} {G : Nat -> DV} {B : Nat} {f : Operand -> DV} {σ : List ABlk} {K : DV -> List ABlk -> Prop} {dst : Option Tmp} {type : TypeId} {pos : String} {after : Array Edge} {gd : Option (Nat × Bool)} {args : Array Operand} {ts : Array TypeId} {fid : FuncId} {ds : List DV} {d : DV} [FnOk P fid] (hx : f (.func fid) = .fn (.func fid) [] []) (hds : reL (args.toList.map f) = some ds) (h : Pure P G fid ds d) (k : K d σ) (hc : d.clo = true := by repeat' first|exact Wj|exact WB _|exact WH (Qy _)|exact Qy _|refine qi ?_ ?_|refine Z3 ?_|refine W4 ?_|refine WS ?_|exact Zb|refine Ww ?_ ?_|refine WH ?_) : OpSem P G B ⟨dst, .call ⟨.value (.func fid), args, ts⟩, type, pos, after, gd⟩ f σ K := qk hx hds h hc k
theorem zal {st : ASt} {t : Fr} {σ r : List ABlk} (hσ : st.σ = σ ++ r) (h : ∀ p ∈ t, look st.t p.1 = p.2 := by repeat' first|exact mem_nil|refine mem_cons rfl ?_) : ALe st ⟨t, σ⟩ := ale_drop h hσ
end
end Go.Av
end
section
namespace Go.Av
open Classical Go.ChangeShapes Go.WideShapes Go.ChangeAt Go.RowKit
def Sees (w : World) (L : Lay) : Prop := ∀ b o v, w.cell? ⟨b, o, none⟩ = some v -> L.imm b o = some v
class Rd (P : Program) (t : TypeId) (α : outParam Type) [Enc α] (ok : outParam (α -> Prop)) : Prop where
 rd : ∀ {H : Type} (enc : TypeId × Value -> H) (w : World) (base : Nat) (spare : Nat -> Bool) (held : Bool) (fuel : Nat) (cs : List Value) (x : DataW H × List MemPlace), DataW.trod enc P w base spare held fuel t cs = some x ->
  ∃ y : α, ok y /\ cs.length = Enc.es α /\ ∀ L, Sees w L -> ∀ j d, (Enc.enc y)[j]? = some d -> VRep L d (cs.getD j undef)
 top : ∀ (W : World) (base : Nat) (v : Value), Enc.es α = 1 -> Value.okWide P W .any base t v -> v.cells.toList = [v]
def I64 (n : Int) : Prop := -9223372036854775808 <= n /\ n <= 9223372036854775807
variable {P : Program}
theorem rd_one {t : TypeId} {α : Type} [Enc α] {ok : α -> Prop} [h : Rd P t α ok] (he : Enc.es α = 1) {H : Type} {enc : TypeId × Value -> H} {W : World} {base : Nat} {spare : Nat -> Bool} {held : Bool} {v : Value} {d : DataW H} {p : List MemPlace}
  (hv : Value.okWide P W .any base t v) (ht : DataW.Trod enc P W 0 spare held t v d p) : ∃ y : α, ok y /\ ∀ L, Sees W L -> ∀ e, Enc.enc y = [e] -> VRep L e v := by
 obtain ⟨fuel, hf⟩ := ht
 rw [h.top W base v he hv] at hf
 obtain ⟨y, h1, _, h3⟩ := h.rd enc W 0 spare held fuel _ _ hf
 exact ⟨y, h1, fun L hL e hy => h3 L hL 0 e (by rw [hy];rfl)⟩
instance rd_int {t : TypeId} {z : Nat} [ht : TyI P t (.int .i64) false z] : Rd P t Int I64 where
 rd enc w base spare held fuel cs x h := by
  obtain ⟨n, rfl, _, hw⟩ := DataW.trod_int ht.u h
  refine ⟨n, ?_, rfl, fun L _ j d hj => ?_⟩
  ·have h1 : IntKind.i64.min = -9223372036854775808 := rfl
   have h2 : IntKind.i64.max = 9223372036854775807 := rfl
   simp only [Lit.wf, Bool.and_eq_true, decide_eq_true_eq, h1, h2] at hw
   exact hw
  ·cases j with
   | zero => cases hj;exact .sc _
   | succ j => simp [Enc.enc] at hj
 top W base v _ hv := by
  cases v <;> first|rfl|(simp [Value.okWide, ht.u, Cell.okWide, Cell.ok] at hv)
instance rd_string {t : TypeId} {z : Nat} [ht : TyI P t .string false z] : Rd P t ByteArray (fun s => s.size <= 9223372036854775807) where
 rd enc w base spare held fuel cs x h := by
  obtain ⟨n, rfl, _, hw⟩ := DataW.trod_string ht.u h
  refine ⟨n, hw, rfl, fun L _ j d hj => ?_⟩
  cases j with
  | zero => cases hj;exact .sc _
  | succ j => simp [Enc.enc] at hj
 top W base v _ hv := by
  cases v <;> first|rfl|(simp [Value.okWide, ht.u, Cell.okWide, Cell.ok] at hv)
theorem spot_of {w : World} {a : Addr} {v : Value} (h : w.cell? a = some v) : a.spot = none := World.cell?_spot h
instance rd_slice {t e : TypeId} {z : Nat} {g : Bool} {de : TypeDesc} {β : Type} [Enc β] {okb : β -> Prop} [ht : TyI P t (.slice e) false z] [he : TyI P e de g (Enc.es β)] [hr : Rd P e β okb] : Rd P t (List β) (fun l => l.length <= 9223372036854775807 /\ ∀ x ∈ l, okb x) where
 rd enc w base spare held fuel cs x h := by
  have hcell : P.cellsOf e = Enc.es β := by
   have := he.s
   cases hi : P.info? e with
   | none => simp [hi] at this
   | some i => simp [hi] at this;simp [Program.cellsOf, hi, this]
  rcases DataW.trod_slice ht.u h with ⟨rfl, _⟩|⟨a, len, cap, elems, rest, n, _, rfl, _, _, hlc, hcap, hel, hget, _⟩
  ·refine ⟨[], ⟨by simp, fun x hx => by simp at hx⟩, rfl, fun L _ j d hj => ?_⟩
   cases j with
   | zero => cases hj;exact .sl _ _ _ _ _ (fun _ => undef) (by simp [Wf]) (Nat.le_refl _) (fun d hd => by simp [Wf] at hd) (.inl rfl) (fun j d hj => by simp [Wf] at hj)
   | succ j => simp [Enc.enc] at hj
  ·have each : ∀ i : Fin len, ∃ y : β, ∃ ci : List Value, okb y /\ ci.length = Enc.es β /\ (∀ r, r < Enc.es β -> w.cell? ((a.add (i.1 * Enc.es β)).add r) = ci[r]?) /\ ∀ L, Sees w L -> ∀ j d, (Enc.enc y)[j]? = some d -> VRep L d (ci.getD j undef) := fun i => by
    have h1 := hget i.1 i.2
    rw [List.getElem?_eq_getElem (by omega), hcell] at h1
    obtain ⟨ci, h2, h3⟩ := Option.bind_eq_some_iff.1 h1
    obtain ⟨_, h4, h5⟩ := World.cells?_some h2
    obtain ⟨y, h6, h7, h8⟩ := hr.rd enc w base spare held n ci _ h3
    exact ⟨y, ci, h6, h4, h5, h8⟩
   let y : Fin len -> β := fun i => Classical.choose (each i)
   have hy : ∀ i, ∃ ci : List Value, okb (y i) /\ ci.length = Enc.es β /\ (∀ r, r < Enc.es β -> w.cell? ((a.add (i.1 * Enc.es β)).add r) = ci[r]?) /\ ∀ L, Sees w L -> ∀ j d, (Enc.enc (y i))[j]? = some d -> VRep L d (ci.getD j undef) := fun i => Classical.choose_spec (each i)
   refine ⟨List.ofFn y, ⟨by rw [List.length_ofFn];exact Nat.le_trans hlc (Nat.le_trans hcap (by decide)), fun x hx => ?_⟩, rfl, fun L hL j d hj => ?_⟩
   ·obtain ⟨i, rfl⟩ := List.mem_ofFn.1 hx
    obtain ⟨ci, h1, _⟩ := hy i
    exact h1
   ·cases j with
    | succ j => simp [Enc.enc] at hj
    | zero =>
     cases hj
     have hp := Enc.pos (α := β)
     have hlen : (Wf (List.ofFn y)).length = len * Enc.es β := by rw [Qx, List.length_ofFn]
     let f : Nat -> Value := fun k => if h : k / Enc.es β < len then (Classical.choose (hy ⟨k / Enc.es β, h⟩)).getD (k % Enc.es β) undef else undef
     show VRep L (Qo (List.ofFn y)) _
     refine .sl _ _ _ _ _ f hlen.symm hlc (encs_one _) ?_ (fun k d hk => ?_)
     ·by_cases h0 : len = 0
      ·left
       exact List.eq_nil_of_length_eq_zero (by rw [hlen, h0, Nat.zero_mul])
      ·right
       obtain ⟨b, o, sp⟩ := a
       obtain ⟨c0, _, hc0, hc1, _⟩ := hy ⟨0, by omega⟩
       have hs := hc1 0 hp
       rw [List.getElem?_eq_getElem (by omega)] at hs
       have hsp : sp = none := by simpa [Addr.add] using spot_of hs
       subst hsp
       refine ⟨b, o, rfl, fun k hk => ?_⟩
       rw [hlen] at hk
       have hkd : k / Enc.es β < len := Nat.div_lt_of_lt_mul (by rw [Nat.mul_comm];exact hk)
       have hfk : f k = (Classical.choose (hy ⟨k / Enc.es β, hkd⟩)).getD (k % Enc.es β) undef := dif_pos hkd
       obtain ⟨_, h4, h5, _⟩ := Classical.choose_spec (hy ⟨k / Enc.es β, hkd⟩)
       have hm := Nat.mod_lt k hp
       have h6 := h5 (k % Enc.es β) hm
       rw [List.getElem?_eq_getElem (by omega)] at h6
       refine hL b (o + k) (f k) ?_
       rw [hfk, List.getD_eq_getElem?_getD, List.getElem?_eq_getElem (by omega)]
       have hadd : ((⟨b, o, none⟩ : Addr).add (k / Enc.es β * Enc.es β)).add (k % Enc.es β) = ⟨b, o + k, none⟩ := by
        rw [qb, qb, Nat.add_assoc, Nat.mul_comm, Nat.div_add_mod]
       rw [hadd] at h6
       exact h6
     ·have hk' := (List.getElem?_eq_some_iff.1 hk).1
      rw [hlen] at hk'
      have hkd : k / Enc.es β < len := Nat.div_lt_of_lt_mul (by rw [Nat.mul_comm];exact hk')
      have hfk : f k = (Classical.choose (hy ⟨k / Enc.es β, hkd⟩)).getD (k % Enc.es β) undef := dif_pos hkd
      obtain ⟨_, _, _, h7⟩ := Classical.choose_spec (hy ⟨k / Enc.es β, hkd⟩)
      have hm := Nat.mod_lt k hp
      have := encs_at (List.ofFn y) (k / Enc.es β) (by rw [List.length_ofFn];exact hkd) (k % Enc.es β) hm
      rw [Nat.mul_comm, Nat.div_add_mod, hk, List.getElem_ofFn] at this
      rw [hfk]
      exact h7 L hL _ d this.symm
 top W base v _ hv := by
  obtain ⟨a0, len, cap, rfl⟩ := okWide_slice ht.u hv
  rfl
inductive Sub : DV -> DV -> Prop
 | refl (d : DV) : Sub d d
 | nil (es : Nat) : Sub (.sc (.slice none 0 0)) (.sl es [])
 | sl (es : Nat) (cs cs' : List DV) : cs.length = cs'.length -> (∀ (j : Nat) (d d' : DV), cs[j]? = some d -> cs'[j]? = some d' -> Sub d d') -> Sub (.sl es cs) (.sl es cs')
theorem Sub.one {d d' : DV} (h : Sub d d') : d.one = true -> d'.one = true := by
 cases h with
 | refl => exact id
 | nil => intro _;rfl
 | sl => intro _;rfl
theorem Sub.rep {L : Lay} {d d' : DV} (h : Sub d d') : ∀ {v : Value}, VRep L d v -> VRep L d' v := by
 induction h with
 | refl => exact id
 | nil es => intro v hv;rw [VRep.sc_eq hv];exact .sl _ _ _ _ _ (fun _ => undef) (by simp) (Nat.le_refl _) (fun d hd => by simp at hd) (.inl rfl) (fun j d hj => by simp at hj)
 | sl es cs cs' hl hs ih =>
  intro v hv
  obtain ⟨a, len, cap, f, rfl, h1, h2, h3, h4, h5⟩ := hv.sl_inv
  have get : ∀ (j : Nat) (d' : DV), cs'[j]? = some d' -> ∃ d, cs[j]? = some d := fun j d' hj => ⟨cs[j]'(by rw [hl];exact (List.getElem?_eq_some_iff.1 hj).1), List.getElem?_eq_getElem _⟩
  refine .sl _ _ _ _ _ f (by rw [h1, hl]) h2 (fun d' hd => ?_) ?_ (fun j d' hj => ?_)
  ·obtain ⟨j, hj⟩ := List.mem_iff_getElem?.1 hd
   obtain ⟨d, hd0⟩ := get j d' hj
   exact (hs j d d' hd0 hj).one (h3 d (List.mem_of_getElem? hd0))
  ·rcases h4 with h4|⟨b, o, h6, h7⟩
   ·left
    subst h4
    exact List.eq_nil_of_length_eq_zero hl.symm
   ·right
    exact ⟨b, o, h6, fun j hj => h7 j (by rw [hl];exact hj)⟩
  ·obtain ⟨d, hd0⟩ := get j d' hj
   exact ih j d d' hd0 hj (h5 j d hd0)
end Go.Av
end
section
namespace Go.Av
open Classical
section
variable {P : Program} {G : Nat -> DV} {E : AX} {n : Nat} {ops : Array Oper} {md : Region.Mode} {Fin : (Nat -> DV) -> List ABlk -> Prop}
theorem OPost.mono {X : AX} {K K' : DV -> List ABlk -> Prop} {r : Result Next} (hk : ∀ d σ, K d σ -> K' d σ) (h : OPost P X K r) : OPost P X K' r := by
 have am : ∀ {v w'}, APost X K v w' -> APost X K' v w' := fun ⟨Y, h1, h2, h3, d, h4, h5⟩ => ⟨Y, h1, h2, h3, d, h4, hk _ _ h5⟩
 cases r with
 | ok nx w' =>
  cases nx <;> simp only [OPost] at h ⊢
  case value v => exact am h
  case skip => exact am h
  case enter f args => exact ⟨h.1, h.2.mono fun e w'' ⟨v, he, hp⟩ => ⟨v, he, am hp⟩⟩
 | halt hh w' => simp only [OPost] at h
theorem OpSem.mono {B : Nat} {o : Oper} {f : Operand -> DV} {σ : List ABlk} {K K' : DV -> List ABlk -> Prop} (h : OpSem P G B o f σ K) (hk : ∀ d σ, K d σ -> K' d σ) : OpSem P G B o f σ K' := fun X ρ h1 h2 h3 h4 h5 =>
 (h X ρ h1 h2 h3 h4 h5).mono hk
def mixB (md : Region.Mode) (ops : Array Oper) : List (Nat × Bool) -> Array Bool -> Bool
 | [], listed => (Region.ready md ops listed).isEmpty
 | (j, true) :: r, listed => (Region.ready md ops listed).contains j && Region.free md ops listed j && mixB md ops r (listed.setIfInBounds j true)
 | (j, false) :: r, listed => (Region.ready md ops listed) == [j] && mixB md ops r (listed.setIfInBounds j true)
variable {N : ASt -> Prop} {xs : List (Nat × (ASt -> Prop))} {R : ASt -> Prop} {σ : List ABlk} {t : Fr}
variable {B : Nat} {l : List (Oper × Bool)}
end
inductive RenS (q : Nat -> Nat) : DV -> DV -> Prop
 | clo {d : DV} : d.clo = true -> RenS q d d
 | ref {k i g o l e : Nat} : k = q i -> RenS q (.ref k g o l e) (.ref i g o l e)
 | ptr {k i g o : Nat} : k = q i -> RenS q (.ptr k g o) (.ptr i g o)
 | mp {k i g : Nat} : k = q i -> RenS q (.mp k g) (.mp i g)
 | bld {T k i g : Nat} : k = q i -> RenS q (.bld T k g) (.bld T i g)
 | bref {T k i g l : Nat} : k = q i -> RenS q (.bref T k g l) (.bref T i g l)
inductive RenL (R : DV -> DV -> Prop) : List DV -> List DV -> Prop
 | nil : RenL R [] []
 | cons {d e : DV} {r s : List DV} : R d e -> RenL R r s -> RenL R (d :: r) (e :: s)
inductive RenD (q : Nat -> Nat) : DV -> DV -> Prop
 | s {d e : DV} : RenS q d e -> RenD q d e
 | fn {F : Fn} {a a' c c' : List DV} : RenL (RenS q) a a' -> RenL (RenS q) c c' -> RenD q (.fn F a c) (.fn F a' c')
 | tup {a a' : List DV} : RenL (RenS q) a a' -> RenD q (.tup a) (.tup a')
 | agg {a a' : List DV} : RenL (RenS q) a a' -> RenD q (.agg a) (.agg a')
inductive RenB (q : Nat -> Nat) : ABlk -> ABlk -> Prop
 | gone : RenB q .gone .gone
 | row {g : Nat} {cs cs' : List DV} : RenL (RenS q) cs cs' -> RenB q (.row g cs) (.row g cs')
 | rowc {g : Nat} {cs : List DV} : (∀ d ∈ cs, d.clo = true) -> RenB q (.row g cs) (.row g cs)
 | map {g : Nat} {m : List (Value × DV)} : (∀ p ∈ m, p.2.clo = true) -> RenB q (.mapb g m) (.mapb g m)
inductive RenBs (q : Nat -> Nat) : List ABlk -> List ABlk -> Prop
 | nil : RenBs q [] []
 | cons {d e : ABlk} {r s : List ABlk} : RenB q d e -> RenBs q r s -> RenBs q (d :: r) (e :: s)
theorem RenL.get {R : DV -> DV -> Prop} {a b : List DV} (h : RenL R a b) : a.length = b.length /\ ∀ (j : Nat) (d e : DV), a[j]? = some d -> b[j]? = some e -> R d e := by
 induction h with
 | nil => exact ⟨rfl, fun j d e h => by simp at h⟩
 | cons h1 _ ih =>
  refine ⟨by simp [ih.1], fun j d e hd he => ?_⟩
  cases j with
  | zero => simp at hd he;subst hd;subst he;exact h1
  | succ j => exact ih.2 j d e (by simpa using hd) (by simpa using he)
theorem RenBs.get {q : Nat -> Nat} {a b : List ABlk} (h : RenBs q a b) : a.length = b.length /\ ∀ (j : Nat) (d e : ABlk), a[j]? = some d -> b[j]? = some e -> RenB q d e := by
 induction h with
 | nil => exact ⟨rfl, fun j d e h => by simp at h⟩
 | cons h1 _ ih =>
  refine ⟨by simp [ih.1], fun j d e hd he => ?_⟩
  cases j with
  | zero => simp at hd he;subst hd;subst he;exact h1
  | succ j => exact ih.2 j d e (by simpa using hd) (by simpa using he)
theorem RenB.gen {q : Nat -> Nat} {a b : ABlk} (h : RenB q a b) : a.gen? = b.gen? := by cases h <;> rfl
theorem RenS.one {q : Nat -> Nat} {d e : DV} (h : RenS q d e) : d.one = e.one := by cases h <;> rfl
section
variable {q : Nat -> Nat} {L L' : Lay}
theorem RenS.to (himm : ∀ b o v, L.imm b o = some v -> L'.imm b o = some v) (htop : L.top <= L'.top) (hshp : ∀ b s, L.shp b = some s -> L'.shp b = some s) (hrow : ∀ i g ob, L'.row i g = some ob -> L.row (q i) g = some ob) {d e : DV} {v : Value} (h : RenS q d e) (hv : VRep L d v) : VRep L' e v := by
 cases h with
 | clo hc => exact hv.mono_clo himm hc
 | ref hk => subst hk;cases hv with|ref _ _ _ _ _ a l c h1 h2 => exact .ref _ _ _ _ _ _ _ _ (Nat.le_trans h1 htop) fun ob hob => h2 ob (hrow _ _ ob hob)
 | ptr hk => subst hk;cases hv with|ptr _ _ _ a h1 h2 => exact .ptr _ _ _ _ (Nat.le_trans h1 htop) fun ob hob => h2 ob (hrow _ _ ob hob)
 | mp hk => subst hk;cases hv with|mp _ _ r h1 h2 => exact .mp _ _ _ (Nat.le_trans h1 htop) fun ob hob => h2 ob (hrow _ _ ob hob)
 | bld hk => subst hk;cases hv with|bld _ _ _ a h1 h2 => exact .bld _ _ _ _ (Nat.le_trans h1 htop) fun ob hob => (let ⟨b, n, q1, q2, q3⟩ := h2 ob (hrow _ _ ob hob);⟨b, n, q1, hshp _ _ q2, q3⟩)
 | bref hk => subst hk;cases hv with|bref _ _ _ _ a l c h1 h2 => exact .bref _ _ _ _ _ _ _ (Nat.le_trans h1 htop) fun ob hob => (let ⟨q1, q2⟩ := h2 ob (hrow _ _ ob hob);⟨q1, fun b n hb => (let ⟨m, hm⟩ := q2 b n hb;⟨m, hshp _ _ hm⟩)⟩)
theorem RenS.from (himm : ∀ b o v, L.imm b o = some v -> L'.imm b o = some v) (htop : L.top <= L'.top) (hshp : ∀ b s, L.shp b = some s -> L'.shp b = some s) (hrow : ∀ i g ob, L'.row (q i) g = some ob -> L.row i g = some ob) {d e : DV} {v : Value} (h : RenS q d e) (hv : VRep L e v) : VRep L' d v := by
 cases h with
 | clo hc => exact hv.mono_clo himm hc
 | ref hk => subst hk;cases hv with|ref _ _ _ _ _ a l c h1 h2 => exact .ref _ _ _ _ _ _ _ _ (Nat.le_trans h1 htop) fun ob hob => h2 ob (hrow _ _ ob hob)
 | ptr hk => subst hk;cases hv with|ptr _ _ _ a h1 h2 => exact .ptr _ _ _ _ (Nat.le_trans h1 htop) fun ob hob => h2 ob (hrow _ _ ob hob)
 | mp hk => subst hk;cases hv with|mp _ _ r h1 h2 => exact .mp _ _ _ (Nat.le_trans h1 htop) fun ob hob => h2 ob (hrow _ _ ob hob)
 | bld hk => subst hk;cases hv with|bld _ _ _ a h1 h2 => exact .bld _ _ _ _ (Nat.le_trans h1 htop) fun ob hob => (let ⟨b, n, q1, q2, q3⟩ := h2 ob (hrow _ _ ob hob);⟨b, n, q1, hshp _ _ q2, q3⟩)
 | bref hk => subst hk;cases hv with|bref _ _ _ _ a l c h1 h2 => exact .bref _ _ _ _ _ _ _ (Nat.le_trans h1 htop) fun ob hob => (let ⟨q1, q2⟩ := h2 ob (hrow _ _ ob hob);⟨q1, fun b n hb => (let ⟨m, hm⟩ := q2 b n hb;⟨m, hshp _ _ hm⟩)⟩)
theorem RenL.one_r {q : Nat -> Nat} {a b : List DV} (h : RenL (RenS q) a b) (ha : ∀ d ∈ a, d.one = true) : ∀ d ∈ b, d.one = true := by
 induction h with
 | nil => intro d hd;cases hd
 | cons h1 h2 ih =>
  intro d hd
  rcases List.mem_cons.1 hd with rfl|hd
  ·rw [<- h1.one];exact ha _ (by simp)
  ·exact ih (fun e he => ha e (by simp [he])) d hd
theorem RenL.one_l {q : Nat -> Nat} {a b : List DV} (h : RenL (RenS q) a b) (hb : ∀ d ∈ b, d.one = true) : ∀ d ∈ a, d.one = true := by
 induction h with
 | nil => intro d hd;cases hd
 | cons h1 h2 ih =>
  intro d hd
  rcases List.mem_cons.1 hd with rfl|hd
  ·rw [h1.one];exact hb _ (by simp)
  ·exact ih (fun e he => hb e (by simp [he])) d hd
theorem RenD.to (himm : ∀ b o v, L.imm b o = some v -> L'.imm b o = some v) (htop : L.top <= L'.top) (hshp : ∀ b s, L.shp b = some s -> L'.shp b = some s) (hrow : ∀ i g ob, L'.row i g = some ob -> L.row (q i) g = some ob) {d e : DV} {v : Value} (h : RenD q d e) (hv : VRep L d v) : VRep L' e v := by
 have lift : ∀ {a a' : List DV} {vs : Array Value}, RenL (RenS q) a a' -> (∀ j d, a[j]? = some d -> VRep L d (vs.getD j undef)) -> ∀ j e, a'[j]? = some e -> VRep L' e (vs.getD j undef) := fun hl hv j e he => by
  obtain ⟨h1, h2⟩ := hl.get
  have hj := (List.getElem?_eq_some_iff.1 he).1
  have hd := List.getElem?_eq_getElem (show j < _ by rw [h1];exact hj)
  exact (h2 j _ e hd he).to himm htop hshp hrow (hv j _ hd)
 cases h with
 | s h => exact h.to himm htop hshp hrow hv
 | fn ha hc => cases hv with|fn _ _ _ fs cs h1 h2 h3 h4 => exact .fn _ _ _ _ _ (by rw [h1, ha.get.1]) (by rw [h2, hc.get.1]) (lift ha h3) (lift hc h4)
 | tup ha => cases hv with|tup _ vs h1 h2 => exact .tup _ _ (by rw [h1, ha.get.1]) (lift ha h2)
 | agg ha => cases hv with|agg _ vs h1 h0 h2 => exact .agg _ _ (by rw [h1, ha.get.1]) (ha.one_r h0) (lift ha h2)
theorem RenD.from (himm : ∀ b o v, L.imm b o = some v -> L'.imm b o = some v) (htop : L.top <= L'.top) (hshp : ∀ b s, L.shp b = some s -> L'.shp b = some s) (hrow : ∀ i g ob, L'.row (q i) g = some ob -> L.row i g = some ob) {d e : DV} {v : Value} (h : RenD q d e) (hv : VRep L e v) : VRep L' d v := by
 have lift : ∀ {a a' : List DV} {vs : Array Value}, RenL (RenS q) a a' -> (∀ j d, a'[j]? = some d -> VRep L d (vs.getD j undef)) -> ∀ j e, a[j]? = some e -> VRep L' e (vs.getD j undef) := fun hl hv j e he => by
  obtain ⟨h1, h2⟩ := hl.get
  have hj := (List.getElem?_eq_some_iff.1 he).1
  have hd := List.getElem?_eq_getElem (show j < _ by rw [<- h1];exact hj)
  exact (h2 j e _ he hd).from himm htop hshp hrow (hv j _ hd)
 cases h with
 | s h => exact h.from himm htop hshp hrow hv
 | fn ha hc => cases hv with|fn _ _ _ fs cs h1 h2 h3 h4 => exact .fn _ _ _ _ _ (by rw [h1, ha.get.1]) (by rw [h2, hc.get.1]) (lift ha h3) (lift hc h4)
 | tup ha => cases hv with|tup _ vs h1 h2 => exact .tup _ _ (by rw [h1, ha.get.1]) (lift ha h2)
 | agg ha => cases hv with|agg _ vs h1 h0 h2 => exact .agg _ _ (by rw [h1, ha.get.1]) (ha.one_l h0) (lift ha h2)
theorem RenB.turn {w : World} {ob : Option (Nat × Nat)} {a b : ABlk} (ha : ∀ d e v, RenS q d e -> VRep L d v -> VRep L' e v) (h : RenB q a b) (hh : a.holds L w ob) : b.holds L' w ob := by
 cases h with
 | gone => trivial
 | rowc hc =>
  cases ob with
  | none => exact hh
  | some z =>
   obtain ⟨arr, T, fr, q1, q2, q3, q4, q5⟩ := hh
   exact ⟨arr, T, fr, q1, q2, q3, q4, fun j d hj => ⟨(q5 j d hj).1, ha _ _ _ (.clo (hc d (List.mem_of_getElem? hj))) (q5 j d hj).2⟩⟩
 | row hl =>
  obtain ⟨h1, h2⟩ := hl.get
  cases ob with
  | none => exact List.eq_nil_of_length_eq_zero (by rw [<- h1, show _ = [] from hh];rfl)
  | some z =>
   obtain ⟨arr, T, fr, q1, q2, q3, q4, q5⟩ := hh
   refine ⟨arr, T, fr, q1, q2, by omega, q4, fun j e he => ?_⟩
   have hj := (List.getElem?_eq_some_iff.1 he).1
   have hd := List.getElem?_eq_getElem (show j < _ by rw [h1];exact hj)
   have hr := h2 j _ e hd he
   exact ⟨by rw [<- hr.one];exact (q5 j _ hd).1, ha _ _ _ hr (q5 j _ hd).2⟩
 | map hc =>
  obtain ⟨b, n, es, clock, q0, q1, q2, q3, q4⟩ := hh
  exact ⟨b, n, es, clock, q0, q1, q2, q3, fun j k d hj => ⟨(q4 j k d hj).1, ha _ _ _ (.clo (hc (k, d) (List.mem_of_getElem? hj))) (q4 j k d hj).2⟩⟩
theorem RenB.back {w : World} {ob : Option (Nat × Nat)} {a b : ABlk} (ha : ∀ d e v, RenS q d e -> VRep L e v -> VRep L' d v) (h : RenB q a b) (hh : b.holds L w ob) : a.holds L' w ob := by
 cases h with
 | gone => trivial
 | rowc hc =>
  cases ob with
  | none => exact hh
  | some z =>
   obtain ⟨arr, T, fr, q1, q2, q3, q4, q5⟩ := hh
   exact ⟨arr, T, fr, q1, q2, q3, q4, fun j d hj => ⟨(q5 j d hj).1, ha _ _ _ (.clo (hc d (List.mem_of_getElem? hj))) (q5 j d hj).2⟩⟩
 | row hl =>
  obtain ⟨h1, h2⟩ := hl.get
  cases ob with
  | none => exact List.eq_nil_of_length_eq_zero (by rw [h1, show _ = [] from hh];rfl)
  | some z =>
   obtain ⟨arr, T, fr, q1, q2, q3, q4, q5⟩ := hh
   refine ⟨arr, T, fr, q1, q2, by omega, q4, fun j e he => ?_⟩
   have hj := (List.getElem?_eq_some_iff.1 he).1
   have hd := List.getElem?_eq_getElem (show j < _ by rw [<- h1];exact hj)
   have hr := h2 j e _ he hd
   exact ⟨by rw [hr.one];exact (q5 j _ hd).1, ha _ _ _ hr (q5 j _ hd).2⟩
 | map hc =>
  obtain ⟨b, n, es, clock, q0, q1, q2, q3, q4⟩ := hh
  exact ⟨b, n, es, clock, q0, q1, q2, q3, fun j k d hj => ⟨(q4 j k d hj).1, ha _ _ _ (.clo (hc (k, d) (List.mem_of_getElem? hj))) (q4 j k d hj).2⟩⟩
end
theorem nodup_inj {ps : List Nat} (h : ps.Nodup) {i j : Nat} (hi : i < ps.length) (hj : j < ps.length) (e : ps[i] = ps[j]) : i = j := by
 have := List.pairwise_iff_getElem.1 h
 rcases Nat.lt_trichotomy i j with h'|h'|h'
 ·exact absurd e (this i j hi hj h')
 ·exact h'
 ·exact absurd e.symm (this j i hj hi h')
theorem idxOf_nodup {ps : List Nat} (h : ps.Nodup) {i : Nat} (hi : i < ps.length) : ps.idxOf ps[i] = i := by
 have h1 := List.idxOf_lt_length_of_mem (List.getElem_mem hi)
 exact nodup_inj h h1 hi (List.getElem_idxOf h1)
def qf (ps : List Nat) (n i : Nat) : Nat := match ps[i]? with
 | some k => k
 | none => n + (i - ps.length)
theorem qf_in {ps : List Nat} {n i : Nat} (h : i < ps.length) : qf ps n i = ps[i] := by unfold qf;rw [List.getElem?_eq_getElem h]
theorem qf_out {ps : List Nat} {n i : Nat} (h : ps.length <= i) : qf ps n i = n + (i - ps.length) := by unfold qf;rw [List.getElem?_eq_none h]
structure Out (σ τ τ' : List ABlk) (ps : List Nat) (d d' : DV) (σ' : List ABlk) : Prop where
 d : RenD (qf ps σ.length) d d'
 le : τ.length <= τ'.length
 len : σ'.length = σ.length + (τ'.length - τ.length)
 keep : ∀ j, j < σ.length -> j ∉ ps -> σ'[j]? = σ[j]?
 new : ∀ i B', τ'[i]? = some B' -> ∃ B, σ'[qf ps σ.length i]? = some B /\ RenB (qf ps σ.length) B B'
section
variable {P : Program} {G : Nat -> DV}
theorem ACalls.sub {f : FuncId} {args ds : List DV} {B : Nat} {σ τ : List ABlk} {ps : List Nat} {R : Nat -> DV -> List ABlk -> Prop} {K : DV -> List ABlk -> Prop} (hargs : RenL (RenD (qf ps σ.length)) args ds) (hps : ps.Nodup) (hlen : ps.length = τ.length)
  (hτ : ∀ i (h : i < ps.length), ∃ b b', σ[ps[i]]? = some b /\ τ[i]? = some b' /\ RenB (qf ps σ.length) b b')
  (h : ∀ B', B <= B' -> (∀ (i : Nat) (b : ABlk) (g : Nat), τ[i]? = some b -> b.gen? = some g -> g <= B') -> ACalls P G B' f ds τ (R B')) (k : ∀ B' d' τ', B <= B' -> R B' d' τ' -> ∃ d σ', Out σ τ τ' ps d d' σ' /\ K d σ') : ACalls P G B f args σ K := fun X vs hS hσ hB hG hvs => by
 subst hσ
 have hin : ∀ i, i < ps.length -> ps[i]! < X.σ.length := fun i hi => by
  obtain ⟨b, b', h1, _⟩ := hτ i hi
  rw [getElem!_pos ps i hi];exact (List.getElem?_eq_some_iff.1 h1).1
 let Y : AX := { w := X.w, ρ := fun i => X.ρ (qf ps X.σ.length i), σ := τ, N := X.N, hid := fun b => X.hid b \/ (X.mut b /\ ∀ i g n, i < ps.length -> X.live (qf ps X.σ.length i) g -> X.ρ (qf ps X.σ.length i) ≠ some (b, n)) }
 have hYl : ∀ i g, Y.live i g ↔ i < ps.length /\ X.live (qf ps X.σ.length i) g := fun i g => by
  by_cases hi : i < ps.length
  ·obtain ⟨b, b', h1, h2, h3⟩ := hτ i hi
   rw [qf_in hi]
   simp only [Y, AX.live, h1, h2, Option.bind_some, h3.gen, hi, true_and]
  ·simp only [hi, false_and, iff_false]
   intro hl
   exact hi (by rw [hlen];exact AX.live_lt hl)
 have hYm : ∀ b, Y.mut b ↔ ∃ i g n, i < ps.length /\ X.live (qf ps X.σ.length i) g /\ X.ρ (qf ps X.σ.length i) = some (b, n) := fun b => by
  constructor
  ·rintro ⟨i, g, n, hl, hr⟩
   obtain ⟨h1, h2⟩ := (hYl i g).1 hl
   exact ⟨i, g, n, h1, h2, hr⟩
  ·rintro ⟨i, g, n, h1, h2, h3⟩;exact ⟨i, g, n, (hYl i g).2 ⟨h1, h2⟩, h3⟩
 have hYX : ∀ b, Y.mut b -> X.mut b := fun b hb => by
  obtain ⟨i, g, n, _, h2, h3⟩ := (hYm b).1 hb
  exact ⟨_, g, n, h2, h3⟩
 have qinj : ∀ i i', i < ps.length -> i' < ps.length -> qf ps X.σ.length i = qf ps X.σ.length i' -> i = i' := fun i i' hi hi' he => by
  rw [qf_in hi, qf_in hi'] at he
  exact nodup_inj hps hi hi' he
 have himm : ∀ b o v, X.lay.imm b o = some v -> Y.lay.imm b o = some v := fun b o v hv => by
  obtain ⟨_, h2, h3, h4⟩ := AX.imm_lt hv
  exact AX.imm_mk (fun hm => h2 (hYX b hm)) (fun hh => hh.elim h3 (fun hh => h2 hh.1)) h4
 have hrow : ∀ i g ob, Y.lay.row i g = some ob -> X.lay.row (qf ps X.σ.length i) g = some ob := fun i g ob hob => by
  obtain ⟨h1, h2⟩ := AX.row_of hob
  rw [AX.row_mk ((hYl i g).1 h1).2]
  exact congrArg some h2
 have hYS : Sto Y := {
  inj := fun i i' g1 g2 b n1 n2 h1 h2 h3 h4 => by
   obtain ⟨e1, e2⟩ := (hYl i g1).1 h1
   obtain ⟨e3, e4⟩ := (hYl i' g2).1 h2
   exact qinj i i' e1 e3 (hS.inj _ _ g1 g2 b n1 n2 e2 e4 h3 h4)
  gen := fun i g h1 => hS.gen _ g ((hYl i g).1 h1).2
  hid := fun b hm hh => by
   obtain ⟨i, g, n, h1, h2, h3⟩ := (hYm b).1 hm
   rcases hh with hh|⟨_, hh⟩
   ·exact hS.hid b ⟨_, g, n, h2, h3⟩ hh
   ·exact hh i g n h1 h2 h3
  hidlt := fun b hh => by
   rcases hh with hh|⟨hh, _⟩
   ·exact hS.hidlt b hh
   ·exact hS.mut_lt hh
  holds := fun i b' hb' => by
   have hb' : τ[i]? = some b' := hb'
   have hi : i < ps.length := by rw [hlen];exact (List.getElem?_eq_some_iff.1 hb').1
   obtain ⟨b, b'', h1, h2, h3⟩ := hτ i hi
   rw [h2] at hb';cases hb'
   have hh := hS.holds _ b (by rw [<- qf_in (n := X.σ.length) hi] at h1;exact h1)
   exact h3.turn (fun d e v hr hv => hr.to himm (Nat.le_refl _) (fun _ _ h => h) hrow hv) hh }
 have hG' : GOk G Y := fun gg => ⟨(hG gg).1, (hG gg).2.mono_clo himm (hG gg).1.1⟩
 have hargs' : VReps Y.lay ds vs := by
  obtain ⟨h1, h2⟩ := hvs
  obtain ⟨g1, g2⟩ := hargs.get
  refine ⟨by rw [h1, g1], fun j e hj => ?_⟩
  have hlt : j < args.length := by rw [g1];exact (List.getElem?_eq_some_iff.1 hj).1
  exact (g2 j _ e (List.getElem?_eq_getElem hlt) hj).to himm (Nat.le_refl _) (fun _ _ h => h) hrow (h2 j _ (List.getElem?_eq_getElem hlt))
 refine (h X.N hB (fun i b g hi hg => hYS.gen i g ((AX.live_get (X := Y) (k := i) (B := b) hi).2 hg)) Y vs hYS rfl (Nat.le_refl _) hG' hargs').mono ?_
 rintro e w' ⟨v, he, Z, hw, hZS, hE, d', hrep, hR⟩
 subst hw
 obtain ⟨d, σ', hO, hK⟩ := k X.N d' Z.σ hB hR
 have hl0 : ps.length <= Z.σ.length := by rw [hlen];exact hO.le
 have hl1 : σ'.length = X.σ.length + (Z.σ.length - ps.length) := by rw [hlen];exact hO.len
 -- the caller's places: which block of the callee's lies there
 let src : Nat -> Option Nat := fun j => if j ∈ ps then some (ps.idxOf j) else if j < X.σ.length then none else some (ps.length + (j - X.σ.length))
 have src_q : ∀ i, src (qf ps X.σ.length i) = some i := fun i => by
  by_cases hi : i < ps.length
  ·rw [qf_in hi]
   simp only [src, List.getElem_mem, if_true]
   rw [idxOf_nodup hps hi]
  ·rw [qf_out (by omega)]
   have : X.σ.length + (i - ps.length) ∉ ps := fun hm => by
    obtain ⟨i', hi', he⟩ := List.getElem_of_mem hm
    have := hin i' hi'
    rw [getElem!_pos ps i' hi'] at this
    omega
   simp only [src, this, if_false]
   rw [if_neg (by omega)]
   congr 1;omega
 have q_src : ∀ j i, src j = some i -> j = qf ps X.σ.length i := fun j i hji => by
  simp only [src] at hji
  split at hji
  ·rename_i hm
   cases hji
   have := List.idxOf_lt_length_of_mem hm
   rw [qf_in this, List.getElem_idxOf]
  ·split at hji
   ·cases hji
   ·cases hji
    rw [qf_out (by omega)];omega
 have src_n : ∀ j, src j = none -> j < X.σ.length /\ j ∉ ps := fun j hj => by
  simp only [src] at hj
  split at hj
  ·cases hj
  ·split at hj
   ·rename_i h1 h2;exact ⟨h2, h1⟩
   ·cases hj
 let W : AX := { w := Z.w, ρ := fun j => match src j with|some i => Z.ρ i|none => X.ρ j, σ := σ', N := Z.N, hid := X.hid }
 have hWq : ∀ i, W.ρ (qf ps X.σ.length i) = Z.ρ i := fun i => by simp only [W, src_q]
 have hWn : ∀ j, src j = none -> W.ρ j = X.ρ j := fun j hj => by simp only [W, hj]
 have hWl : ∀ i g, W.live (qf ps X.σ.length i) g ↔ Z.live i g := fun i g => by
  by_cases hi : i < Z.σ.length
  ·obtain ⟨b, h1, h2⟩ := hO.new i _ (List.getElem?_eq_getElem hi)
   simp only [W, AX.live, h1, List.getElem?_eq_getElem hi, Option.bind_some, h2.gen]
  ·constructor
   ·intro hl
    have := AX.live_lt hl
    have hq : qf ps X.σ.length i = X.σ.length + (i - ps.length) := qf_out (by omega)
    rw [hq] at this
    have hs : W.σ.length = σ'.length := rfl
    omega
   ·intro hl;exact absurd (AX.live_lt hl) hi
 have hWk : ∀ j g, src j = none -> (W.live j g ↔ X.live j g) := fun j g hj => by
  obtain ⟨h1, h2⟩ := src_n j hj
  simp only [W, AX.live, hO.keep j h1 h2]
 have hcase : ∀ j, (src j = none) \/ ∃ i, j = qf ps X.σ.length i := fun j => by
  cases hj : src j with
  | none => exact .inl rfl
  | some i => exact .inr ⟨i, q_src j i hj⟩
 -- a block of the caller's that the callee does not see
 have hfar : ∀ j g b n, src j = none -> X.live j g -> X.ρ j = some (b, n) -> ¬ Y.mut b := fun j g b n hj hl hr hm => by
  obtain ⟨i, g', n', h1, h2, h3⟩ := (hYm b).1 hm
  have := hS.inj j _ g g' b n n' hl h2 hr h3
  rw [this, src_q] at hj;cases hj
 have hWm : ∀ b, W.mut b -> (X.mut b /\ ¬ Y.mut b) \/ Z.mut b := fun b ⟨j, g, n, hl, hr⟩ => by
  rcases hcase j with hj|⟨i, rfl⟩
  ·rw [hWn j hj] at hr
   have hl := (hWk j g hj).1 hl
   exact .inl ⟨⟨j, g, n, hl, hr⟩, hfar j g b n hj hl hr⟩
  ·rw [hWq] at hr
   exact .inr ⟨i, g, n, (hWl i g).1 hl, hr⟩
 have hEW : WExt X W := {
  hid := rfl, top := hE.top, os := hE.os, tape := hE.tape, output := hE.output, size := hE.size
  old := fun b hb hm => by
   obtain ⟨h1, h2⟩ := hE.old b hb fun h => hm (hYX b h)
   exact ⟨h1, fun h => (hWm b h).elim (fun h => hm h.1) h2⟩
  rows := fun j g hg hl => by
   rcases hcase j with hj|⟨i, rfl⟩
   ·exact ⟨(hWk j g hj).1 hl, hWn j hj⟩
   ·obtain ⟨h1, h2⟩ := hE.rows i g hg ((hWl i g).1 hl)
    exact ⟨((hYl i g).1 h1).2, by rw [hWq, h2]⟩
  shp := hE.shp }
 have himm' : ∀ b o v, Z.lay.imm b o = some v -> W.lay.imm b o = some v := fun b o v hv => by
  obtain ⟨_, h2, h3, h4⟩ := AX.imm_lt hv
  rw [hE.hid] at h3
  refine AX.imm_mk (fun hm => ?_) (fun hh => h3 (.inl hh)) h4
  rcases hWm b hm with ⟨h5, h6⟩|h5
  ·exact h3 (.inr ⟨h5, fun i g n hi hl hr => h6 ((hYm b).2 ⟨i, g, n, hi, hl, hr⟩)⟩)
  ·exact h2 h5
 have hrow' : ∀ i g ob, W.lay.row (qf ps X.σ.length i) g = some ob -> Z.lay.row i g = some ob := fun i g ob hob => by
  obtain ⟨h1, h2⟩ := AX.row_of hob
  rw [AX.row_mk ((hWl i g).1 h1), <- hWq, h2]
 have hSW : Sto W := {
  inj := fun j j' g1 g2 b n1 n2 h1 h2 h3 h4 => by
   rcases hcase j with hj|⟨i, rfl⟩ <;> rcases hcase j' with hj'|⟨i', rfl⟩
   ·rw [hWn j hj] at h3;rw [hWn j' hj'] at h4
    exact hS.inj j j' g1 g2 b n1 n2 ((hWk j g1 hj).1 h1) ((hWk j' g2 hj').1 h2) h3 h4
   ·rw [hWn j hj] at h3;rw [hWq] at h4
    have hl := (hWk j g1 hj).1 h1
    exact absurd ⟨i', g2, n2, (hWl i' g2).1 h2, h4⟩ (hE.old b (hS.ρ_lt hl h3) (hfar j g1 b n1 hj hl h3)).2
   ·rw [hWn j' hj'] at h4;rw [hWq] at h3
    have hl := (hWk j' g2 hj').1 h2
    exact absurd ⟨i, g1, n1, (hWl i g1).1 h1, h3⟩ (hE.old b (hS.ρ_lt hl h4) (hfar j' g2 b n2 hj' hl h4)).2
   ·rw [hWq] at h3 h4
    rw [hZS.inj i i' g1 g2 b n1 n2 ((hWl i g1).1 h1) ((hWl i' g2).1 h2) h3 h4]
  gen := fun j g hl => by
   rcases hcase j with hj|⟨i, rfl⟩
   ·exact Nat.le_trans (hS.gen j g ((hWk j g hj).1 hl)) hE.top
   ·exact hZS.gen i g ((hWl i g).1 hl)
  hid := fun b hm hh => by
   rcases hWm b hm with ⟨h1, _⟩|h1
   ·exact hS.hid b h1 hh
   ·exact hZS.hid b h1 (by rw [hE.hid];exact .inl hh)
  hidlt := fun b hb => Nat.lt_of_lt_of_le (hS.hidlt b hb) hE.size
  holds := fun j b hb => by
   have hb : σ'[j]? = some b := hb
   rcases hcase j with hj|⟨i, rfl⟩
   ·obtain ⟨h1, h2⟩ := src_n j hj
    rw [hO.keep j h1 h2] at hb
    rw [hWn j hj]
    cases hg : b.gen? with
    | none => cases b <;> first|trivial|cases hg
    | some g =>
     have hl := (AX.live_get hb).2 hg
     exact (hS.holds j b hb).mono hEW.le fun b' n hb' => (hE.old b' (hS.ρ_lt hl hb') (hfar j g b' n hj hl hb')).1
   ·rw [hWq]
    have hi : i < Z.σ.length := by
     by_cases hi : i < Z.σ.length
     ·exact hi
     ·have := (List.getElem?_eq_some_iff.1 hb).1
      rw [qf_out (by omega)] at this
      omega
    obtain ⟨b2, h1, h2⟩ := hO.new i _ (List.getElem?_eq_getElem hi)
    rw [h1] at hb;cases hb
    exact h2.back (fun d e v hr hv => hr.from himm' (Nat.le_refl _) (fun _ _ h => h) hrow' hv) (hZS.holds i _ (List.getElem?_eq_getElem hi)) }
 exact ⟨v, he, W, rfl, hSW, hEW, d, hO.d.from himm' (Nat.le_refl _) (fun _ _ h => h) hrow' hrep, hK⟩
def qg : List ABlk -> List Nat -> List ABlk -> Option (List ABlk)
 | σ, [], [] => some σ
 | σ, p :: ps, b :: bs => match setA σ p b with|some σ1 => qg σ1 ps bs|none => none
 | _, _, _ => none
def pickA (σ : List ABlk) : List Nat -> Option (List ABlk)
 | [] => some []
 | p :: ps => match σ[p]?, pickA σ ps with|some b, some r => some (b :: r)|_, _ => none
theorem pickA_eq {σ : List ABlk} : ∀ {ps : List Nat} {bs : List ABlk}, pickA σ ps = some bs -> ps.length = bs.length /\ ∀ (i : Nat) (h : i < ps.length), ∃ b, σ[ps[i]]? = some b /\ bs[i]? = some b
 | [], bs, h => by cases h;exact ⟨rfl, fun i h => by simp at h⟩
 | p :: ps, bs, h => by
  simp only [pickA] at h
  split at h
  ·rename_i b r h1 h2
   cases h
   obtain ⟨k1, k2⟩ := pickA_eq h2
   refine ⟨by simp [k1], fun i hi => ?_⟩
   cases i with
   | zero => exact ⟨b, h1, rfl⟩
   | succ i =>
    obtain ⟨b', e1, e2⟩ := k2 i (by simpa using hi)
    exact ⟨b', by simpa using e1, by simpa using e2⟩
  ·cases h
theorem setA_len {σ σ' : List ABlk} {p : Nat} {b : ABlk} (h : setA σ p b = some σ') : p < σ.length := by
 induction σ generalizing p σ' with
 | nil => simp [setA] at h
 | cons a r ih =>
  cases p with
  | zero => simp
  | succ p =>
   simp only [setA] at h
   split at h
   ·rename_i r' hr;have := ih hr;simp;omega
   ·cases h
theorem setAll_eq : ∀ {ps : List Nat} {σ bs σ' : List ABlk}, qg σ ps bs = some σ' -> ps.Nodup -> ps.length = bs.length /\ σ'.length = σ.length /\ (∀ j, j ∉ ps -> σ'[j]? = σ[j]?) /\ ∀ (i : Nat) (h : i < ps.length), σ'[ps[i]]? = bs[i]?
 | [], σ, bs, σ', h, _ => by
  cases bs with
  | nil => simp only [qg] at h;cases h;exact ⟨rfl, rfl, fun j _ => rfl, fun i h => by simp at h⟩
  | cons b bs => simp [qg] at h
 | p :: ps, σ, [], σ', h, _ => by simp [qg] at h
 | p :: ps, σ, b :: bs, σ', h, hn => by
  simp only [qg] at h
  split at h
  ·rename_i σ1 h1
   have hpl := setA_len h1
   have e1 := qB h1
   obtain ⟨hp, hn'⟩ := List.nodup_cons.1 hn
   obtain ⟨k1, k2, k3, k4⟩ := setAll_eq h hn'
   subst e1
   refine ⟨by simp [k1], by rw [k2];simp, fun j hj => ?_, fun i hi => ?_⟩
   ·simp only [List.mem_cons, not_or] at hj
    rw [k3 j hj.2, List.getElem?_set_ne (fun e => hj.1 e.symm)]
   ·cases i with
    | zero =>
     simp only [List.getElem_cons_zero, List.getElem?_cons_zero]
     rw [k3 p hp, List.getElem?_set_self hpl]
    | succ i => simpa using k4 i (by simpa using hi)
  ·cases h
theorem Out.of {σ τ τ' bs σ' : List ABlk} {ps : List Nat} {d d' : DV} (hd : RenD (qf ps σ.length) d d') (hps : ps.Nodup) (hl : ps.length = τ.length) (hbs : RenBs (qf ps σ.length) bs τ') (hσ : qg σ ps bs = some σ') : Out σ τ τ' ps d d' σ' := by
 obtain ⟨k1, k2, k3, k4⟩ := setAll_eq hσ hps
 obtain ⟨h1, h2⟩ := hbs.get
 refine ⟨hd, by omega, by omega, fun j _ hj => k3 j hj, fun i B' hB' => ?_⟩
 have hi : i < ps.length := by have := (List.getElem?_eq_some_iff.1 hB').1;omega
 have hb := List.getElem?_eq_getElem (show i < bs.length by omega)
 exact ⟨_, by rw [qf_in hi, k4 i hi];exact hb, h2 i _ B' hb hB'⟩
variable {B : Nat} {f : Operand -> DV} {σ : List ABlk} {K : DV -> List ABlk -> Prop} {dst : Option Tmp} {type : TypeId} {pos : String} {after : Array Edge} {gd : Option (Nat × Bool)}
variable {E : AX} {R : DV -> List ABlk -> Prop}
end
section
variable {P : Program} {G : Nat -> DV} {E : AX} {n : Nat} {ops : Array Oper} {md : Region.Mode} {Fin : (Nat -> DV) -> List ABlk -> Prop} {Inv : List ABlk -> Prop} {z : Nat}
def deps (md : Region.Mode) (ops : Array Oper) (k : Nat) : List Nat := match ops[k]? with
 | none => []
 | some o => (o.after.toList.filter fun e => Region.binds md e).map fun e => e.on
def clos (md : Region.Mode) (ops : Array Oper) : Nat -> List Nat -> List Nat
 | 0, l => l
 | f + 1, l => clos md ops f (l ++ l.flatMap (deps md ops)).eraseDups
def lastB (md : Region.Mode) (ops : Array Oper) (z : Nat) : Bool := match ops[z]? with
 | none => true
 | some _ => (List.range ops.size).all fun k => Nat.beq k z || (clos md ops 4 (deps md ops z)).contains k
theorem mem_deps {k j : Nat} (h : j ∈ deps md ops k) : ∃ o, ops[k]? = some o /\ ∃ e ∈ o.after, Region.binds md e = true /\ e.on = j := by
 unfold deps at h
 split at h
 ·simp at h
 ·rename_i o ho
  obtain ⟨e, he, rfl⟩ := List.mem_map.1 h
  obtain ⟨h1, h2⟩ := List.mem_filter.1 he
  exact ⟨o, ho, e, by simpa using h1, h2, rfl⟩
theorem clos_listed {listed : Array Bool} (hc : Closed md ops listed) : ∀ (f : Nat) (l : List Nat), (∀ k ∈ l, listed.getD k false = true) -> ∀ k ∈ clos md ops f l, listed.getD k false = true
 | 0, l, h => h
 | f + 1, l, h => clos_listed hc f _ fun k hk => by
  rw [List.mem_eraseDups, List.mem_append] at hk
  rcases hk with hk|hk
  ·exact h k hk
  ·obtain ⟨m, hm, hk⟩ := List.mem_flatMap.1 hk
   obtain ⟨o, ho, e, he, hb, rfl⟩ := mem_deps hk
   exact hc m o ho (h m hm) e he hb
theorem lastB_spec {z k : Nat} {oz : Oper} {listed : Array Bool} (h : lastB md ops z = true) (hz : ops[z]? = some oz) (hc : Closed md ops listed) (hall : ∀ e ∈ oz.after, Region.binds md e = true -> listed.getD e.on false = true) (hk : k < ops.size) (hne : k ≠ z) : listed.getD k false = true := by
 unfold lastB at h
 rw [hz] at h
 have := List.all_eq_true.1 h k (List.mem_range.2 hk)
 rw [Bool.or_eq_true] at this
 rcases this with h1|h1
 ·exact absurd (Nat.eq_of_beq_eq_true h1) hne
 ·refine clos_listed hc 4 _ (fun m hm => ?_) k (List.contains_iff_mem.1 h1)
  obtain ⟨o, ho, e, he, hb, rfl⟩ := mem_deps hm
  rw [hz] at ho;cases ho
  exact hall e he hb
def anyI (P : Program) (G : Nat -> DV) (B n : Nat) (md : Region.Mode) (ops : Array Oper) (Fin : (Nat -> DV) -> List ABlk -> Prop) (Inv : List ABlk -> Prop) (z : Nat) : Nat -> Array Bool -> (Nat -> DV) -> List ABlk -> Prop
 | 0, listed, φ, σ => Region.ready md ops listed = [] /\ Fin φ σ
 | f + 1, listed, φ, σ => (Region.ready md ops listed = [] -> Fin φ σ) /\ ∀ i ∈ Region.ready md ops listed, ∃ o, ops[i]? = some o /\ (∀ s, o.dst = some s -> s < n) /\
   ((Wd n ops o φ true /\ OpSem P G B o (aevF G φ) σ (fun d σ' => (i ≠ z -> Inv σ') /\ anyI P G B n md ops Fin Inv z f (listed.setIfInBounds i true) (updF o.dst d φ) σ')) \/
   (Wd n ops o φ false /\ anyI P G B n md ops Fin Inv z f (listed.setIfInBounds i true) (updF o.dst (.sc undef) φ) σ))
theorem anyI_first {B : Nat} {i : Nat} {oi : Oper} {d : DV} (hi : ops[i]? = some oi) (hz : lastB md ops z = true) (hiz : i ≠ z) : ∀ (f : Nat) (listed : Array Bool) (φ : Nat -> DV) (σ : List ABlk), Closed md ops listed ->
   (∀ j oj, ops[j]? = some oj -> j ≠ i -> listed.getD j true = false -> (∀ e ∈ oj.after, Region.binds md e = true -> e.on ≠ i) -> oi.apart ops oj = true) ->
   i ∈ Region.ready md ops listed -> (∀ σ, Inv σ -> YA P G B n ops σ oi d φ) -> Inv σ ->
   anyI P G B n md ops Fin Inv z f (listed.setIfInBounds i true) (updF oi.dst d φ) σ -> anyI P G B n md ops Fin Inv z (f + 1) listed φ σ := by
 intro f
 have now : ∀ (f : Nat) (listed : Array Bool) (φ : Nat -> DV) (σ : List ABlk), (∀ σ, Inv σ -> YA P G B n ops σ oi d φ) -> Inv σ -> anyI P G B n md ops Fin Inv z f (listed.setIfInBounds i true) (updF oi.dst d φ) σ ->
   ∃ o, ops[i]? = some o /\ (∀ s, o.dst = some s -> s < n) /\ ((Wd n ops o φ true /\ OpSem P G B o (aevF G φ) σ (fun d σ' => (i ≠ z -> Inv σ') /\ anyI P G B n md ops Fin Inv z f (listed.setIfInBounds i true) (updF o.dst d φ) σ')) \/
   (Wd n ops o φ false /\ anyI P G B n md ops Fin Inv z f (listed.setIfInBounds i true) (updF o.dst (.sc undef) φ) σ)) := fun f listed φ σ hy hI H => by
  obtain ⟨h0, h⟩ := hy σ hI
  refine ⟨oi, hi, h0, ?_⟩
  rcases h with ⟨h1, h2⟩|⟨h1, h2⟩
  ·exact .inl ⟨h1, h2.mono fun d' σ' ⟨e1, e2⟩ => by rw [e1, e2];exact ⟨fun _ => hI, H⟩⟩
  ·exact .inr ⟨h1, by rw [<- h2];exact H⟩
 induction f with
 | zero =>
  intro listed φ σ hc hfree hr hy hI H
  refine ⟨fun h => (by rw [h] at hr;cases hr), fun j hj => ?_⟩
  by_cases hji : j = i
  ·subst hji;exact now 0 listed φ σ hy hI H
  ·have := ready_mono hj hji
   rw [H.1] at this;cases this
 | succ f ih =>
  intro listed φ σ hc hfree hr hy hI H
  refine ⟨fun h => (by rw [h] at hr;cases hr), fun j hj => ?_⟩
  by_cases hji : j = i
  ·subst hji;exact now (f + 1) listed φ σ hy hI H
  ·obtain ⟨oj, hoj, hdst, Hj⟩ := H.2 j (ready_mono hj hji)
   obtain ⟨hjun, oj', hoj', hall⟩ := mem_ready.1 hj
   rw [hoj] at hoj';cases hoj'
   have hnot : ∀ e ∈ oj.after, Region.binds md e = true -> e.on ≠ i := fun e he hb heq => by
    have h1 := hall e he hb
    have h0 := (mem_ready.1 hr).1
    rw [heq] at h1
    rcases Nat.lt_or_ge i listed.size with h'|h'
    ·simp [h'] at h0 h1;rw [h0] at h1;cases h1
    ·simp [Array.getElem?_eq_none h'] at h1
   obtain ⟨a1, a2, a3⟩ := Oper.apart_spec (hfree j oj hoj hji hjun hnot)
   have hjz : j ≠ z := fun e => by
    subst e
    have hl := lastB_spec hz hoj hc (fun e he hb => by simpa using hall e he hb) (show i < ops.size from (Array.getElem?_eq_some_iff.1 hi).1) (fun e => hji e.symm)
    have h0 := (mem_ready.1 hr).1
    rcases Nat.lt_or_ge i listed.size with h'|h'
    ·simp [h'] at h0 hl;rw [h0] at hl;cases hl
    ·simp [Array.getElem?_eq_none h'] at hl
   have next : ∀ d' σ', Inv σ' -> anyI P G B n md ops Fin Inv z f ((listed.setIfInBounds i true).setIfInBounds j true) (updF oj.dst d' (updF oi.dst d φ)) σ' -> anyI P G B n md ops Fin Inv z (f + 1) (listed.setIfInBounds j true) (updF oj.dst d' φ) σ' := fun d' σ' hI' h => by
    refine ih _ _ _ (hc.step hj) ?_ (ready_mono hr (Ne.symm hji)) (fun σ hs => (hy σ hs).same (upd_looks a3)) hI' ?_
    ·intro k ok hk hki hun hno
     refine hfree k ok hk hki ?_ hno
     by_cases hjk : j = k
     ·subst hjk;exact hjun
     ·rw [getD_set_ne true hjk] at hun;exact hun
    ·rw [Array.setIfInBounds_comm _ _ hji, <- updF_comm d d' φ a2]
     exact h
   refine ⟨oj, hoj, hdst, ?_⟩
   have looks : ∀ t ∈ oj.looksAt ops, φ t = updF oi.dst d φ t := fun t ht => (upd_looks (d := d) (φ := φ) a1 t ht).symm
   rcases Hj with ⟨h1, h2⟩|⟨h1, h2⟩
   ·refine .inl ⟨h1.same looks, (h2.same fun x hx => ?_).mono fun d' σ' h => ⟨h.1, next d' σ' (h.1 hjz) h.2⟩⟩
    cases x with
    | tmp t => exact looks t (List.mem_append_left _ (List.mem_filterMap.2 ⟨.tmp t, by simpa using hx, rfl⟩))
    | _ => rfl
   ·exact .inr ⟨h1.same looks, next _ _ hI h2⟩
theorem anyI_run : ∀ (f : Nat) (listed : Array Bool) (φ : Nat -> DV) (σ : List ABlk), anyI P G E.N n md ops Fin Inv z f listed φ σ -> ∀ a w, RelF G E n φ σ a w -> wpAny P md ops (fun e a w => e = .normal /\ ∃ φ σ, RelF G E n φ σ a w /\ Fin φ σ) f listed a w
 | 0, listed, φ, σ, h, a, w, hr => ⟨h.1, rfl, φ, σ, hr, h.2⟩
 | f + 1, listed, φ, σ, h, a, w, hr => by
  refine ⟨fun h0 => ⟨rfl, φ, σ, hr, h.1 h0⟩, fun i hi => ?_⟩
  obtain ⟨o, ho, hdst, hn⟩ := h.2 i hi
  unfold wpOp
  simp only [ho]
  obtain ⟨X, h1, h2, h3, h4, h5, h6, h7, h8⟩ := hr
  have hput : ∀ {X' : AX} {v : Value} {d' : DV} {σ' : List ABlk}, X'.σ = σ' -> Sto X' -> WExt X X' -> VRep X'.lay d' v -> RelF G E n (updF o.dst d' φ) σ' (a.put o.dst v) X'.w := by
   intro X' v d' σ' g1 g2 g3 g4
   refine ⟨X', rfl, g1, g2, h4.trans g3, h5.ext g3, ?_, ?_, fun j => ?_⟩
   ·cases ho : o.dst <;> exact h6
   ·cases ho : o.dst <;> simp [Act.put, h7]
   ·cases ho : o.dst with
    | none => exact (h8 j).ext g3
    | some s =>
     have hs := hdst s ho
     simp only [updF, Act.put]
     by_cases hsj : s = j
     ·subst hsj
      rw [if_pos rfl]
      simpa [Array.getD_eq_getD_getElem?, Array.getElem?_setIfInBounds, h7, hs] using g4
     ·rw [if_neg hsj]
      have := (h8 j).ext g3
      simpa [Array.getD_eq_getD_getElem?, Array.getElem?_setIfInBounds_ne hsj] using this
  have hwd : ∀ b, Wd n ops o φ b -> Region.wanted o (yielded ops a.tmps) = b := by
   intro b hb
   unfold Wd at hb
   cases hg : o.guard with
   | none => rw [hg] at hb;simp [Region.wanted, hg, hb]
   | some gw =>
    obtain ⟨j, want⟩ := gw
    rw [hg] at hb
    obtain ⟨s, c, e1, e2, e3, e4⟩ := hb
    have hv := h8 s
    rw [e3] at hv
    have hv := VRep.sc_eq hv
    have hget : a.tmps[s]? = some c := by
     have hlt : s < a.tmps.size := by rw [h7];exact e2
     simp only [Array.getD_eq_getD_getElem?] at hv
     rw [Array.getElem?_eq_getElem hlt] at hv ⊢
     simpa using hv
    have : yielded ops a.tmps j = yv c := by rw [yielded, e1, Option.bind_some, hget];cases c <;> rfl
    simp only [Region.wanted, hg, this, e4]
  rcases hn with ⟨hw, hs⟩|⟨hw, hK⟩
  ·rw [hwd true hw]
   simp only [if_true]
   refine .inl ?_
   have hx : ∀ x ∈ o.op.operands, VRep X.lay (aevF G φ x) (a.eval x) := fun x _ => by
    cases x with
    | tmp i => exact h8 i
    | const v => exact .sc v
    | global g => exact (h5 g).2
    | func f => exact .fn _ [] [] #[] #[] rfl rfl (fun j d h => by simp at h) (fun j d h => by simp at h)
   have hs := hs X a.eval h3 h2 h4.top h5 hx
   rw [h1] at hs
   unfold Oper.wp
   generalize (execOp a.eval o).run P w = x at *
   cases x with
   | ok nx w' =>
    cases nx <;> simp only [OPost] at hs <;> simp only [Oper.upon]
    case value v =>
     obtain ⟨X', e1, e2, e3, d', hv, _, hσ'⟩ := hs
     subst e1
     exact anyI_run f _ _ _ hσ' _ _ (hput rfl e2 e3 hv)
    case skip =>
     obtain ⟨X', e1, e2, e3, d', hv, _, hσ'⟩ := hs
     subst e1
     exact anyI_run f _ _ _ hσ' _ _ (hput rfl e2 e3 hv)
    case enter g args =>
     refine hs.2.mono fun e w'' ⟨v, he, X', e1, e2, e3, d', hv, _, hσ'⟩ => ?_
     subst he
     subst e1
     exact anyI_run f _ _ _ hσ' _ _ (hput rfl e2 e3 hv)
   | halt hh w' => simp only [OPost] at hs
  ·rw [hwd false hw]
   simp only [Bool.false_eq_true, if_false]
   have := hput (X' := X) (v := undef) h2 h3 (.refl X) (VRep.sc undef)
   rw [h1] at this
   exact anyI_run f _ _ _ hK _ _ this
def IMix (P : Program) (G : Nat -> DV) (B n : Nat) (ops : Array Oper) (Fin : (Nat -> DV) -> List ABlk -> Prop) (Inv : List ABlk -> Prop) (z : Nat) : List (Nat × Oper × Bool) -> (Nat -> DV) -> List ABlk -> Prop
 | [], φ, σ => Fin φ σ
 | (j, o, true) :: l, φ, σ => j ≠ z /\ ∃ d, (∀ σ, Inv σ -> YA P G B n ops σ o d φ) /\ IMix P G B n ops Fin Inv z l (updF o.dst d φ) σ
 | (j, o, false) :: l, φ, σ => (∀ s, o.dst = some s -> s < n) /\ ((Wd n ops o φ true /\ OpSem P G B o (aevF G φ) σ (fun d σ' => (j ≠ z -> Inv σ') /\ (l ≠ [] -> Inv σ') /\ IMix P G B n ops Fin Inv z l (updF o.dst d φ) σ')) \/ (Wd n ops o φ false /\ IMix P G B n ops Fin Inv z l (updF o.dst (.sc undef) φ) σ))
theorem anyI_mix {B : Nat} (hz : lastB md ops z = true) : ∀ (js : List (Nat × Bool)) (l : List (Nat × Oper × Bool)) (listed : Array Bool) (φ : Nat -> DV) (σ : List ABlk), js.map (fun p => (p.1, ops[p.1]?, p.2)) = l.map (fun p => (p.1, some p.2.1, p.2.2)) -> Closed md ops listed -> mixB md ops js listed = true -> (l ≠ [] -> Inv σ) ->
  IMix P G B n ops Fin Inv z l φ σ -> anyI P G B n md ops Fin Inv z js.length listed φ σ
 | [], [], listed, φ, σ, _, _, hB, _, h => ⟨by simpa [mixB] using hB, h⟩
 | [], _ :: _, _, _, _, he, _, _, _, _ => by simp at he
 | _ :: _, [], _, _, _, he, _, _, _, _ => by simp at he
 | (j, b) :: js, (j', o, b') :: l, listed, φ, σ, he, hc, hB, hI, h => by
  simp only [List.map_cons, List.cons.injEq, Prod.mk.injEq] at he
  obtain ⟨⟨rfl, ho, rfl⟩, he⟩ := he
  have hI' : Inv σ := hI (by simp)
  clear hI
  cases b with
  | true =>
   simp only [mixB, Bool.and_eq_true] at hB
   obtain ⟨⟨h1, h2⟩, h3⟩ := hB
   obtain ⟨hjz, d, hy, hK⟩ := h
   have hr : j ∈ Region.ready md ops listed := by simpa using h1
   exact anyI_first ho hz hjz js.length listed φ σ hc (Region.free_spec ho h2) hr hy hI' (anyI_mix hz js l _ _ _ he (hc.step hr) h3 (fun _ => hI') hK)
  | false =>
   simp only [mixB, Bool.and_eq_true, beq_iff_eq] at hB
   obtain ⟨h1, h3⟩ := hB
   have hr : j ∈ Region.ready md ops listed := by rw [h1];simp
   refine ⟨fun h0 => (by rw [h1] at h0;cases h0), fun i hi => ?_⟩
   rw [h1, List.mem_singleton] at hi
   subst hi
   refine ⟨o, ho, h.1, ?_⟩
   rcases h.2 with ⟨h4, h5⟩|⟨h4, h5⟩
   ·exact .inl ⟨h4, h5.mono fun d σ' hK => ⟨hK.1, anyI_mix hz js l _ _ _ he (hc.step hr) h3 hK.2.1 hK.2.2⟩⟩
   ·exact .inr ⟨h4, anyI_mix hz js l _ _ _ he (hc.step hr) h3 (fun _ => hI') h5⟩
def pickI (l : List Oper) : List (Nat × Bool) -> Option (List (Nat × Oper × Bool))
 | [] => some []
 | (j, b) :: r => match l[j]? with
  | none => none
  | some o => match pickI l r with|none => none|some m => some ((j, o, b) :: m)
theorem pickI_eq {l : List Oper} : ∀ {js : List (Nat × Bool)} {m : List (Nat × Oper × Bool)}, pickI l js = some m -> js.map (fun p => (p.1, l.toArray[p.1]?, p.2)) = m.map (fun p => (p.1, some p.2.1, p.2.2))
 | [], m, h => by simp only [pickI, Option.some.injEq] at h;subst h;rfl
 | (j, b) :: r, m, h => by
  unfold pickI at h
  split at h
  ·cases h
  ·rename_i o ho
   split at h
   ·cases h
   ·rename_i m' hm'
    cases h
    rw [List.map_cons, List.map_cons, pickI_eq hm', List.getElem?_toArray, ho]
variable {N : ASt -> Prop} {xs : List (Nat × (ASt -> Prop))} {R : ASt -> Prop} {σ : List ABlk} {t : Fr}
theorem Ql {ι : Type} (I : ι -> List ABlk) (z : Nat) (js : List (Nat × Bool)) {id : Nat} {l : List Oper} {m : List (Nat × Oper × Bool)} (hp : pickI l js = some m) (hl : Nat.beq js.length l.length = true) (hm : P.follows .mixedOrders = true) (hB : mixB .any l.toArray js (Array.replicate l.toArray.size false) = true)
  (hz : lastB .any l.toArray z = true) (hI : ∃ p, σ = I p) (h : IMix P G E.N n l.toArray (fun φ σ => ∃ t', (∀ i, look t' i = .any \/ look t' i = φ i) /\ N ⟨t', σ⟩) (fun σ => ∃ p, σ = I p) z m (look t) σ) : WR P G E n (.region id l.toArray true) N xs R ⟨t, σ⟩ := fun a w hr => by
 have hr' : RelF G E n (look t) σ a { w with drawn := w.drawn + 1 } := by
  obtain ⟨X, e1, e2, e3, e4, e5, e6, e7, e8⟩ := hr
  have hk := Keep.drew X.w
  subst e1
  exact ⟨X.inW X.w.drew, rfl, e2, e3.inW hk, e4.trans (WExt.inW hk), e5.ext (WExt.inW hk), e6, e7, fun i => (e8 i).ext (WExt.inW hk)⟩
 have hany := anyI_mix (md := .any) hz js m (Array.replicate l.toArray.size false) (look t) σ (pickI_eq hp) (fun j o _ hl => by simp [Array.getElem?_replicate] at hl;split at hl <;> simp at hl) hB (fun _ => hI) h
 rw [Nat.eq_of_beq_eq_true hl, show l.length = l.toArray.size from by simp] at hany
 refine wp_mono (wp_region_any hm (anyI_run _ _ _ _ hany a _ hr')) fun e a' w' ⟨he, φ, σ', ⟨X, e1, e2, e3, e4, e5, e6, e7, e8⟩, t', ht', hN⟩ => ?_
 subst he
 refine ⟨⟨t', σ'⟩, ⟨X, e1, e2, e3, e4, e5, e6, e7, fun i => ?_⟩, hN⟩
 rcases ht' i with h'|h'
 ·rw [h'];exact .any _
 ·rw [h'];exact e8 i
variable {B : Nat} {l : List (Nat × Oper × Bool)} {ι : Type} {I : ι -> List ABlk} {j : Nat}
theorem qL {I : List ABlk -> Prop} (h : N ⟨t, σ⟩) : IMix P G B n ops (fun φ σ => ∃ t', (∀ i, look t' i = .any \/ look t' i = φ i) /\ N ⟨t', σ⟩) I z [] (look t) σ := ⟨t, fun _ => .inr rfl, h⟩
theorem i_st {i : Tmp} {op : Op} {type : TypeId} {pos : String} {after : Array Edge} {d : DV} (hj : Nat.beq j z = false) (hd : Nat.blt i n = true) (h : ∀ p, OpSem P G B ⟨some i, op, type, pos, after, none⟩ (aev G t) (I p) (fun d' s => d' = d /\ s = I p)) (k : IMix P G B n ops Fin (fun σ => ∃ p, σ = I p) z l (look ((i, d) :: t)) σ) :
  IMix P G B n ops Fin (fun σ => ∃ p, σ = I p) z ((j, ⟨some i, op, type, pos, after, none⟩, true) :: l) (look t) σ := by
 refine ⟨fun e => (by rw [e, Nat.beq_refl] at hj;cases hj), d, fun σ' ⟨p, hp⟩ => ⟨fun j hj => (by cases hj;exact Nat.ble_eq.mp hd), .inl ⟨rfl, by rw [aevF_look, hp];exact h p⟩⟩, ?_⟩
 rw [look_put] at k;exact k
theorem i_ef {i : Tmp} {op : Op} {type : TypeId} {pos : String} {after : Array Edge} (hd : Nat.blt i n = true) (h : OpSem P G B ⟨some i, op, type, pos, after, none⟩ (aev G t) σ (fun d σ' => (∃ p, σ' = I p) /\ IMix P G B n ops Fin (fun σ => ∃ p, σ = I p) z l (look ((i, d) :: t)) σ')) :
  IMix P G B n ops Fin (fun σ => ∃ p, σ = I p) z ((j, ⟨some i, op, type, pos, after, none⟩, false) :: l) (look t) σ := by
 refine ⟨fun j hj => by cases hj;exact Nat.ble_eq.mp hd, .inl ⟨rfl, ?_⟩⟩
 rw [aevF_look]
 exact h.mono fun d σ' k => by obtain ⟨k1, k⟩ := k;rw [look_put] at k;exact ⟨fun _ => k1, fun _ => k1, k⟩
theorem i_ef0 {op : Op} {type : TypeId} {pos : String} {after : Array Edge} (h : OpSem P G B ⟨none, op, type, pos, after, none⟩ (aev G t) σ (fun _ σ' => (∃ p, σ' = I p) /\ IMix P G B n ops Fin (fun σ => ∃ p, σ = I p) z l (look t) σ')) :
  IMix P G B n ops Fin (fun σ => ∃ p, σ = I p) z ((j, ⟨none, op, type, pos, after, none⟩, false) :: l) (look t) σ := by
 refine ⟨fun j hj => (by cases hj), .inl ⟨rfl, ?_⟩⟩
 rw [aevF_look]
 exact h.mono fun d σ' ⟨k1, k⟩ => ⟨fun _ => k1, fun _ => k1, k⟩
theorem i_z0 {I : List ABlk -> Prop} {op : Op} {type : TypeId} {pos : String} {after : Array Edge} (h : OpSem P G B ⟨none, op, type, pos, after, none⟩ (aev G t) σ (fun _ σ' => IMix P G B n ops Fin I j [] (look t) σ')) :
  IMix P G B n ops Fin I j [(j, ⟨none, op, type, pos, after, none⟩, false)] (look t) σ := by
 refine ⟨fun j hj => (by cases hj), .inl ⟨rfl, ?_⟩⟩
 rw [aevF_look]
 exact h.mono fun d σ' k => ⟨fun h => absurd rfl h, fun h => absurd rfl h, k⟩
theorem ZG {I : List ABlk -> Prop} {φ : Nat -> DV} (h : IMix P G B n ops Fin I z l φ σ) : IMix P G B n ops Fin I z l φ σ := h
end
section
variable {P : Program} {G : Nat -> DV} {E : AX} {n : Nat} {N : ASt -> Prop} {xs : List (Nat × (ASt -> Prop))} {R : ASt -> Prop}
end
section
variable {P : Program} {G : Nat -> DV} {B : Nat} {f : Operand -> DV} {σ : List ABlk} {K : DV -> List ABlk -> Prop} {dst : Option Tmp} {type : TypeId} {pos : String} {after : Array Edge} {gd : Option (Nat × Bool)}
theorem s_store_whole {t : TypeId} {td : TypeDesc} {agg : Bool} {size : Nat} {x y : Operand} {m g : Nat} {cs ds : List DV} {σ' : List ABlk} [ht : TyI P t td agg size] (hx : f x = .ptr m g 0) (hm : σ[m]? = some (.row g cs)) (hy : f y = .agg ds)
  (hl : ds.length = size) (hc : cs.length = size) (hσ' : setA σ m (.row g ds) = some σ') (k : K (.sc undef) σ') : OpSem P G B ⟨dst, .store t x y, type, pos, after, gd⟩ f σ K :=
 s_store' (cs' := ds) hx hm hy rfl hl (by omega) (by omega) (fun j => by
  by_cases h : j < ds.length
  ·rw [if_pos (by omega)];simp
  ·rw [if_neg (by omega), List.getElem?_eq_none (by omega), List.getElem?_eq_none (by omega)]) (by rw [<- qB hσ'];exact k)
theorem s_load_whole {t : TypeId} {td : TypeDesc} {size : Nat} {x : Operand} {m g : Nat} {cs : List DV} [ht : TyI P t td true size] (hx : f x = .ptr m g 0) (hm : σ[m]? = some (.row g cs)) (hl : cs.length = size) (k : K (.agg cs) σ) :
  OpSem P G B ⟨dst, .load t x, type, pos, after, gd⟩ f σ K := s_load_rowa' hx hm (by simp [<- hl]) hl k
end
section
theorem qh {P : Program} {G : Nat -> DV} {B : Nat} {f : Operand -> DV} {σ : List ABlk} {K : DV -> List ABlk -> Prop} {dst : Option Tmp} {type : TypeId} {pos : String} {after : Array Edge} {gd : Option (Nat × Bool)} {t : TypeId} {td : TypeDesc} {agg : Bool} {size : Nat} {x y : Operand} {m g : Nat} {cs ds : List DV} {σ' : List ABlk} [ht : TyI P t td agg size] (hx : f x = .ptr m g 0) (hm : σ[m]? = some (.row g cs)) (hy : f y = .agg ds) (hσ' : setA σ m (.row g ds) = some σ') (k : K (.sc undef) σ') (hl : ds.length = size := by first|assumption|exact Enc.len _|rfl) (hc : cs.length = size := by first|assumption|exact Enc.len _|rfl) : OpSem P G B ⟨dst, .store t x y, type, pos, after, gd⟩ f σ K := s_store_whole hx hm hy hl hc hσ' k
theorem Z4 {P : Program} {G : Nat -> DV} {B : Nat} {f : Operand -> DV} {σ : List ABlk} {K : DV -> List ABlk -> Prop} {dst : Option Tmp} {type : TypeId} {pos : String} {after : Array Edge} {gd : Option (Nat × Bool)} {t : TypeId} {td : TypeDesc} {size : Nat} {x : Operand} {m g : Nat} {cs : List DV} [ht : TyI P t td true size] (hx : f x = .ptr m g 0) (hm : σ[m]? = some (.row g cs)) (k : K (.agg cs) σ) (hl : cs.length = size := by first|assumption|exact Enc.len _|rfl) : OpSem P G B ⟨dst, .load t x, type, pos, after, gd⟩ f σ K := s_load_whole hx hm hl k
end
section
variable {P : Program} {G : Nat -> DV} {B : Nat} {f : Operand -> DV} {σ : List ABlk} {K : DV -> List ABlk -> Prop} {dst : Option Tmp} {type : TypeId} {pos : String} {after : Array Edge} {gd : Option (Nat × Bool)}
end
theorem forceD_same : ∀ l : List DV, forceD l = some l
 | [] => rfl
 | d :: r => by simp only [forceD, forceD_same r]
theorem spliceD_all : ∀ (l ds : List DV), l.length = ds.length -> Zq l 0 ds = some ds
 | [], [], _ => rfl
 | [], _ :: _, h => by simp at h
 | _ :: _, [], h => by simp at h
 | c :: r, d :: ds, h => by simp only [Zq];rw [spliceD_all r ds (by simpa using h)]
theorem fill_one {zs : List Value} {cs : List DV} {n : Nat} (h1 : zs.length = n) (h2 : cs.length = n) (h0 : 0 < n) : fillD (fun i => some (i * n, n)) (WE zs 1) [(0, .agg cs)] = some cs := by
 cases cs with
 | nil => simp at h2;omega
 | cons e r =>
  have hb : Nat.beq (e :: r).length n = true := by rw [h2];exact Nat.beq_refl n
  simp only [fillD, dcells, hb, Nat.zero_mul]
  rw [spliceD_all _ _ (by rw [Z8, h1, h2];omega)]
  exact forceD_same _
theorem QO {P : Program} {G : Nat -> DV} {B : Nat} {f : Operand -> DV} {σ : List ABlk} {K : DV -> List ABlk -> Prop} {dst : Option Tmp} {type : TypeId} {pos : String} {after : Array Edge} {gd : Option (Nat × Bool)} {α : Type} [Enc α] {z : α} {t e : Nat} {g1 g2 : Bool} {z1 : Nat} {td : TypeDesc} {zs : List Value} {ps : List (Nat × Operand)} [ht : TyI P t (.slice e) g1 z1] [he : TyI P e td g2 (Enc.es α)] [hz : TyZ P e zs] (hzl : zs.length = Enc.es α) (hp : partsD f ps = some [(0, .agg (Enc.enc z))]) (hn : 1 * Enc.es α <= 16777216)
  (k : K (.sl (Enc.es α) (Enc.enc z)) σ) : OpSem P G B ⟨dst, .buildSlice t 1 ps.toArray, type, pos, after, gd⟩ f σ K := W5 hzl hp hn (fill_one hzl (Enc.len z) Enc.pos) k
theorem s_bslice_e {P : Program} {G : Nat -> DV} {B : Nat} {f : Operand -> DV} {σ : List ABlk} {K : DV -> List ABlk -> Prop} {dst : Option Tmp} {type : TypeId} {pos : String} {after : Array Edge} {gd : Option (Nat × Bool)} {α : Type} [Enc α] (l : List α) {t e n : Nat} {g1 g2 : Bool} {z1 : Nat} {td : TypeDesc} {zs : List Value} {ps : List (Nat × Operand)} {m : List (Nat × DV)} [ht : TyI P t (.slice e) g1 z1] [he : TyI P e td g2 (Enc.es α)] [hz : TyZ P e zs] (hzl : zs.length = Enc.es α) (hp : partsD f ps = some m) (hn : n * Enc.es α <= 16777216)
  (hc : fillD (fun i => some (i * Enc.es α, Enc.es α)) (WE zs n) m = some (Wf l)) (k : K (Qo l) σ) : OpSem P G B ⟨dst, .buildSlice t n ps.toArray, type, pos, after, gd⟩ f σ K := W5 hzl hp hn hc k
section
variable {P : Program} {G : Nat -> DV} {n : Nat} {ops : Array Oper} {B : Nat} {t : Fr} {σ : List ABlk} {ι : Type} {I : ι -> List ABlk}
end
end Go.Av
end
section
namespace Go.Bl
open Go.Av
inductive Nd where
 | mk (k n m : Int) (kids : List Nd)
mutual
def Nd.cells : Nd -> List DV
 | .mk k n m ks => [.i k, .i n, .i m, .sl 4 (cellsL ks)]
def cellsL : List Nd -> List DV
 | [] => []
 | x :: r => x.cells ++ cellsL r
end
mutual
theorem cells_clo : ∀ t : Nd, ∀ d ∈ t.cells, d.clo = true
 | .mk k n m ks, d, hd => by
  simp only [Nd.cells, List.mem_cons, List.not_mem_nil, or_false] at hd
  rcases hd with rfl|rfl|rfl|rfl
  ·exact Wj
  ·exact Wj
  ·exact Wj
  ·exact WH (cellsL_clo ks)
theorem cellsL_clo : ∀ l : List Nd, ∀ d ∈ cellsL l, d.clo = true
 | [], d, hd => by simp [cellsL] at hd
 | x :: r, d, hd => by
  rw [cellsL, List.mem_append] at hd
  rcases hd with hd|hd
  ·exact cells_clo x d hd
  ·exact cellsL_clo r d hd
end
theorem cells_len : ∀ t : Nd, t.cells.length = 4
 | .mk _ _ _ _ => rfl
instance : Enc Nd where
 enc := Nd.cells
 es := 4
 len := cells_len
 one t d hd := by
  cases t
  simp only [Nd.cells, List.mem_cons, List.not_mem_nil, or_false] at hd
  rcases hd with rfl|rfl|rfl|rfl <;> rfl
 clo := cells_clo
 pos := by decide
theorem cellsL_eq : ∀ l : List Nd, cellsL l = Wf l
 | [] => rfl
 | x :: r => by rw [cellsL, cellsL_eq r];rfl
theorem Qr (k n m : Int) (ks : List Nd) : (Enc.enc (Nd.mk k n m ks) : List DV) = [.i k, .i n, .i m, Qo ks] := by
 show [DV.i k, .i n, .i m, .sl 4 (cellsL ks)] = _
 rw [cellsL_eq];rfl
theorem Nd.ind {Q : Nd -> Prop} (h : ∀ k n m ks, (∀ x ∈ ks, Q x) -> Q (.mk k n m ks)) : ∀ t, Q t
 | .mk k n m ks => h k n m ks fun x hx => Nd.ind h x
termination_by t => SizeOf.sizeOf t
decreasing_by
 have := List.sizeOf_lt_of_mem hx
 simp;omega
abbrev Q2 (l : List UInt8) : DV := .sc (.string ⟨l.toArray⟩)
end Go.Bl
namespace Go.Av
open Go.Bl
section
variable {P : Program} {G : Nat -> DV} {B : Nat} {f : Operand -> DV} {σ : List ABlk} {K : DV -> List ABlk -> Prop} {dst : Option Tmp} {type : TypeId} {pos : String} {after : Array Edge} {gd : Option (Nat × Bool)}
theorem bytes_append (a b : List UInt8) : ((⟨a.toArray⟩ : ByteArray) ++ ⟨b.toArray⟩) = ⟨(a ++ b).toArray⟩ := by
 apply ByteArray.ext
 simp [ByteArray.data_append]
theorem s_add_s {t t' : TypeId} {g1 : Bool} {z1 : Nat} {x y : Operand} {a b : List UInt8} [ht : TyI P t .string g1 z1] (hx : f x = .sc (.string ⟨a.toArray⟩)) (hy : f y = .sc (.string ⟨b.toArray⟩)) (hl : a.length + b.length <= 9223372036854775807)
  (k : K (Q2 (a ++ b)) σ) : OpSem P G B ⟨dst, .binOp .add t x y t', type, pos, after, gd⟩ f σ K :=
 s_bin hx hy (fun w => by
  have : (eqGuard .add t x y (.string ⟨a.toArray⟩) (.string ⟨b.toArray⟩)).run P w = .ok () w := by unfold eqGuard;rfl
  rw [Sem.run_bind, this]
  have h2 : ¬ IntKind.i64.max < ((ByteArray.size ⟨a.toArray⟩ + ByteArray.size ⟨b.toArray⟩ : Nat) : Int) := by
   have e : IntKind.i64.max = 9223372036854775807 := rfl
   rw [e]
   show ¬ (9223372036854775807 : Int) < ((a.toArray.size + b.toArray.size : Nat) : Int)
   simp;omega
  simp [binOp, run_underlying ht.u, Op.stringOp, h2, bytes_append]
  show ((a.toArray.size : Nat) : Int) + ((b.toArray.size : Nat) : Int) <= 9223372036854775807
  simp;omega) k
end
section
theorem s_ad {P : Program} {G : Nat -> DV} {B : Nat} {f : Operand -> DV} {σ : List ABlk} {K : DV -> List ABlk -> Prop} {dst : Option Tmp} {type : TypeId} {pos : String} {after : Array Edge} {gd : Option (Nat × Bool)} {t t' : TypeId} {g1 : Bool} {z1 : Nat} {x y : Operand} {a b : List UInt8} [ht : TyI P t .string g1 z1] (hx : f x = .sc (.string ⟨a.toArray⟩)) (hy : f y = .sc (.string ⟨b.toArray⟩)) (k : K (Q2 (a ++ b)) σ) (hl : a.length + b.length <= 9223372036854775807 := by first|omega|(simp only [List.length_append, List.length_cons, List.length_nil];omega)) : OpSem P G B ⟨dst, .binOp .add t x y t', type, pos, after, gd⟩ f σ K := s_add_s hx hy hl k
end
end Go.Av
end
section
namespace Go.Av
open Go.Bl
abbrev DV.u (b : UInt8) : DV := .sc (.int .u8 (b.toNat : Int))
section
variable {P : Program} {G : Nat -> DV} {B : Nat} {f : Operand -> DV} {σ : List ABlk} {K : DV -> List ABlk -> Prop} {dst : Option Tmp} {type : TypeId} {pos : String} {after : Array Edge} {gd : Option (Nat × Bool)}
theorem Z1 (l : List UInt8) : (⟨l.toArray⟩ : ByteArray).size = l.length := by show l.toArray.size = _;simp
theorem Zx {t : TypeId} {g1 : Bool} {z1 : Nat} {x : Operand} {l : List UInt8} [ht : TyI P t .string g1 z1] (hx : f x = Q2 l) (k : K (.i (l.length : Nat)) σ) :
  OpSem P G B ⟨dst, .call ⟨.builtin .len, #[x], #[t]⟩, type, pos, after, gd⟩ f σ K := s_len_s hx (by rw [Z1];exact k)
theorem str_get (l : List UInt8) (i : Nat) : (⟨l.toArray⟩ : ByteArray)[i]? = l[i]? := by
 rw [getElem?_def, getElem?_def]
 by_cases h : i < l.length
 ·rw [dif_pos (by rw [Z1];exact h), dif_pos h];rfl
 ·rw [dif_neg (by rw [Z1];exact h), dif_neg h]
theorem s_index_str' {t : TypeId} {g1 : Bool} {z1 : Nat} {x y : Operand} {l : List UInt8} {kd : IntKind} {i : Int} [ht : TyI P t .string g1 z1] (hx : f x = Q2 l) (hy : f y = .sc (.int kd i)) (h0 : 0 <= i) (hi : i.toNat < l.length) (k : K (.u (l.getD i.toNat 0)) σ) :
  OpSem P G B ⟨dst, .index t x y, type, pos, after, gd⟩ f σ K := fun X ρ hS hσ _ _ hf => by
 subst hσ
 have e1 := hf x (by simp [Op.operands, Call.operands]);rw [hx] at e1
 have e2 := hf y (by simp [Op.operands, Call.operands]);rw [hy] at e2
 have : (Instr.index t (Q2 l |> fun|.sc v => v|_ => undef) (.int kd i)).run P X.w = .ok (.int .u8 ((l.getD i.toNat 0).toNat : Int)) X.w := by
  simp only [Instr.index, asIntOf, Sem.run_bind, Sem.run_pure, Result.andThen_ok, run_underlying ht.u, h0, if_true, str_get]
  rw [List.getElem?_eq_getElem hi, List.getD_eq_getElem?_getD, List.getElem?_eq_getElem hi]
  rfl
 simp only [execOp, VRep.sc_eq e1, VRep.sc_eq e2, Sem.run_bind, Sem.run_pure, this, Result.andThen_ok]
 exact Wn hS (.sc _) k
theorem s_index_str {t : TypeId} {g1 : Bool} {z1 : Nat} {x y : Operand} {l : List UInt8} {kd : IntKind} {i : Nat} [ht : TyI P t .string g1 z1] (hx : f x = Q2 l) (hy : f y = .sc (.int kd (i : Nat))) (hi : i < l.length) (k : K (.u (l.getD i 0)) σ) :
  OpSem P G B ⟨dst, .index t x y, type, pos, after, gd⟩ f σ K := s_index_str' hx hy (by omega) (by simpa using hi) (by simpa using k)
theorem str_extract (l : List UInt8) (a b : Nat) : (⟨l.toArray⟩ : ByteArray).extract a b = ⟨((l.take b).drop a).toArray⟩ := by
 apply ByteArray.ext
 rw [ByteArray.data_extract]
 apply Array.ext'
 rw [Array.toList_extract]
 simp [List.extract_eq_take_drop, List.drop_take]
inductive Bd (n : Nat) : Option Value -> Option Value -> Nat -> Nat -> Prop
 | l {k : IntKind} {i : Int} : 0 <= i -> i.toNat <= n -> Bd n (some (.int k i)) none i.toNat n
 | h {k : IntKind} {j : Int} : 0 <= j -> j.toNat <= n -> Bd n none (some (.int k j)) 0 j.toNat
 | lh {k k' : IntKind} {i j : Int} : 0 <= i -> i <= j -> j.toNat <= n -> Bd n (some (.int k i)) (some (.int k' j)) i.toNat j.toNat
theorem run_slice_str {t : TypeId} {g1 : Bool} {z1 : Nat} (ht : TyI P t .string g1 z1) {l : List UInt8} {lo hi : Option Value} {a b : Nat} (h : Bd l.length lo hi a b) (w : World) :
  (Instr.sliceAt t (.string ⟨l.toArray⟩) lo hi none).run P w = .ok (.string ⟨((l.take b).drop a).toArray⟩) w := by
 cases h with
 | @l k i h0 h1 => simp [Instr.sliceAt, Instr.slice, run_underlying ht.u, Instr.sliceBounds, Instr.sliceBound, asIntOf, Z1, h0, show i <= (l.length : Int) by omega, str_extract]
 | @h k j h0 h1 => simp [Instr.sliceAt, Instr.slice, run_underlying ht.u, Instr.sliceBounds, Instr.sliceBound, asIntOf, Z1, h0, show j <= (l.length : Int) by omega, str_extract]
 | @lh k k' i j h0 h1 h2 => simp [Instr.sliceAt, Instr.slice, run_underlying ht.u, Instr.sliceBounds, Instr.sliceBound, asIntOf, Z1, h0, show 0 <= j by omega, show j <= (l.length : Int) by omega, show i <= max j 0 by omega, str_extract]
theorem s_slice_strh' {t : TypeId} {g1 : Bool} {z1 : Nat} {x y : Operand} {l : List UInt8} {kd : IntKind} {j : Int} [ht : TyI P t .string g1 z1] (hx : f x = Q2 l) (hy : f y = .sc (.int kd j)) (h0 : 0 <= j) (hj : j.toNat <= l.length) (k : K (Q2 (l.take j.toNat)) σ) :
  OpSem P G B ⟨dst, .slice t x none (some y) none, type, pos, after, gd⟩ f σ K := fun X ρ hS hσ _ _ hf => by
 subst hσ
 have e1 := hf x (by simp [Op.operands, Call.operands]);rw [hx] at e1
 have e2 := hf y (by simp [Op.operands, Call.operands]);rw [hy] at e2
 have := run_slice_str ht (Bd.h (k := kd) h0 hj) X.w
 simp only [execOp, Option.map_some, Option.map_none, VRep.sc_eq e1, VRep.sc_eq e2, Sem.run_bind, Sem.run_pure, this, Result.andThen_ok]
 exact Wn hS (.sc _) k
theorem s_slice_strl' {t : TypeId} {g1 : Bool} {z1 : Nat} {x y : Operand} {l : List UInt8} {kd : IntKind} {i : Int} [ht : TyI P t .string g1 z1] (hx : f x = Q2 l) (hy : f y = .sc (.int kd i)) (h0 : 0 <= i) (hi : i.toNat <= l.length) (k : K (Q2 (l.drop i.toNat)) σ) :
  OpSem P G B ⟨dst, .slice t x (some y) none none, type, pos, after, gd⟩ f σ K := fun X ρ hS hσ _ _ hf => by
 subst hσ
 have e1 := hf x (by simp [Op.operands, Call.operands]);rw [hx] at e1
 have e2 := hf y (by simp [Op.operands, Call.operands]);rw [hy] at e2
 have := run_slice_str ht (Bd.l (k := kd) h0 hi) X.w
 rw [List.take_of_length_le (Nat.le_refl _)] at this
 simp only [execOp, Option.map_some, Option.map_none, VRep.sc_eq e1, VRep.sc_eq e2, Sem.run_bind, Sem.run_pure, this, Result.andThen_ok]
 exact Wn hS (.sc _) k
theorem s_slice_strb' {t : TypeId} {g1 : Bool} {z1 : Nat} {x y z : Operand} {l : List UInt8} {kd kd' : IntKind} {i j : Int} [ht : TyI P t .string g1 z1] (hx : f x = Q2 l) (hy : f y = .sc (.int kd i)) (hz : f z = .sc (.int kd' j)) (h0 : 0 <= i) (hij : i <= j) (hj : j.toNat <= l.length) (k : K (Q2 ((l.take j.toNat).drop i.toNat)) σ) :
  OpSem P G B ⟨dst, .slice t x (some y) (some z) none, type, pos, after, gd⟩ f σ K := fun X ρ hS hσ _ _ hf => by
 subst hσ
 have e1 := hf x (by simp [Op.operands, Call.operands]);rw [hx] at e1
 have e2 := hf y (by simp [Op.operands, Call.operands]);rw [hy] at e2
 have e3 := hf z (by simp [Op.operands, Call.operands]);rw [hz] at e3
 have := run_slice_str ht (Bd.lh (k := kd) (k' := kd') h0 hij hj) X.w
 simp only [execOp, Option.map_some, Option.map_none, VRep.sc_eq e1, VRep.sc_eq e2, VRep.sc_eq e3, Sem.run_bind, Sem.run_pure, this, Result.andThen_ok]
 exact Wn hS (.sc _) k
theorem s_slice_strh {t : TypeId} {g1 : Bool} {z1 : Nat} {x y : Operand} {l : List UInt8} {kd : IntKind} {j : Nat} [ht : TyI P t .string g1 z1] (hx : f x = Q2 l) (hy : f y = .sc (.int kd (j : Nat))) (hj : j <= l.length) (k : K (Q2 (l.take j)) σ) :
  OpSem P G B ⟨dst, .slice t x none (some y) none, type, pos, after, gd⟩ f σ K := s_slice_strh' hx hy (by omega) (by simpa using hj) (by simpa using k)
theorem s_slice_strl {t : TypeId} {g1 : Bool} {z1 : Nat} {x y : Operand} {l : List UInt8} {kd : IntKind} {i : Nat} [ht : TyI P t .string g1 z1] (hx : f x = Q2 l) (hy : f y = .sc (.int kd (i : Nat))) (hi : i <= l.length) (k : K (Q2 (l.drop i)) σ) :
  OpSem P G B ⟨dst, .slice t x (some y) none none, type, pos, after, gd⟩ f σ K := s_slice_strl' hx hy (by omega) (by simpa using hi) (by simpa using k)
theorem s_slice_strb {t : TypeId} {g1 : Bool} {z1 : Nat} {x y z : Operand} {l : List UInt8} {kd kd' : IntKind} {i j : Nat} [ht : TyI P t .string g1 z1] (hx : f x = Q2 l) (hy : f y = .sc (.int kd (i : Nat))) (hz : f z = .sc (.int kd' (j : Nat))) (hij : i <= j) (hj : j <= l.length) (k : K (Q2 ((l.take j).drop i)) σ) :
  OpSem P G B ⟨dst, .slice t x (some y) (some z) none, type, pos, after, gd⟩ f σ K := s_slice_strb' hx hy hz (by omega) (by omega) (by simpa using hj) (by simpa using k)
theorem Zr {t t' : TypeId} {g1 : Bool} {z1 : Nat} {x y : Operand} {a b : List UInt8} [ht : TyI P t .string g1 z1] (hx : f x = Q2 a) (hy : f y = Q2 b) (k : K (.b (decide (a = b))) σ) : OpSem P G B ⟨dst, .binOp .eql t x y t', type, pos, after, gd⟩ f σ K :=
 s_bin hx hy (fun w => by
  have : (eqGuard .eql t x y (.string ⟨a.toArray⟩) (.string ⟨b.toArray⟩)).run P w = .ok () w := by unfold eqGuard;rfl
  rw [Sem.run_bind, this]
  simp [binOp, Op.stringOp, run_underlying ht.u];try (rw [Bool.eq_iff_iff];simp)) k
end
section
theorem s_sh {P : Program} {G : Nat -> DV} {B : Nat} {f : Operand -> DV} {σ : List ABlk} {K : DV -> List ABlk -> Prop} {dst : Option Tmp} {type : TypeId} {pos : String} {after : Array Edge} {gd : Option (Nat × Bool)} {t : TypeId} {g1 : Bool} {z1 : Nat} {x y : Operand} {l : List UInt8} {kd : IntKind} {j : Nat} [ht : TyI P t .string g1 z1] (hx : f x = Q2 l) (hy : f y = .sc (.int kd (j : Nat))) (k : K (Q2 (l.take j)) σ) (hj : j <= l.length := by first|assumption|omega|(simp only [List.length_take, List.length_drop];omega)) : OpSem P G B ⟨dst, .slice t x none (some y) none, type, pos, after, gd⟩ f σ K := s_slice_strh hx hy hj k
theorem s_sl {P : Program} {G : Nat -> DV} {B : Nat} {f : Operand -> DV} {σ : List ABlk} {K : DV -> List ABlk -> Prop} {dst : Option Tmp} {type : TypeId} {pos : String} {after : Array Edge} {gd : Option (Nat × Bool)} {t : TypeId} {g1 : Bool} {z1 : Nat} {x y : Operand} {l : List UInt8} {kd : IntKind} {i : Nat} [ht : TyI P t .string g1 z1] (hx : f x = Q2 l) (hy : f y = .sc (.int kd (i : Nat))) (k : K (Q2 (l.drop i)) σ) (hi : i <= l.length := by first|assumption|omega|(simp only [List.length_take, List.length_drop];omega)) : OpSem P G B ⟨dst, .slice t x (some y) none none, type, pos, after, gd⟩ f σ K := s_slice_strl hx hy hi k
end
end Go.Av
end
section
namespace Go.Proofs
open Go.Av
instance : TyI Tryz.prog 3 (.int .i64) false 1 := ⟨by kernel_rfl, by kernel_rfl, by kernel_rfl⟩
instance : TyZ Tryz.prog 3 [.int .i64 (0)] := ⟨by kernel_rfl, by kernel_rfl⟩
instance : TyI Tryz.prog 4 .bool false 1 := ⟨by kernel_rfl, by kernel_rfl, by kernel_rfl⟩
instance : TyI Tryz.prog 5 (.int .u8) false 1 := ⟨by kernel_rfl, by kernel_rfl, by kernel_rfl⟩
instance : TyB Tryz.prog 5 1 := ⟨by kernel_rfl⟩
instance : TyZ Tryz.prog 5 [.int .u8 (0)] := ⟨by kernel_rfl, by kernel_rfl⟩
instance : TyI Tryz.prog 9 .string false 1 := ⟨by kernel_rfl, by kernel_rfl, by kernel_rfl⟩
instance : TyB Tryz.prog 9 16 := ⟨by kernel_rfl⟩
instance : TyZ Tryz.prog 9 [.string .empty] := ⟨by kernel_rfl, by kernel_rfl⟩
instance : SrcTy Tryz.prog 9 := ⟨.inr TyI.u⟩
instance : TyI Tryz.prog 22 (.slice 3) false 1 := ⟨by kernel_rfl, by kernel_rfl, by kernel_rfl⟩
instance : TyI Tryz.prog 23 (.slice 25) false 1 := ⟨by kernel_rfl, by kernel_rfl, by kernel_rfl⟩
instance : SrcTy Tryz.prog 23 := ⟨.inl ⟨_, TyI.u⟩⟩
noncomputable def Tryz.ds25 : TypeDesc := (Tryz.prog.underlying 25).getD .invalid
instance : TyI Tryz.prog 25 Tryz.ds25 true 4 := ⟨by kernel_rfl, by kernel_rfl, by kernel_rfl⟩
instance : TyB Tryz.prog 25 48 := ⟨by kernel_rfl⟩
instance : TyZ Tryz.prog 25 [.int .i64 (0), .int .i64 (0), .int .i64 (0), .slice none 0 0] := ⟨by kernel_rfl, by kernel_rfl⟩
instance : TyS Tryz.prog 25 [(0, 1), (1, 1), (2, 1), (3, 1)] := ⟨_, Tryz.underlying25, by kernel_rfl⟩
instance : TyI Tryz.prog 39 (.slice 9) false 1 := ⟨by kernel_rfl, by kernel_rfl, by kernel_rfl⟩
instance : SrcTy Tryz.prog 39 := ⟨.inl ⟨_, TyI.u⟩⟩
instance : TyI Tryz.prog 43 (.slice 5) false 1 := ⟨by kernel_rfl, by kernel_rfl, by kernel_rfl⟩
noncomputable def Tryz.ds50 : TypeDesc := (Tryz.prog.underlying 50).getD .invalid
instance : TyI Tryz.prog 50 Tryz.ds50 true 3 := ⟨by kernel_rfl, by kernel_rfl, by kernel_rfl⟩
instance : TyB Tryz.prog 50 32 := ⟨by kernel_rfl⟩
instance : TyZ Tryz.prog 50 [.string .empty, .int .i64 (0), .int .i64 (0)] := ⟨by kernel_rfl, by kernel_rfl⟩
instance : TyS Tryz.prog 50 [(0, 1), (1, 1), (2, 1)] := ⟨_, Tryz.underlying50, by kernel_rfl⟩
instance : TyI Tryz.prog 56 (.slice 50) false 1 := ⟨by kernel_rfl, by kernel_rfl, by kernel_rfl⟩
instance : SrcTy Tryz.prog 56 := ⟨.inl ⟨_, TyI.u⟩⟩
instance : TyZ Tryz.prog 62 [.slice none 0 0, .int .i64 (0), .int .i64 (0)] := ⟨by kernel_rfl, by kernel_rfl⟩
instance : TyS Tryz.prog 62 [(0, 1), (1, 1), (2, 1)] := ⟨_, Tryz.underlying62, by kernel_rfl⟩
instance : TyI Tryz.prog 72 (.pointer 77) false 1 := ⟨by kernel_rfl, by kernel_rfl, by kernel_rfl⟩
noncomputable def Tryz.ds75 : TypeDesc := (Tryz.prog.underlying 75).getD .invalid
instance : TyI Tryz.prog 75 Tryz.ds75 true 2 := ⟨by kernel_rfl, by kernel_rfl, by kernel_rfl⟩
instance : TyZ Tryz.prog 77 [.pointer none, .slice none 0 0, .bool false] := ⟨by kernel_rfl, by kernel_rfl⟩
instance : TyS Tryz.prog 77 [(0, 2), (2, 1)] := ⟨_, Tryz.underlying77, by kernel_rfl⟩
instance : TyI Tryz.prog 93 (.slice 102) false 1 := ⟨by kernel_rfl, by kernel_rfl, by kernel_rfl⟩
instance : SrcTy Tryz.prog 93 := ⟨.inl ⟨_, TyI.u⟩⟩
instance : TyI Tryz.prog 96 (.pointer 98) false 1 := ⟨by kernel_rfl, by kernel_rfl, by kernel_rfl⟩
instance : TyZ Tryz.prog 98 [.slice none 0 0, .int .i64 (0), .int .i64 (0)] := ⟨by kernel_rfl, by kernel_rfl⟩
instance : TyS Tryz.prog 98 [(0, 1), (1, 1), (2, 1)] := ⟨_, Tryz.underlying98, by kernel_rfl⟩
noncomputable def Tryz.ds102 : TypeDesc := (Tryz.prog.underlying 102).getD .invalid
instance : TyI Tryz.prog 102 Tryz.ds102 true 2 := ⟨by kernel_rfl, by kernel_rfl, by kernel_rfl⟩
instance : TyB Tryz.prog 102 24 := ⟨by kernel_rfl⟩
instance : TyZ Tryz.prog 102 [.string .empty, .int .i64 (0)] := ⟨by kernel_rfl, by kernel_rfl⟩
instance : TyS Tryz.prog 102 [(0, 1), (1, 1)] := ⟨_, Tryz.underlying102, by kernel_rfl⟩
instance : TyZ Tryz.prog 105 [.slice none 0 0, .int .i64 (0), .int .i64 (0)] := ⟨by kernel_rfl, by kernel_rfl⟩
instance : TyS Tryz.prog 105 [(0, 1), (1, 1), (2, 1)] := ⟨_, Tryz.underlying105, by kernel_rfl⟩
instance : TyI Tryz.prog 111 (.int .i64) false 1 := ⟨by kernel_rfl, by kernel_rfl, by kernel_rfl⟩
instance : TyI Tryz.prog 128 (.slice 111) false 1 := ⟨by kernel_rfl, by kernel_rfl, by kernel_rfl⟩
noncomputable def Tryz.ds130 : TypeDesc := (Tryz.prog.underlying 130).getD .invalid
instance : TyI Tryz.prog 130 Tryz.ds130 true 8 := ⟨by kernel_rfl, by kernel_rfl, by kernel_rfl⟩
instance : TyZ Tryz.prog 130 [.int .i64 (0), .int .i64 (0), .int .i64 (0), .int .i64 (0), .slice none 0 0, .int .i64 (0), .int .i64 (0), .int .i64 (0)] := ⟨by kernel_rfl, by kernel_rfl⟩
instance : TyI Tryz.prog 131 (.array 28 130) true 224 := ⟨by kernel_rfl, by kernel_rfl, by kernel_rfl⟩
instance : TyI Tryz.prog 154 (.int .u64) false 1 := ⟨by kernel_rfl, by kernel_rfl, by kernel_rfl⟩
instance : TyI Tryz.prog 158 (.array 256 5) true 256 := ⟨by kernel_rfl, by kernel_rfl, by kernel_rfl⟩
instance : TyI Tryz.prog 194 (.array 20 154) true 20 := ⟨by kernel_rfl, by kernel_rfl, by kernel_rfl⟩
instance : FnOk Tryz.prog 10 := ⟨by kernel_rfl⟩
instance : FnOk Tryz.prog 14 := ⟨by kernel_rfl⟩
instance : FnOk Tryz.prog 17 := ⟨by kernel_rfl⟩
instance : FnOk Tryz.prog 18 := ⟨by kernel_rfl⟩
instance : FnOk Tryz.prog 19 := ⟨by kernel_rfl⟩
instance : FnOk Tryz.prog 20 := ⟨by kernel_rfl⟩
instance : FnOk Tryz.prog 21 := ⟨by kernel_rfl⟩
instance : FnOk Tryz.prog 22 := ⟨by kernel_rfl⟩
instance : FnOk Tryz.prog 23 := ⟨by kernel_rfl⟩
instance : FnOk Tryz.prog 24 := ⟨by kernel_rfl⟩
instance : FnOk Tryz.prog 25 := ⟨by kernel_rfl⟩
instance : FnOk Tryz.prog 26 := ⟨by kernel_rfl⟩
instance : FnOk Tryz.prog 29 := ⟨by kernel_rfl⟩
instance : FnOk Tryz.prog 30 := ⟨by kernel_rfl⟩
instance : FnOk Tryz.prog 31 := ⟨by kernel_rfl⟩
instance : FnOk Tryz.prog 32 := ⟨by kernel_rfl⟩
instance : FnOk Tryz.prog 33 := ⟨by kernel_rfl⟩
instance : FnOk Tryz.prog 34 := ⟨by kernel_rfl⟩
instance : FnOk Tryz.prog 35 := ⟨by kernel_rfl⟩
instance : FnOk Tryz.prog 36 := ⟨by kernel_rfl⟩
instance : FnOk Tryz.prog 37 := ⟨by kernel_rfl⟩
instance : FnOk Tryz.prog 42 := ⟨by kernel_rfl⟩
instance : FnOk Tryz.prog 43 := ⟨by kernel_rfl⟩
instance : FnOk Tryz.prog 44 := ⟨by kernel_rfl⟩
instance : FnOk Tryz.prog 45 := ⟨by kernel_rfl⟩
instance : FnOk Tryz.prog 46 := ⟨by kernel_rfl⟩
instance : FnOk Tryz.prog 47 := ⟨by kernel_rfl⟩
instance : FnOk Tryz.prog 48 := ⟨by kernel_rfl⟩
instance : FnOk Tryz.prog 49 := ⟨by kernel_rfl⟩
instance : FnOk Tryz.prog 50 := ⟨by kernel_rfl⟩
instance : FnOk Tryz.prog 51 := ⟨by kernel_rfl⟩
instance : FnOk Tryz.prog 52 := ⟨by kernel_rfl⟩
instance : FnOk Tryz.prog 53 := ⟨by kernel_rfl⟩
instance : FnOk Tryz.prog 54 := ⟨by kernel_rfl⟩
instance : FnOk Tryz.prog 55 := ⟨by kernel_rfl⟩
instance : FnOk Tryz.prog 56 := ⟨by kernel_rfl⟩
instance : FnOk Tryz.prog 57 := ⟨by kernel_rfl⟩
instance : FnOk Tryz.prog 58 := ⟨by kernel_rfl⟩
instance : FnOk Tryz.prog 59 := ⟨by kernel_rfl⟩
instance : FnOk Tryz.prog 60 := ⟨by kernel_rfl⟩
instance : FnOk Tryz.prog 61 := ⟨by kernel_rfl⟩
instance : FnOk Tryz.prog 62 := ⟨by kernel_rfl⟩
instance : FnOk Tryz.prog 63 := ⟨by kernel_rfl⟩
instance : FnOk Tryz.prog 64 := ⟨by kernel_rfl⟩
instance : FnOk Tryz.prog 65 := ⟨by kernel_rfl⟩
instance : FnOk Tryz.prog 66 := ⟨by kernel_rfl⟩
instance : FnOk Tryz.prog 67 := ⟨by kernel_rfl⟩
instance : FnOk Tryz.prog 68 := ⟨by kernel_rfl⟩
instance : FnOk Tryz.prog 69 := ⟨by kernel_rfl⟩
instance : FnOk Tryz.prog 71 := ⟨by kernel_rfl⟩
instance : FnOk Tryz.prog 72 := ⟨by kernel_rfl⟩
instance : FnOk Tryz.prog 73 := ⟨by kernel_rfl⟩
instance : FnOk Tryz.prog 74 := ⟨by kernel_rfl⟩
instance : FnOk Tryz.prog 75 := ⟨by kernel_rfl⟩
instance : FnOk Tryz.prog 76 := ⟨by kernel_rfl⟩
instance : FnOk Tryz.prog 77 := ⟨by kernel_rfl⟩
instance : FnOk Tryz.prog 78 := ⟨by kernel_rfl⟩
instance : FnOk Tryz.prog 79 := ⟨by kernel_rfl⟩
instance : FnOk Tryz.prog 81 := ⟨by kernel_rfl⟩
instance : FnOk Tryz.prog 82 := ⟨by kernel_rfl⟩
instance : FnOk Tryz.prog 83 := ⟨by kernel_rfl⟩
instance : FnOk Tryz.prog 84 := ⟨by kernel_rfl⟩
instance : FnOk Tryz.prog 85 := ⟨by kernel_rfl⟩
instance : FnOk Tryz.prog 86 := ⟨by kernel_rfl⟩
instance : FnOk Tryz.prog 87 := ⟨by kernel_rfl⟩
instance : FnOk Tryz.prog 88 := ⟨by kernel_rfl⟩
instance : FnOk Tryz.prog 89 := ⟨by kernel_rfl⟩
instance : FnOk Tryz.prog 90 := ⟨by kernel_rfl⟩
instance : FnOk Tryz.prog 91 := ⟨by kernel_rfl⟩
instance : FnOk Tryz.prog 92 := ⟨by kernel_rfl⟩
instance : FnOk Tryz.prog 93 := ⟨by kernel_rfl⟩
instance : FnOk Tryz.prog 94 := ⟨by kernel_rfl⟩
instance : FnOk Tryz.prog 95 := ⟨by kernel_rfl⟩
instance : FnOk Tryz.prog 96 := ⟨by kernel_rfl⟩
instance : FnOk Tryz.prog 97 := ⟨by kernel_rfl⟩
instance : FnOk Tryz.prog 98 := ⟨by kernel_rfl⟩
instance : FnOk Tryz.prog 99 := ⟨by kernel_rfl⟩
instance : FnOk Tryz.prog 100 := ⟨by kernel_rfl⟩
instance : FnOk Tryz.prog 101 := ⟨by kernel_rfl⟩
instance : FnOk Tryz.prog 102 := ⟨by kernel_rfl⟩
instance : FnOk Tryz.prog 103 := ⟨by kernel_rfl⟩
instance : FnOk Tryz.prog 104 := ⟨by kernel_rfl⟩
instance : FnOk Tryz.prog 105 := ⟨by kernel_rfl⟩
instance : FnOk Tryz.prog 106 := ⟨by kernel_rfl⟩
instance : FnOk Tryz.prog 107 := ⟨by kernel_rfl⟩
instance : FnOk Tryz.prog 108 := ⟨by kernel_rfl⟩
instance : FnOk Tryz.prog 109 := ⟨by kernel_rfl⟩
instance : FnOk Tryz.prog 110 := ⟨by kernel_rfl⟩
instance : FnOk Tryz.prog 111 := ⟨by kernel_rfl⟩
instance : FnOk Tryz.prog 112 := ⟨by kernel_rfl⟩
instance : FnOk Tryz.prog 113 := ⟨by kernel_rfl⟩
instance : FnOk Tryz.prog 114 := ⟨by kernel_rfl⟩
instance : FnOk Tryz.prog 115 := ⟨by kernel_rfl⟩
instance : FnOk Tryz.prog 116 := ⟨by kernel_rfl⟩
instance : FnOk Tryz.prog 117 := ⟨by kernel_rfl⟩
instance : FnOk Tryz.prog 118 := ⟨by kernel_rfl⟩
instance : FnOk Tryz.prog 119 := ⟨by kernel_rfl⟩
instance : FnOk Tryz.prog 120 := ⟨by kernel_rfl⟩
instance : FnOk Tryz.prog 121 := ⟨by kernel_rfl⟩
instance : FnOk Tryz.prog 123 := ⟨by kernel_rfl⟩
instance : FnOk Tryz.prog 124 := ⟨by kernel_rfl⟩
instance : FnOk Tryz.prog 125 := ⟨by kernel_rfl⟩
instance : FnOk Tryz.prog 126 := ⟨by kernel_rfl⟩
instance : FnOk Tryz.prog 130 := ⟨by kernel_rfl⟩
instance : FnOk Tryz.prog 134 := ⟨by kernel_rfl⟩
instance : FnOk Tryz.prog 137 := ⟨by kernel_rfl⟩
instance : FnOk Tryz.prog 138 := ⟨by kernel_rfl⟩
instance : FnOk Tryz.prog 143 := ⟨by kernel_rfl⟩
instance : FnOk Tryz.prog 144 := ⟨by kernel_rfl⟩
instance : FnOk Tryz.prog 145 := ⟨by kernel_rfl⟩
instance : FnOk Tryz.prog 146 := ⟨by kernel_rfl⟩
instance : FnOk Tryz.prog 147 := ⟨by kernel_rfl⟩
instance : FnOk Tryz.prog 148 := ⟨by kernel_rfl⟩
instance : FnOk Tryz.prog 151 := ⟨by kernel_rfl⟩
instance : FnOk Tryz.prog 152 := ⟨by kernel_rfl⟩
instance : FnOk Tryz.prog 153 := ⟨by kernel_rfl⟩
instance : FnOk Tryz.prog 154 := ⟨by kernel_rfl⟩
instance : FnOk Tryz.prog 155 := ⟨by kernel_rfl⟩
instance : FnOk Tryz.prog 156 := ⟨by kernel_rfl⟩
instance : FnOk Tryz.prog 175 := ⟨by kernel_rfl⟩
instance : FnOk Tryz.prog 176 := ⟨by kernel_rfl⟩
instance : FnOk Tryz.prog 177 := ⟨by kernel_rfl⟩
instance : FnOk Tryz.prog 178 := ⟨by kernel_rfl⟩
instance : FnOk Tryz.prog 179 := ⟨by kernel_rfl⟩
instance : FnOk Tryz.prog 180 := ⟨by kernel_rfl⟩
instance : FnOk Tryz.prog 181 := ⟨by kernel_rfl⟩
instance : FnOk Tryz.prog 182 := ⟨by kernel_rfl⟩
instance : FnOk Tryz.prog 183 := ⟨by kernel_rfl⟩
instance : FnOk Tryz.prog 184 := ⟨by kernel_rfl⟩
instance : FnOk Tryz.prog 185 := ⟨by kernel_rfl⟩
instance : FnOk Tryz.prog 198 := ⟨by kernel_rfl⟩
instance : FnOk Tryz.prog 199 := ⟨by kernel_rfl⟩
instance : FnOk Tryz.prog 200 := ⟨by kernel_rfl⟩
instance : FnOk Tryz.prog 201 := ⟨by kernel_rfl⟩
instance : FnOk Tryz.prog 202 := ⟨by kernel_rfl⟩
instance : FnOk Tryz.prog 203 := ⟨by kernel_rfl⟩
instance : FnOk Tryz.prog 204 := ⟨by kernel_rfl⟩
instance : FnOk Tryz.prog 205 := ⟨by kernel_rfl⟩
instance : FnOk Tryz.prog 206 := ⟨by kernel_rfl⟩
instance : FnOk Tryz.prog 221 := ⟨by kernel_rfl⟩
instance : TyF Tryz.prog 25 0 0 1 false := ⟨_, _, (.int .i64), Tryz.underlying25, rfl, rfl, (inferInstance : TyI Tryz.prog 3 (.int .i64) false 1), by decide⟩
instance : TyF Tryz.prog 25 1 1 1 false := ⟨_, _, (.int .i64), Tryz.underlying25, rfl, rfl, (inferInstance : TyI Tryz.prog 3 (.int .i64) false 1), by decide⟩
instance : TyF Tryz.prog 25 2 2 1 false := ⟨_, _, (.int .i64), Tryz.underlying25, rfl, rfl, (inferInstance : TyI Tryz.prog 3 (.int .i64) false 1), by decide⟩
instance : TyF Tryz.prog 25 3 3 1 false := ⟨_, _, (.slice 25), Tryz.underlying25, rfl, rfl, (inferInstance : TyI Tryz.prog 23 (.slice 25) false 1), by decide⟩
instance : TyF Tryz.prog 50 0 0 1 false := ⟨_, _, .string, Tryz.underlying50, rfl, rfl, (inferInstance : TyI Tryz.prog 9 .string false 1), by decide⟩
instance : TyF Tryz.prog 50 1 1 1 false := ⟨_, _, (.int .i64), Tryz.underlying50, rfl, rfl, (inferInstance : TyI Tryz.prog 3 (.int .i64) false 1), by decide⟩
instance : TyF Tryz.prog 50 2 2 1 false := ⟨_, _, (.int .i64), Tryz.underlying50, rfl, rfl, (inferInstance : TyI Tryz.prog 3 (.int .i64) false 1), by decide⟩
instance : TyF Tryz.prog 62 0 0 1 false := ⟨_, _, (.slice 3), Tryz.underlying62, rfl, rfl, (inferInstance : TyI Tryz.prog 22 (.slice 3) false 1), by decide⟩
instance : TyF Tryz.prog 62 1 1 1 false := ⟨_, _, (.int .i64), Tryz.underlying62, rfl, rfl, (inferInstance : TyI Tryz.prog 3 (.int .i64) false 1), by decide⟩
instance : TyF Tryz.prog 62 2 2 1 false := ⟨_, _, (.int .i64), Tryz.underlying62, rfl, rfl, (inferInstance : TyI Tryz.prog 3 (.int .i64) false 1), by decide⟩
instance : TyF Tryz.prog 75 1 1 1 false := ⟨_, _, (.slice 5), Tryz.underlying75, rfl, rfl, (inferInstance : TyI Tryz.prog 43 (.slice 5) false 1), by decide⟩
instance : TyF Tryz.prog 77 0 0 2 true := ⟨_, _, Tryz.ds75, Tryz.underlying77, rfl, rfl, (inferInstance : TyI Tryz.prog 75 Tryz.ds75 true 2), by decide⟩
instance : TyF Tryz.prog 77 1 2 1 false := ⟨_, _, .bool, Tryz.underlying77, rfl, rfl, (inferInstance : TyI Tryz.prog 4 .bool false 1), by decide⟩
instance : TyF Tryz.prog 98 0 0 1 false := ⟨_, _, (.slice 102), Tryz.underlying98, rfl, rfl, (inferInstance : TyI Tryz.prog 93 (.slice 102) false 1), by decide⟩
instance : TyF Tryz.prog 98 1 1 1 false := ⟨_, _, (.int .i64), Tryz.underlying98, rfl, rfl, (inferInstance : TyI Tryz.prog 3 (.int .i64) false 1), by decide⟩
instance : TyF Tryz.prog 98 2 2 1 false := ⟨_, _, (.int .i64), Tryz.underlying98, rfl, rfl, (inferInstance : TyI Tryz.prog 3 (.int .i64) false 1), by decide⟩
instance : TyF Tryz.prog 102 0 0 1 false := ⟨_, _, .string, Tryz.underlying102, rfl, rfl, (inferInstance : TyI Tryz.prog 9 .string false 1), by decide⟩
instance : TyF Tryz.prog 102 1 1 1 false := ⟨_, _, (.int .i64), Tryz.underlying102, rfl, rfl, (inferInstance : TyI Tryz.prog 3 (.int .i64) false 1), by decide⟩
instance : TyF Tryz.prog 105 0 0 1 false := ⟨_, _, (.slice 50), Tryz.underlying105, rfl, rfl, (inferInstance : TyI Tryz.prog 56 (.slice 50) false 1), by decide⟩
instance : TyF Tryz.prog 105 1 1 1 false := ⟨_, _, (.int .i64), Tryz.underlying105, rfl, rfl, (inferInstance : TyI Tryz.prog 3 (.int .i64) false 1), by decide⟩
instance : TyF Tryz.prog 105 2 2 1 false := ⟨_, _, (.int .i64), Tryz.underlying105, rfl, rfl, (inferInstance : TyI Tryz.prog 3 (.int .i64) false 1), by decide⟩
instance : TyF Tryz.prog 130 0 0 1 false := ⟨_, _, (.int .i64), Tryz.underlying130, rfl, rfl, (inferInstance : TyI Tryz.prog 111 (.int .i64) false 1), by decide⟩
instance : TyF Tryz.prog 130 1 1 1 false := ⟨_, _, (.int .i64), Tryz.underlying130, rfl, rfl, (inferInstance : TyI Tryz.prog 3 (.int .i64) false 1), by decide⟩
instance : TyF Tryz.prog 130 2 2 1 false := ⟨_, _, (.int .i64), Tryz.underlying130, rfl, rfl, (inferInstance : TyI Tryz.prog 3 (.int .i64) false 1), by decide⟩
instance : TyF Tryz.prog 130 3 3 1 false := ⟨_, _, (.int .i64), Tryz.underlying130, rfl, rfl, (inferInstance : TyI Tryz.prog 3 (.int .i64) false 1), by decide⟩
instance : TyF Tryz.prog 130 4 4 1 false := ⟨_, _, (.slice 111), Tryz.underlying130, rfl, rfl, (inferInstance : TyI Tryz.prog 128 (.slice 111) false 1), by decide⟩
instance : TyF Tryz.prog 130 5 5 1 false := ⟨_, _, (.int .i64), Tryz.underlying130, rfl, rfl, (inferInstance : TyI Tryz.prog 3 (.int .i64) false 1), by decide⟩
instance : TyF Tryz.prog 130 6 6 1 false := ⟨_, _, (.int .i64), Tryz.underlying130, rfl, rfl, (inferInstance : TyI Tryz.prog 3 (.int .i64) false 1), by decide⟩
instance : TyF Tryz.prog 130 7 7 1 false := ⟨_, _, (.int .i64), Tryz.underlying130, rfl, rfl, (inferInstance : TyI Tryz.prog 111 (.int .i64) false 1), by decide⟩
end Go.Proofs
end
section
namespace Go.Av
open Go.Bl
section
variable {P : Program} {G : Nat -> DV} {B : Nat} {f : Operand -> DV} {σ : List ABlk} {K : DV -> List ABlk -> Prop} {dst : Option Tmp} {type : TypeId} {pos : String} {after : Array Edge} {gd : Option (Nat × Bool)}
def u8s (l : List UInt8) : List DV := l.map fun b => .sc (.int .u8 (b.toNat : Int))
end
end Go.Av
end
section
namespace Go.Proofs
open Go.Shelf
def Tryz.lays156_ren : Go.Shelf.Ren := ⟨fun|156 => 134|165 => 131|166 => 46|169 => 50|240 => 86|241 => 160|276 => 135|277 => 186|n => n, fun|31 => 39|9 => 9|3 => 3|4 => 4|0 => 0|20 => 20|72 => 75|76 => 84|70 => 73|37 => 43|75 => 83|127 => 118|164 => 139|5 => 5|80 => 87|n => n, fun|n => n⟩
theorem Tryz.lays156 : Go.Proofs.Lays.n156 Tryz.prog Tryz.lays156_ren := {
 mixed := by kernel_rfl
 f156 := Tryz.func134.trans (congrArg some (by kernel_rfl))
 f165 := Tryz.func131.trans (congrArg some (by kernel_rfl))
 f166 := Tryz.func46.trans (congrArg some (by kernel_rfl))
 f169 := Tryz.func50.trans (congrArg some (by kernel_rfl))
 f240 := Tryz.func86.trans (congrArg some (by kernel_rfl))
 f241 := Tryz.func160.trans (congrArg some (by kernel_rfl))
 f276 := Tryz.func135.trans (congrArg some (by kernel_rfl))
 f277 := Tryz.func186.trans (congrArg some (by kernel_rfl))
 t0 := Tryz.underlying0
 a0 := Tryz.isAgg0
 z0 := Tryz.sizeOf0
 v0 := Tryz.zeroValue0
 t3 := Tryz.underlying3
 a3 := Tryz.isAgg3
 z3 := Tryz.sizeOf3
 v3 := Tryz.zeroValue3
 t4 := Tryz.underlying4
 a4 := Tryz.isAgg4
 z4 := Tryz.sizeOf4
 v4 := Tryz.zeroValue4
 t9 := Tryz.underlying9
 a9 := Tryz.isAgg9
 z9 := Tryz.sizeOf9
 v9 := Tryz.zeroValue9
 t20 := Tryz.underlying20
 a20 := Tryz.isAgg20
 z20 := Tryz.sizeOf20
 v20 := Tryz.zeroValue20
 t31 := Tryz.underlying39
 a31 := Tryz.isAgg39
 z31 := Tryz.sizeOf39
 v31 := Tryz.zeroValue39
 t37 := Tryz.underlying43
 a37 := Tryz.isAgg43
 z37 := Tryz.sizeOf43
 v37 := Tryz.zeroValue43
 t70 := Tryz.underlying73
 a70 := Tryz.isAgg73
 z70 := Tryz.sizeOf73
 v70 := Tryz.zeroValue73
 t72 := Tryz.underlying75
 a72 := Tryz.isAgg75
 z72 := Tryz.sizeOf75
 v72 := Tryz.zeroValue75
 t75 := Tryz.underlying83
 a75 := Tryz.isAgg83
 z75 := Tryz.sizeOf83
 v75 := Tryz.zeroValue83
 t76 := Tryz.underlying84
 a76 := Tryz.isAgg84
 z76 := Tryz.sizeOf84
 v76 := Tryz.zeroValue84
 t127 := Tryz.underlying118
 a127 := Tryz.isAgg118
 z127 := Tryz.sizeOf118
 v127 := Tryz.zeroValue118
 t164 := Tryz.underlying139
 a164 := Tryz.isAgg139
 z164 := Tryz.sizeOf139
 v164 := Tryz.zeroValue139 }
theorem Tryz.Builder_Extra_156 : Builder.Extra Tryz.prog Tryz.lays156_ren := {
 sizeBuilder := by kernel_rfl
 liesBuilder := by kernel_rfl
 t5 := Tryz.underlying5
 a5 := Tryz.isAgg5
 z5 := Tryz.sizeOf5
 v5 := Tryz.zeroValue5
 infoByte := by kernel_rfl
 cellsByte := by kernel_rfl
 sizeByte := by kernel_rfl
 neB5 := by decide }
open Go.RowKit in
theorem Tryz.strings_Join_none (a : Option Addr) (c : Nat) (sep : ByteArray) (w : World) :
  Calls Tryz.prog 134 #[.slice a 0 c, .string sep] w fun e w' => e = .returned (.string ⟨#[]⟩) /\ w' = w := Any.strings_Join_none Tryz.lays156 Tryz.Builder_Extra_156 a c sep w
open Go.RowKit in
theorem Tryz.strings_Join (bk o c : Nat) (xs : List ByteArray) (sep : ByteArray) (w : World) (hcells : ∀ (j : Nat) x, xs[j]? = some x -> w.cell? ⟨bk, o + j, none⟩ = some (.string x)) (hbk : bk < w.heap.size) (hN : xs.length <= 140737488355328) (hcap : xs.length <= c) (hlen : (Lib.join (xs.map (·.data.toList)) sep.data.toList).length <= 140737488355328) :
  Calls Tryz.prog 134 #[.slice (some ⟨bk, o, none⟩) xs.length c, .string sep] w fun e w' => e = .returned (.string ⟨(Lib.join (xs.map (·.data.toList)) sep.data.toList).toArray⟩) /\ Below w.heap.size w w' := Any.strings_Join Tryz.lays156 Tryz.Builder_Extra_156 bk o c xs sep w hcells hbk hN hcap hlen
def Tryz.lays161_ren : Go.Shelf.Ren := ⟨fun|161 => 102|231 => 139|227 => 140|233 => 141|235 => 142|228 => 164|197 => 165|151 => 166|260 => 192|152 => 193|137 => 214|119 => 215|224 => 216|225 => 217|217 => 225|266 => 226|n => n, fun|9 => 9|4 => 4|3 => 3|5 => 5|117 => 145|116 => 144|0 => 0|124 => 148|105 => 161|21 => 21|119 => 158|46 => 133|139 => 210|138 => 209|n => n, fun|3 => 7|4 => 8|n => n⟩
theorem Tryz.lays161 : Go.Proofs.Lays.n161 Tryz.prog Tryz.lays161_ren := {
 mixed := by kernel_rfl
 f119 := Tryz.func215.trans (congrArg some (by kernel_rfl))
 f137 := Tryz.func214.trans (congrArg some (by kernel_rfl))
 f151 := Tryz.func166.trans (congrArg some (by kernel_rfl))
 f152 := Tryz.func193.trans (congrArg some (by kernel_rfl))
 f161 := Tryz.func102.trans (congrArg some (by kernel_rfl))
 f197 := Tryz.func165.trans (congrArg some (by kernel_rfl))
 f217 := Tryz.func225.trans (congrArg some (by kernel_rfl))
 f224 := Tryz.func216.trans (congrArg some (by kernel_rfl))
 f225 := Tryz.func217.trans (congrArg some (by kernel_rfl))
 f227 := Tryz.func140.trans (congrArg some (by kernel_rfl))
 f228 := Tryz.func164.trans (congrArg some (by kernel_rfl))
 f231 := Tryz.func139.trans (congrArg some (by kernel_rfl))
 f233 := Tryz.func141.trans (congrArg some (by kernel_rfl))
 f235 := Tryz.func142.trans (congrArg some (by kernel_rfl))
 f260 := Tryz.func192.trans (congrArg some (by kernel_rfl))
 f266 := Tryz.func226.trans (congrArg some (by kernel_rfl))
 t0 := Tryz.underlying0
 a0 := Tryz.isAgg0
 z0 := Tryz.sizeOf0
 v0 := Tryz.zeroValue0
 t3 := Tryz.underlying3
 a3 := Tryz.isAgg3
 z3 := Tryz.sizeOf3
 v3 := Tryz.zeroValue3
 t4 := Tryz.underlying4
 a4 := Tryz.isAgg4
 z4 := Tryz.sizeOf4
 v4 := Tryz.zeroValue4
 t5 := Tryz.underlying5
 a5 := Tryz.isAgg5
 z5 := Tryz.sizeOf5
 v5 := Tryz.zeroValue5
 t9 := Tryz.underlying9
 a9 := Tryz.isAgg9
 z9 := Tryz.sizeOf9
 v9 := Tryz.zeroValue9
 t21 := Tryz.underlying21
 a21 := Tryz.isAgg21
 z21 := Tryz.sizeOf21
 v21 := Tryz.zeroValue21
 t46 := Tryz.underlying133
 a46 := Tryz.isAgg133
 z46 := Tryz.sizeOf133
 v46 := Tryz.zeroValue133
 t105 := Tryz.underlying161
 a105 := Tryz.isAgg161
 z105 := Tryz.sizeOf161
 v105 := Tryz.zeroValue161
 t116 := Tryz.underlying144
 a116 := Tryz.isAgg144
 z116 := Tryz.sizeOf144
 t117 := Tryz.underlying145
 a117 := Tryz.isAgg145
 z117 := Tryz.sizeOf145
 v117 := Tryz.zeroValue145
 t119 := Tryz.underlying158
 a119 := Tryz.isAgg158
 z119 := Tryz.sizeOf158
 t124 := Tryz.underlying148
 a124 := Tryz.isAgg148
 z124 := Tryz.sizeOf148
 v124 := Tryz.zeroValue148
 t138 := Tryz.underlying209
 a138 := Tryz.isAgg209
 z138 := Tryz.sizeOf209
 v138 := Tryz.zeroValue209
 t139 := Tryz.underlying210
 a139 := Tryz.isAgg210
 z139 := Tryz.sizeOf210
 v139 := Tryz.zeroValue210
 g3 := by kernel_rfl
 g4 := by kernel_rfl }
def Tryz.lays160_ren : Go.Shelf.Ren := ⟨fun|160 => 148|232 => 167|231 => 139|227 => 140|234 => 168|233 => 141|236 => 169|235 => 142|228 => 164|271 => 194|151 => 166|197 => 165|120 => 218|152 => 193|260 => 192|137 => 214|119 => 215|224 => 216|225 => 217|217 => 225|266 => 226|n => n, fun|9 => 9|4 => 4|3 => 3|5 => 5|117 => 145|116 => 144|0 => 0|124 => 148|21 => 21|105 => 161|46 => 133|119 => 158|139 => 210|138 => 209|n => n, fun|3 => 7|4 => 8|n => n⟩
theorem Tryz.lays160 : Go.Proofs.Lays.n160 Tryz.prog Tryz.lays160_ren := {
 mixed := by kernel_rfl
 f119 := Tryz.func215.trans (congrArg some (by kernel_rfl))
 f120 := Tryz.func218.trans (congrArg some (by kernel_rfl))
 f137 := Tryz.func214.trans (congrArg some (by kernel_rfl))
 f151 := Tryz.func166.trans (congrArg some (by kernel_rfl))
 f152 := Tryz.func193.trans (congrArg some (by kernel_rfl))
 f160 := Tryz.func148.trans (congrArg some (by kernel_rfl))
 f197 := Tryz.func165.trans (congrArg some (by kernel_rfl))
 f217 := Tryz.func225.trans (congrArg some (by kernel_rfl))
 f224 := Tryz.func216.trans (congrArg some (by kernel_rfl))
 f225 := Tryz.func217.trans (congrArg some (by kernel_rfl))
 f227 := Tryz.func140.trans (congrArg some (by kernel_rfl))
 f228 := Tryz.func164.trans (congrArg some (by kernel_rfl))
 f231 := Tryz.func139.trans (congrArg some (by kernel_rfl))
 f232 := Tryz.func167.trans (congrArg some (by kernel_rfl))
 f233 := Tryz.func141.trans (congrArg some (by kernel_rfl))
 f234 := Tryz.func168.trans (congrArg some (by kernel_rfl))
 f235 := Tryz.func142.trans (congrArg some (by kernel_rfl))
 f236 := Tryz.func169.trans (congrArg some (by kernel_rfl))
 f260 := Tryz.func192.trans (congrArg some (by kernel_rfl))
 f266 := Tryz.func226.trans (congrArg some (by kernel_rfl))
 f271 := Tryz.func194.trans (congrArg some (by kernel_rfl))
 t0 := Tryz.underlying0
 a0 := Tryz.isAgg0
 z0 := Tryz.sizeOf0
 v0 := Tryz.zeroValue0
 t3 := Tryz.underlying3
 a3 := Tryz.isAgg3
 z3 := Tryz.sizeOf3
 v3 := Tryz.zeroValue3
 t4 := Tryz.underlying4
 a4 := Tryz.isAgg4
 z4 := Tryz.sizeOf4
 v4 := Tryz.zeroValue4
 t5 := Tryz.underlying5
 a5 := Tryz.isAgg5
 z5 := Tryz.sizeOf5
 v5 := Tryz.zeroValue5
 t9 := Tryz.underlying9
 a9 := Tryz.isAgg9
 z9 := Tryz.sizeOf9
 v9 := Tryz.zeroValue9
 t21 := Tryz.underlying21
 a21 := Tryz.isAgg21
 z21 := Tryz.sizeOf21
 v21 := Tryz.zeroValue21
 t46 := Tryz.underlying133
 a46 := Tryz.isAgg133
 z46 := Tryz.sizeOf133
 v46 := Tryz.zeroValue133
 t105 := Tryz.underlying161
 a105 := Tryz.isAgg161
 z105 := Tryz.sizeOf161
 v105 := Tryz.zeroValue161
 t116 := Tryz.underlying144
 a116 := Tryz.isAgg144
 z116 := Tryz.sizeOf144
 t117 := Tryz.underlying145
 a117 := Tryz.isAgg145
 z117 := Tryz.sizeOf145
 v117 := Tryz.zeroValue145
 t119 := Tryz.underlying158
 a119 := Tryz.isAgg158
 z119 := Tryz.sizeOf158
 t124 := Tryz.underlying148
 a124 := Tryz.isAgg148
 z124 := Tryz.sizeOf148
 v124 := Tryz.zeroValue148
 t138 := Tryz.underlying209
 a138 := Tryz.isAgg209
 z138 := Tryz.sizeOf209
 v138 := Tryz.zeroValue209
 t139 := Tryz.underlying210
 a139 := Tryz.isAgg210
 z139 := Tryz.sizeOf210
 v139 := Tryz.zeroValue210
 g3 := by kernel_rfl
 g4 := by kernel_rfl }
def Tryz.lays103_ren : Go.Shelf.Ren := ⟨fun|103 => 201|210 => 222|206 => 159|n => n, fun|9 => 9|4 => 4|24 => 91|3 => 3|n => n, fun|n => n⟩
theorem Tryz.lays103 : Go.Proofs.Lays.n103 Tryz.prog Tryz.lays103_ren := {
 mixed := by kernel_rfl
 f103 := Tryz.func201.trans (congrArg some (by kernel_rfl))
 f206 := Tryz.func159.trans (congrArg some (by kernel_rfl))
 f210 := Tryz.func222.trans (congrArg some (by kernel_rfl))
 t3 := Tryz.underlying3
 a3 := Tryz.isAgg3
 z3 := Tryz.sizeOf3
 v3 := Tryz.zeroValue3
 t4 := Tryz.underlying4
 a4 := Tryz.isAgg4
 z4 := Tryz.sizeOf4
 v4 := Tryz.zeroValue4
 t9 := Tryz.underlying9
 a9 := Tryz.isAgg9
 z9 := Tryz.sizeOf9
 v9 := Tryz.zeroValue9
 t24 := Tryz.underlying91
 a24 := Tryz.isAgg91
 z24 := Tryz.sizeOf91
 v24 := Tryz.zeroValue91 }
open Go.RowKit in
theorem Tryz.strings_CutPrefix (s p : ByteArray) (w : World) :
  Calls Tryz.prog 201 #[.string s, .string p] w fun e w' => e = .returned (.tuple #[.string ⟨(Lib.trimPrefix s.data.toList p.data.toList).toArray⟩, .bool (Lib.hasPrefix s.data.toList p.data.toList)]) /\ w' = w := Any.strings_CutPrefix Tryz.lays103 s p w
def Tryz.lays121_ren : Go.Shelf.Ren := ⟨fun|121 => 88|214 => 136|n => n, fun|4 => 4|9 => 9|n => n, fun|n => n⟩
theorem Tryz.lays121 : Go.Proofs.Lays.n121 Tryz.prog Tryz.lays121_ren := {
 mixed := by kernel_rfl
 f121 := Tryz.func88.trans (congrArg some (by kernel_rfl))
 f214 := Tryz.func136.trans (congrArg some (by kernel_rfl))
 t4 := Tryz.underlying4
 a4 := Tryz.isAgg4
 z4 := Tryz.sizeOf4
 v4 := Tryz.zeroValue4
 t9 := Tryz.underlying9
 a9 := Tryz.isAgg9
 z9 := Tryz.sizeOf9
 v9 := Tryz.zeroValue9 }
open Go.RowKit in
theorem Tryz.strconv_FormatBool (b : Bool) (w : World) :
  Calls Tryz.prog 88 #[.bool b] w fun e w' => e = .returned (.string ⟨(Lib.formatBool b).toArray⟩) /\ w' = w := Any.strconv_FormatBool Tryz.lays121 b w
def Tryz.lays172_ren : Go.Shelf.Ren := ⟨fun|172 => 108|244 => 149|245 => 150|247 => 170|279 => 171|280 => 172|281 => 173|282 => 174|287 => 195|316 => 196|171 => 83|205 => 197|321 => 219|322 => 220|243 => 133|246 => 161|283 => 187|284 => 188|285 => 189|286 => 190|129 => 208|317 => 207|318 => 209|319 => 210|320 => 211|337 => 223|338 => 224|n => n, fun|9 => 9|3 => 3|75 => 83|76 => 84|4 => 4|5 => 5|167 => 164|37 => 43|0 => 0|85 => 165|2 => 2|168 => 167|53 => 154|175 => 184|46 => 133|210 => 187|127 => 118|145 => 216|143 => 214|21 => 21|171 => 173|173 => 176|212 => 194|51 => 151|20 => 20|213 => 195|232 => 221|233 => 222|80 => 87|n => n, fun|15 => 3|16 => 4|17 => 6|18 => 9|19 => 10|n => n⟩
theorem Tryz.lays172 : Go.Proofs.Lays.n172 Tryz.prog Tryz.lays172_ren := {
 mixed := by kernel_rfl
 f129 := Tryz.func208.trans (congrArg some (by kernel_rfl))
 f171 := Tryz.func83.trans (congrArg some (by kernel_rfl))
 f172 := Tryz.func108.trans (congrArg some (by kernel_rfl))
 f205 := Tryz.func197.trans (congrArg some (by kernel_rfl))
 f243 := Tryz.func133.trans (congrArg some (by kernel_rfl))
 f244 := Tryz.func149.trans (congrArg some (by kernel_rfl))
 f245 := Tryz.func150.trans (congrArg some (by kernel_rfl))
 f246 := Tryz.func161.trans (congrArg some (by kernel_rfl))
 f247 := Tryz.func170.trans (congrArg some (by kernel_rfl))
 f279 := Tryz.func171.trans (congrArg some (by kernel_rfl))
 f280 := Tryz.func172.trans (congrArg some (by kernel_rfl))
 f281 := Tryz.func173.trans (congrArg some (by kernel_rfl))
 f282 := Tryz.func174.trans (congrArg some (by kernel_rfl))
 f283 := Tryz.func187.trans (congrArg some (by kernel_rfl))
 f284 := Tryz.func188.trans (congrArg some (by kernel_rfl))
 f285 := Tryz.func189.trans (congrArg some (by kernel_rfl))
 f286 := Tryz.func190.trans (congrArg some (by kernel_rfl))
 f287 := Tryz.func195.trans (congrArg some (by kernel_rfl))
 f316 := Tryz.func196.trans (congrArg some (by kernel_rfl))
 f317 := Tryz.func207.trans (congrArg some (by kernel_rfl))
 f318 := Tryz.func209.trans (congrArg some (by kernel_rfl))
 f319 := Tryz.func210.trans (congrArg some (by kernel_rfl))
 f320 := Tryz.func211.trans (congrArg some (by kernel_rfl))
 f321 := Tryz.func219.trans (congrArg some (by kernel_rfl))
 f322 := Tryz.func220.trans (congrArg some (by kernel_rfl))
 f337 := Tryz.func223.trans (congrArg some (by kernel_rfl))
 f338 := Tryz.func224.trans (congrArg some (by kernel_rfl))
 t0 := Tryz.underlying0
 a0 := Tryz.isAgg0
 z0 := Tryz.sizeOf0
 v0 := Tryz.zeroValue0
 t2 := Tryz.underlying2
 a2 := Tryz.isAgg2
 z2 := Tryz.sizeOf2
 v2 := Tryz.zeroValue2
 t3 := Tryz.underlying3
 a3 := Tryz.isAgg3
 z3 := Tryz.sizeOf3
 v3 := Tryz.zeroValue3
 t4 := Tryz.underlying4
 a4 := Tryz.isAgg4
 z4 := Tryz.sizeOf4
 v4 := Tryz.zeroValue4
 t5 := Tryz.underlying5
 a5 := Tryz.isAgg5
 z5 := Tryz.sizeOf5
 v5 := Tryz.zeroValue5
 t9 := Tryz.underlying9
 a9 := Tryz.isAgg9
 z9 := Tryz.sizeOf9
 v9 := Tryz.zeroValue9
 t20 := Tryz.underlying20
 a20 := Tryz.isAgg20
 z20 := Tryz.sizeOf20
 v20 := Tryz.zeroValue20
 t21 := Tryz.underlying21
 a21 := Tryz.isAgg21
 z21 := Tryz.sizeOf21
 v21 := Tryz.zeroValue21
 t37 := Tryz.underlying43
 a37 := Tryz.isAgg43
 z37 := Tryz.sizeOf43
 v37 := Tryz.zeroValue43
 t46 := Tryz.underlying133
 a46 := Tryz.isAgg133
 z46 := Tryz.sizeOf133
 v46 := Tryz.zeroValue133
 t51 := Tryz.underlying151
 a51 := Tryz.isAgg151
 z51 := Tryz.sizeOf151
 v51 := Tryz.zeroValue151
 t53 := Tryz.underlying154
 a53 := Tryz.isAgg154
 z53 := Tryz.sizeOf154
 v53 := Tryz.zeroValue154
 t75 := Tryz.underlying83
 a75 := Tryz.isAgg83
 z75 := Tryz.sizeOf83
 v75 := Tryz.zeroValue83
 t76 := Tryz.underlying84
 a76 := Tryz.isAgg84
 z76 := Tryz.sizeOf84
 v76 := Tryz.zeroValue84
 t85 := Tryz.underlying165
 a85 := Tryz.isAgg165
 z85 := Tryz.sizeOf165
 v85 := Tryz.zeroValue165
 t127 := Tryz.underlying118
 a127 := Tryz.isAgg118
 z127 := Tryz.sizeOf118
 v127 := Tryz.zeroValue118
 t143 := Tryz.underlying214
 a143 := Tryz.isAgg214
 z143 := Tryz.sizeOf214
 v143 := Tryz.zeroValue214
 t145 := Tryz.underlying216
 a145 := Tryz.isAgg216
 z145 := Tryz.sizeOf216
 v145 := Tryz.zeroValue216
 t167 := Tryz.underlying164
 a167 := Tryz.isAgg164
 z167 := Tryz.sizeOf164
 v167 := Tryz.zeroValue164
 t168 := Tryz.underlying167
 a168 := Tryz.isAgg167
 z168 := Tryz.sizeOf167
 v168 := Tryz.zeroValue167
 t171 := Tryz.underlying173
 a171 := Tryz.isAgg173
 z171 := Tryz.sizeOf173
 v171 := Tryz.zeroValue173
 t173 := Tryz.underlying176
 a173 := Tryz.isAgg176
 z173 := Tryz.sizeOf176
 v173 := Tryz.zeroValue176
 t175 := Tryz.underlying184
 a175 := Tryz.isAgg184
 z175 := Tryz.sizeOf184
 v175 := Tryz.zeroValue184
 t210 := Tryz.underlying187
 a210 := Tryz.isAgg187
 z210 := Tryz.sizeOf187
 v210 := Tryz.zeroValue187
 t212 := Tryz.underlying194
 a212 := Tryz.isAgg194
 z212 := Tryz.sizeOf194
 v212 := Tryz.zeroValue194
 t213 := Tryz.underlying195
 a213 := Tryz.isAgg195
 z213 := Tryz.sizeOf195
 t232 := Tryz.underlying221
 a232 := Tryz.isAgg221
 z232 := Tryz.sizeOf221
 v232 := Tryz.zeroValue221
 t233 := Tryz.underlying222
 a233 := Tryz.isAgg222
 z233 := Tryz.sizeOf222
 v233 := Tryz.zeroValue222
 g15 := by kernel_rfl
 g16 := by kernel_rfl
 g17 := by kernel_rfl
 g18 := by kernel_rfl
 g19 := by kernel_rfl }
open Go.RowKit in
theorem Tryz.strconv_Atoi (s : ByteArray) (n : Int) (hl : s.size <= 18) (h : Lib.atoi s.data.toList = some n) (w : World) :
  Calls Tryz.prog 108 #[.string s] w fun e w' => e = .returned (.tuple #[.int .i64 n, .nilIface]) /\ ∃ t, w' = Lib.bytesWorld w 5 t := Any.strconv_Atoi Tryz.lays172 s n hl h w
def Tryz.laysM171_ren : Go.Shelf.Ren := ⟨fun|171 => 83|243 => 133|246 => 161|283 => 187|284 => 188|285 => 189|286 => 190|129 => 208|317 => 207|318 => 209|319 => 210|320 => 211|337 => 223|338 => 224|n => n, fun|3 => 3|9 => 9|2 => 2|4 => 4|171 => 173|0 => 0|53 => 154|37 => 43|5 => 5|173 => 176|212 => 194|51 => 151|20 => 20|213 => 195|46 => 133|232 => 221|233 => 222|n => n, fun|17 => 6|18 => 9|19 => 10|n => n⟩
theorem Tryz.laysM171 : Go.Proofs.LaysM.n171 Tryz.prog Tryz.laysM171_ren := {
 mixed := by kernel_rfl
 f129 := Tryz.func208.trans (congrArg some (by kernel_rfl))
 f171 := Tryz.func83.trans (congrArg some (by kernel_rfl))
 f243 := Tryz.func133.trans (congrArg some (by kernel_rfl))
 f246 := Tryz.func161.trans (congrArg some (by kernel_rfl))
 f283 := Tryz.func187.trans (congrArg some (by kernel_rfl))
 f284 := Tryz.func188.trans (congrArg some (by kernel_rfl))
 f285 := Tryz.func189.trans (congrArg some (by kernel_rfl))
 f286 := Tryz.func190.trans (congrArg some (by kernel_rfl))
 f317 := Tryz.func207.trans (congrArg some (by kernel_rfl))
 f318 := Tryz.func209.trans (congrArg some (by kernel_rfl))
 f319 := Tryz.func210.trans (congrArg some (by kernel_rfl))
 f320 := Tryz.func211.trans (congrArg some (by kernel_rfl))
 f337 := Tryz.func223.trans (congrArg some (by kernel_rfl))
 f338 := Tryz.func224.trans (congrArg some (by kernel_rfl))
 t0 := Tryz.underlying0
 a0 := Tryz.isAgg0
 z0 := Tryz.sizeOf0
 v0 := Tryz.zeroValue0
 t2 := Tryz.underlying2
 a2 := Tryz.isAgg2
 z2 := Tryz.sizeOf2
 v2 := Tryz.zeroValue2
 t3 := Tryz.underlying3
 a3 := Tryz.isAgg3
 z3 := Tryz.sizeOf3
 v3 := Tryz.zeroValue3
 t4 := Tryz.underlying4
 a4 := Tryz.isAgg4
 z4 := Tryz.sizeOf4
 v4 := Tryz.zeroValue4
 t5 := Tryz.underlying5
 a5 := Tryz.isAgg5
 z5 := Tryz.sizeOf5
 v5 := Tryz.zeroValue5
 t9 := Tryz.underlying9
 a9 := Tryz.isAgg9
 z9 := Tryz.sizeOf9
 v9 := Tryz.zeroValue9
 t20 := Tryz.underlying20
 a20 := Tryz.isAgg20
 z20 := Tryz.sizeOf20
 v20 := Tryz.zeroValue20
 t37 := Tryz.underlying43
 a37 := Tryz.isAgg43
 z37 := Tryz.sizeOf43
 v37 := Tryz.zeroValue43
 t46 := Tryz.underlying133
 a46 := Tryz.isAgg133
 z46 := Tryz.sizeOf133
 v46 := Tryz.zeroValue133
 t51 := Tryz.underlying151
 a51 := Tryz.isAgg151
 z51 := Tryz.sizeOf151
 v51 := Tryz.zeroValue151
 t53 := Tryz.underlying154
 a53 := Tryz.isAgg154
 z53 := Tryz.sizeOf154
 v53 := Tryz.zeroValue154
 t171 := Tryz.underlying173
 a171 := Tryz.isAgg173
 z171 := Tryz.sizeOf173
 v171 := Tryz.zeroValue173
 t173 := Tryz.underlying176
 a173 := Tryz.isAgg176
 z173 := Tryz.sizeOf176
 v173 := Tryz.zeroValue176
 t212 := Tryz.underlying194
 a212 := Tryz.isAgg194
 z212 := Tryz.sizeOf194
 v212 := Tryz.zeroValue194
 t213 := Tryz.underlying195
 a213 := Tryz.isAgg195
 z213 := Tryz.sizeOf195
 t232 := Tryz.underlying221
 a232 := Tryz.isAgg221
 z232 := Tryz.sizeOf221
 v232 := Tryz.zeroValue221
 t233 := Tryz.underlying222
 a233 := Tryz.isAgg222
 z233 := Tryz.sizeOf222
 v233 := Tryz.zeroValue222
 g17 := by kernel_rfl
 g18 := by kernel_rfl
 g19 := by kernel_rfl
 i0 := by kernel_rfl
 i2 := by kernel_rfl
 i3 := by kernel_rfl
 i4 := by kernel_rfl
 i5 := by kernel_rfl
 i9 := by kernel_rfl
 i20 := by kernel_rfl
 i37 := by kernel_rfl
 i46 := by kernel_rfl
 i51 := by kernel_rfl
 i53 := by kernel_rfl
 i171 := by kernel_rfl
 i173 := by kernel_rfl
 i212 := by kernel_rfl
 i232 := by kernel_rfl
 i233 := by kernel_rfl
 m17 := by kernel_rfl
 m18 := by kernel_rfl
 m19 := by kernel_rfl }
open Go.RowKit Go.Sort Go.Lib in
theorem Tryz.strconv_Itoa (n : Int) (h0 : -9223372036854775808 <= n) (h1 : n <= 9223372036854775807) (w : World) (htab : Lib.TabIs Tryz.prog w "internal/strconv.uint64pow10" .u64 Lib.pow10Tab) :
  Calls Tryz.prog 83 #[.int .i64 n] w fun e w' => e = .returned (.string ⟨(Lib.itoa n).toArray⟩) /\ ∃ k os, w' = grow (w.drewN k) os := Any.strconv_Itoa Tryz.laysM171 n h0 h1 w htab
def Tryz.lays99_ren : Go.Shelf.Ren := ⟨fun|99 => 130|206 => 159|n => n, fun|9 => 9|4 => 4|3 => 3|n => n, fun|n => n⟩
theorem Tryz.lays99 : Go.Proofs.Lays.n99 Tryz.prog Tryz.lays99_ren := {
 mixed := by kernel_rfl
 f99 := Tryz.func130.trans (congrArg some (by kernel_rfl))
 f206 := Tryz.func159.trans (congrArg some (by kernel_rfl))
 t3 := Tryz.underlying3
 a3 := Tryz.isAgg3
 z3 := Tryz.sizeOf3
 v3 := Tryz.zeroValue3
 t4 := Tryz.underlying4
 a4 := Tryz.isAgg4
 z4 := Tryz.sizeOf4
 v4 := Tryz.zeroValue4
 t9 := Tryz.underlying9
 a9 := Tryz.isAgg9
 z9 := Tryz.sizeOf9
 v9 := Tryz.zeroValue9 }
open Go.RowKit Go.Lib in
theorem Tryz.strings_HasPrefix (s p : ByteArray) (w : World) :
  Calls Tryz.prog 130 #[.string s, .string p] w fun e w' => e = .returned (.bool (Lib.hasPrefix s.data.toList p.data.toList)) /\ w' = w := Any.strings_HasPrefix Tryz.lays99 s p w
def Tryz.lays157_ren : Go.Shelf.Ren := ⟨fun|157 => 137|229 => 162|199 => 163|261 => 191|311 => 212|312 => 213|n => n, fun|9 => 9|31 => 39|3 => 3|5 => 5|4 => 4|119 => 158|0 => 0|40 => 160|152 => 178|21 => 21|154 => 180|51 => 151|141 => 182|196 => 200|193 => 197|198 => 203|49 => 201|194 => 198|201 => 206|226 => 219|46 => 133|227 => 220|n => n, fun|0 => 1|6 => 2|n => n⟩
theorem Tryz.lays157 : Go.Proofs.Lays.n157 Tryz.prog Tryz.lays157_ren := {
 mixed := by kernel_rfl
 f157 := Tryz.func137.trans (congrArg some (by kernel_rfl))
 f199 := Tryz.func163.trans (congrArg some (by kernel_rfl))
 f229 := Tryz.func162.trans (congrArg some (by kernel_rfl))
 f261 := Tryz.func191.trans (congrArg some (by kernel_rfl))
 f311 := Tryz.func212.trans (congrArg some (by kernel_rfl))
 f312 := Tryz.func213.trans (congrArg some (by kernel_rfl))
 t0 := Tryz.underlying0
 a0 := Tryz.isAgg0
 z0 := Tryz.sizeOf0
 v0 := Tryz.zeroValue0
 t3 := Tryz.underlying3
 a3 := Tryz.isAgg3
 z3 := Tryz.sizeOf3
 v3 := Tryz.zeroValue3
 t4 := Tryz.underlying4
 a4 := Tryz.isAgg4
 z4 := Tryz.sizeOf4
 v4 := Tryz.zeroValue4
 t5 := Tryz.underlying5
 a5 := Tryz.isAgg5
 z5 := Tryz.sizeOf5
 v5 := Tryz.zeroValue5
 t9 := Tryz.underlying9
 a9 := Tryz.isAgg9
 z9 := Tryz.sizeOf9
 v9 := Tryz.zeroValue9
 t21 := Tryz.underlying21
 a21 := Tryz.isAgg21
 z21 := Tryz.sizeOf21
 v21 := Tryz.zeroValue21
 t31 := Tryz.underlying39
 a31 := Tryz.isAgg39
 z31 := Tryz.sizeOf39
 v31 := Tryz.zeroValue39
 t40 := Tryz.underlying160
 a40 := Tryz.isAgg160
 z40 := Tryz.sizeOf160
 v40 := Tryz.zeroValue160
 t46 := Tryz.underlying133
 a46 := Tryz.isAgg133
 z46 := Tryz.sizeOf133
 v46 := Tryz.zeroValue133
 t49 := Tryz.underlying201
 a49 := Tryz.isAgg201
 z49 := Tryz.sizeOf201
 v49 := Tryz.zeroValue201
 t51 := Tryz.underlying151
 a51 := Tryz.isAgg151
 z51 := Tryz.sizeOf151
 v51 := Tryz.zeroValue151
 t119 := Tryz.underlying158
 a119 := Tryz.isAgg158
 z119 := Tryz.sizeOf158
 t141 := Tryz.underlying182
 a141 := Tryz.isAgg182
 z141 := Tryz.sizeOf182
 v141 := Tryz.zeroValue182
 t152 := Tryz.underlying178
 a152 := Tryz.isAgg178
 z152 := Tryz.sizeOf178
 v152 := Tryz.zeroValue178
 t154 := Tryz.underlying180
 a154 := Tryz.isAgg180
 z154 := Tryz.sizeOf180
 v154 := Tryz.zeroValue180
 t193 := Tryz.underlying197
 a193 := Tryz.isAgg197
 z193 := Tryz.sizeOf197
 v193 := Tryz.zeroValue197
 t194 := Tryz.underlying198
 a194 := Tryz.isAgg198
 z194 := Tryz.sizeOf198
 v194 := Tryz.zeroValue198
 t196 := Tryz.underlying200
 a196 := Tryz.isAgg200
 z196 := Tryz.sizeOf200
 v196 := Tryz.zeroValue200
 t198 := Tryz.underlying203
 a198 := Tryz.isAgg203
 z198 := Tryz.sizeOf203
 v198 := Tryz.zeroValue203
 t201 := Tryz.underlying206
 a201 := Tryz.isAgg206
 z201 := Tryz.sizeOf206
 v201 := Tryz.zeroValue206
 t226 := Tryz.underlying219
 a226 := Tryz.isAgg219
 z226 := Tryz.sizeOf219
 v226 := Tryz.zeroValue219
 t227 := Tryz.underlying220
 a227 := Tryz.isAgg220
 z227 := Tryz.sizeOf220
 v227 := Tryz.zeroValue220
 g0 := by kernel_rfl
 g6 := by kernel_rfl }
open Go.RowKit Go.Lib in
theorem Tryz.strings_Fields (s : ByteArray) (w : World) (hs : s.size < 4294967281) (hascii : ∀ (j : Nat) b, s.data.toList[j]? = some b -> b.toNat < 128) (htab : Lib.TabIs Tryz.prog w "strings.asciiSpace" .u8 Lib.asciiSpaceTab) :
  Calls Tryz.prog 137 #[.string s] w fun e w' =>
   e = .returned (.slice (some ⟨w.heap.size, 0, none⟩) (Lib.fields s.data.toList).length (Lib.fields s.data.toList).length) /\ w' = w.alloc (.cells ((Lib.fields s.data.toList).map fun l => Value.string ⟨l.toArray⟩).toArray 9) := Any.strings_Fields Tryz.lays157 (by kernel_rfl) (by kernel_rfl) s w hs hascii htab
def Tryz.lays105_ren : Go.Shelf.Ren := ⟨fun|105 => 82|212 => 129|99 => 130|165 => 131|166 => 46|170 => 132|169 => 50|263 => 157|264 => 158|206 => 159|240 => 86|241 => 160|276 => 135|277 => 186|n => n, fun|9 => 9|3 => 3|4 => 4|20 => 20|0 => 0|46 => 133|109 => 134|5 => 5|72 => 75|76 => 84|51 => 151|146 => 152|53 => 154|148 => 155|70 => 73|37 => 43|75 => 83|127 => 118|164 => 139|80 => 87|n => n, fun|n => n⟩
theorem Tryz.lays105 : Go.Proofs.Lays.n105 Tryz.prog Tryz.lays105_ren := {
 mixed := by kernel_rfl
 f99 := Tryz.func130.trans (congrArg some (by kernel_rfl))
 f105 := Tryz.func82.trans (congrArg some (by kernel_rfl))
 f165 := Tryz.func131.trans (congrArg some (by kernel_rfl))
 f166 := Tryz.func46.trans (congrArg some (by kernel_rfl))
 f169 := Tryz.func50.trans (congrArg some (by kernel_rfl))
 f170 := Tryz.func132.trans (congrArg some (by kernel_rfl))
 f206 := Tryz.func159.trans (congrArg some (by kernel_rfl))
 f212 := Tryz.func129.trans (congrArg some (by kernel_rfl))
 f240 := Tryz.func86.trans (congrArg some (by kernel_rfl))
 f241 := Tryz.func160.trans (congrArg some (by kernel_rfl))
 f263 := Tryz.func157.trans (congrArg some (by kernel_rfl))
 f264 := Tryz.func158.trans (congrArg some (by kernel_rfl))
 f276 := Tryz.func135.trans (congrArg some (by kernel_rfl))
 f277 := Tryz.func186.trans (congrArg some (by kernel_rfl))
 t0 := Tryz.underlying0
 a0 := Tryz.isAgg0
 z0 := Tryz.sizeOf0
 v0 := Tryz.zeroValue0
 t3 := Tryz.underlying3
 a3 := Tryz.isAgg3
 z3 := Tryz.sizeOf3
 v3 := Tryz.zeroValue3
 t4 := Tryz.underlying4
 a4 := Tryz.isAgg4
 z4 := Tryz.sizeOf4
 v4 := Tryz.zeroValue4
 t5 := Tryz.underlying5
 a5 := Tryz.isAgg5
 z5 := Tryz.sizeOf5
 v5 := Tryz.zeroValue5
 t9 := Tryz.underlying9
 a9 := Tryz.isAgg9
 z9 := Tryz.sizeOf9
 v9 := Tryz.zeroValue9
 t20 := Tryz.underlying20
 a20 := Tryz.isAgg20
 z20 := Tryz.sizeOf20
 v20 := Tryz.zeroValue20
 t37 := Tryz.underlying43
 a37 := Tryz.isAgg43
 z37 := Tryz.sizeOf43
 v37 := Tryz.zeroValue43
 t46 := Tryz.underlying133
 a46 := Tryz.isAgg133
 z46 := Tryz.sizeOf133
 v46 := Tryz.zeroValue133
 t51 := Tryz.underlying151
 a51 := Tryz.isAgg151
 z51 := Tryz.sizeOf151
 v51 := Tryz.zeroValue151
 t53 := Tryz.underlying154
 a53 := Tryz.isAgg154
 z53 := Tryz.sizeOf154
 v53 := Tryz.zeroValue154
 t70 := Tryz.underlying73
 a70 := Tryz.isAgg73
 z70 := Tryz.sizeOf73
 v70 := Tryz.zeroValue73
 t72 := Tryz.underlying75
 a72 := Tryz.isAgg75
 z72 := Tryz.sizeOf75
 v72 := Tryz.zeroValue75
 t75 := Tryz.underlying83
 a75 := Tryz.isAgg83
 z75 := Tryz.sizeOf83
 v75 := Tryz.zeroValue83
 t76 := Tryz.underlying84
 a76 := Tryz.isAgg84
 z76 := Tryz.sizeOf84
 v76 := Tryz.zeroValue84
 t109 := Tryz.underlying134
 a109 := Tryz.isAgg134
 z109 := Tryz.sizeOf134
 v109 := Tryz.zeroValue134
 t127 := Tryz.underlying118
 a127 := Tryz.isAgg118
 z127 := Tryz.sizeOf118
 v127 := Tryz.zeroValue118
 t146 := Tryz.underlying152
 a146 := Tryz.isAgg152
 z146 := Tryz.sizeOf152
 v146 := Tryz.zeroValue152
 t148 := Tryz.underlying155
 a148 := Tryz.isAgg155
 z148 := Tryz.sizeOf155
 v148 := Tryz.zeroValue155
 t164 := Tryz.underlying139
 a164 := Tryz.isAgg139
 z164 := Tryz.sizeOf139
 v164 := Tryz.zeroValue139 }
theorem Tryz.Builder_Extra_105 : Builder.Extra Tryz.prog Tryz.lays105_ren := {
 sizeBuilder := by kernel_rfl
 liesBuilder := by kernel_rfl
 t5 := Tryz.underlying5
 a5 := Tryz.isAgg5
 z5 := Tryz.sizeOf5
 v5 := Tryz.zeroValue5
 infoByte := by kernel_rfl
 cellsByte := by kernel_rfl
 sizeByte := by kernel_rfl
 neB5 := by decide }
open Go.RowKit Go.Lib in
theorem Tryz.strings_Repeat (s : ByteArray) (c : Nat) (w : World) (hc : c <= 9223372036854775807) (hlen : s.size * c <= 140737488355328) :
  Calls Tryz.prog 82 #[.string s, .int .i64 c] w fun e w' => e = .returned (.string ⟨(Lib.repeatL s.data.toList c).toArray⟩) /\ Below w.heap.size w w' := Any.strings_Repeat Tryz.lays105 Tryz.Builder_Extra_105 s c w hc hlen
end Go.Proofs
end
section
namespace Go.Av
open Go.Bl Go.RowKit
structure Str where
 l : List UInt8
deriving DecidableEq
instance : Enc Str := encOne (fun s => Q2 s.l) (fun _ => rfl) (fun _ => Wj)
section
variable {P : Program} {G : Nat -> DV}
theorem keep_below {w w' : World} (h : Below w.heap.size w w') : Keep w w' := ⟨h.os, h.tape, h.output, h.size, h.block⟩
theorem pure_of {f : FuncId} {us : List Value} {v : Value} {args : List DV} {d : DV} (ha : args = us.map .sc) (hd : d = .sc v) (h : ∀ (X : AX), GOk G X -> Calls P f us.toArray X.w fun e w' => e = .returned v /\ Below X.w.heap.size X.w w') : Pure P G f args d := fun B X vs hS hσ hB hG hv => by
 subst ha;subst hd
 have hvs : vs = us.toArray := by
  obtain ⟨h1, h2⟩ := hv
  apply Array.ext
  ·simpa using h1
  ·intro j hj1 hj2
   have hj : j < us.length := by simpa using hj2
   have := VRep.sc_eq (h2 j _ (by simp [hj];rfl))
   simpa [Array.getD_eq_getD_getElem?, hj1] using this
 subst hvs
 refine (h X hG).mono ?_
 rintro e w' ⟨rfl, hb⟩
 exact ⟨_, rfl, X.inW w', rfl, hS.inW (keep_below hb), WExt.inW (keep_below hb), _, .sc _, rfl, hσ⟩
theorem pure_of_tup {f : FuncId} {us ws : List Value} {args ds : List DV} (ha : args = us.map .sc) (hd : ds = ws.map .sc) (h : ∀ (X : AX), GOk G X -> Calls P f us.toArray X.w fun e w' => e = .returned (.tuple ws.toArray) /\ Below X.w.heap.size X.w w') : Pure P G f args (.tup ds) := fun B X vs hS hσ hB hG hv => by
 subst ha;subst hd
 have hvs : vs = us.toArray := by
  obtain ⟨h1, h2⟩ := hv
  apply Array.ext
  ·simpa using h1
  ·intro j hj1 hj2
   have hj : j < us.length := by simpa using hj2
   have := VRep.sc_eq (h2 j _ (by simp [hj];rfl))
   simpa [Array.getD_eq_getD_getElem?, hj1] using this
 subst hvs
 refine (h X hG).mono ?_
 rintro e w' ⟨rfl, hb⟩
 refine ⟨_, rfl, X.inW w', rfl, hS.inW (keep_below hb), WExt.inW (keep_below hb), _, .tup _ _ (by simp) fun j d hj => ?_, rfl, hσ⟩
 cases hw : ws[j]? with
 | none => simp [hw] at hj
 | some u =>
  simp [hw] at hj;subst hj
  have : ws.toArray.getD j undef = u := by simp [Array.getD_eq_getD_getElem?, hw]
  rw [this];exact .sc _
theorem tab_is {X : AX} (hG : GOk G X) {g : Nat} {name : String} {k : IntKind} {zs : List Int} (hn : P.globalNamed name = some g) (hg : G g = .ep (zs.map fun z => .sc (.int k z))) : Lib.TabIs P X.w name k zs := by
 obtain ⟨⟨_, h1⟩, h2⟩ := hG g
 obtain ⟨T, hT⟩ := h1 _ hg
 rw [hg] at h2
 obtain ⟨b, o, fv, he, _, h3, h4⟩ := h2.ep_inv
 cases he
 have hT : X.w.shape? g = some (T, _) := hT
 unfold World.shape? at hT
 split at hT
 ·rename_i c el fr hc
  simp only [Option.some.injEq, Prod.mk.injEq, List.length_map] at hT
  obtain ⟨_, hsz⟩ := hT
  unfold Lib.TabIs World.var?
  rw [hn]
  simp only [Option.bind_some, hc, Option.some.injEq]
  apply Array.ext
  ·simp [hsz]
  ·intro j hj1 hj2
   have hj : j < zs.length := by simpa using hj2
   have hcell := (AX.imm_lt (h3 j (by simpa using hj))).2.2.2
   have hrep := VRep.sc_eq (h4 j _ (by simp [hj];rfl))
   rw [Nat.zero_add, World.cell?, hc] at hcell
   simp [hj1, hrep] at hcell
   simpa using hcell
 ·cases hT
end
end Go.Av
namespace Go.Proofs
open Go.Av Go.Bl Go.RowKit
variable {G : Nat -> DV}
theorem join_c (ls : List Str) (sep : List UInt8) (hN : ls.length <= 140737488355328) (hlen : (Lib.join (ls.map (·.l)) sep).length <= 140737488355328) : Go.Av.Pure Tryz.prog G 134 [Qo ls, Q2 sep] (Q2 (Lib.join (ls.map (·.l)) sep)) := fun B X vs hS hσ hB hG hv => by
 obtain ⟨h1, h2⟩ := hv
 have e1 := h2 0 _ rfl
 have e2 := VRep.sc_eq (h2 1 _ rfl)
 obtain ⟨a, len, cap, f, e3, g1, g2, g3, g4, g5⟩ := e1.sl_inv
 have hes : Enc.es Str = 1 := rfl
 have hl : len = ls.length := by
  have := Qx ls
  rw [hes, Nat.mul_one] at this
  rw [hes] at g1;omega
 subst hl
 have hvs : vs = #[.slice a ls.length cap, .string ⟨sep.toArray⟩] := by
  apply Array.ext
  ·simpa using h1
  ·intro j hj1 hj2
   have hj : j < 2 := by simpa using hj2
   match j, hj with
   | 0, _ => simpa [Array.getD_eq_getD_getElem?, hj1] using e3
   | 1, _ => simpa [Array.getD_eq_getD_getElem?, hj1] using e2
 subst hvs
 have hxs : (ls.map fun s => (⟨s.l.toArray⟩ : ByteArray)).map (fun b : ByteArray => b.data.toList) = ls.map (·.l) := by
  rw [List.map_map];exact List.map_congr_left fun s _ => by simp
 have key : Calls Tryz.prog 134 #[.slice a ls.length cap, .string ⟨sep.toArray⟩] X.w fun e w' => e = .returned (.string ⟨(Lib.join (ls.map (·.l)) sep).toArray⟩) /\ Below X.w.heap.size X.w w' := by
  rcases g4 with g4|⟨b, o, rfl, g6⟩
  ·have : ls = [] := by
    have := Qx ls
    rw [g4] at this
    cases ls with
    | nil => rfl
    | cons x r => simp [hes] at this
   subst this
   exact (Tryz.strings_Join_none a cap ⟨sep.toArray⟩ X.w).mono fun e w' ⟨he, hw⟩ => ⟨he, hw ▸ Below.refl _ _⟩
  ·by_cases h0 : ls = []
   ·subst h0
    exact (Tryz.strings_Join_none _ cap ⟨sep.toArray⟩ X.w).mono fun e w' ⟨he, hw⟩ => ⟨he, hw ▸ Below.refl _ _⟩
   ·have hpos : 0 < ls.length := List.length_pos_iff.2 h0
    have hel := Qx ls
    rw [hes, Nat.mul_one] at hel
    have hcell : ∀ (j : Nat) x, (ls.map fun s => (⟨s.l.toArray⟩ : ByteArray))[j]? = some x -> X.w.cell? ⟨b, o + j, none⟩ = some (.string x) := fun j x hj => by
     rw [List.getElem?_map] at hj
     cases hlj : ls[j]? with
     | none => simp [hlj] at hj
     | some s =>
      simp [hlj] at hj;subst hj
      have hjl := (List.getElem?_eq_some_iff.1 hlj).1
      have hen : (Wf ls)[j]? = some (Q2 s.l) := by
       have := encs_at ls j hjl 0 (by decide)
       rw [hes] at this
       have hs : ls[j] = s := (List.getElem?_eq_some_iff.1 hlj).2
       rw [hs] at this
       simpa using this.trans (show (Enc.enc s : List DV)[0]? = some (Q2 s.l) from rfl)
      have c1 := (AX.imm_lt (g6 j (by omega))).2.2.2
      rw [c1, VRep.sc_eq (g5 j _ hen)]
    have hbk := World.block_lt_of_cell? _ _ ((AX.imm_lt (g6 0 (by omega))).2.2.2)
    have := Tryz.strings_Join b o cap (ls.map fun s => (⟨s.l.toArray⟩ : ByteArray)) ⟨sep.toArray⟩ X.w hcell hbk (by simpa using hN) (by simpa using g2) (by rw [hxs];simpa using hlen)
    rw [hxs] at this
    simpa using this
 refine key.mono ?_
 rintro e w' ⟨rfl, hb⟩
 exact ⟨_, rfl, X.inW w', rfl, hS.inW (keep_below hb), WExt.inW (keep_below hb), _, .sc _, rfl, hσ⟩
theorem repeat_c (s : List UInt8) (c : Nat) (hc : c <= 9223372036854775807) (hlen : s.length * c <= 140737488355328) : Go.Av.Pure Tryz.prog G 82 [Q2 s, .i c] (Q2 (Lib.repeatL s c)) :=
 pure_of (us := [.string ⟨s.toArray⟩, .int .i64 c]) rfl rfl fun X _ => by simpa using Tryz.strings_Repeat ⟨s.toArray⟩ c X.w hc (by rw [Z1];exact hlen)
theorem hasPrefix_c (s p : List UInt8) : Go.Av.Pure Tryz.prog G 130 [Q2 s, Q2 p] (.b (Lib.hasPrefix s p)) :=
 pure_of (us := [.string ⟨s.toArray⟩, .string ⟨p.toArray⟩]) rfl rfl fun X _ => (Tryz.strings_HasPrefix ⟨s.toArray⟩ ⟨p.toArray⟩ X.w).mono fun e w' ⟨he, hw⟩ => ⟨by simpa using he, hw ▸ Below.refl _ _⟩
theorem cutPrefix_c (s p : List UInt8) : Go.Av.Pure Tryz.prog G 201 [Q2 s, Q2 p] (.tup [Q2 (Lib.trimPrefix s p), .b (Lib.hasPrefix s p)]) :=
 pure_of_tup (us := [.string ⟨s.toArray⟩, .string ⟨p.toArray⟩]) (ws := [.string ⟨(Lib.trimPrefix s p).toArray⟩, .bool (Lib.hasPrefix s p)]) rfl rfl fun X _ => (Tryz.strings_CutPrefix ⟨s.toArray⟩ ⟨p.toArray⟩ X.w).mono fun e w' ⟨he, hw⟩ => ⟨by simpa using he, hw ▸ Below.refl _ _⟩
theorem formatBool_c (b : Bool) : Go.Av.Pure Tryz.prog G 88 [.b b] (Q2 (if b = true then [116, 114, 117, 101] else [102, 97, 108, 115, 101])) :=
 pure_of (us := [.bool b]) rfl rfl fun X _ => (Tryz.strconv_FormatBool b X.w).mono fun e w' ⟨he, hw⟩ => ⟨by rw [he];cases b <;> rfl, hw ▸ Below.refl _ _⟩
def pow10T : DV := .ep (Lib.pow10Tab.map fun z => .sc (.int .u64 z))
def spaceT : DV := .ep (Lib.asciiSpaceTab.map fun z => .sc (.int .u8 z))
theorem grown_bel (w : World) (k : Nat) (os : Array Obj) : Below w.heap.size w (Sort.grow (w.drewN k) os) :=
 ⟨rfl, rfl, rfl, by simp [Sort.grow, World.drewN], fun j hj => by simp [Sort.grow, World.drewN, Array.getElem?_append, hj]⟩
theorem itoa_c (hG : G 6 = pow10T) (n : Int) (h : -9223372036854775808 <= n /\ n <= 9223372036854775807) : Go.Av.Pure Tryz.prog G 83 [.i n] (Q2 (Lib.itoa n)) :=
 pure_of (us := [.int .i64 n]) rfl rfl fun X hX =>
  (Tryz.strconv_Itoa n h.1 h.2 X.w (tab_is hX (by kernel_rfl) hG)).mono fun e w' ⟨he, k, os, hw⟩ => ⟨he, hw ▸ grown_bel _ _ _⟩
theorem fields_own (hG : G 1 = spaceT) (s : List UInt8) (hs : s.length < 4294967281) (ha : ∀ b ∈ s, b.toNat < 128) : Own Tryz.prog G 137 [Q2 s] (Lib.fields s).length 1 (Wf ((Lib.fields s).map Str.mk)) := fun B X vs hS hσ hB hGk hv => by
 obtain ⟨h1, h2⟩ := hv
 have e2 := VRep.sc_eq (h2 0 _ rfl)
 have hvs : vs = #[.string ⟨s.toArray⟩] := by
  apply Array.ext
  ·simpa using h1
  ·intro j hj1 hj2
   have hj : j < 1 := by simpa using hj2
   match j, hj with
   | 0, _ => simpa [Array.getD_eq_getD_getElem?, hj1] using e2
 subst hvs
 refine (Tryz.strings_Fields ⟨s.toArray⟩ X.w (by rw [Z1];exact hs) (fun j b hb => ha b (by simpa using List.mem_of_getElem? hb)) (tab_is hGk (by kernel_rfl) hG)).mono ?_
 rintro e w' ⟨rfl, rfl⟩
 refine ⟨_, rfl, ?_⟩
 have hls : (⟨s.toArray⟩ : ByteArray).data.toList = s := by simp
 rw [hls]
 have := post_new (K := fun d' σ' => ∃ g, B < g /\ d' = .ref 0 g 0 (Lib.fields s).length 1 /\ σ' = [.row g (Wf ((Lib.fields s).map Str.mk))]) (X := X) (w' := X.w.alloc (.cells ((Lib.fields s).map fun l => Value.string ⟨l.toArray⟩).toArray 9)) (v := fun b => .slice (some ⟨b, 0, none⟩) (Lib.fields s).length (Lib.fields s).length) (d := fun g => .ref X.σ.length g 0 (Lib.fields s).length 1) (ds := Wf ((Lib.fields s).map Str.mk)) hS hB (Keep.alloc _ _) (Nat.le_refl _) (heap_alloc_new _ _) (by rw [Qx];simp [show Enc.es Str = 1 from rfl]) (fun j d hj => ?_) (fun L h1 h2' => ?_) (fun g hg => ⟨g, hg, by rw [hσ];rfl, by rw [hσ];rfl⟩)
 ·exact this
 ·have hlt : j < (Lib.fields s).length := by have := (List.getElem?_eq_some_iff.1 hj).1;rw [Qx] at this;simpa [show Enc.es Str = 1 from rfl] using this
  have hen := encs_at ((Lib.fields s).map Str.mk) j (by simpa using hlt) 0 (by decide)
  have hes : Enc.es Str = 1 := rfl
  rw [hes, Nat.mul_one, Nat.add_zero, hj] at hen
  have hd : d = Q2 (Lib.fields s)[j] := by
   have e0 : (Enc.enc (((Lib.fields s).map Str.mk)[j]'(by simpa using hlt)) : List DV)[0]? = some (Q2 (Lib.fields s)[j]) := by rw [List.getElem_map];rfl
   exact Option.some.inj (hen.trans e0)
  subst hd
  refine ⟨rfl, ?_⟩
  have : ((Lib.fields s).map fun l => Value.string ⟨l.toArray⟩).toArray.getD j undef = .string ⟨(Lib.fields s)[j].toArray⟩ := by simp [Array.getD_eq_getD_getElem?, hlt]
  rw [this];exact .sc _
 ·refine .ref _ _ _ _ _ _ _ _ h1 fun ob hob => ?_
  rw [h2'] at hob
  rw [<- Option.some.inj hob]
  exact ⟨_, _, rfl, Nat.le_refl _, .inr ⟨rfl, by simp⟩⟩
theorem trimLeft_c (s cs : List UInt8) (hcs : cs.length < 4294967281) (ha : ∀ b ∈ cs, b.toNat < 128) : Go.Av.Pure Tryz.prog G 102 [Q2 s, Q2 cs] (Q2 (Lib.trimLeftS s cs)) :=
 pure_of (us := [.string ⟨s.toArray⟩, .string ⟨cs.toArray⟩]) rfl rfl fun X _ => by
  have := Any.strings_TrimLeft_laid Tryz.lays161 (by kernel_rfl) ⟨s.toArray⟩ ⟨cs.toArray⟩ X.w (by rw [Z1];exact hcs) (fun j b hb => ha b (by simpa using List.mem_of_getElem? hb))
  simp only [List.toList_toArray] at this
  exact this
theorem trim_c (s cs : List UInt8) (hs : s.length <= 9223372036854775807) (hcs : cs.length < 4294967281) (ha : ∀ b ∈ cs, b.toNat < 128) : Go.Av.Pure Tryz.prog G 148 [Q2 s, Q2 cs] (Q2 (Lib.trimS s cs)) :=
 pure_of (us := [.string ⟨s.toArray⟩, .string ⟨cs.toArray⟩]) rfl rfl fun X _ => by
  have := Any.strings_Trim_laid Tryz.lays160 (by kernel_rfl) ⟨s.toArray⟩ ⟨cs.toArray⟩ X.w (by rw [Z1];exact hs) (by rw [Z1];exact hcs) (fun j b hb => ha b (by simpa using List.mem_of_getElem? hb))
  simp only [List.toList_toArray] at this
  exact this
theorem bwb (w : World) (e : TypeId) (s : ByteArray) : Below w.heap.size w (Lib.bytesWorld w e s) :=
 ⟨rfl, rfl, rfl, by rw [Lib.bytesWorld_size];exact Nat.le_succ _, fun k hk => Lib.bytesWorld_at_old w e s k hk⟩
theorem atoi_c (s : List UInt8) (n : Int) (hl : s.length <= 18) (h : Lib.atoi s = some n) : Go.Av.Pure Tryz.prog G 108 [Q2 s] (.tup [.i n, .sc .nilIface]) :=
 pure_of_tup (us := [.string ⟨s.toArray⟩]) (ws := [.int .i64 n, .nilIface]) rfl rfl fun X _ => (Tryz.strconv_Atoi ⟨s.toArray⟩ n (by rw [Z1];exact hl) (by simpa using h) X.w).mono fun e w' ⟨he, t, hw⟩ => ⟨he, by subst hw;exact (show Below X.w.heap.size X.w (Lib.bytesWorld X.w 5 t) from bwb _ _ _)⟩
end Go.Proofs
end
