/-
  == and != over arrays and structs of numbers, truth values and strings.
-/
import Derived.Test.YtecbcpilcjmhlaaDoorAvG
import Derived.DeepKeys
namespace Go.Av
open Classical
set_option linter.unusedSimpArgs false
set_option linter.unusedVariables false
set_option linter.constructorNameAsVariable false

inductive Sh | b | i | s
  deriving DecidableEq
def shFit : Sh → Value → Value → Prop
  | .b, u, v => ∃ x y, u = .bool x ∧ v = .bool y
  | .i, u, v => ∃ k x y, u = .int k x ∧ v = .int k y
  | .s, u, v => ∃ x y, u = .string x ∧ v = .string y
structure Fits (sh : List Sh) (xs ys : Array Value) : Prop where
  x : xs.size = sh.length
  y : ys.size = sh.length
  f : ∀ i s, sh[i]? = some s → shFit s (xs.getD i undef) (ys.getD i undef)
def SameTo (n off : Nat) (xs ys : Array Value) : Prop := ∀ j, j < n → xs.getD (off + j) undef = ys.getD (off + j) undef

theorem Fits.sub {sh sh' : List Sh} {xs ys : Array Value} (h : Fits sh xs ys) {off c : Nat} (hs : (sh.drop off).take c = sh') (hl : sh'.length = c) (hc : 0 < c) : Fits sh' (xs.extract off (off + c)) (ys.extract off (off + c)) ∧ off + c ≤ sh.length := by
  have hle : off + c ≤ sh.length := by
    have : sh'.length ≤ sh.length - off := by rw [← hs, List.length_take, List.length_drop]; omega
    omega
  have hx := h.x; have hy := h.y
  refine ⟨⟨by simp; omega, by simp; omega, fun i s hi => ?_⟩, hle⟩
  have hil : i < c := by have := (List.getElem?_eq_some_iff.1 hi).1; omega
  have := h.f (off + i) s (by rw [← hs, List.getElem?_take, if_pos hil, List.getElem?_drop] at hi; exact hi)
  simp only [Array.getD_eq_getD_getElem?, Array.getElem?_extract] at this ⊢
  rw [if_pos (by omega), if_pos (by omega)]
  exact this
theorem getD_extract {xs : Array Value} {off c j : Nat} (hj : j < c) (h : off + c ≤ xs.size) : (xs.extract off (off + c)).getD j undef = xs.getD (off + j) undef := by
  simp only [Array.getD_eq_getD_getElem?, Array.getElem?_extract]
  rw [if_pos (by omega)]

/-- Two values of this type are compared cell by cell. -/
class EqIn (P : Program) (t : TypeId) (agg : outParam Bool) (sh : outParam (List Sh)) (m : outParam Nat) : Prop where
  h : ∀ (d : Nat) (w : World) (xs ys : Array Value), m ≤ d → Fits sh xs ys → ∃ r : Bool, (Op.equalIn d t (if agg then .agg xs else xs.getD 0 undef) (if agg then .agg ys else ys.getD 0 undef)).run P w = .ok r w ∧ (r = true ↔ SameTo sh.length 0 xs ys)
section
variable {P : Program}
theorem eqIn_int {t : TypeId} {k : IntKind} {z : Nat} [ht : TyI P t (.int k) false z] : EqIn P t false [.i] 1 := ⟨fun d w xs ys hd hf => by
  obtain ⟨k', x, y, h1, h2⟩ := hf.f 0 .i rfl
  obtain ⟨d, rfl⟩ : ∃ e, d = e + 1 := ⟨d - 1, by omega⟩
  refine ⟨x == y, by rw [h1, h2]; exact run_equalIn_int w d t k' k x y ht.u, ?_⟩
  constructor
  · intro h j hj
    have : j = 0 := by simp at hj; omega
    subst this
    rw [Nat.zero_add, h1, h2]; simp at h; rw [h]
  · intro h
    have := h 0 (by simp)
    rw [Nat.zero_add, h1, h2] at this
    simpa using this⟩
theorem eqIn_bool {t : TypeId} {z : Nat} [ht : TyI P t .bool false z] : EqIn P t false [.b] 1 := ⟨fun d w xs ys hd hf => by
  obtain ⟨x, y, h1, h2⟩ := hf.f 0 .b rfl
  obtain ⟨d, rfl⟩ : ∃ e, d = e + 1 := ⟨d - 1, by omega⟩
  refine ⟨x == y, by rw [h1, h2]; exact run_equalIn_bool w d t x y ht.u, ?_⟩
  constructor
  · intro h j hj
    have : j = 0 := by simp at hj; omega
    subst this
    rw [Nat.zero_add, h1, h2]; simp at h; rw [h]
  · intro h
    have := h 0 (by simp)
    rw [Nat.zero_add, h1, h2] at this
    simpa using this⟩
theorem eqIn_string {t : TypeId} {z : Nat} [ht : TyI P t .string false z] : EqIn P t false [.s] 1 := ⟨fun d w xs ys hd hf => by
  obtain ⟨x, y, h1, h2⟩ := hf.f 0 .s rfl
  obtain ⟨d, rfl⟩ : ∃ e, d = e + 1 := ⟨d - 1, by omega⟩
  have hxy : (x.toList == y.toList) = true ↔ x = y := by
    rw [ByteArray.toList_eq, ByteArray.toList_eq]
    obtain ⟨x⟩ := x; obtain ⟨y⟩ := y
    simp
  refine ⟨x.toList == y.toList, by rw [h1, h2]; exact run_equalIn_string w d t x y ht.u, ?_⟩
  rw [hxy]
  constructor
  · intro h j hj
    have : j = 0 := by simp at hj; omega
    subst this
    rw [Nat.zero_add, h1, h2, h]
  · intro h
    have := h 0 (by simp)
    rw [Nat.zero_add, h1, h2] at this
    simpa using this⟩

theorem eqIn_step {e : TypeId} {de : TypeDesc} {agg : Bool} {sh sh' : List Sh} {c m d off : Nat} {xs ys : Array Value} (he : EqIn P e agg sh' m) (ht : TyI P e de agg c) (hl : sh'.length = c) (hc : 0 < c) (hm : m ≤ d) (hf : Fits sh xs ys) (hs : (sh.drop off).take c = sh') (w : World) :
    ∃ a b r, (part e xs off).run P w = .ok a w ∧ (part e ys off).run P w = .ok b w ∧ (Op.equalIn d e a b).run P w = .ok r w ∧ (r = true ↔ SameTo c off xs ys) := by
  obtain ⟨hsub, hle⟩ := hf.sub hs hl hc
  have hx := hf.x; have hy := hf.y
  obtain ⟨r, h1, h2⟩ := he.h d w _ _ hm hsub
  refine ⟨_, _, r, run_part ht (off := off) (by omega) w, run_part ht (off := off) (by omega) w, ?_, ?_⟩
  · cases agg
    · simp only [Bool.false_eq_true, if_false] at h1 ⊢
      rw [getD_extract hc (by omega), getD_extract hc (by omega)] at h1
      exact h1
    · exact h1
  · rw [h2]
    constructor
    · intro h j hj
      have := h j (by omega)
      rw [Nat.zero_add, getD_extract hj (by omega), getD_extract hj (by omega)] at this
      exact this
    · intro h j hj
      rw [Nat.zero_add, getD_extract (by omega) (by omega), getD_extract (by omega) (by omega)]
      exact h j (by omega)

theorem run_items {e : TypeId} {de : TypeDesc} {agg : Bool} {sh sh' : List Sh} {c m d : Nat} {xs ys : Array Value} (he : EqIn P e agg sh' m) (ht : TyI P e de agg c) (hl : sh'.length = c) (hc : 0 < c) (hm : m ≤ d) (hf : Fits sh xs ys) (w : World) : ∀ (is : List Nat), (∀ i ∈ is, (sh.drop (i * c)).take c = sh') →
    ∃ r : Bool, (Op.eqItems d e c xs ys is).run P w = .ok r w ∧ (r = true ↔ ∀ i ∈ is, SameTo c (i * c) xs ys)
  | [], _ => ⟨true, rfl, by simp⟩
  | i :: is, h => by
    obtain ⟨a, b, r, h1, h2, h3, h4⟩ := eqIn_step he ht hl hc hm hf (h i (by simp)) w
    obtain ⟨r', h5, h6⟩ := run_items he ht hl hc hm hf w is fun i hi => h i (by simp [hi])
    simp only [Op.eqItems, Sem.run_bind, h1, h2, h3, Result.andThen_ok]
    cases r
    · refine ⟨false, by simp, ⟨fun h => by simp at h, fun h => ?_⟩⟩
      exact absurd (h4.2 (h i (by simp))) (by simp)
    · refine ⟨r', by simpa using h5, ?_⟩
      rw [h6]
      exact ⟨fun h j hj => by rcases List.mem_cons.1 hj with rfl | hj; exact h4.1 rfl; exact h j hj, fun h j hj => h j (by simp [hj])⟩

theorem eqIn_array {t e : TypeId} {de : TypeDesc} {agg : Bool} {n z c m : Nat} {sh sh' : List Sh} (ht : TyI P t (.array n e) true z) (hte : TyI P e de agg c) (he : EqIn P e agg sh' m) (hl : sh'.length = c) (hc : 0 < c) (hz : sh.length = n * c) (hsh : ((List.range n).all fun i => decide ((sh.drop (i * c)).take c = sh')) = true) : EqIn P t true sh (m + 1) := ⟨fun d w xs ys hd hf => by
  obtain ⟨d, rfl⟩ : ∃ e, d = e + 1 := ⟨d - 1, by omega⟩
  have hi : ∃ i, P.info? e = some i ∧ i.size = c := by
    have := hte.s
    cases h : P.info? e with
    | none => simp [h] at this
    | some i => exact ⟨i, rfl, by simpa [h] using this⟩
  obtain ⟨i, hi, hsz⟩ := hi
  have hcell : P.cellsOf e = c := by simp [Program.cellsOf, hi, hsz]
  obtain ⟨r, h1, h2⟩ := run_items (d := d) he hte hl hc (by omega) hf w (List.range n) fun i hi => by simpa using List.all_eq_true.1 hsh i hi
  refine ⟨r, by simp only [if_true]; rw [run_equalIn_array w d xs ys ht.u hi, hcell]; exact h1, ?_⟩
  rw [h2]
  constructor
  · intro h j hj
    have hj' : j < n * c := by omega
    have h1 : j / c < n := Nat.div_lt_of_lt_mul (by rw [Nat.mul_comm]; exact hj')
    have := h (j / c) (List.mem_range.2 h1) (j % c) (Nat.mod_lt _ hc)
    rw [Nat.mul_comm, Nat.div_add_mod] at this
    rw [Nat.zero_add]; exact this
  · intro h i hi j hj
    have hin := List.mem_range.1 hi
    have : i * c + j < n * c := by
      have : (i + 1) * c ≤ n * c := Nat.mul_le_mul_right _ hin
      rw [Nat.add_one_mul] at this; omega
    have := h (i * c + j) (by omega)
    rwa [Nat.zero_add] at this⟩

/-- The fields of a struct, each compared cell by cell. -/
inductive EqFs (P : Program) (sh : List Sh) (m : Nat) : List Field → List (Nat × Nat) → Prop
  | nil : EqFs P sh m [] []
  | cons {f : Field} {fs : List Field} {pl : List (Nat × Nat)} {de : TypeDesc} {agg : Bool} {sh' : List Sh} {c m' off : Nat} : f.name ≠ "_" → f.offset = off → TyI P f.type de agg c → EqIn P f.type agg sh' m' → sh'.length = c → 0 < c → m' ≤ m → (sh.drop off).take c = sh' → EqFs P sh m fs pl → EqFs P sh m (f :: fs) ((off, c) :: pl)

theorem run_fields {sh : List Sh} {m d : Nat} {xs ys : Array Value} (hm : m ≤ d) (hf : Fits sh xs ys) (w : World) {fs : List Field} {pl : List (Nat × Nat)} (h : EqFs P sh m fs pl) :
    ∃ r : Bool, (Op.eqFields d xs ys fs).run P w = .ok r w ∧ (r = true ↔ ∀ p ∈ pl, SameTo p.2 p.1 xs ys) := by
  induction h with
  | nil => exact ⟨true, rfl, by simp⟩
  | @cons f fs pl de agg sh' c m' off h1 h2 h3 h4 h5 h6 h7 h8 _ ih =>
    subst h2
    obtain ⟨a, b, r, g1, g2, g3, g4⟩ := eqIn_step h4 h3 h5 h6 (Nat.le_trans h7 hm) hf h8 w
    obtain ⟨r', g5, g6⟩ := ih
    simp only [Op.eqFields, Sem.run_bind, g1, g2, g3, Result.andThen_ok, ne_eq, h1, not_false_eq_true, if_true]
    cases r
    · refine ⟨false, by simp, ⟨fun h => by simp at h, fun h => ?_⟩⟩
      exact absurd (g4.2 (h (f.offset, c) (by simp))) (by simp)
    · refine ⟨r', by simpa using g5, ?_⟩
      rw [g6]
      exact ⟨fun h j hj => by rcases List.mem_cons.1 hj with rfl | hj; exact g4.1 rfl; exact h j hj, fun h j hj => h j (by simp [hj])⟩

theorem eqIn_struct {t : TypeId} {fs : List Field} {pl : List (Nat × Nat)} {m : Nat} {sh : List Sh} (hu : P.underlying t = some (.struct fs.toArray)) (hst : P.stoodInHeld t = false) (h : EqFs P sh m fs pl)
    (hcov : ((List.range sh.length).all fun j => pl.any fun p => decide (p.1 ≤ j ∧ j < p.1 + p.2)) = true) (hin : (pl.all fun p => decide (p.1 + p.2 ≤ sh.length)) = true) : EqIn P t true sh (m + 1) := ⟨fun d w xs ys hd hf => by
  obtain ⟨d, rfl⟩ : ∃ e, d = e + 1 := ⟨d - 1, by omega⟩
  have hfs : P.fieldsOf t = fs.toArray := by simp [Program.fieldsOf, hu]
  obtain ⟨r, h1, h2⟩ := run_fields (d := d) (by omega) hf w h
  refine ⟨r, by simp only [if_true]; rw [run_equalIn_struct w d t xs ys (by rw [hfs]; exact hu) hst, hfs]; exact h1, ?_⟩
  rw [h2]
  constructor
  · intro h j hj
    have := List.all_eq_true.1 hcov j (List.mem_range.2 hj)
    obtain ⟨p, hp, hpj⟩ := List.any_eq_true.1 this
    simp only [decide_eq_true_eq] at hpj
    have := h p hp (j - p.1) (by omega)
    rw [show p.1 + (j - p.1) = 0 + j by omega] at this
    exact this
  · intro h p hp j hj
    have := List.all_eq_true.1 hin p hp
    simp only [decide_eq_true_eq] at this
    have := h (p.1 + j) (by omega)
    rwa [Nat.zero_add] at this⟩

/-- .. and the program may compare two values of it as they are. -/
class EqG (P : Program) (t : TypeId) (sh : outParam (List Sh)) : Prop where
  h : ∃ m, m ≤ 10000 ∧ EqIn P t true sh m
  g : P.eqGuardType P.depth t = false

def eqD : List Sh → List DV → List DV → Option Bool
  | [], [], [] => some true
  | .i :: sh, .sc (.int k a) :: r, .sc (.int k' b) :: r' => if k = k' then (match eqD sh r r' with | some t => some (decide (a = b) && t) | none => none) else none
  | .b :: sh, .sc (.bool a) :: r, .sc (.bool b) :: r' => match eqD sh r r' with | some t => some (decide (a = b) && t) | none => none
  | .s :: sh, .sc (.string a) :: r, .sc (.string b) :: r' => match eqD sh r r' with | some t => some (decide (a = b) && t) | none => none
  | _, _, _ => none

theorem sameTo_cons {xs ys : List Value} {u v : Value} {n : Nat} : SameTo (n + 1) 0 (u :: xs).toArray (v :: ys).toArray ↔ u = v ∧ SameTo n 0 xs.toArray ys.toArray := by
  constructor
  · intro h
    refine ⟨by simpa using h 0 (by omega), fun j hj => ?_⟩
    have := h (j + 1) (by omega)
    simpa [Array.getD_eq_getD_getElem?] using this
  · rintro ⟨h1, h2⟩ j hj
    cases j with
    | zero => simpa using h1
    | succ j => have := h2 j (by omega); simpa [Array.getD_eq_getD_getElem?] using this

theorem eqD_spec {L : Lay} : ∀ (sh : List Sh) (cs ds : List DV) (t : Bool) (us vs : List Value), eqD sh cs ds = some t → us.length = cs.length → vs.length = ds.length → (∀ j d, cs[j]? = some d → VRep L d (us.toArray.getD j undef)) → (∀ j d, ds[j]? = some d → VRep L d (vs.toArray.getD j undef)) →
    Fits sh us.toArray vs.toArray ∧ (t = true ↔ SameTo sh.length 0 us.toArray vs.toArray) := by
  intro sh
  have cons : ∀ (s : Sh) (sh : List Sh) (u v : Value) (us vs : List Value) (t b : Bool), shFit s u v → (b = true ↔ u = v) → Fits sh us.toArray vs.toArray ∧ (t = true ↔ SameTo sh.length 0 us.toArray vs.toArray) →
      Fits (s :: sh) (u :: us).toArray (v :: vs).toArray ∧ ((b && t) = true ↔ SameTo (s :: sh).length 0 (u :: us).toArray (v :: vs).toArray) := fun s sh u v us vs t b h1 h2 ⟨h3, h4⟩ => by
    refine ⟨⟨by have := h3.x; simpa using this, by have := h3.y; simpa using this, fun i s' hi => ?_⟩, ?_⟩
    · cases i with
      | zero => simp at hi; subst hi; simpa using h1
      | succ i => have := h3.f i s' (by simpa using hi); simpa [Array.getD_eq_getD_getElem?] using this
    · rw [Bool.and_eq_true, h2, h4, List.length_cons, sameTo_cons]
  induction sh with
  | nil =>
    intro cs ds t us vs h h1 h2 _ _
    cases cs <;> cases ds <;> simp only [eqD, Option.some.injEq, reduceCtorEq] at h
    have : us = [] := List.eq_nil_of_length_eq_zero h1
    have h' : vs = [] := List.eq_nil_of_length_eq_zero h2
    subst this; subst h'; subst h
    exact ⟨⟨rfl, rfl, fun i s h => by simp at h⟩, by simp [SameTo]⟩
  | cons s sh ih =>
    intro cs ds t us vs h h1 h2 h3 h4
    cases cs with
    | nil => cases s <;> simp [eqD] at h
    | cons c cs =>
      cases ds with
      | nil => cases s <;> simp [eqD] at h
      | cons e ds =>
        obtain ⟨u, us, rfl⟩ : ∃ u us', us = u :: us' := by cases us with | nil => simp at h1 | cons u us => exact ⟨u, us, rfl⟩
        obtain ⟨v, vs, rfl⟩ : ∃ v vs', vs = v :: vs' := by cases vs with | nil => simp at h2 | cons u us => exact ⟨u, us, rfl⟩
        have hu := h3 0 c rfl
        have hv := h4 0 e rfl
        simp at hu hv h1 h2
        have rest : ∀ t', eqD sh cs ds = some t' → Fits sh us.toArray vs.toArray ∧ (t' = true ↔ SameTo sh.length 0 us.toArray vs.toArray) := fun t' ht' =>
          ih cs ds t' us vs ht' h1 h2 (fun j d hj => by have := h3 (j + 1) d (by simpa using hj); simpa [Array.getD_eq_getD_getElem?] using this) (fun j d hj => by have := h4 (j + 1) d (by simpa using hj); simpa [Array.getD_eq_getD_getElem?] using this)
        unfold eqD at h
        split at h
        · simp at *
        · rename_i heq1 heq2 heq3
          cases heq1; cases heq2; cases heq3
          split at h
          · rename_i hk; subst hk
            split at h
            · rename_i t' ht'
              cases h
              rw [VRep.sc_eq hu, VRep.sc_eq hv]
              exact cons _ _ _ _ _ _ _ _ ⟨_, _, _, rfl, rfl⟩ (by simp) (rest t' ht')
            · cases h
          · cases h
        · rename_i heq1 heq2 heq3
          cases heq1; cases heq2; cases heq3
          split at h
          · rename_i t' ht'
            cases h
            rw [VRep.sc_eq hu, VRep.sc_eq hv]
            exact cons _ _ _ _ _ _ _ _ ⟨_, _, rfl, rfl⟩ (by simp) (rest t' ht')
          · cases h
        · rename_i heq1 heq2 heq3
          cases heq1; cases heq2; cases heq3
          split at h
          · rename_i t' ht'
            cases h
            rw [VRep.sc_eq hu, VRep.sc_eq hv]
            exact cons _ _ _ _ _ _ _ _ ⟨_, _, rfl, rfl⟩ (by simp) (rest t' ht')
          · cases h
        · cases h

variable {G : Nat → DV} {B : Nat} {f : Operand → DV} {σ : List ABlk} {K : DV → List ABlk → Prop} {dst : Option Tmp} {type : TypeId} {pos : String} {after : Array Edge} {gd : Option (Nat × Bool)}

theorem run_eq_agg {t : TypeId} {sh : List Sh} [he : EqG P t sh] {X : AX} {cs ds : List DV} {r : Bool} {u v : Value} {x y : Operand} {op : BinOp} (hop : op = .eql ∨ op = .neq) (hu : VRep X.lay (.agg cs) u) (hv : VRep X.lay (.agg ds) v) (h : eqD sh cs ds = some r) :
    (do eqGuard op t x y u v; binOp op t u v : Sem Value).run P X.w = .ok (.bool (if op = .eql then r else !r)) X.w := by
  obtain ⟨us, rfl, h1, _, h3⟩ := hu.agg_inv
  obtain ⟨vs, rfl, h4, _, h6⟩ := hv.agg_inv
  obtain ⟨m, hm, hin⟩ := he.h
  obtain ⟨us, rfl⟩ : ∃ l : List Value, us = l.toArray := ⟨us.toList, by simp⟩
  obtain ⟨vs, rfl⟩ : ∃ l : List Value, vs = l.toArray := ⟨vs.toList, by simp⟩
  obtain ⟨hf, hr⟩ := eqD_spec sh cs ds r us vs h (by simpa using h1) (by simpa using h4) h3 h6
  obtain ⟨r', h7, h8⟩ := hin.h 10000 X.w _ _ hm hf
  have hrr : r' = r := by
    cases r <;> cases r' <;> simp_all
  subst hrr
  simp only [if_true] at h7
  have hg : (eqGuard op t x y (.agg us.toArray) (.agg vs.toArray)).run P X.w = .ok () X.w := by
    unfold eqGuard
    rcases hop with rfl | rfl <;> simp [run_program, he.g]
  rcases hop with rfl | rfl <;> simp only [Sem.run_bind, hg, Result.andThen_ok, binOp, Op.equal, Op.maxDepth, h7, Sem.run_pure] <;> rfl

theorem s_eql_agg {t t' : TypeId} {sh : List Sh} {x y : Operand} {cs ds : List DV} {r : Bool} [he : EqG P t sh] (hx : f x = .agg cs) (hy : f y = .agg ds) (h : eqD sh cs ds = some r) (k : K (.sc (.bool r)) σ) : OpSem P G B ⟨dst, .binOp .eql t x y t', type, pos, after, gd⟩ f σ K := fun X ρ hS hσ _ _ hf => by
  subst hσ
  have h1 := hf x (by simp [Op.operands, Call.operands]); rw [hx] at h1
  have h2 := hf y (by simp [Op.operands, Call.operands]); rw [hy] at h2
  have := run_eq_agg (P := P) (t := t) (sh := sh) (x := x) (y := y) (op := .eql) (.inl rfl) h1 h2 h
  simp only [execOp, Sem.run_bind] at this ⊢
  simp only [Sem.run_bind, Sem.run_pure]
  generalize (eqGuard .eql t x y (ρ x) (ρ y)).run P X.w = e at *
  cases e with
  | ok a w1 =>
    simp only [Result.andThen_ok] at this ⊢
    rw [this]
    exact post_same hS (.sc _) k
  | halt q w1 => simp [Result.andThen] at this
theorem s_neq_agg {t t' : TypeId} {sh : List Sh} {x y : Operand} {cs ds : List DV} {r : Bool} [he : EqG P t sh] (hx : f x = .agg cs) (hy : f y = .agg ds) (h : eqD sh cs ds = some r) (k : K (.sc (.bool (!r))) σ) : OpSem P G B ⟨dst, .binOp .neq t x y t', type, pos, after, gd⟩ f σ K := fun X ρ hS hσ _ _ hf => by
  subst hσ
  have h1 := hf x (by simp [Op.operands, Call.operands]); rw [hx] at h1
  have h2 := hf y (by simp [Op.operands, Call.operands]); rw [hy] at h2
  have := run_eq_agg (P := P) (t := t) (sh := sh) (x := x) (y := y) (op := .neq) (.inr rfl) h1 h2 h
  simp only [execOp, Sem.run_bind] at this ⊢
  simp only [Sem.run_bind, Sem.run_pure]
  generalize (eqGuard .neq t x y (ρ x) (ρ y)).run P X.w = e at *
  cases e with
  | ok a w1 =>
    simp only [Result.andThen_ok] at this ⊢
    rw [this]
    exact post_same hS (.sc _) k
  | halt q w1 => simp [Result.andThen] at this
end
end Go.Av
