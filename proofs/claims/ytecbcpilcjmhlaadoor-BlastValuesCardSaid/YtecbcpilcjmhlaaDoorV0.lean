/-
  Following, in plain Lean: what follows from some literals by unit propagation.
-/
import Derived.Test.YtecbcpilcjmhlaaDoorO0
import Derived.Test.YtecbcpilcjmhlaaDoorAvO
namespace Go.Fo

def addS (S : List Int) (x : Int) : List Int := if x ∈ S then S else S ++ [x]
def startM (l : List Int) : List Int := l.foldl addS []
/-- Not false. -/
def open' (S : List Int) (x : Int) : Bool := !decide (-x ∈ S)
def stepM (S c : List Int) : Option (List Int × Bool) := match c.filter (open' S) with
  | [] => none
  | x :: r => if (∀ y ∈ r, y = x) ∧ x ∉ S then some (S ++ [x], true) else some (S, false)
def roundM : List (List Int) → List Int → Bool → Option (List Int × Bool)
  | [], S, ch => some (S, ch)
  | c :: r, S, ch => match stepM S c with
    | none => none
    | some (S', b) => roundM r S' (ch || b)
def fixM (cls : List (List Int)) : Nat → List Int → Option (List Int)
  | 0, _ => none
  | k + 1, S => match roundM cls S false with
    | none => none
    | some (S', false) => some S'
    | some (S', true) => fixM cls k S'
def outM (S : List Int) : Nat → Option (List Int)
  | 0 => some []
  | n + 1 => match outM S n with
    | none => none
    | some l => if ((n : Int) + 1) ∈ S ∧ -((n : Int) + 1) ∈ S then none else if ((n : Int) + 1) ∈ S then some (l ++ [(n : Int) + 1]) else if -((n : Int) + 1) ∈ S then some (l ++ [-((n : Int) + 1)]) else some l
def meas (cls : List (List Int)) (S : List Int) : Nat := (cls.flatten.filter fun x => decide (x ∉ S)).length
def followM (cls : List (List Int)) (l : List Int) : Option (List Int) := match fixM cls (meas cls (startM l) + 1) (startM l) with
  | none => none
  | some S => outM S 2000

theorem mem_addS {S : List Int} {x y : Int} : y ∈ addS S x ↔ y ∈ S ∨ y = x := by
  unfold addS
  split
  · rename_i h
    exact ⟨.inl, fun h' => h'.elim id fun e => by subst e; exact h⟩
  · simp
theorem mem_foldl {l S : List Int} {y : Int} : y ∈ l.foldl addS S ↔ y ∈ S ∨ y ∈ l := by
  induction l generalizing S with
  | nil => simp
  | cons x l ih => rw [List.foldl_cons, ih, mem_addS, List.mem_cons]; exact or_assoc
theorem mem_startM {l : List Int} {y : Int} : y ∈ startM l ↔ y ∈ l := by unfold startM; rw [mem_foldl]; simp
theorem startM_take {l : List Int} {k : Nat} (h : k < l.length) : startM (l.take (k + 1)) = addS (startM (l.take k)) l[k] := by
  unfold startM
  rw [List.take_succ_eq_append_getElem h, List.foldl_append]; rfl

theorem meas_le {cls : List (List Int)} {S S' : List Int} (h : ∀ x ∈ S, x ∈ S') : meas cls S' ≤ meas cls S := by
  unfold meas
  generalize cls.flatten = l
  induction l with
  | nil => simp
  | cons a l ih =>
    simp only [List.filter_cons]
    by_cases h1 : a ∈ S
    · have h2 : a ∈ S' := h a h1
      simp [h1, h2] at ih ⊢; exact ih
    · by_cases h2 : a ∈ S'
      · simp [h1, h2] at ih ⊢; omega
      · simp [h1, h2] at ih ⊢; exact ih
theorem meas_lt {cls : List (List Int)} {S : List Int} {x : Int} {c : List Int} (hc : c ∈ cls) (hx : x ∈ c) (hn : x ∉ S) : meas cls (S ++ [x]) < meas cls S := by
  unfold meas
  have hm : x ∈ cls.flatten := List.mem_flatten.2 ⟨c, hc, hx⟩
  generalize cls.flatten = l at hm
  have hle : ∀ l : List Int, (l.filter fun y => decide (y ∉ S ++ [x])).length ≤ (l.filter fun y => decide (y ∉ S)).length := fun l => by
    induction l with
    | nil => simp
    | cons a l ih =>
      simp only [List.filter_cons]
      by_cases h1 : a ∈ S
      · simp [h1] at ih ⊢; exact ih
      · by_cases h2 : a = x
        · subst h2; simp [h1] at ih ⊢; omega
        · simp [h1, h2] at ih ⊢; exact ih
  induction l with
  | nil => cases hm
  | cons a l ih =>
    simp only [List.filter_cons]
    by_cases h2 : a = x
    · subst h2
      have := hle l
      simp [hn] at this ⊢; omega
    · have hm' : x ∈ l := by
        rcases List.mem_cons.1 hm with h | h
        · exact absurd h.symm h2
        · exact h
      have := ih hm'
      by_cases h1 : a ∈ S
      · simp [h1] at this ⊢; exact this
      · simp [h1, h2] at this ⊢; exact this
theorem outM_none {S : List Int} {n : Nat} (h : outM S n = none) : ∀ {m}, n ≤ m → outM S m = none := by
  intro m hm
  induction m with
  | zero => have : n = 0 := by omega
            subst this; exact h
  | succ m ih =>
    rcases Nat.lt_or_ge m n with h' | h'
    · have : n = m + 1 := by omega
      subst this; exact h
    · rw [outM, ih h']

/-- A clause, by the first literal that is open. -/
theorem stepM_none {S c : List Int} (h : Ord.findI (open' S) c = -1) : stepM S c = none := by
  have := Ord.findI_neg h
  unfold stepM
  rw [List.filter_eq_nil_iff.2 fun x hx => by rw [this x hx]; simp]
theorem stepM_some {S c : List Int} {i : Nat} (hi : i < c.length) (hp : open' S c[i] = true) (hno : ∀ j (h : j < c.length), j < i → open' S c[j] = false) :
    stepM S c = if (c.any fun y => decide (y ≠ c[i]) && open' S y) = false ∧ c[i] ∉ S then some (S ++ [c[i]], true) else some (S, false) := by
  have hc : c = c.take i ++ c[i] :: c.drop (i + 1) := by rw [List.getElem_cons_drop, List.take_append_drop]
  have hf0 : (c.take i).filter (open' S) = [] := List.filter_eq_nil_iff.2 fun x hx => by
    obtain ⟨j, hj, rfl⟩ := List.getElem_of_mem hx
    have hj' : j < i := by rw [List.length_take] at hj; omega
    rw [List.getElem_take, hno j (by omega) hj']; simp
  have hf : c.filter (open' S) = c[i] :: (c.drop (i + 1)).filter (open' S) := by
    conv => lhs; rw [hc]
    rw [List.filter_append, hf0, List.nil_append, List.filter_cons, hp]; rfl
  unfold stepM
  rw [hf]
  have hall : (∀ y ∈ (c.drop (i + 1)).filter (open' S), y = c[i]) ↔ (c.any fun y => decide (y ≠ c[i]) && open' S y) = false := by
    rw [List.any_eq_false]
    constructor
    · intro h x hx
      intro hb
      simp only [Bool.and_eq_true, decide_eq_true_eq] at hb
      have hx' : x ∈ c.filter (open' S) := List.mem_filter.2 ⟨hx, hb.2⟩
      rw [hf] at hx'
      rcases List.mem_cons.1 hx' with h1 | h1
      · exact hb.1 h1
      · exact hb.1 (h x h1)
    · intro h y hy
      obtain ⟨h1, h2⟩ := List.mem_filter.1 hy
      have := h y (List.mem_of_mem_drop h1)
      simp only [Bool.and_eq_true, decide_eq_true_eq, not_and] at this
      by_cases hy' : y = c[i]
      · exact hy'
      · exact absurd h2 (this hy')
  simp only [hall]
theorem stepM_cases {S c S' : List Int} {b : Bool} (h : stepM S c = some (S', b)) : (b = false ∧ S' = S) ∨ (b = true ∧ ∃ x ∈ c, x ∉ S ∧ S' = S ++ [x]) := by
  unfold stepM at h
  split at h
  · cases h
  · rename_i x r hx
    split at h
    · rename_i hh
      cases h
      exact .inr ⟨rfl, x, (List.mem_filter.1 (by rw [hx]; simp : x ∈ c.filter (open' S))).1, hh.2, rfl⟩
    · cases h; exact .inl ⟨rfl, rfl⟩

/-- The open literals of a clause without repetition, as the reference collects them. -/
theorem fold_head : ∀ (r t : List Int) (x : Int), ∃ t', r.foldl addS (x :: t) = x :: t' ∧ t.length ≤ t'.length
  | [], t, x => ⟨t, rfl, Nat.le_refl _⟩
  | y :: r, t, x => by
    rw [List.foldl_cons]
    unfold addS
    split
    · exact fold_head r t x
    · rw [List.cons_append]
      obtain ⟨t', h1, h2⟩ := fold_head r (t ++ [y]) x
      exact ⟨t', h1, by simp at h2; omega⟩
theorem left_len {l : List Int} {x : Int} {r : List Int} (h : l = x :: r) : ∃ t, startM l = x :: t ∧ (t = [] ↔ ∀ y ∈ r, y = x) := by
  subst h
  have h0 : startM (x :: r) = r.foldl addS [x] := rfl
  obtain ⟨t, h1, _⟩ := fold_head r [] x
  refine ⟨t, by rw [h0, h1], fun h2 y hy => ?_, fun h2 => ?_⟩
  · subst h2
    have : y ∈ r.foldl addS [x] := mem_foldl.2 (.inr hy)
    rw [h1] at this
    simpa using this
  · cases t with
    | nil => rfl
    | cons z t' =>
      exfalso
      have : ∀ (r : List Int), (∀ y ∈ r, y = x) → r.foldl addS [x] = [x] := by
        intro r hr
        induction r with
        | nil => rfl
        | cons a r ih =>
          rw [List.foldl_cons]
          have ha := hr a (by simp)
          subst ha
          have : addS [a] a = [a] := by unfold addS; simp
          rw [this]
          exact ih fun y hy => hr y (by simp [hy])
      rw [this r h2] at h1
      cases h1
theorem stepM_left {S c left : List Int} (hl : left = startM (c.filter (open' S))) : (left = [] → stepM S c = none) ∧ (∀ x t, left = x :: t → stepM S c = if t = [] ∧ x ∉ S then some (S ++ [x], true) else some (S, false)) := by
  subst hl
  constructor
  · intro h
    have : c.filter (open' S) = [] := by
      cases hc : c.filter (open' S) with
      | nil => rfl
      | cons x r =>
        have : x ∈ startM (c.filter (open' S)) := mem_startM.2 (by rw [hc]; simp)
        rw [h] at this; cases this
    unfold stepM
    rw [this]
  · intro x t h
    cases hc : c.filter (open' S) with
    | nil => rw [hc] at h; cases h
    | cons y r =>
      obtain ⟨t', h1, h2⟩ := left_len (l := c.filter (open' S)) hc
      rw [h] at h1
      cases h1
      unfold stepM
      rw [hc]
      simp only [h2]

/-- The truths as a table of 4001 places. -/
def tab (S : List Int) : List Bool := (List.range 4001).map fun j => decide (((j : Nat) : Int) - 2000 ∈ S)
theorem tab_len (S : List Int) : (tab S).length = 4001 := by simp [tab]
theorem tab_get (S : List Int) (x : Int) (h1 : -2000 ≤ x) (h2 : x ≤ 2000) (h : (2000 + x).toNat < (tab S).length) : (tab S)[(2000 + x).toNat] = decide (x ∈ S) := by
  simp only [tab, List.getElem_map, List.getElem_range]
  have : (((2000 + x).toNat : Nat) : Int) - 2000 = x := by omega
  rw [this]
theorem tab_set (S : List Int) (x : Int) (h1 : -2000 ≤ x) (h2 : x ≤ 2000) (S' : List Int) (hS : ∀ y, y ∈ S' ↔ y ∈ S ∨ y = x) : (tab S).set (2000 + x).toNat true = tab S' := by
  apply List.ext_getElem
  · simp [tab]
  · intro j hj1 hj2
    rw [List.getElem_set]
    have hlt : j < 4001 := by rw [tab_len] at hj2; exact hj2
    split
    · rename_i hj
      subst hj
      rw [tab_get S' x h1 h2, decide_eq_true ((hS x).2 (.inr rfl))]
    · rename_i hj
      simp only [tab, List.getElem_map, List.getElem_range]
      apply decide_eq_decide.2
      rw [hS]
      constructor
      · exact .inl
      · intro h
        rcases h with h | h
        · exact h
        · exfalso; apply hj; omega
theorem tab_nil : tab [] = List.replicate 4001 false := by
  apply List.ext_getElem
  · rw [tab_len, List.length_replicate]
  · intro j h1 h2
    rw [List.getElem_replicate]
    simp only [tab, List.getElem_map]
    exact decide_eq_false (by intro h; cases h)
end Go.Fo
namespace Go.Av
open Go.Fo
set_option linter.unusedSimpArgs false
set_option linter.unusedVariables false
section
variable {P : Program} {G : Nat → DV} {B : Nat} {f : Operand → DV} {σ : List ABlk} {K : DV → List ABlk → Prop} {dst : Option Tmp} {type : TypeId} {pos : String} {after : Array Edge} {gd : Option (Nat × Bool)}
theorem encs_drop1 {α : Type} [Enc α] (h1 : Enc.es α = 1) (l : List α) (i : Nat) (h : i < l.length) {d : DV} (hd : Enc.enc l[i] = [d]) : (encs l).drop i = d :: encs (l.drop (i + 1)) := by
  have := encs_drop l i
  rw [h1, Nat.mul_one] at this
  rw [this, List.drop_eq_getElem_cons h, encs_cons, hd]; rfl
theorem s_idx_tab_ep {t e : TypeId} {d : TypeDesc} {g1 g2 : Bool} {z1 : Nat} {x y : Operand} {S : List Int} {kd : IntKind} {z : Int} [ht : TyI P t (.array 4001 e) g1 z1] [he : TyI P e d g2 1]
    (hx : f x = .ep (encs (tab S))) (hy : f y = .sc (.int kd (2000 + z))) (hz : -2000 ≤ z ∧ z ≤ 2000) (k : K (.ep (.b (decide (z ∈ S)) :: encs ((tab S).drop ((2000 + z).toNat + 1)))) σ) : OpSem P G B ⟨dst, .indexAddr t x y, type, pos, after, gd⟩ f σ K := by
  refine s_idx_ep hx hy (by omega) (by omega) ?_
  have hlt : (2000 + z).toNat < (tab S).length := by rw [tab_len]; omega
  rw [Nat.mul_one, encs_drop1 (d := .b (decide (z ∈ S))) rfl _ _ hlt (by rw [tab_get S z hz.1 hz.2 hlt]; rfl)]
  exact k
theorem s_idx_tab_p {t e : TypeId} {d : TypeDesc} {g1 g2 : Bool} {z1 m g : Nat} {x y : Operand} {S : List Int} {kd : IntKind} {z : Int} [ht : TyI P t (.array 4001 e) g1 z1] [he : TyI P e d g2 1]
    (hx : f x = .ptr m g 0) (hm : σ[m]? = some (.row g (encs (tab S)))) (hy : f y = .sc (.int kd (2000 + z))) (hz : -2000 ≤ z ∧ z ≤ 2000) (k : K (.ptr m g (2000 + z).toNat) σ) : OpSem P G B ⟨dst, .indexAddr t x y, type, pos, after, gd⟩ f σ K :=
  s_idx_arr hx hm hy (by omega) (by omega) (by rw [Nat.zero_add, Nat.mul_one]; exact k)
theorem s_store_tab {t : TypeId} {td : TypeDesc} {agg : Bool} {x y : Operand} {m g : Nat} {S S' : List Int} {z : Int} {σ' : List ABlk} [ht : TyI P t td agg 1] (hx : f x = .ptr m g (2000 + z).toNat) (hm : σ[m]? = some (.row g (encs (tab S)))) (hy : f y = .b true) (hS : ∀ y, y ∈ S' ↔ y ∈ S ∨ y = z) (hz : -2000 ≤ z ∧ z ≤ 2000)
    (hσ' : setA σ m (.row g (encs (tab S'))) = some σ') (k : K (.sc undef) σ') : OpSem P G B ⟨dst, .store t x y, type, pos, after, gd⟩ f σ K :=
  s_store_e1 (z := true) hx hm rfl hy rfl (by rw [tab_len]; omega) (by rw [tab_set S z hz.1 hz.2 S' hS]; exact hσ') k
theorem s_alloc_tab {t : TypeId} [hz : TyZ P t (List.replicate 4001 (.bool false))] (k : ∀ g, B < g → K (.ptr σ.length g 0) (σ ++ [.row g (encs (tab []))])) : OpSem P G B ⟨dst, .alloc t, type, pos, after, gd⟩ f σ K := by
  have e : (List.replicate 4001 (Value.bool false)).map DV.sc = encs (tab []) := by
    rw [tab_nil, List.map_replicate]
    have : ∀ n : Nat, List.replicate n (DV.sc (.bool false)) = encs (List.replicate n false) := fun n => by
      induction n with
      | zero => rfl
      | succ n ih => rw [List.replicate_succ, List.replicate_succ, encs_cons, ih]; rfl
    exact this 4001
  exact s_alloc (hz := hz) (by rw [e]; exact k)
end
theorem r_loop3 {P : Program} {G : Nat → DV} {E : AX} {n : Nat} {N : ASt → Prop} {xs : List (Nat × (ASt → Prop))} {R : ASt → Prop} {st : ASt} {c : Code} {α β γ : Type} (I : α → β → γ → ASt) (pre : α → β → γ → Prop) (μ : α → β → γ → Nat) (x0 : α) (y0 : β) (z0 : γ) (h0 : ALe st (I x0 y0 z0)) (hp0 : pre x0 y0 z0)
    (round : ∀ x y z, pre x y z → ARun P G E n c (fun st' => ∃ x' y' z', pre x' y' z' ∧ μ x' y' z' < μ x y z ∧ ALe st' (I x' y' z')) xs R (I x y z)) : ARun P G E n (.loop c) N xs R st :=
  r_loop (fun s : α × β × γ => I s.1 s.2.1 s.2.2) (fun s => pre s.1 s.2.1 s.2.2) (fun s => μ s.1 s.2.1 s.2.2) (x0, y0, z0) h0 hp0 fun s hs a w hr => wp_mono (round s.1 s.2.1 s.2.2 hs a w hr) fun e a' w' ⟨st', hr', hq⟩ => ⟨st', hr', by
    cases e with
    | normal => obtain ⟨x', y', z', h1, h2, h3⟩ := hq; exact ⟨(x', y', z'), h1, h2, h3⟩
    | exit id => exact hq
    | ret => exact hq
    | goto l => exact hq
    | panic ch => exact hq
    | outgrown => exact hq⟩
end Go.Av
