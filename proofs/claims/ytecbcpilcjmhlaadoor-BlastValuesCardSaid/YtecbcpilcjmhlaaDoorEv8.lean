/-
  The evaluator is right: regions that draw their order.
-/
import Derived.Test.YtecbcpilcjmhlaaDoorEv7
namespace Go.Av
open Classical
set_option linter.unusedSimpArgs false
set_option linter.unusedVariables false

mutual
theorem eqDV_ok : ∀ (a b : DV), eqDV a b = true → a = b
  | .any, b, h => by cases b <;> simp [eqDV] at h
  | .sc v, b, h => by
    cases b with
    | sc w =>
      simp only [eqDV] at h
      split at h
      · split at h
        · rename_i hk
          rw [ikEq_eq hk]
          rw [eqI_eq] at h
          rw [of_decide_eq_true h]
        · cases h
      · rw [eq_of_beq h]
      · simp only [Bool.and_eq_true] at h
        rw [Nat.eq_of_beq_eq_true h.1, Nat.eq_of_beq_eq_true h.2]
      · rw [eq_of_beq h]
      · rfl
      · rfl
      · cases h
    | _ => simp [eqDV] at h
  | .sl e a, b, h => by
    cases b with
    | sl e' a' =>
      simp only [eqDV, Bool.and_eq_true] at h
      rw [Nat.eq_of_beq_eq_true h.1, eqDL_ok a a' h.2]
    | _ => simp [eqDV] at h
  | .ep a, b, h => by
    cases b with
    | ep a' =>
      simp only [eqDV] at h
      rw [eqDL_ok a a' h]
    | _ => simp [eqDV] at h
  | .ref k g o l e, b, h => by
    cases b with
    | ref k' g' o' l' e' =>
      simp only [eqDV, Bool.and_eq_true] at h
      obtain ⟨⟨⟨⟨h1, h2⟩, h3⟩, h4⟩, h5⟩ := h
      rw [Nat.eq_of_beq_eq_true h1, Nat.eq_of_beq_eq_true h2, Nat.eq_of_beq_eq_true h3, Nat.eq_of_beq_eq_true h4, Nat.eq_of_beq_eq_true h5]
    | _ => simp [eqDV] at h
  | .ptr k g o, b, h => by
    cases b with
    | ptr k' g' o' =>
      simp only [eqDV, Bool.and_eq_true] at h
      obtain ⟨⟨h1, h2⟩, h3⟩ := h
      rw [Nat.eq_of_beq_eq_true h1, Nat.eq_of_beq_eq_true h2, Nat.eq_of_beq_eq_true h3]
    | _ => simp [eqDV] at h
  | .mp k g, b, h => by
    cases b with
    | mp k' g' =>
      simp only [eqDV, Bool.and_eq_true] at h
      rw [Nat.eq_of_beq_eq_true h.1, Nat.eq_of_beq_eq_true h.2]
    | _ => simp [eqDV] at h
  | .agg a, b, h => by
    cases b with
    | agg a' =>
      simp only [eqDV] at h
      rw [eqDL_ok a a' h]
    | _ => simp [eqDV] at h
  | .tup a, b, h => by
    cases b with
    | tup a' =>
      simp only [eqDV] at h
      rw [eqDL_ok a a' h]
    | _ => simp [eqDV] at h
  | .fn f a c, b, h => by
    cases b with
    | fn f' a' c' =>
      cases f <;> cases f' <;> simp only [eqDV, Bool.and_eq_true, Bool.false_eq_true] at h
      obtain ⟨⟨h1, h2⟩, h3⟩ := h
      rw [Nat.eq_of_beq_eq_true h1, eqDL_ok a a' h2, eqDL_ok c c' h3]
    | _ => cases f <;> simp [eqDV] at h
theorem eqDL_ok : ∀ (a b : List DV), eqDL a b = true → a = b
  | [], [], _ => rfl
  | [], _ :: _, h => by simp [eqDL] at h
  | _ :: _, [], h => by simp [eqDL] at h
  | a :: r, b :: s, h => by
    simp only [eqDL, Bool.and_eq_true] at h
    rw [eqDV_ok a b h.1, eqDL_ok r s h.2]
end

theorem map_congr' {α β : Type} {l : List α} {f g : α → β} (h : ∀ x ∈ l, f x = g x) : l.map f = l.map g := List.map_congr_left h
theorem opt_congr {α β : Type} {o : Option α} {f g : α → β} (h : ∀ x, o = some x → f x = g x) : o.map f = o.map g := by
  cases o with
  | none => rfl
  | some x => simp [h x rfl]
theorem evr_congr {T : Tab} {op : Op} {f g : Operand → DV} {s : Tr ABlk} (h : ∀ x ∈ op.operands, f x = g x) : evr T op f s = evr T op g s := by
  cases op with
  | makeFunc fn a c =>
    simp only [evr]
    rw [map_congr' (l := a.toList) (f := f) (g := g) fun x hx => h x (by simp [Op.operands]; left; simpa using hx), map_congr' (l := c.toList) (f := f) (g := g) fun x hx => h x (by simp [Op.operands]; right; simpa using hx)]
  | build t ps =>
    simp only [evr]
    rw [map_congr' (l := ps.toList) (f := fun p => (p.1, f p.2)) (g := fun p => (p.1, g p.2)) fun p hp => by rw [h p.2 (by simp only [Op.operands]; simpa using ⟨p.1, by simpa using hp⟩)]]
  | slice t x lo hi mx =>
    cases mx with
    | some _ => rfl
    | none =>
      simp only [evr]
      rw [h x (by simp [Op.operands]), opt_congr (o := lo) (f := f) (g := g) fun y hy => h y (by simp [Op.operands, hy]), opt_congr (o := hi) (f := f) (g := g) fun y hy => h y (by simp [Op.operands, hy])]
  | call c =>
    obtain ⟨callee, args, ts⟩ := c
    cases callee with
    | builtin b =>
      simp only [evr]
      rw [map_congr' (l := args.toList) (f := f) (g := g) fun x hx => h x (by simp [Op.operands, Call.operands]; simpa using hx)]
    | _ => rfl
  | pick c a b => simp only [evr]; rw [h c (by simp [Op.operands]), h a (by simp [Op.operands]), h b (by simp [Op.operands])]
  | indexAddr t x y => simp only [evr]; rw [h x (by simp [Op.operands]), h y (by simp [Op.operands])]
  | index t x y => simp only [evr]; rw [h x (by simp [Op.operands]), h y (by simp [Op.operands])]
  | binOp o t x y t' => simp only [evr]; rw [h x (by simp [Op.operands]), h y (by simp [Op.operands])]
  | lookup t m ix ok => simp only [evr]; rw [h m (by simp [Op.operands]), h ix (by simp [Op.operands])]
  | move x => simp only [evr]; rw [h x (by simp [Op.operands])]
  | assign x => simp only [evr]; rw [h x (by simp [Op.operands])]
  | load t x => simp only [evr]; rw [h x (by simp [Op.operands])]
  | fieldAddr t x fi => simp only [evr]; rw [h x (by simp [Op.operands])]
  | field t x fi => simp only [evr]; rw [h x (by simp [Op.operands])]
  | unOp o t x => simp only [evr]; rw [h x (by simp [Op.operands])]
  | convert s d x => simp only [evr]; rw [h x (by simp [Op.operands])]
  | extract x i => simp only [evr]; rw [h x (by simp [Op.operands])]
  | nilCheck x => simp only [evr]; rw [h x (by simp [Op.operands])]
  | _ => rfl
theorem evw_congr {T : Tab} {call : FuncId → List DV → SS → RW} {alone : Bool} {op : Op} {f g : Operand → DV} {S : SS} (h : ∀ x ∈ op.operands, f x = g x) : evw T call alone op f S = evw T call alone op g S := by
  cases op with
  | buildSlice t n ps =>
    simp only [evw]
    rw [map_congr' (l := ps.toList) (f := fun p => (p.1, f p.2)) (g := fun p => (p.1, g p.2)) fun p hp => by rw [h p.2 (by simp only [Op.operands]; simpa using ⟨p.1, by simpa using hp⟩)]]
  | box t x => simp only [evw]; rw [h x (by simp [Op.operands])]
  | store t a x => simp only [evw]; rw [h a (by simp [Op.operands]), h x (by simp [Op.operands])]
  | makeSlice t x y => simp only [evw]; rw [h x (by simp [Op.operands]), h y (by simp [Op.operands])]
  | mapUpdate t m ix y => simp only [evw]; rw [h m (by simp [Op.operands]), h ix (by simp [Op.operands]), h y (by simp [Op.operands])]
  | call c =>
    obtain ⟨callee, args, ts⟩ := c
    cases callee with
    | builtin b =>
      simp only [evw]
      rw [map_congr' (l := args.toList) (f := f) (g := g) fun x hx => h x (by simp [Op.operands, Call.operands]; simpa using hx)]
    | value x =>
      simp only [evw]
      rw [h x (by simp [Op.operands, Call.operands]), map_congr' (l := args.toList) (f := f) (g := g) fun x hx => h x (by simp [Op.operands, Call.operands]; right; simpa using hx)]
    | _ => rfl
  | _ => rfl

section
variable {P : Program} {E : AX} {n : Nat} {V : Env} {l : List Oper} {Γ0 : List Nat}

/-- An operation of a drawn region. -/
def valX (V : Env) (l : List Oper) (o : Oper) (τ : FrF) (S : SS) : Option (DV × SS) := valF V l (floD l o) o τ S
theorem want_same {o : Oper} {τ τ' : FrF} (h : ∀ t ∈ o.looksAt l.toArray, τ' t = τ t) : wantF l τ' o = wantF l τ o := by
  unfold wantF
  split
  · rfl
  · rename_i j want hg
    split
    · rename_i oj hj
      split
      · rename_i s hs
        rw [h s (by simp [Oper.looksAt, hg, hj, hs])]
      · rfl
    · rfl
theorem valX_same {o : Oper} {τ τ' : FrF} {S : SS} (h : ∀ t ∈ o.looksAt l.toArray, τ' t = τ t) : valX V l o τ' S = valX V l o τ S := by
  unfold valX valF
  have hf : ∀ x ∈ o.op.operands, aeF V.G τ' x = aeF V.G τ x := fun x hx => by
    cases x with
    | tmp t => simp only [aeF]; rw [h t (List.mem_append_left _ (List.mem_filterMap.2 ⟨.tmp t, by simpa using hx, rfl⟩))]
    | _ => rfl
  rw [want_same h, evr_congr hf, evw_congr hf]
theorem alone_op {o : Oper} (h : floD l o = true) (hf : flo o.op = false) : ∃ t n ps, o.op = .buildSlice t n ps := by
  unfold floD at h
  rw [hf] at h
  simp only [aloneB] at h
  split at h
  · rename_i t n ps s he _
    exact ⟨t, n, ps, he⟩
  · cases h
theorem wBuildS_alone {T : Tab} {S : SS} {t : TypeId} {n : Nat} {ps : List (Nat × DV)} {d : DV} {S' : SS} (h : wBuildS T S true t n ps = some (d, S')) : S' = S ∧ ∀ S1, wBuildS T S1 true t n ps = some (d, S1) := by
  unfold wBuildS at h ⊢
  split at h
  · rename_i ti hti
    split at h
    · rename_i e hke
      split at h
      · rename_i te hte
        split at h
        · rename_i cs h1 h2 h3
          cases h
          exact ⟨rfl, fun S1 => by simp only [h1, h2, h3]⟩
        · cases h
      · cases h
    · cases h
  · cases h
theorem valX_flo {o : Oper} {τ : FrF} {S S' : SS} {d : DV} (hf : floD l o = true) (h : valX V l o τ S = some (d, S')) : S' = S := by
  unfold valX valF at h
  split at h
  · cases h
  · cases h; rfl
  · split at h
    · split at h
      · cases h; rfl
      · cases h
    · rename_i hfl
      obtain ⟨t, n, ps, he⟩ := alone_op hf hfl
      rw [he, hf] at h
      exact (wBuildS_alone h).1
theorem evr_indep {T : Tab} {op : Op} {f : Operand → DV} {s s' : Tr ABlk} (h : readsB op = false) : evr T op f s = evr T op f s' := by
  cases op <;> first | rfl | (simp [readsB] at h)
theorem valX_indep {o : Oper} {τ : FrF} {S : SS} {d : DV} (hf : floD l o = true) (hr : readsB o.op = false ∨ wantF l τ o = some false) (h : valX V l o τ S = some (d, S)) (S1 : SS) : valX V l o τ S1 = some (d, S1) := by
  unfold valX valF at h ⊢
  split at h
  · cases h
  · rename_i hw
    cases h; rfl
  · rename_i hw
    rcases hr with hr | hr
    · split at h
      · rename_i hfl
        rw [evr_indep (s' := S1.s) hr] at h
        split at h
        · rename_i d0 hd
          cases h
          rfl
        · cases h
      · rename_i hfl
        obtain ⟨t, n, ps, he⟩ := alone_op hf hfl
        rw [he, hf] at h ⊢
        exact (wBuildS_alone h).2 S1
    · rw [hw] at hr; cases hr

/-- What stands still as long as nothing waits for it. -/
structure REnt where
  k : Nat
  o : Oper
  τ : FrF
  d : DV
def forcedAt (l : List Oper) (m : Nat) : Prop := ∃ o, l[m]? = some o ∧ floD l o = false
def NW (l : List Oper) (listed : Array Bool) (k : Nat) : Prop := ∀ m, listed.getD m false = true → forcedAt l m → (clos .any l.toArray 4 (deps .any l.toArray m)).contains k = false
def RecOk (V : Env) (l : List Oper) (D : List REnt) (listed : Array Bool) (S : SS) : Prop := ∀ e ∈ D, NW l listed e.k → valX V l e.o e.τ S = some (e.d, S)

/-- All orders. -/
def anyF (V : Env) (n : Nat) (l : List Oper) (D : List REnt) (Fin : FrF → SS → Prop) : Nat → Array Bool → FrF → SS → Prop
  | 0, listed, τ, S => RecOk V l D listed S ∧ Region.ready .any l.toArray listed = [] ∧ Fin τ S
  | f + 1, listed, τ, S => RecOk V l D listed S ∧ (Region.ready .any l.toArray listed = [] → Fin τ S) ∧ ∀ i ∈ Region.ready .any l.toArray listed, ∃ o d S', l[i]? = some o ∧ (∀ s, o.dst = some s → s < n) ∧
      valX V l o τ S = some (d, S') ∧ anyF V n l D Fin f (listed.setIfInBounds i true) (updO o.dst d τ) S'
theorem RecOk.tail {e : REnt} {D : List REnt} {listed : Array Bool} {S : SS} (h : RecOk V l (e :: D) listed S) : RecOk V l D listed S := fun x hx => h x (by simp [hx])
theorem anyF.tail {e : REnt} {D : List REnt} {Fin : FrF → SS → Prop} : ∀ (f : Nat) (listed : Array Bool) (τ : FrF) (S : SS), anyF V n l (e :: D) Fin f listed τ S → anyF V n l D Fin f listed τ S
  | 0, listed, τ, S, h => ⟨h.1.tail, h.2⟩
  | f + 1, listed, τ, S, h => ⟨h.1.tail, h.2.1, fun i hi => by
    obtain ⟨o, d, S', h1, h2, h3, h4⟩ := h.2.2 i hi
    exact ⟨o, d, S', h1, h2, h3, anyF.tail f _ _ _ h4⟩⟩

theorem updO_comm {x y : Option Tmp} (d e : DV) (τ : FrF) (h : ∀ i, x = some i → y ≠ some i) : updO y e (updO x d τ) = updO x d (updO y e τ) := by
  cases x with
  | none => rfl
  | some i =>
    cases y with
    | none => rfl
    | some j =>
      have hne : i ≠ j := fun he => h i rfl (he ▸ rfl)
      funext k
      simp only [updO]
      by_cases h1 : j = k <;> by_cases h2 : i = k
      · exact absurd (h2.trans h1.symm) hne
      all_goals simp [h1, h2]
theorem updO_looks {o : Oper} {dst : Option Tmp} {d : DV} {τ : FrF} (h : ∀ i, dst = some i → i ∉ o.looksAt l.toArray) : ∀ t ∈ o.looksAt l.toArray, updO dst d τ t = τ t := fun t ht => by
  cases dst with
  | none => rfl
  | some i =>
    simp only [updO]
    rw [if_neg (fun e => h i rfl (by rw [e]; exact ht))]
theorem getD_set_false {listed : Array Bool} {i m : Nat} (h : (listed.setIfInBounds i true).getD m false = true) : m = i ∨ listed.getD m false = true := by
  by_cases hm : i = m
  · exact .inl hm.symm
  · rw [getD_set_ne false hm] at h
    exact .inr h
theorem pend_of {listed : Array Bool} {i : Nat} (h : listed.getD i true = false) : listed.getD i false = false := by
  rcases Nat.lt_or_ge i listed.size with h' | h'
  · simp [h'] at h ⊢; exact h
  · simp [Array.getElem?_eq_none h'] at h
/-- What is listed does not wait for what is pending. -/
theorem not_waits {listed : Array Bool} (hc : Closed .any l.toArray listed) {i m : Nat} (hi : listed.getD i true = false) (hdeps : ∀ k ∈ deps .any l.toArray m, listed.getD k false = true) : (clos .any l.toArray 4 (deps .any l.toArray m)).contains i = false := by
  apply Bool.eq_false_iff.2
  intro h
  have := clos_listed hc 4 _ hdeps i (List.contains_iff_mem.1 h)
  rw [pend_of hi] at this
  cases this
theorem deps_listed {listed : Array Bool} (hc : Closed .any l.toArray listed) {m : Nat} (hm : listed.getD m false = true) : ∀ k ∈ deps .any l.toArray m, listed.getD k false = true := fun k hk => by
  obtain ⟨o, ho, e, he, hb, rfl⟩ := mem_deps hk
  exact hc m o ho hm e he hb
theorem deps_ready {listed : Array Bool} {j : Nat} (hj : j ∈ Region.ready .any l.toArray listed) : ∀ k ∈ deps .any l.toArray j, listed.getD k false = true := fun k hk => by
  obtain ⟨o, ho, e, he, hb, rfl⟩ := mem_deps hk
  obtain ⟨_, o', ho', hall⟩ := mem_ready.1 hj
  rw [ho] at ho'; cases ho'
  exact hall e he hb

/-- A floating operation may be carried out at once. -/
theorem anyF_first {i : Nat} {oi : Oper} {d : DV} {τ0 : FrF} {D : List REnt} {Fin : FrF → SS → Prop} (hi : l[i]? = some oi) (hfl : floD l oi = true) (hdst : ∀ s, oi.dst = some s → s < n) : ∀ (f : Nat) (listed : Array Bool) (τ : FrF) (S : SS), Closed .any l.toArray listed →
      (∀ (j : Nat) (oj : Oper), l.toArray[j]? = some oj → j ≠ i → listed.getD j true = false → (∀ e ∈ oj.after, Region.binds .any e = true → e.on ≠ i) → oi.apart l.toArray oj = true) →
      i ∈ Region.ready .any l.toArray listed → (∀ t ∈ oi.looksAt l.toArray, τ t = τ0 t) → valX V l oi τ0 S = some (d, S) → RecOk V l D listed S →
      anyF V n l (⟨i, oi, τ0, d⟩ :: D) Fin f (listed.setIfInBounds i true) (updO oi.dst d τ) S → anyF V n l D Fin (f + 1) listed τ S := by
  intro f
  induction f with
  | zero =>
    intro listed τ S hc hfree hr hag hv hrec H
    refine ⟨hrec, fun h => (by rw [h] at hr; cases hr), fun j hj => ?_⟩
    by_cases hji : j = i
    · subst hji
      exact ⟨oi, d, S, hi, hdst, by rw [valX_same hag]; exact hv, H.tail⟩
    · have := ready_mono hj hji
      rw [H.2.1] at this; cases this
  | succ f ih =>
    intro listed τ S hc hfree hr hag hv hrec H
    refine ⟨hrec, fun h => (by rw [h] at hr; cases hr), fun j hj => ?_⟩
    by_cases hji : j = i
    · subst hji
      exact ⟨oi, d, S, hi, hdst, by rw [valX_same hag]; exact hv, H.tail⟩
    · obtain ⟨oj, dj, S', hoj, hdj, hvj, Hj⟩ := H.2.2 j (ready_mono hj hji)
      obtain ⟨hjun, oj', hoj', hall⟩ := mem_ready.1 hj
      have hojA : l.toArray[j]? = some oj := by rw [List.getElem?_toArray]; exact hoj
      rw [hojA] at hoj'; cases hoj'
      have hipend := (mem_ready.1 hr).1
      have hnot : ∀ e ∈ oj.after, Region.binds .any e = true → e.on ≠ i := fun e he hb heq => by
        have h1 := hall e he hb
        rw [heq, pend_of hipend] at h1
        cases h1
      obtain ⟨a1, a2, a3⟩ := Oper.apart_spec (hfree j oj hojA hji hjun hnot)
      have hvj' : valX V l oj τ S = some (dj, S') := by
        rw [← hvj]
        exact (valX_same (updO_looks a1)).symm
      refine ⟨oj, dj, S', hoj, hdj, hvj', ?_⟩
      have hag' : ∀ t ∈ oi.looksAt l.toArray, updO oj.dst dj τ t = τ0 t := fun t ht => by rw [updO_looks a3 t ht]; exact hag t ht
      have hforced : ∀ m, ((listed.setIfInBounds i true).setIfInBounds j true).getD m false = true → forcedAt l m → m = j ∨ listed.getD m false = true := fun m hm hf => by
        rcases getD_set_false hm with hm | hm
        · exact .inl hm
        · rcases getD_set_false hm with rfl | hm
          · obtain ⟨o, ho, hof⟩ := hf
            rw [hi] at ho; cases ho
            rw [hfl] at hof; cases hof
          · exact .inr hm
      have hrecj : RecOk V l (⟨i, oi, τ0, d⟩ :: D) ((listed.setIfInBounds i true).setIfInBounds j true) S' := by
        cases f with
        | zero => exact Hj.1
        | succ f => exact Hj.1
      have hNWi : NW l ((listed.setIfInBounds i true).setIfInBounds j true) i := fun m hm hf => by
        rcases hforced m hm hf with rfl | hm
        · exact not_waits hc hipend (deps_ready hj)
        · exact not_waits hc hipend (deps_listed hc hm)
      refine ih _ _ _ (hc.step hj) ?_ (ready_mono hr (Ne.symm hji)) hag' (hrecj ⟨i, oi, τ0, d⟩ (by simp) hNWi) ?_ ?_
      · intro k ok hk hki hun hno
        refine hfree k ok hk hki ?_ hno
        by_cases hjk : j = k
        · subst hjk; exact hjun
        · rw [getD_set_ne true hjk] at hun; exact hun
      · intro e he hnw
        refine hrecj e (by simp [he]) fun m hm hf => hnw m ?_ hf
        rcases hforced m hm hf with rfl | hm
        · have hlt : m < listed.size := by
            rcases Nat.lt_or_ge m listed.size with h' | h'
            · exact h'
            · simp [Array.getElem?_eq_none h'] at hjun
          simp [Array.getD_eq_getD_getElem?, hlt]
        · exact getD_set_true hm
      · rw [Array.setIfInBounds_comm _ _ hji, ← updO_comm d dj τ a2]
        exact Hj

/-- In the world. -/
theorem anyF_run (hV : VOk P V) {D : List REnt} {Fin : FrF → SS → Prop} : ∀ (f : Nat) (listed : Array Bool) (τ : FrF) (S : SS), anyF V n l D Fin f listed τ S → ∀ a w, ERel V.G E n Γ0 τ S a w → wpAny P .any l.toArray (fun e a w => e = .normal ∧ ∃ τ S, ERel V.G E n Γ0 τ S a w ∧ Fin τ S) f listed a w
  | 0, listed, τ, S, h, a, w, hr => ⟨h.2.1, rfl, τ, S, hr, h.2.2⟩
  | f + 1, listed, τ, S, h, a, w, hr => by
    refine ⟨fun h0 => ⟨rfl, τ, S, hr, h.2.1 h0⟩, fun i hi => ?_⟩
    obtain ⟨o, d, S', ho, hd, hv, hn⟩ := h.2.2 i hi
    unfold wpOp
    rw [List.getElem?_toArray, ho]
    simp only
    cases hw : wantF l τ o with
    | none => unfold valX valF at hv; rw [hw] at hv; cases hv
    | some b =>
      rw [want_ok hr hw]
      cases b with
      | true =>
        rw [if_pos rfl]
        exact .inl (val_wp hV hv hw hd hr fun a' w' hr' => anyF_run hV f _ _ _ hn a' w' hr')
      | false =>
        rw [if_neg (by simp)]
        unfold valX valF at hv
        rw [hw] at hv
        cases hv
        exact anyF_run hV f _ _ _ hn _ w (skip_rel hd hr)

theorem pickF_ok {ops : Array Oper} {listed : Array Bool} {i : Nat} : ∀ (r : List Nat), pickF ops l listed r = some i → i ∈ r ∧ ∃ o, l[i]? = some o ∧ floD l o = true ∧ Region.free .any ops listed i = true := by
  intro r
  induction r with
  | nil => intro h; cases h
  | cons j r ih =>
    intro h
    have back : pickF ops l listed r = some i → i ∈ j :: r ∧ ∃ o, l[i]? = some o ∧ floD l o = true ∧ Region.free .any ops listed i = true := fun h => ⟨List.mem_cons_of_mem _ (ih h).1, (ih h).2⟩
    rw [pickF] at h
    split at h
    · rename_i o ho
      split at h
      · rename_i hf
        split at h
        · rename_i hfr
          cases h
          exact ⟨by simp, o, ho, hf, hfr⟩
        · exact back h
      · exact back h
    · cases h
theorem askB_ok {S : SS} {ks : List Nat} : ∀ {D : Rec}, askB V l S ks D = true → ∀ k o t d, (k, o, t, d) ∈ D → ks.contains k = true → evF V l o t S = some d
  | [], _, k, o, t, d, hm, _ => by cases hm
  | (k0, o0, t0, d0) :: r, h, k, o, t, d, hm, hk => by
    simp only [askB] at h
    rcases List.mem_cons.1 hm with he | hm
    · cases he
      rw [hk] at h
      simp only at h
      split at h
      · rename_i d' hd'
        split at h
        · rename_i he
          rw [eqDV_ok _ _ he]; exact hd'
        · cases h
      · cases h
    · have hr : askB V l S ks r = true := by
        split at h
        · split at h
          · split at h
            · exact h
            · cases h
          · cases h
        · exact h
      exact askB_ok hr k o t d hm hk
theorem evF_val {o : Oper} {t : Tr DV} {S : SS} {d : DV} (hf : floD l o = true) (hw : wantF l t.get o = some true) (h : evF V l o t S = some d) : valX V l o t.get S = some (d, S) := by
  unfold evF at h
  unfold valX valF
  rw [aeE_eq] at h
  rw [hw]
  simp only
  split at h
  · rename_i hfl
    rw [h, hfl]
  · rename_i hfl
    obtain ⟨t', n', ps, he⟩ := alone_op hf hfl
    rw [he] at h ⊢
    rw [hf]
    split at h
    · rename_i d0 S0 hev
      cases h
      have := (wBuildS_alone hev).1
      subst this
      exact hev
    · cases h

/-- An order that the evaluator took stands for all. -/
theorem evd_ok : ∀ (f : Nat) (listed : Array Bool) (Dl W : List Nat) (js : List (Nat × Option (List Nat))) (t : Tr DV) (S : SS) (D : Rec) (t' : Tr DV) (S' : SS) (Dp : List REnt), sOrd l.toArray l f listed Dl W = some js → js.length = f → evd V n l js t S D = some (t', S') → Closed .any l.toArray listed →
    (∀ m ∈ W, listed.getD m false = true ∧ forcedAt l m) → RecOk V l Dp listed S →
    (∀ e ∈ Dp, (∀ S1, valX V l e.o e.τ S1 = some (e.d, S1)) ∨ (e.k ∈ Dl ∧ floD l e.o = true ∧ ∃ te : Tr DV, (e.k, e.o, te, e.d) ∈ D ∧ te.get = e.τ ∧ wantF l e.τ e.o = some true)) →
    anyF V n l Dp (fun τ S => τ = t'.get ∧ S = S') f listed t.get S
  | 0, listed, Dl, W, js, t, S, D, t', S', Dp, hs, hl, he, hc, hW, hrec, hcov => by
    have : js = [] := List.eq_nil_of_length_eq_zero hl
    subst this
    cases he
    simp only [sOrd] at hs
    split at hs
    · rename_i h0
      exact ⟨hrec, h0, rfl, rfl⟩
    · cases hs
  | f + 1, listed, Dl, W, js, t, S, D, t', S', Dp, hs, hl, he, hc, hW, hrec, hcov => by
    simp only [sOrd] at hs
    split at hs
    · cases hs; simp at hl
    · rename_i hne
      split at hs
      · rename_i i hp
        obtain ⟨hir, o, ho, hfl, hfree⟩ := pickF_ok _ hp
        rw [ho] at hs
        simp only at hs
        split at hs
        case h_2 => cases hs
        rename_i js1 hjs1
        cases hs
        have hl1 : js1.length = f := by simpa using hl
        have hoA : l.toArray[i]? = some o := by rw [List.getElem?_toArray]; exact ho
        have hlt : i < listed.size := by
          rcases Nat.lt_or_ge i listed.size with h' | h'
          · exact h'
          · have := (mem_ready.1 hir).1
            simp [Array.getElem?_eq_none h'] at this
        have hW1 : ∀ m ∈ W, (listed.setIfInBounds i true).getD m false = true ∧ forcedAt l m := fun m hm => ⟨getD_set_true (hW m hm).1, (hW m hm).2⟩
        have hNW : ∀ k, NW l (listed.setIfInBounds i true) k → NW l listed k := fun k h m hm hf => h m (getD_set_true hm) hf
        have main : ∀ (d : DV) (t1 : Tr DV) (D1 : Rec), putE n o.dst d t = some t1 → valX V l o t.get S = some (d, S) → evd V n l js1 t1 S D1 = some (t', S') → (∀ x ∈ D, x ∈ D1) →
            ((∀ S1, valX V l o t.get S1 = some (d, S1)) ∨ (readsB o.op = true ∧ (i, o, t, d) ∈ D1 ∧ wantF l t.get o = some true)) → anyF V n l Dp (fun τ S => τ = t'.get ∧ S = S') (f + 1) listed t.get S := by
          intro d t1 D1 hp1 hv hev hsub hcov1
          obtain ⟨ht1, hdst⟩ := putE_eq hp1
          refine anyF_first (τ0 := t.get) ho hfl hdst f listed t.get S hc (Region.free_spec hoA hfree) hir (fun _ _ => rfl) hv hrec ?_
          rw [← ht1]
          refine evd_ok f _ _ W js1 t1 S D1 t' S' _ hjs1 hl1 hev (hc.step hir) hW1 ?_ ?_
          · intro e hem hnw
            rcases List.mem_cons.1 hem with rfl | hem
            · exact hv
            · exact hrec e hem (hNW _ hnw)
          · intro e hem
            rcases List.mem_cons.1 hem with rfl | hem
            · rcases hcov1 with h1 | ⟨h1, h2, h3⟩
              · exact .inl h1
              · refine .inr ⟨?_, hfl, t, h2, rfl, h3⟩
                rw [h1]; simp
            · rcases hcov e hem with h1 | ⟨h1, h2, te, h3, h4⟩
              · exact .inl h1
              · refine .inr ⟨?_, h2, te, hsub _ h3, h4⟩
                split
                · exact List.mem_cons_of_mem _ h1
                · exact h1
        simp only [evd, ho] at he
        rw [wantE_eq] at he
        split at he
        · cases he
        · rename_i hw
          split at he
          · rename_i t1 hp1
            have hv : valX V l o t.get S = some (.sc undef, S) := by unfold valX valF; rw [hw]
            exact main _ t1 D hp1 hv he (fun x hx => hx) (.inl (valX_indep hfl (.inr hw) hv))
          · cases he
        · rename_i hw

          split at he
          case h_2 => cases he
          rename_i d hd
          split at he
          case h_2 => cases he
          rename_i t1 hp1
          have hv := evF_val hfl hw hd
          cases hrd : readsB o.op with
          | true =>
            rw [hrd] at he
            exact main d t1 _ hp1 hv he (fun x hx => List.mem_cons_of_mem _ hx) (.inr ⟨hrd, by simp, hw⟩)
          | false =>
            rw [hrd] at he
            exact main d t1 _ hp1 hv he (fun x hx => hx) (.inl (valX_indep hfl (.inl hrd) hv))
      · split at hs
        · rename_i j hrj
          split at hs
          case h_2 => cases hs
          rename_i o ho
          split at hs
          case h_1 => cases hs
          rename_i hfl
          split at hs
          case h_2 => cases hs
          rename_i js1 hjs1
          cases hs
          have hl1 : js1.length = f := by simpa using hl
          have hjr : j ∈ Region.ready .any l.toArray listed := by rw [hrj]; simp
          have hlt : j < listed.size := by
            rcases Nat.lt_or_ge j listed.size with h' | h'
            · exact h'
            · have := (mem_ready.1 hjr).1
              simp [Array.getElem?_eq_none h'] at this
          have hjl : (listed.setIfInBounds j true).getD j false = true := by simp [Array.getD_eq_getD_getElem?, hlt]
          have hW1 : ∀ m ∈ j :: W, (listed.setIfInBounds j true).getD m false = true ∧ forcedAt l m := fun m hm => by
            rcases List.mem_cons.1 hm with rfl | hm
            · exact ⟨hjl, o, ho, hfl⟩
            · exact ⟨getD_set_true (hW m hm).1, (hW m hm).2⟩
          have hNW : ∀ k, NW l (listed.setIfInBounds j true) k → NW l listed k := fun k h m hm hf => h m (getD_set_true hm) hf
          have main : ∀ (d : DV) (S1 : SS) (t1 : Tr DV), putE n o.dst d t = some t1 → valX V l o t.get S = some (d, S1) → evd V n l js1 t1 S1 D = some (t', S') → RecOk V l Dp (listed.setIfInBounds j true) S1 → anyF V n l Dp (fun τ S => τ = t'.get ∧ S = S') (f + 1) listed t.get S := by
            intro d S1 t1 hp1 hv hev hrec1
            obtain ⟨ht1, hdst⟩ := putE_eq hp1
            refine ⟨hrec, fun h0 => (by rw [h0] at hrj; cases hrj), fun i hi => ?_⟩
            rw [hrj] at hi
            simp at hi
            subst hi
            refine ⟨o, d, S1, ho, hdst, hv, ?_⟩
            rw [← ht1]
            exact evd_ok f _ Dl (i :: W) js1 t1 S1 D t' S' Dp hjs1 hl1 hev (hc.step hjr) hW1 hrec1 hcov
          have hflo : flo o.op = false := by
            cases hf : flo o.op with
            | false => rfl
            | true => unfold floD at hfl; rw [hf] at hfl; cases hfl
          simp only [evd, ho] at he
          rw [wantE_eq] at he
          split at he
          · cases he
          · rename_i hw
            split at he
            · rename_i t1 hp1
              have hv : valX V l o t.get S = some (.sc undef, S) := by unfold valX valF; rw [hw]
              exact main _ S t1 hp1 hv he fun e hem hnw => hrec e hem (hNW _ hnw)
            · cases he
          · rename_i hw

            split at he
            case h_2 => cases he
            rename_i d S1 hd
            split at he
            case h_2 => cases he
            rename_i t1 hp1 hask
            have hv : valX V l o t.get S = some (d, S1) := by
              unfold valX valF
              rw [hw, hflo, hfl, ← aeE_eq]
              exact hd
            refine main d S1 t1 hp1 hv he fun e hem hnw => ?_
            rcases hcov e hem with h1 | ⟨h1, h2, te, h3, h4, h5⟩
            · exact h1 S1
            · have hns : settled l.toArray (j :: W) e.k = false := by
                apply Bool.eq_false_iff.2
                intro hst
                obtain ⟨m, hm, hcm⟩ := List.any_eq_true.1 hst
                obtain ⟨g1, g2⟩ := hW1 m hm
                have := hnw m g1 g2
                rw [hcm] at this
                cases this
              have hk : (Dl.filter fun k => !(settled l.toArray (j :: W) k)).contains e.k = true := List.contains_iff_mem.2 (List.mem_filter.2 ⟨h1, by simp [hns]⟩)
              have := askB_ok hask e.k e.o te e.d h3 hk
              rw [← h4] at h5 ⊢
              exact evF_val h2 h5 this
        · cases hs
end
end Go.Av
