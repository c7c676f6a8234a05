/-
  The evaluator's values and store against what is known of the world.
-/
import Derived.Test.YtecbcpilcjmhlaaDoorEv0
namespace Go.Av
open Classical
set_option linter.unusedSimpArgs false
set_option linter.unusedVariables false

/-- The same value, with the real generations. -/
inductive EV (Γ : List Nat) : DV → DV → Prop
  | same (d : DV) : d.clo = true → EV Γ d d
  | any (d : DV) : EV Γ .any d
  | ref (k γ g off len es : Nat) : Γ[γ]? = some g → EV Γ (.ref k γ off len es) (.ref k g off len es)
  | ptr (k γ g off : Nat) : Γ[γ]? = some g → EV Γ (.ptr k γ off) (.ptr k g off)
  | mp (k γ g : Nat) : Γ[γ]? = some g → EV Γ (.mp k γ) (.mp k g)
  | sl (es : Nat) (cs cs' : List DV) : cs.length = cs'.length → (∀ (j : Nat) (d d' : DV), cs[j]? = some d → cs'[j]? = some d' → EV Γ d d') → EV Γ (.sl es cs) (.sl es cs')
  | ep (cs cs' : List DV) : cs.length = cs'.length → (∀ (j : Nat) (d d' : DV), cs[j]? = some d → cs'[j]? = some d' → EV Γ d d') → EV Γ (.ep cs) (.ep cs')
  | agg (cs cs' : List DV) : cs.length = cs'.length → (∀ (j : Nat) (d d' : DV), cs[j]? = some d → cs'[j]? = some d' → EV Γ d d') → EV Γ (.agg cs) (.agg cs')
  | tup (cs cs' : List DV) : cs.length = cs'.length → (∀ (j : Nat) (d d' : DV), cs[j]? = some d → cs'[j]? = some d' → EV Γ d d') → EV Γ (.tup cs) (.tup cs')
  | fn (f : Fn) (a a' b b' : List DV) : a.length = a'.length → (∀ (j : Nat) (d d' : DV), a[j]? = some d → a'[j]? = some d' → EV Γ d d') → b.length = b'.length → (∀ (j : Nat) (d d' : DV), b[j]? = some d → b'[j]? = some d' → EV Γ d d') → EV Γ (.fn f a b) (.fn f a' b')

structure EVs (Γ : List Nat) (cs cs' : List DV) : Prop where
  len : cs.length = cs'.length
  get : ∀ (j : Nat) (d d' : DV), cs[j]? = some d → cs'[j]? = some d' → EV Γ d d'

theorem EVs.nil {Γ : List Nat} : EVs Γ [] [] := ⟨rfl, fun j d d' h => by simp at h⟩
theorem EVs.cons {Γ : List Nat} {d d' : DV} {r r' : List DV} (h : EV Γ d d') (k : EVs Γ r r') : EVs Γ (d :: r) (d' :: r') := ⟨by simp [k.len], fun j e e' h1 h2 => by
  cases j with
  | zero => simp at h1 h2; subst h1; subst h2; exact h
  | succ j => exact k.get j e e' (by simpa using h1) (by simpa using h2)⟩
theorem EVs.cons_inv {Γ : List Nat} {d : DV} {r l : List DV} (h : EVs Γ (d :: r) l) : ∃ d' r', l = d' :: r' ∧ EV Γ d d' ∧ EVs Γ r r' := by
  cases l with
  | nil => have := h.len; simp at this
  | cons d' r' => exact ⟨d', r', rfl, h.get 0 d d' rfl rfl, ⟨by simpa using h.len, fun j e e' h1 h2 => h.get (j + 1) e e' (by simpa using h1) (by simpa using h2)⟩⟩
theorem EVs.nil_inv {Γ : List Nat} {l : List DV} (h : EVs Γ [] l) : l = [] := List.eq_nil_of_length_eq_zero h.len.symm
theorem EVs.same {Γ : List Nat} {cs : List DV} (h : ∀ d ∈ cs, d.clo = true) : EVs Γ cs cs := ⟨rfl, fun j d d' h1 h2 => by
  rw [h1] at h2; cases h2; exact .same d (h d (List.mem_of_getElem? h1))⟩
theorem EVs.at {Γ : List Nat} {cs cs' : List DV} (h : EVs Γ cs cs') {j : Nat} {d : DV} (hj : cs[j]? = some d) : ∃ d', cs'[j]? = some d' ∧ EV Γ d d' := by
  have hlt : j < cs'.length := by rw [← h.len]; exact (List.getElem?_eq_some_iff.1 hj).1
  exact ⟨_, List.getElem?_eq_getElem hlt, h.get j d _ hj (List.getElem?_eq_getElem hlt)⟩
theorem EVs.drop {Γ : List Nat} {cs cs' : List DV} (h : EVs Γ cs cs') (n : Nat) : EVs Γ (cs.drop n) (cs'.drop n) := ⟨by simp [h.len], fun j d d' h1 h2 => by
  rw [List.getElem?_drop] at h1 h2; exact h.get _ d d' h1 h2⟩
theorem EVs.take {Γ : List Nat} {cs cs' : List DV} (h : EVs Γ cs cs') (n : Nat) : EVs Γ (cs.take n) (cs'.take n) := ⟨by simp [h.len], fun j d d' h1 h2 => by
  rw [List.getElem?_take] at h1 h2
  split at h1
  · rename_i hj
    rw [if_pos hj] at h2
    exact h.get _ d d' h1 h2
  · cases h1⟩
theorem EVs.append {Γ : List Nat} {a a' b b' : List DV} (h : EVs Γ a a') (k : EVs Γ b b') : EVs Γ (a ++ b) (a' ++ b') := ⟨by simp [h.len, k.len], fun j d d' h1 h2 => by
  rw [List.getElem?_append] at h1 h2
  have := h.len
  split at h1
  · rename_i hj
    rw [if_pos (by omega)] at h2
    exact h.get _ d d' h1 h2
  · rename_i hj
    rw [if_neg (by omega), ← this] at h2
    exact k.get _ d d' h1 h2⟩

/-- More generations. -/
def Gle (Γ Γ' : List Nat) : Prop := ∃ r, Γ' = Γ ++ r
theorem Gle.refl (Γ : List Nat) : Gle Γ Γ := ⟨[], by simp⟩
theorem Gle.trans {a b c : List Nat} (h : Gle a b) (k : Gle b c) : Gle a c := by
  obtain ⟨r, rfl⟩ := h
  obtain ⟨s, rfl⟩ := k
  exact ⟨r ++ s, by simp⟩
theorem Gle.snoc (Γ : List Nat) (g : Nat) : Gle Γ (Γ ++ [g]) := ⟨[g], rfl⟩
theorem Gle.get {Γ Γ' : List Nat} (h : Gle Γ Γ') {γ g : Nat} (k : Γ[γ]? = some g) : Γ'[γ]? = some g := by
  obtain ⟨r, rfl⟩ := h
  rw [List.getElem?_append_left (List.getElem?_eq_some_iff.1 k).1]; exact k
theorem EV.mono {Γ Γ' : List Nat} (h : Gle Γ Γ') {d e : DV} (k : EV Γ d e) : EV Γ' d e := by
  induction k with
  | same d h1 => exact .same d h1
  | any d => exact .any d
  | ref k γ g off len es h1 => exact .ref k γ g off len es (h.get h1)
  | ptr k γ g off h1 => exact .ptr k γ g off (h.get h1)
  | mp k γ g h1 => exact .mp k γ g (h.get h1)
  | sl es cs cs' h1 _ ih => exact .sl es cs cs' h1 ih
  | ep cs cs' h1 _ ih => exact .ep cs cs' h1 ih
  | agg cs cs' h1 _ ih => exact .agg cs cs' h1 ih
  | tup cs cs' h1 _ ih => exact .tup cs cs' h1 ih
  | fn f a a' b b' h1 _ h2 _ ih1 ih2 => exact .fn f a a' b b' h1 ih1 h2 ih2
theorem EVs.mono {Γ Γ' : List Nat} (h : Gle Γ Γ') {d e : List DV} (k : EVs Γ d e) : EVs Γ' d e := ⟨k.len, fun j a b h1 h2 => (k.get j a b h1 h2).mono h⟩

section
variable {Γ : List Nat}
theorem EV.sc_inv {v : Value} {d : DV} (h : EV Γ (.sc v) d) : d = .sc v := by cases h; rfl
theorem EV.ref_inv {k γ off len es : Nat} {d : DV} (h : EV Γ (.ref k γ off len es) d) : ∃ g, Γ[γ]? = some g ∧ d = .ref k g off len es := by
  cases h with
  | same _ h1 => simp [DV.clo] at h1
  | ref _ _ g _ _ _ h1 => exact ⟨g, h1, rfl⟩
theorem EV.ptr_inv {k γ off : Nat} {d : DV} (h : EV Γ (.ptr k γ off) d) : ∃ g, Γ[γ]? = some g ∧ d = .ptr k g off := by
  cases h with
  | same _ h1 => simp [DV.clo] at h1
  | ptr _ _ g _ h1 => exact ⟨g, h1, rfl⟩
theorem EV.mp_inv {k γ : Nat} {d : DV} (h : EV Γ (.mp k γ) d) : ∃ g, Γ[γ]? = some g ∧ d = .mp k g := by
  cases h with
  | same _ h1 => simp [DV.clo] at h1
  | mp _ _ g h1 => exact ⟨g, h1, rfl⟩
theorem clo_all {cs : List DV} (h : (cs.attach.all fun ⟨d, _⟩ => d.clo) = true) : ∀ d ∈ cs, d.clo = true := fun d hd => by
  have := List.all_eq_true.1 h ⟨d, hd⟩ (List.mem_attach _ _)
  exact this
theorem EV.sl_inv {es : Nat} {cs : List DV} {d : DV} (h : EV Γ (.sl es cs) d) : ∃ cs', d = .sl es cs' ∧ EVs Γ cs cs' := by
  cases h with
  | same _ h1 => exact ⟨cs, rfl, .same (clo_all (by simpa [DV.clo] using h1))⟩
  | sl _ _ cs' h1 h2 => exact ⟨cs', rfl, h1, h2⟩
theorem EV.ep_inv {cs : List DV} {d : DV} (h : EV Γ (.ep cs) d) : ∃ cs', d = .ep cs' ∧ EVs Γ cs cs' := by
  cases h with
  | same _ h1 => exact ⟨cs, rfl, .same (clo_all (by simpa [DV.clo] using h1))⟩
  | ep _ cs' h1 h2 => exact ⟨cs', rfl, h1, h2⟩
theorem EV.agg_inv {cs : List DV} {d : DV} (h : EV Γ (.agg cs) d) : ∃ cs', d = .agg cs' ∧ EVs Γ cs cs' := by
  cases h with
  | same _ h1 => exact ⟨cs, rfl, .same (clo_all (by simpa [DV.clo] using h1))⟩
  | agg _ cs' h1 h2 => exact ⟨cs', rfl, h1, h2⟩
theorem EV.tup_inv {cs : List DV} {d : DV} (h : EV Γ (.tup cs) d) : ∃ cs', d = .tup cs' ∧ EVs Γ cs cs' := by
  cases h with
  | same _ h1 => exact ⟨cs, rfl, .same (clo_all (by simpa [DV.clo] using h1))⟩
  | tup _ cs' h1 h2 => exact ⟨cs', rfl, h1, h2⟩
theorem EV.fn_inv {f : Fn} {a b : List DV} {d : DV} (h : EV Γ (.fn f a b) d) : ∃ a' b', d = .fn f a' b' ∧ EVs Γ a a' ∧ EVs Γ b b' := by
  cases h with
  | same _ h1 =>
    simp only [DV.clo, Bool.and_eq_true] at h1
    exact ⟨a, b, rfl, .same (clo_all h1.1), .same (clo_all h1.2)⟩
  | fn _ _ a' _ b' h1 h2 h3 h4 => exact ⟨a', b', rfl, ⟨h1, h2⟩, ⟨h3, h4⟩⟩
theorem EV.sl' {es : Nat} {cs cs' : List DV} (h : EVs Γ cs cs') : EV Γ (.sl es cs) (.sl es cs') := .sl _ _ _ h.len h.get
theorem EV.ep' {cs cs' : List DV} (h : EVs Γ cs cs') : EV Γ (.ep cs) (.ep cs') := .ep _ _ h.len h.get
theorem EV.agg' {cs cs' : List DV} (h : EVs Γ cs cs') : EV Γ (.agg cs) (.agg cs') := .agg _ _ h.len h.get
theorem EV.tup' {cs cs' : List DV} (h : EVs Γ cs cs') : EV Γ (.tup cs) (.tup cs') := .tup _ _ h.len h.get
theorem EV.sc' (v : Value) : EV Γ (.sc v) (.sc v) := .same _ (by simp [DV.clo])
theorem EVs.sc (l : List Value) : EVs Γ (l.map .sc) (l.map .sc) := .same fun d hd => by
  obtain ⟨v, _, rfl⟩ := List.mem_map.1 hd
  simp [DV.clo]
theorem EV.one {d e : DV} (h : EV Γ d e) (k : d.one = true) : e.one = true := by cases h <;> first | exact k | rfl | cases k
end

/-! Tries. -/
theorem Tr.get_e {α : Type} (i : Nat) : (Tr.e : Tr α).get i = none := rfl
theorem half {i j : Nat} (hi : ¬ i = 0) (hj : ¬ j = 0) (hm : i % 2 = j % 2) (hd : i / 2 = j / 2) : i = j := by omega
theorem Tr.get_set {α : Type} : ∀ (f : Nat) (t : Tr α) (i j : Nat) (d x : α), (t.set f i d).get j = some x → (i = j ∧ x = d) ∨ (i ≠ j ∧ t.get j = some x) := by
  intro f
  induction f with
  | zero => intro t i j d x h; simp [Tr.set, Tr.get] at h
  | succ f ih =>
    have key : ∀ (v : Option α) (l r : Tr α) (i j : Nat) (d x : α), ((Tr.n v l r).set (f + 1) i d).get j = some x → (i = j ∧ x = d) ∨ (i ≠ j ∧ (Tr.n v l r).get j = some x) := by
      intro v l r i j d x h
      simp only [Tr.set] at h
      cases hi : Nat.beq i 0 with
      | true =>
        have := Nat.eq_of_beq_eq_true hi
        subst this
        simp only [hi, Tr.get] at h ⊢
        cases hj : Nat.beq j 0 with
        | true =>
          have := Nat.eq_of_beq_eq_true hj
          subst this
          simp only [hj] at h
          exact .inl ⟨rfl, (Option.some.inj h).symm⟩
        | false =>
          simp only [hj] at h
          exact .inr ⟨fun e => by subst e; simp at hj, h⟩
      | false =>
        have hi0 : ¬ i = 0 := fun e => by subst e; simp at hi
        simp only [hi] at h
        cases hm : Nat.beq (Nat.mod i 2) 1 with
        | true =>
          have hm' : i % 2 = 1 := Nat.eq_of_beq_eq_true hm
          simp only [hm, Tr.get] at h ⊢
          cases hj : Nat.beq j 0 with
          | true =>
            have := Nat.eq_of_beq_eq_true hj
            subst this
            simp only [hj] at h
            exact .inr ⟨hi0, h⟩
          | false =>
            have hj0 : ¬ j = 0 := fun e => by subst e; simp at hj
            simp only [hj] at h ⊢
            cases hmj : Nat.beq (Nat.mod j 2) 1 with
            | true =>
              have hmj' : j % 2 = 1 := Nat.eq_of_beq_eq_true hmj
              simp only [hmj] at h
              rcases ih _ _ _ _ _ h with ⟨h1, h2⟩ | ⟨h1, h2⟩
              · exact .inl ⟨half hi0 hj0 (by omega) h1, h2⟩
              · exact .inr ⟨fun e => h1 (by rw [e]), h2⟩
            | false =>
              have hmj' : ¬ j % 2 = 1 := fun e => by rw [show Nat.mod j 2 = 1 from e] at hmj; simp at hmj
              simp only [hmj] at h
              exact .inr ⟨fun e => by subst e; exact hmj' hm', h⟩
        | false =>
          have hm' : ¬ i % 2 = 1 := fun e => by rw [show Nat.mod i 2 = 1 from e] at hm; simp at hm
          simp only [hm, Tr.get] at h ⊢
          cases hj : Nat.beq j 0 with
          | true =>
            have := Nat.eq_of_beq_eq_true hj
            subst this
            simp only [hj] at h
            exact .inr ⟨hi0, h⟩
          | false =>
            have hj0 : ¬ j = 0 := fun e => by subst e; simp at hj
            simp only [hj] at h ⊢
            cases hmj : Nat.beq (Nat.mod j 2) 1 with
            | true =>
              have hmj' : j % 2 = 1 := Nat.eq_of_beq_eq_true hmj
              simp only [hmj] at h
              exact .inr ⟨fun e => by subst e; exact hm' hmj', h⟩
            | false =>
              have hmj' : ¬ j % 2 = 1 := fun e => by rw [show Nat.mod j 2 = 1 from e] at hmj; simp at hmj
              simp only [hmj] at h
              rcases ih _ _ _ _ _ h with ⟨h1, h2⟩ | ⟨h1, h2⟩
              · have h1 : i / 2 - 1 = j / 2 - 1 := h1
                exact .inl ⟨half hi0 hj0 (by omega) (by omega), h2⟩
              · exact .inr ⟨fun e => h1 (by rw [e]), h2⟩
    intro t i j d x h
    cases t with
    | n v l r => exact key v l r i j d x h
    | e =>
      have h' : ((Tr.n none .e .e).set (f + 1) i d).get j = some x := by simpa only [Tr.set] using h
      rcases key none .e .e i j d x h' with h1 | ⟨h1, h2⟩
      · exact .inl h1
      · exfalso
        simp only [Tr.get] at h2
        split at h2
        · cases h2
        · split at h2 <;> cases h2

/-! The store. -/
structure ES (Γ : List Nat) (S : SS) (σ : List ABlk) : Prop where
  m : S.m = σ.length
  c : S.c = Γ.length
  row : ∀ k γ cs, S.s.get k = some (.row γ cs) → ∃ g cs', Γ[γ]? = some g ∧ σ[k]? = some (.row g cs') ∧ EVs Γ cs cs'
  map : ∀ k γ l, S.s.get k = some (.mapb γ l) → ∃ g l', Γ[γ]? = some g ∧ σ[k]? = some (.mapb g l') ∧ l.map (·.1) = l'.map (·.1) ∧ EVs Γ (l.map (·.2)) (l'.map (·.2))

theorem rowOf_some {s : Tr ABlk} {k γ : Nat} {cs : List DV} (h : rowOf s k γ = some cs) : s.get k = some (.row γ cs) := by
  unfold rowOf at h
  split at h
  · rename_i γ' cs' hk
    split at h
    · rename_i hb
      have := Nat.eq_of_beq_eq_true hb
      subst this
      cases h; exact hk
    · cases h
  · cases h
theorem mapOf_some {s : Tr ABlk} {k γ : Nat} {l : List (Value × DV)} (h : mapOf s k γ = some l) : s.get k = some (.mapb γ l) := by
  unfold mapOf at h
  split at h
  · rename_i γ' cs' hk
    split at h
    · rename_i hb
      have := Nat.eq_of_beq_eq_true hb
      subst this
      cases h; exact hk
    · cases h
  · cases h
theorem ES.rowOf {Γ : List Nat} {S : SS} {σ : List ABlk} (hS : ES Γ S σ) {k γ g : Nat} {cs : List DV} (h : rowOf S.s k γ = some cs) (hg : Γ[γ]? = some g) : ∃ cs', σ[k]? = some (.row g cs') ∧ EVs Γ cs cs' := by
  obtain ⟨g', cs', h1, h2, h3⟩ := hS.row k γ cs (rowOf_some h)
  rw [hg] at h1; cases h1
  exact ⟨cs', h2, h3⟩
theorem ES.mapOf {Γ : List Nat} {S : SS} {σ : List ABlk} (hS : ES Γ S σ) {k γ g : Nat} {l : List (Value × DV)} (h : mapOf S.s k γ = some l) (hg : Γ[γ]? = some g) : ∃ l', σ[k]? = some (.mapb g l') ∧ l.map (·.1) = l'.map (·.1) ∧ EVs Γ (l.map (·.2)) (l'.map (·.2)) := by
  obtain ⟨g', l', h1, h2, h3⟩ := hS.map k γ l (mapOf_some h)
  rw [hg] at h1; cases h1
  exact ⟨l', h2, h3⟩
theorem ES.newRow {Γ : List Nat} {S : SS} {σ : List ABlk} (hS : ES Γ S σ) {g : Nat} {cs cs' : List DV} (h : EVs Γ cs cs') : ES (Γ ++ [g]) (newB S (.row S.c cs)) (σ ++ [.row g cs']) where
  m := by simp [newB, hS.m]
  c := by simp [newB, hS.c]
  row k γ c hk := by
    simp only [newB] at hk
    rcases Tr.get_set _ _ _ _ _ _ hk with ⟨h1, h2⟩ | ⟨h1, h2⟩
    · cases h2
      refine ⟨g, cs', by rw [hS.c]; simp, by rw [← h1, hS.m]; simp, h.mono (Gle.snoc _ _)⟩
    · obtain ⟨g', c', e1, e2, e3⟩ := hS.row k γ c h2
      exact ⟨g', c', (Gle.snoc _ _).get e1, by rw [List.getElem?_append_left (List.getElem?_eq_some_iff.1 e2).1]; exact e2, e3.mono (Gle.snoc _ _)⟩
  map k γ c hk := by
    simp only [newB] at hk
    rcases Tr.get_set _ _ _ _ _ _ hk with ⟨h1, h2⟩ | ⟨h1, h2⟩
    · cases h2
    · obtain ⟨g', c', e1, e2, e3, e4⟩ := hS.map k γ c h2
      exact ⟨g', c', (Gle.snoc _ _).get e1, by rw [List.getElem?_append_left (List.getElem?_eq_some_iff.1 e2).1]; exact e2, e3, e4.mono (Gle.snoc _ _)⟩
theorem ES.newMap {Γ : List Nat} {S : SS} {σ : List ABlk} (hS : ES Γ S σ) {g : Nat} : ES (Γ ++ [g]) (newB S (.mapb S.c [])) (σ ++ [.mapb g []]) where
  m := by simp [newB, hS.m]
  c := by simp [newB, hS.c]
  row k γ c hk := by
    simp only [newB] at hk
    rcases Tr.get_set _ _ _ _ _ _ hk with ⟨h1, h2⟩ | ⟨h1, h2⟩
    · cases h2
    · obtain ⟨g', c', e1, e2, e3⟩ := hS.row k γ c h2
      exact ⟨g', c', (Gle.snoc _ _).get e1, by rw [List.getElem?_append_left (List.getElem?_eq_some_iff.1 e2).1]; exact e2, e3.mono (Gle.snoc _ _)⟩
  map k γ c hk := by
    simp only [newB] at hk
    rcases Tr.get_set _ _ _ _ _ _ hk with ⟨h1, h2⟩ | ⟨h1, h2⟩
    · cases h2
      exact ⟨g, [], by rw [hS.c]; simp, by rw [← h1, hS.m]; simp, rfl, .nil⟩
    · obtain ⟨g', c', e1, e2, e3, e4⟩ := hS.map k γ c h2
      exact ⟨g', c', (Gle.snoc _ _).get e1, by rw [List.getElem?_append_left (List.getElem?_eq_some_iff.1 e2).1]; exact e2, e3, e4.mono (Gle.snoc _ _)⟩
/-- A row's cells turn. -/
theorem ES.setRow {Γ Γ' : List Nat} {S : SS} {σ : List ABlk} (hS : ES Γ S σ) (hG : Gle Γ Γ') {k γ g c : Nat} {cs cs' : List DV} (hk : k < σ.length) (hg : Γ'[γ]? = some g) (hc : c = Γ'.length) (h : EVs Γ' cs cs') : ES Γ' ⟨S.s.set deep k (.row γ cs), S.m, c⟩ (σ.set k (.row g cs')) where
  m := by simp [hS.m]
  c := hc
  row j γ' c hj := by
    rcases Tr.get_set _ _ _ _ _ _ hj with ⟨h1, h2⟩ | ⟨h1, h2⟩
    · cases h2
      subst h1
      exact ⟨g, cs', hg, by simp [hk], h⟩
    · obtain ⟨g', c', e1, e2, e3⟩ := hS.row j γ' c h2
      exact ⟨g', c', hG.get e1, by rw [List.getElem?_set, if_neg h1]; exact e2, e3.mono hG⟩
  map j γ' c hj := by
    rcases Tr.get_set _ _ _ _ _ _ hj with ⟨h1, h2⟩ | ⟨h1, h2⟩
    · cases h2
    · obtain ⟨g', c', e1, e2, e3, e4⟩ := hS.map j γ' c h2
      exact ⟨g', c', hG.get e1, by rw [List.getElem?_set, if_neg h1]; exact e2, e3, e4.mono hG⟩
theorem ES.setMap {Γ : List Nat} {S : SS} {σ : List ABlk} (hS : ES Γ S σ) {k γ g : Nat} {l l' : List (Value × DV)} (hk : k < σ.length) (hg : Γ[γ]? = some g) (h1 : l.map (·.1) = l'.map (·.1)) (h : EVs Γ (l.map (·.2)) (l'.map (·.2))) : ES Γ ⟨S.s.set deep k (.mapb γ l), S.m, S.c⟩ (σ.set k (.mapb g l')) where
  m := by simp [hS.m]
  c := hS.c
  row j γ' c hj := by
    rcases Tr.get_set _ _ _ _ _ _ hj with ⟨h1, h2⟩ | ⟨h1, h2⟩
    · cases h2
    · obtain ⟨g', c', e1, e2, e3⟩ := hS.row j γ' c h2
      exact ⟨g', c', e1, by rw [List.getElem?_set, if_neg h1]; exact e2, e3⟩
  map j γ' c hj := by
    rcases Tr.get_set _ _ _ _ _ _ hj with ⟨h2, h3⟩ | ⟨h2, h3⟩
    · cases h3
      subst h2
      exact ⟨g, l', hg, by simp [hk], h1, h⟩
    · obtain ⟨g', c', e1, e2, e3, e4⟩ := hS.map j γ' c h3
      exact ⟨g', c', e1, by rw [List.getElem?_set, if_neg h2]; exact e2, e3, e4⟩

/-! What the tables say is so. -/
def TK.ok (P : Program) (td : TypeDesc) (t : TypeId) : TK → Prop
  | .int k => td = .int k
  | .bool => td = .bool
  | .str => td = .string
  | .slice e => td = .slice e
  | .arr n e => td = .array n e
  | .map k e => td = .map k e
  | .struct fl => TyS P t (fl.map fun p => (p.1, p.2.1)) ∧ ∀ fi p, fl[fi]? = some p → TyF P t fi p.1 p.2.1 p.2.2
  | .other => True
structure TIok (P : Program) (t : TypeId) (ti : TI) : Prop where
  d : ∃ td, TyI P t td ti.agg ti.sz ∧ ti.k.ok P td t
  b : TyB P t ti.by'
  z : TyZ P t ti.zs
  v : match ti.agg with | true => (P.info? t).bind (·.zero) = some (.agg ti.zs.toArray) | false => ∀ z, ti.zs = [z] → (P.info? t).bind (·.zero) = some z
structure TOk (P : Program) (T : Tab) : Prop where
  ty : ∀ t ti, T.ty.get t = some ti → TIok P t ti
  fs : ∀ f fn, T.fs.get f = some fn → P.funcs[f]? = some fn
  fo : ∀ f fn, T.fs.get f = some fn → FnOk P f
end Go.Av
