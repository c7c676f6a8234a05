/-
  What following hands back: to follow it again changes nothing, and more literals lose nothing.
-/
import Derived.Test.YtecbcpilcjmhlaaDoorV0
namespace Go.Fo

theorem roundM_false : ∀ {cls : List (List Int)} {S S' : List Int} {ch : Bool}, roundM cls S ch = some (S', false) → ch = false ∧ S' = S ∧ ∀ c ∈ cls, stepM S c = some (S, false)
  | [], S, S', ch, h => by
    rw [roundM] at h
    cases h
    exact ⟨rfl, rfl, fun c hc => by cases hc⟩
  | c :: r, S, S', ch, h => by
    rw [roundM] at h
    split at h
    · cases h
    · rename_i S1 b hs
      obtain ⟨h1, h2, h3⟩ := roundM_false h
      have hb : b = false := by cases b <;> simp_all
      have hc : ch = false := by cases ch <;> simp_all
      subst hb
      have hS : S1 = S := by
        rcases stepM_cases hs with ⟨_, h⟩ | ⟨h, _⟩
        · exact h
        · cases h
      subst hS
      refine ⟨hc, h2, fun c' hc' => ?_⟩
      rcases List.mem_cons.1 hc' with rfl | hc'
      · exact hs
      · exact h3 c' hc'
theorem roundM_self : ∀ {cls : List (List Int)} {S : List Int}, (∀ c ∈ cls, stepM S c = some (S, false)) → roundM cls S false = some (S, false)
  | [], S, _ => rfl
  | c :: r, S, h => by
    rw [roundM, h c (by simp)]
    exact roundM_self fun c hc => h c (by simp [hc])
/-- Whatever a step keeps, the rounds keep. -/
theorem roundM_keep {P : List Int → Prop} : ∀ {cls : List (List Int)}, (∀ c ∈ cls, ∀ S S' b, P S → stepM S c = some (S', b) → P S') → ∀ {S S' ch ch'}, P S → roundM cls S ch = some (S', ch') → P S'
  | [], _, S, S', ch, ch', hp, h => by rw [roundM] at h; cases h; exact hp
  | c :: r, hk, S, S', ch, ch', hp, h => by
    rw [roundM] at h
    split at h
    · cases h
    · rename_i S1 b hs
      exact roundM_keep (fun c hc => hk c (by simp [hc])) (hk c (by simp) _ _ _ hp hs) h
theorem fixM_keep {P : List Int → Prop} {cls : List (List Int)} (hk : ∀ c ∈ cls, ∀ S S' b, P S → stepM S c = some (S', b) → P S') : ∀ {k S S'}, P S → fixM cls k S = some S' → P S'
  | 0, S, S', hp, h => by rw [fixM] at h; cases h
  | k + 1, S, S', hp, h => by
    rw [fixM] at h
    split at h
    · cases h
    · rename_i S1 hr; cases h; exact roundM_keep hk hp hr
    · rename_i S1 hr; exact fixM_keep hk (roundM_keep hk hp hr) h
theorem fixM_closed {cls : List (List Int)} : ∀ {k S S'}, fixM cls k S = some S' → ∀ c ∈ cls, stepM S' c = some (S', false)
  | 0, S, S', h => by rw [fixM] at h; cases h
  | k + 1, S, S', h => by
    rw [fixM] at h
    split at h
    · cases h
    · rename_i S1 hr
      cases h
      obtain ⟨_, rfl, h3⟩ := roundM_false hr
      exact h3
    · exact fixM_closed h
theorem open_congr {S T : List Int} (h : ∀ x, x ∈ S ↔ x ∈ T) (x : Int) : open' S x = open' T x := by
  unfold open'; rw [decide_eq_decide.2 (h (-x))]
theorem stepM_congr {S T c : List Int} (h : ∀ x, x ∈ S ↔ x ∈ T) (hs : stepM S c = some (S, false)) : stepM T c = some (T, false) := by
  have hf : c.filter (open' S) = c.filter (open' T) := List.filter_congr fun x _ => open_congr h x
  unfold stepM at hs ⊢
  rw [hf] at hs
  split
  · rename_i h0; rw [h0] at hs; cases hs
  · rename_i x r h0
    rw [h0] at hs
    simp only [h] at hs ⊢
    split at hs
    · exact absurd (congrArg Prod.snd (Option.some.inj hs)) (by simp)
    · rename_i hn; rw [if_neg hn]
theorem outM_congr {S T : List Int} (h : ∀ x, x ∈ S ↔ x ∈ T) : ∀ n, outM S n = outM T n
  | 0 => rfl
  | n + 1 => by
    rw [outM, outM, outM_congr h n]
    simp only [h]
theorem mem_outM {S : List Int} : ∀ {n : Nat} {o : List Int}, outM S n = some o → ∀ x, x ∈ o ↔ x ∈ S ∧ x ≠ 0 ∧ -(n : Int) ≤ x ∧ x ≤ n
  | 0, o, h, x => by
    rw [outM] at h; cases h
    constructor
    · intro h; cases h
    · intro ⟨_, h0, h1, h2⟩; exfalso; omega
  | n + 1, o, h, x => by
    rw [outM] at h
    split at h
    · cases h
    · rename_i l hl
      have ih := mem_outM hl x
      have he : ∀ x : Int, ¬ (-(n : Int) ≤ x ∧ x ≤ n) → -((n + 1 : Nat) : Int) ≤ x → x ≤ ((n + 1 : Nat) : Int) → x = (n : Int) + 1 ∨ x = -((n : Int) + 1) := fun x h1 h2 h3 => by omega
      split at h
      · cases h
      · rename_i hb
        split at h
        · rename_i hp
          cases h
          rw [List.mem_append, ih, List.mem_singleton]
          constructor
          · rintro (⟨h1, h2, h3, h4⟩ | rfl)
            · exact ⟨h1, h2, by omega, by omega⟩
            · exact ⟨hp, by omega, by omega, by omega⟩
          · rintro ⟨h1, h2, h3, h4⟩
            by_cases hx : -(n : Int) ≤ x ∧ x ≤ n
            · exact .inl ⟨h1, h2, hx⟩
            · rcases he x hx h3 h4 with rfl | rfl
              · exact .inr rfl
              · exact absurd ⟨hp, h1⟩ hb
        · rename_i hp
          split at h
          · rename_i hm
            cases h
            rw [List.mem_append, ih, List.mem_singleton]
            constructor
            · rintro (⟨h1, h2, h3, h4⟩ | rfl)
              · exact ⟨h1, h2, by omega, by omega⟩
              · exact ⟨hm, by omega, by omega, by omega⟩
            · rintro ⟨h1, h2, h3, h4⟩
              by_cases hx : -(n : Int) ≤ x ∧ x ≤ n
              · exact .inl ⟨h1, h2, hx⟩
              · rcases he x hx h3 h4 with rfl | rfl
                · exact absurd h1 hp
                · exact .inr rfl
          · rename_i hm
            cases h
            rw [ih]
            constructor
            · rintro ⟨h1, h2, h3, h4⟩
              exact ⟨h1, h2, by omega, by omega⟩
            · rintro ⟨h1, h2, h3, h4⟩
              by_cases hx : -(n : Int) ≤ x ∧ x ≤ n
              · exact ⟨h1, h2, hx⟩
              · rcases he x hx h3 h4 with rfl | rfl
                · exact absurd h1 hp
                · exact absurd h1 hm
theorem outM_len {S : List Int} : ∀ {n : Nat} {o : List Int}, outM S n = some o → o.length ≤ n
  | 0, o, h => by rw [outM] at h; cases h; simp
  | n + 1, o, h => by
    rw [outM] at h
    split at h
    · cases h
    · rename_i l hl
      have ih := outM_len hl
      split at h
      · cases h
      · split at h
        · cases h; simp; omega
        · split at h <;> · cases h; simp; omega
theorem follow_out {cls : List (List Int)} {l o : List Int} (h : followM cls l = some o) : o.length ≤ 2000 ∧ ∀ x ∈ o, x ≠ 0 ∧ -2000 ≤ x ∧ x ≤ 2000 := by
  unfold followM at h
  split at h
  · cases h
  · exact ⟨outM_len h, fun x hx => ((mem_outM h x).1 hx).2⟩
/-- The literals stand in the table. -/
def Fits (l : List Int) : Prop := ∀ x ∈ l, x ≠ 0 ∧ -2000 ≤ x ∧ x ≤ 2000
theorem step_fits {c : List Int} (hc : Fits c) (S S' : List Int) (b : Bool) (hS : Fits S) (h : stepM S c = some (S', b)) : Fits S' := by
  rcases stepM_cases h with ⟨_, rfl⟩ | ⟨_, x, hx, _, rfl⟩
  · exact hS
  · intro y hy
    rcases List.mem_append.1 hy with h | h
    · exact hS y h
    · rw [List.mem_singleton.1 h]; exact hc x hx
theorem follow_again {cls : List (List Int)} {l o : List Int} (hc : ∀ c ∈ cls, Fits c) (hl : Fits l) (h : followM cls l = some o) : followM cls o = some o := by
  unfold followM at h
  split at h
  · cases h
  · rename_i S hS
    have hf : Fits S := fixM_keep (fun c hcc S S' b => step_fits (hc c hcc) S S' b) (fun x hx => hl x (mem_startM.1 hx)) hS
    have hm : ∀ x, x ∈ S ↔ x ∈ startM o := fun x => by
      rw [mem_startM, mem_outM h]
      exact ⟨fun hx => ⟨hx, (hf x hx).1, (hf x hx).2⟩, fun hx => hx.1⟩
    have hr : fixM cls (meas cls (startM o) + 1) (startM o) = some (startM o) := by
      rw [fixM, roundM_self fun c hcc => stepM_congr hm (fixM_closed hS c hcc)]
    unfold followM
    rw [hr]
    change outM (startM o) 2000 = some o
    rw [← h]
    exact (outM_congr hm 2000).symm
theorem step_under {T c : List Int} (hT : stepM T c = some (T, false)) (S S' : List Int) (b : Bool) (hS : ∀ x ∈ S, x ∈ T) (h : stepM S c = some (S', b)) : ∀ x ∈ S', x ∈ T := by
  unfold stepM at h hT
  split at h
  · cases h
  · rename_i x r hx
    split at h
    · rename_i hc
      cases h
      intro y hy
      rcases List.mem_append.1 hy with h | h
      · exact hS y h
      · rw [List.mem_singleton.1 h]
        have hall : ∀ z ∈ c.filter (open' T), z = x := fun z hz => by
          obtain ⟨h1, h2⟩ := List.mem_filter.1 hz
          have : z ∈ c.filter (open' S) := List.mem_filter.2 ⟨h1, by
            unfold open' at h2 ⊢
            have : -z ∉ T := by simpa using h2
            simpa using fun h => this (hS _ h)⟩
          rw [hx] at this
          rcases List.mem_cons.1 this with h | h
          · exact h
          · exact hc.1 z h
        split at hT
        · cases hT
        · rename_i x' r' hx'
          have e1 : x' = x := hall x' (by rw [hx']; simp)
          split at hT
          · exact absurd (congrArg Prod.snd (Option.some.inj hT)) (by simp)
          · rename_i hn
            have : x' ∈ T := by
              apply Decidable.byContradiction
              intro hnn
              exact hn ⟨fun y hy => by rw [hall y (by rw [hx']; simp [hy]), e1], hnn⟩
            rw [e1] at this
            exact this
    · cases h; exact hS
theorem follow_more {cls : List (List Int)} {l o z : List Int} {y : Int} (h : followM cls l = some o) (hz : followM cls (l ++ [y]) = some z) : ∀ v ∈ o, v ∈ z := by
  unfold followM at h hz
  split at h
  · cases h
  · rename_i S hS
    split at hz
    · cases hz
    · rename_i T hT
      have hin : ∀ x ∈ startM (l ++ [y]), x ∈ T := fixM_keep (P := fun S => ∀ x ∈ startM (l ++ [y]), x ∈ S) (fun c _ S S' b hp hs => by
        rcases stepM_cases hs with ⟨_, rfl⟩ | ⟨_, x, _, _, rfl⟩
        · exact hp
        · exact fun x hx => List.mem_append.2 (.inl (hp x hx))) (fun x hx => hx) hT
      have hle : ∀ x ∈ S, x ∈ T := fixM_keep (P := fun S => ∀ x ∈ S, x ∈ T) (fun c hc S S' b => step_under (fixM_closed hT c hc) S S' b) (fun x hx => hin x (mem_startM.2 (List.mem_append.2 (.inl (mem_startM.1 hx))))) hS
      intro v hv
      rw [mem_outM h] at hv
      rw [mem_outM hz]
      exact ⟨hle v hv.1, hv.2⟩
theorem has_succ {z : List Int} {q : Nat} (h : q < z.length) (x : Int) : (z.take (q + 1)).contains x = ((z.take q).contains x || decide (z[q] = x)) := by
  rw [List.take_succ_eq_append_getElem h]
  generalize z.take q = t
  generalize z[q] = y
  rw [Bool.eq_iff_iff]
  simp only [List.contains_iff_mem, List.mem_append, List.mem_singleton, Bool.or_eq_true, decide_eq_true_eq]
  exact or_congr_right ⟨Eq.symm, Eq.symm⟩
end Go.Fo
