/-
  The evaluator is right: code, calls, and what is handed back.
-/
import Derived.Test.YtecbcpilcjmhlaaDoorEv8
namespace Go.Av
open Classical
set_option linter.unusedSimpArgs false
set_option linter.unusedVariables false

def Ex.exit : Ex → Exit
  | .nx => .normal
  | .ex id => .exit id
  | .rt => .ret

section
variable {P : Program} {E : AX} {n : Nat} {V : Env} {Γ0 : List Nat}

theorem ERel.eval {τ : FrF} {S : SS} {a : Act} {w : World} (hr : ERel V.G E n Γ0 τ S a w) {x : Operand} {v : Value} (h : aeF V.G τ x = .sc v) : a.eval x = v := by
  obtain ⟨Γ, φ, σ, _, _, hτ, hrel⟩ := hr
  have h1 := ae_ev hrel hτ x
  rw [h] at h1
  have h2 := h1.sc_inv
  obtain ⟨X, _, _, _, _, h5, _, _, h8⟩ := hrel
  have : VRep X.lay (aevF V.G φ x) (a.eval x) := by
    cases x with
    | tmp i => exact h8 i
    | const v => exact .sc v
    | global g => exact (h5 g).2
    | func f => exact .fn _ [] [] #[] #[] rfl rfl (fun j d h => by simp at h) (fun j d h => by simp at h)
  rw [h2] at this
  exact VRep.sc_eq this
theorem ERel.drew {τ : FrF} {S : SS} {a : Act} {w : World} (hr : ERel V.G E n Γ0 τ S a w) : ERel V.G E n Γ0 τ S a { w with drawn := w.drawn + 1 } := by
  obtain ⟨Γ, φ, σ, g1, g2, g3, X, e1, e2, e3, e4, e5, e6, e7, e8⟩ := hr
  have hk := Keep.drew X.w
  subst e1
  exact ⟨Γ, φ, σ, g1, g2, g3, X.inW X.w.drew, rfl, e2, e3.inW hk, e4.trans (WExt.inW hk), e5.ext (WExt.inW hk), e6, e7, fun i => (e8 i).ext (WExt.inW hk)⟩

theorem evc_ok (hV : VOk P V) (hm : P.follows .mixedOrders = true) : ∀ (f : Nat), (∀ (c : Code) (t : Tr DV) (S : SS) (ex : Ex) (t' : Tr DV) (S' : SS), evc V n f c t S = some (ex, t', S') → ∀ (Q : Exit → Act → World → Prop) (a : Act) (w : World), ERel V.G E n Γ0 t.get S a w → (∀ a' w', ERel V.G E n Γ0 t'.get S' a' w' → Q ex.exit a' w') → c.wp P Q a w) ∧
    (∀ (c : Code) (t : Tr DV) (S : SS) (ex : Ex) (t' : Tr DV) (S' : SS), evc V n f (.loop c) t S = some (ex, t', S') → ∃ m, ∀ (Q : Exit → Act → World → Prop) (a : Act) (w : World), ERel V.G E n Γ0 t.get S a w → (∀ a' w', ERel V.G E n Γ0 t'.get S' a' w' → Q ex.exit a' w') → Code.rounds P c Q m a w) := by
  intro f
  induction f with
  | zero => exact ⟨fun c t S ex t' S' h => by simp [evc] at h, fun c t S ex t' S' h => by simp [evc] at h⟩
  | succ f ih =>
    obtain ⟨ih1, ih2⟩ := ih
    have loop : ∀ (c : Code) (t : Tr DV) (S : SS) (ex : Ex) (t' : Tr DV) (S' : SS), evc V n (f + 1) (.loop c) t S = some (ex, t', S') → ∃ m, ∀ (Q : Exit → Act → World → Prop) (a : Act) (w : World), ERel V.G E n Γ0 t.get S a w → (∀ a' w', ERel V.G E n Γ0 t'.get S' a' w' → Q ex.exit a' w') → Code.rounds P c Q m a w := by
      intro c t S ex t' S' h
      simp only [evc] at h
      split at h
      · rename_i t1 S1 h1
        obtain ⟨m, hm⟩ := ih2 c t1 S1 ex t' S' h
        exact ⟨m + 1, fun Q a w hr hQ => ih1 c t S .nx t1 S1 h1 _ a w hr fun a' w' hr' => hm Q a' w' hr' hQ⟩
      · rename_i r hne
        refine ⟨1, fun Q a w hr hQ => ih1 c t S ex t' S' h _ a w hr fun a' w' hr' => ?_⟩
        cases ex with
        | nx => exact (hne _ _ h).elim
        | ex id => exact hQ a' w' hr'
        | rt => exact hQ a' w' hr'
    refine ⟨fun c t S ex t' S' h Q a w hr hQ => ?_, loop⟩
    cases c with
    | skip => cases h; exact wp_skip (hQ a w hr)
    | ret => cases h; exact wp_ret (hQ a w hr)
    | exit id => cases h; exact wp_exit (hQ a w hr)
    | region id ops dr =>
      obtain ⟨l⟩ := ops
      cases dr with
      | false =>
        simp only [evc] at h
        split at h
        · rename_i t1 S1 h1
          cases h
          exact wp_region_lit (wp_mono_list (evl_ok hV l t _ S _ h1 a w hr) fun e a' w' ⟨he, hr'⟩ => by subst he; exact hQ a' w' hr')
        · cases h
      | true =>
        simp only [evc] at h
        split at h
        case h_2 => cases h
        rename_i js hjs
        split at h
        case h_2 => cases h
        rename_i t1 S1 hl h1
        cases h
        have hany := evd_ok (n := n) (V := V) (l := l) l.length (Array.replicate l.length false) [] [] js t S [] _ _ [] (by simpa using hjs) (by simpa using Nat.eq_of_beq_eq_true hl) h1
          (fun j o _ hl => by simp [Array.getElem?_replicate] at hl; split at hl <;> simp at hl) (fun m hm => by cases hm) (fun e he => by cases he) (fun e he => by cases he)
        rw [show l.length = l.toArray.size from by simp] at hany
        refine wp_mono (wp_region_any hm (anyF_run hV _ _ _ _ hany a _ hr.drew)) fun e a' w' ⟨he, τ, S2, hr', h2, h3⟩ => ?_
        subst he
        rw [h2, h3] at hr'
        exact hQ a' w' hr'
    | seq c d =>
      simp only [evc] at h
      split at h
      · rename_i t1 S1 h1
        exact wp_seq (ih1 c t S .nx t1 S1 h1 _ a w hr fun a' w' hr' => ih1 d t1 S1 ex t' S' h Q a' w' hr' hQ)
      · rename_i r hne
        refine wp_seq (ih1 c t S ex t' S' h _ a w hr fun a' w' hr' => ?_)
        cases ex with
        | nx => exact (hne _ _ h).elim
        | ex id => exact hQ a' w' hr'
        | rt => exact hQ a' w' hr'
    | cond x c d =>
      simp only [evc, aeE_eq] at h
      split at h
      · rename_i hx
        exact wp_cond_true (hr.eval hx) (ih1 c t S ex t' S' h Q a w hr hQ)
      · rename_i hx
        exact wp_cond_false (hr.eval hx) (ih1 d t S ex t' S' h Q a w hr hQ)
      · cases h
    | block id c =>
      simp only [evc] at h
      split at h
      · rename_i i t1 S1 h1
        have hc := ih1 c t S _ t1 S1 h1
        split at h
        · rename_i hb
          have := Nat.eq_of_beq_eq_true hb
          subst this
          cases h
          refine wp_block (hc _ a w hr fun a' w' hr' => ?_)
          simp only [Ex.exit, Exit.inBlock, if_true]
          exact hQ a' w' hr'
        · rename_i hb
          cases h
          refine wp_block (hc _ a w hr fun a' w' hr' => ?_)
          simp only [Ex.exit, Exit.inBlock]
          rw [if_neg (fun e => by subst e; simp at hb)]
          exact hQ a' w' hr'
      · rename_i r hne
        refine wp_block (ih1 c t S ex t' S' h _ a w hr fun a' w' hr' => ?_)
        cases ex with
        | nx => exact hQ a' w' hr'
        | ex id => exact (hne _ _ _ h).elim
        | rt => exact hQ a' w' hr'
    | loop c =>
      obtain ⟨m, hm⟩ := loop c t S ex t' S' h
      exact wp_loop_rounds m (hm Q a w hr hQ)
    | _ => simp [evc] at h
end
end Go.Av
