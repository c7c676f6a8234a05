/-
  Variables that closures share, once they are no longer written; calls of function values.
-/
import Derived.Test.YtecbcpilcjmhlaaDoorAvH
namespace Go.Av
open Classical
set_option linter.unusedSimpArgs false
set_option linter.unusedVariables false
section
variable {P : Program} {G : Nat → DV} {E : AX} {n : Nat} {N : ASt → Prop} {xs : List (Nat × (ASt → Prop))} {R : ASt → Prop} {st : ASt}

theorem pub_ptr {X : AX} (hS : Sto X) {k g : Nat} {cs : List DV} {v : Value} (hσ : X.σ[k]? = some (.row g cs)) (h : VRep X.lay (.ptr k g 0) v) : VRep { X with σ := X.σ.set k .gone }.lay (.ep cs) v := by
  have hW := shrink_gone (X := X) k
  obtain ⟨b, n, hρ, rfl⟩ := h.ptr_inv hσ
  obtain ⟨arr, T, fr, g1, g2, g3, g4, g5⟩ := hS.row hσ hρ
  refine .ep _ b 0 (fun j => arr.getD j undef) (fun d hd => ?_) (fun j hj => ?_) (fun j d hj => (g5 j d hj).2.ext hW)
  · obtain ⟨j, hj⟩ := List.mem_iff_getElem?.1 hd
    exact (g5 j d hj).1
  · refine AX.imm_mk (fun ⟨i, g', n', hl', hr'⟩ => ?_) (fun hh => hS.hid b ⟨k, g, n, live_row hσ, hρ⟩ hh) ?_
    · have hli : X.live i g' ∧ i ≠ k := by
        have hl' : ((X.σ.set k .gone)[i]?).bind ABlk.gen? = some g' := hl'
        rw [List.getElem?_set] at hl'
        split at hl'
        · split at hl' <;> simp [ABlk.gen?] at hl'
        · rename_i hne; exact ⟨hl', Ne.symm hne⟩
      exact hli.2 (hS.inj i k g' g b n' n hli.1 (live_row hσ) hr' hρ)
    · have : 0 + j < arr.size := by omega
      simp only [Nat.zero_add] at this ⊢
      simp [World.cell?, g1, Array.getD_eq_getD_getElem?, this]
theorem Rel.pubptr {a : Act} {w : World} (hr : Rel G E n st a w) {i k g : Nat} {cs : List DV} (h : look st.t i = .ptr k g 0) (hk : st.σ[k]? = some (.row g cs)) : Rel G E n ⟨(i, .ep cs) :: st.t, st.σ.set k .gone⟩ a w := by
  obtain ⟨X, h1, h2, h3, h4, h5, h6, h7, h8⟩ := hr
  have hE := shrink_gone (X := X) k
  refine ⟨{ X with σ := X.σ.set k .gone }, h1, by rw [← h2], sto_gone h3 k, h4.trans hE, h5.ext hE, h6, h7, fun j => ?_⟩
  simp only [look]
  cases hb : Nat.beq i j with
  | true =>
    have := Nat.eq_of_beq_eq_true hb
    subst this
    have hv := h8 i
    rw [h] at hv
    rw [← h2] at hk
    exact pub_ptr h3 hk hv
  | false => exact (h8 j).ext hE
theorem r_pubptr {t : Fr} {σ : List ABlk} {c : Code} {σ' : List ABlk} {k g : Nat} {cs : List DV} (i : Nat) (h : look t i = .ptr k g 0) (hk : σ[k]? = some (.row g cs)) (hσ' : setA σ k .gone = some σ')
    (kk : ARun P G E n c N xs R ⟨(i, .ep cs) :: t, σ'⟩) : ARun P G E n c N xs R ⟨t, σ⟩ := fun a w hr => by
  rw [setA_eq hσ'] at kk
  exact kk a w (hr.pubptr h hk)
theorem o_pubptr {t : Fr} {σ : List ABlk} {ops : Array Oper} {l : List Oper} {σ' : List ABlk} {k g : Nat} {cs : List DV} (i : Nat) (h : look t i = .ptr k g 0) (hk : σ[k]? = some (.row g cs)) (hσ' : setA σ k .gone = some σ')
    (kk : AOps P G E n ops l N ⟨(i, .ep cs) :: t, σ'⟩) : AOps P G E n ops l N ⟨t, σ⟩ := fun a w hr => by
  rw [setA_eq hσ'] at kk
  exact kk a w (hr.pubptr h hk)

variable {B : Nat} {f : Operand → DV} {σ : List ABlk} {K : DV → List ABlk → Prop} {dst : Option Tmp} {type : TypeId} {pos : String} {after : Array Edge} {gd : Option (Nat × Bool)}
/-- A variable of which the makeFunc alone knows from here on. -/
theorem s_pubptr {t : Fr} {σ σ' : List ABlk} {i k g : Nat} {cs : List DV} {o : Oper} (h : look t i = .ptr k g 0) (hk : σ[k]? = some (.row g cs)) (hσ' : setA σ k .gone = some σ')
    (kk : OpSem P G B o (aev G ((i, .ep cs) :: t)) σ' K) : OpSem P G B o (aev G t) σ K := fun X ρ hS hσ hB hG hf => by
  have hE := shrink_gone (X := X) k
  subst hσ
  have hs := kk { X with σ := X.σ.set k .gone } ρ (sto_gone hS k) (by rw [setA_eq hσ']) hB (hG.ext hE) fun x hx => by
    have hv := hf x hx
    cases x with
    | tmp j =>
      simp only [aev, look] at hv ⊢
      cases hb : Nat.beq i j with
      | true =>
        have := Nat.eq_of_beq_eq_true hb
        subst this
        rw [h] at hv
        exact pub_ptr hS hk hv
      | false => exact hv.ext hE
    | const v => exact hv.ext hE
    | global g => exact hv.ext hE
    | func g => exact hv.ext hE
  show OPost P X K ((execOp ρ o).run P X.w)
  have hs' : OPost P { X with σ := X.σ.set k .gone } K ((execOp ρ o).run P X.w) := hs
  generalize (execOp ρ o).run P X.w = r at *
  cases r with
  | ok nx w' =>
    cases nx <;> simp only [OPost] at hs' ⊢
    case value v => exact hs'.ext hE
    case skip => exact hs'.ext hE
    case enter f args => exact ⟨hs'.1, hs'.2.mono fun e w'' ⟨v, he, hp⟩ => ⟨v, he, hp.ext hE⟩⟩
  | halt hh w' => simp only [OPost] at hs'

theorem s_callv_p {x : Operand} {args : Array Operand} {ts : Array TypeId} {fid : FuncId} {first cap ds : List DV} {d : DV} [FnOk P fid] (hx : f x = .fn (.func fid) first cap) (hds : reL (first ++ args.toList.map f ++ cap) = some ds) (h : Pure P G fid ds d) (hc : d.clo = true) (k : K d σ) :
    OpSem P G B ⟨dst, .call ⟨.value x, args, ts⟩, type, pos, after, gd⟩ f σ K := s_callv hx hds ((h.lift hc).mono fun _ _ ⟨h1, h2⟩ => by rw [h1, h2]; exact k)
theorem reL_some : ∀ l : List DV, reL l = some l
  | [] => rfl
  | d :: r => by cases d <;> simp [reL, reD, reL_some r]
theorem s_callv_q {x : Operand} {args : Array Operand} {ts : Array TypeId} {fid : FuncId} {first cap : List DV} {d : DV} [FnOk P fid] (hx : f x = .fn (.func fid) first cap) (h : Pure P G fid (first ++ args.toList.map f ++ cap) d) (hc : d.clo = true) (k : K d σ) :
    OpSem P G B ⟨dst, .call ⟨.value x, args, ts⟩, type, pos, after, gd⟩ f σ K := s_callv hx (reL_some _) ((h.lift hc).mono fun _ _ ⟨h1, h2⟩ => by rw [h1, h2]; exact k)
theorem clo_fn {f : Fn} {a b : List DV} (ha : ∀ d ∈ a, d.clo = true) (hb : ∀ d ∈ b, d.clo = true) : (DV.fn f a b).clo = true := by
  simp only [DV.clo, Bool.and_eq_true, List.all_eq_true]; exact ⟨fun x _ => ha x.1 x.2, fun x _ => hb x.1 x.2⟩
theorem clo_ep {cs : List DV} (h : ∀ d ∈ cs, d.clo = true) : (DV.ep cs).clo = true := by simp only [DV.clo, List.all_eq_true]; exact fun x _ => h x.1 x.2
end
end Go.Av
