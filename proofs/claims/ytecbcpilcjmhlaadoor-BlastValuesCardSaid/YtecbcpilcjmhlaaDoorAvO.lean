/-
  Calls that only read what the caller has: what leads into the store is handed on as if nobody wrote it.
-/
import Derived.Test.YtecbcpilcjmhlaaDoorEvA
namespace Go.Av
open Classical
set_option linter.unusedSimpArgs false
set_option linter.unusedVariables false

mutual
/-- A value with its blocks read through. -/
inductive DVw (σ : List ABlk) : DV → DV → Prop
  | clo {d : DV} : d.clo = true → DVw σ d d
  | ref {k g len es : Nat} {cs ds : List DV} : σ[k]? = some (.row g cs) → len * es = cs.length → DVwL σ cs ds → DVw σ (.ref k g 0 len es) (.sl es ds)
  | ptr {k g : Nat} {cs ds : List DV} : σ[k]? = some (.row g cs) → DVwL σ cs ds → DVw σ (.ptr k g 0) (.ep ds)
  | fn {f : Fn} {a a' b b' : List DV} : DVwL σ a a' → DVwL σ b b' → DVw σ (.fn f a b) (.fn f a' b')
  | agg {a a' : List DV} : DVwL σ a a' → DVw σ (.agg a) (.agg a')
inductive DVwL (σ : List ABlk) : List DV → List DV → Prop
  | same {l : List DV} : (∀ d ∈ l, d.clo = true) → DVwL σ l l
  | cons {d d' : DV} {r r' : List DV} : DVw σ d d' → DVwL σ r r' → DVwL σ (d :: r) (d' :: r')
end
theorem DVwL.nil {σ : List ABlk} : DVwL σ [] [] := .same fun d h => by cases h

theorem DVw.one {σ : List ABlk} {d d' : DV} (h : DVw σ d d') (h1 : d.one = true) : d'.one = true := by
  cases h with
  | clo _ => exact h1
  | ref _ _ _ => rfl
  | ptr _ _ => rfl
  | fn _ _ => rfl
  | agg _ => cases h1

mutual
theorem dvw_rep {X : AX} (hS : Sto X) : ∀ {d d' : DV} {v : Value}, DVw X.σ d d' → VRep X.lay d v → VRep (X.aside True).lay d' v
  | _, _, v, .clo hc, hv => hv.mono (aside_le _)
  | _, _, v, .ref (k := k) (g := g) (len := len) (es := es) (cs := cs) (ds := ds) hσ hl hL, hv => by
    obtain ⟨h7, h8⟩ := dvw_reps hS hL
    obtain ⟨a, cap, rfl, h1, h2⟩ := hv.ref_slice hσ
    by_cases h0 : len = 0
    · subst h0
      have : ds = [] := List.eq_nil_of_length_eq_zero (by omega)
      subst this
      exact .sl _ _ _ _ _ (fun _ => undef) (by simp) h1 (fun d hd => by simp at hd) (.inl rfl) (fun j d hj => by simp at hj)
    · obtain ⟨b, n, hρ, rfl, h3⟩ := h2 (by omega)
      obtain ⟨arr, T, fr, g1, g2, g3, g4, g5⟩ := hS.row hσ hρ
      refine .sl _ _ _ _ _ (fun j => arr.getD j undef) (by omega) h1 (fun d hd => ?_) (.inr ⟨b, 0, rfl, fun j hj => ?_⟩) (fun j d hj => ?_)
      · obtain ⟨j, hj⟩ := List.mem_iff_getElem?.1 hd
        have hlt : j < cs.length := by rw [← h7]; exact (List.getElem?_eq_some_iff.1 hj).1
        exact (h8 j _ d (List.getElem?_eq_getElem hlt) hj).1 (g5 j _ (List.getElem?_eq_getElem hlt)).1
      · refine AX.imm_mk aside_mut (fun hh => hh.elim (fun hh => hS.hid b ⟨k, g, n, live_row hσ, hρ⟩ hh) (fun hh => hh.1 trivial)) ?_
        have : 0 + j < arr.size := by omega
        simp only [Nat.zero_add] at this ⊢
        show X.w.cell? ⟨b, j, none⟩ = _
        rw [cell_of_row _ _ _ _ _ _ g1]
        simp [Array.getD_eq_getD_getElem?, this]
      · have hlt : j < cs.length := by rw [← h7]; exact (List.getElem?_eq_some_iff.1 hj).1
        exact (h8 j _ d (List.getElem?_eq_getElem hlt) hj).2 _ (g5 j _ (List.getElem?_eq_getElem hlt)).2
  | _, _, v, .ptr (k := k) (g := g) (cs := cs) (ds := ds) hσ hL, hv => by
    obtain ⟨h7, h8⟩ := dvw_reps hS hL
    obtain ⟨b, n, hρ, rfl⟩ := hv.ptr_inv hσ
    obtain ⟨arr, T, fr, g1, g2, g3, g4, g5⟩ := hS.row hσ hρ
    refine .ep _ b 0 (fun j => arr.getD j undef) (fun d hd => ?_) (fun j hj => ?_) (fun j d hj => ?_)
    · obtain ⟨j, hj⟩ := List.mem_iff_getElem?.1 hd
      have hlt : j < cs.length := by rw [← h7]; exact (List.getElem?_eq_some_iff.1 hj).1
      exact (h8 j _ d (List.getElem?_eq_getElem hlt) hj).1 (g5 j _ (List.getElem?_eq_getElem hlt)).1
    · refine AX.imm_mk aside_mut (fun hh => hh.elim (fun hh => hS.hid b ⟨k, g, n, live_row hσ, hρ⟩ hh) (fun hh => hh.1 trivial)) ?_
      have : 0 + j < arr.size := by omega
      simp only [Nat.zero_add] at this ⊢
      show X.w.cell? ⟨b, j, none⟩ = _
      rw [cell_of_row _ _ _ _ _ _ g1]
      simp [Array.getD_eq_getD_getElem?, this]
    · have hlt : j < cs.length := by rw [← h7]; exact (List.getElem?_eq_some_iff.1 hj).1
      exact (h8 j _ d (List.getElem?_eq_getElem hlt) hj).2 _ (g5 j _ (List.getElem?_eq_getElem hlt)).2
  | _, _, v, .fn (f := f) (a := a) (a' := a') (b := b) (b' := b') h1 h2, hv => by
    obtain ⟨p1, p2⟩ := dvw_reps hS h1
    obtain ⟨q1, q2⟩ := dvw_reps hS h2
    cases hv with
    | fn _ _ _ fs cs e1 e2 e3 e4 =>
      refine .fn _ _ _ _ _ (by rw [p1]; exact e1) (by rw [q1]; exact e2) (fun j d hj => ?_) (fun j d hj => ?_)
      · have hlt : j < a.length := by rw [← p1]; exact (List.getElem?_eq_some_iff.1 hj).1
        exact (p2 j _ d (List.getElem?_eq_getElem hlt) hj).2 _ (e3 j _ (List.getElem?_eq_getElem hlt))
      · have hlt : j < b.length := by rw [← q1]; exact (List.getElem?_eq_some_iff.1 hj).1
        exact (q2 j _ d (List.getElem?_eq_getElem hlt) hj).2 _ (e4 j _ (List.getElem?_eq_getElem hlt))
  | _, _, v, .agg (a := a) (a' := a') h1, hv => by
    obtain ⟨p1, p2⟩ := dvw_reps hS h1
    obtain ⟨vs, rfl, e1, e2, e3⟩ := hv.agg_inv
    refine .agg _ _ (by rw [p1]; exact e1) (fun d hd => ?_) (fun j d hj => ?_)
    · obtain ⟨j, hj⟩ := List.mem_iff_getElem?.1 hd
      have hlt : j < a.length := by rw [← p1]; exact (List.getElem?_eq_some_iff.1 hj).1
      exact (p2 j _ d (List.getElem?_eq_getElem hlt) hj).1 (e2 _ (List.getElem_mem hlt))
    · have hlt : j < a.length := by rw [← p1]; exact (List.getElem?_eq_some_iff.1 hj).1
      exact (p2 j _ d (List.getElem?_eq_getElem hlt) hj).2 _ (e3 j _ (List.getElem?_eq_getElem hlt))
theorem dvw_reps {X : AX} (hS : Sto X) : ∀ {l l' : List DV}, DVwL X.σ l l' → l'.length = l.length ∧ ∀ (j : Nat) (d d' : DV), l[j]? = some d → l'[j]? = some d' → (d.one = true → d'.one = true) ∧ ∀ v, VRep X.lay d v → VRep (X.aside True).lay d' v
  | _, _, .same hc => ⟨rfl, fun j d d' h1 h2 => by
    rw [h1] at h2; cases h2
    exact ⟨fun h => h, fun v hv => hv.mono (aside_le _)⟩⟩
  | _, _, .cons hd hr => by
    obtain ⟨h1, h2⟩ := dvw_reps hS hr
    refine ⟨by simp [h1], fun j e e' he he' => ?_⟩
    cases j with
    | zero =>
      simp at he he'
      subst he; subst he'
      exact ⟨hd.one, fun v hv => dvw_rep hS hd hv⟩
    | succ j => exact h2 j e e' (by simpa using he) (by simpa using he')
end

section
variable {P : Program} {G : Nat → DV} {B : Nat} {f : Operand → DV} {σ : List ABlk} {K : DV → List ABlk → Prop} {dst : Option Tmp} {type : TypeId} {pos : String} {after : Array Edge} {gd : Option (Nat × Bool)}
theorem Pure.dview {fid : FuncId} {args args' : List DV} {d : DV} (h : Pure P G fid args' d) (hf : d.flat = true) (hv : DVwL σ args args') : ACalls P G B fid args σ (fun d' σ' => d' = d ∧ σ' = σ) := fun X vs hS hσ hB hG hvs => by
  subst hσ
  obtain ⟨g1, g2⟩ := dvw_reps hS hv
  refine (h X.N (X.aside True) vs (hS.aside _) rfl (Nat.le_refl _) (fun g => ⟨(hG g).1, (hG g).2.mono (aside_le _)⟩) ⟨by rw [hvs.1, g1], fun j e hj => ?_⟩).mono ?_
  · have hlt : j < args.length := by rw [← g1]; exact (List.getElem?_eq_some_iff.1 hj).1
    exact (g2 j _ e (List.getElem?_eq_getElem hlt) hj).2 _ (hvs.2 j _ (List.getElem?_eq_getElem hlt))
  · rintro e w' ⟨v, he, Y, hw, hY, hE, d', hr, rfl, hσ'⟩
    subst hw
    exact ⟨v, he, X.back Y, rfl, hS.back hE, WExt.back hS hE, _, hr.flat hf, rfl, rfl⟩
theorem s_call_dv {args : Array Operand} {ts : Array TypeId} {fid : FuncId} {ds ds' : List DV} {d : DV} [FnOk P fid] (h : Pure P G fid ds' d) (hx : f (.func fid) = .fn (.func fid) [] []) (hds : reL (args.toList.map f) = some ds) (hv : DVwL σ ds ds') (hf : d.flat = true) (k : K d σ) :
    OpSem P G B ⟨dst, .call ⟨.value (.func fid), args, ts⟩, type, pos, after, gd⟩ f σ K := s_call hx hds ((h.dview hf hv).mono fun _ _ ⟨h1, h2⟩ => by rw [h1, h2]; exact k)
theorem s_callv_dv {x : Operand} {args : Array Operand} {ts : Array TypeId} {fid : FuncId} {first cap ds ds' : List DV} {d : DV} [hfn : FnOk P fid] (h : Pure P G fid ds' d) (hx : f x = .fn (.func fid) first cap) (hds : reL (first ++ args.toList.map f ++ cap) = some ds) (hv : DVwL σ ds ds') (hf : d.flat = true) (k : K d σ) :
    OpSem P G B ⟨dst, .call ⟨.value x, args, ts⟩, type, pos, after, gd⟩ f σ K := s_callv hx hds ((h.dview hf hv).mono fun _ _ ⟨h1, h2⟩ => by rw [h1, h2]; exact k)
/-- What is known of package variables may be less. -/
theorem Pure.gmono {G1 : Nat → DV} {fid : FuncId} {args : List DV} {d : DV} (h : Pure P G1 fid args d) (hg : ∀ g, G1 g = .any ∨ G1 g = G g) : Pure P G fid args d := fun B X vs hS hσ hB hG hv => h B X vs hS hσ hB (fun g => by
  rcases hg g with h | h
  · rw [h]; exact ⟨by simp [DV.clo], .any _⟩
  · rw [h]; exact hG g) hv
end
end Go.Av
