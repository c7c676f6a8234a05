/-
  Contracts that do not touch the caller's store, and how a caller uses them.
-/
import Derived.Test.YtecbcpilcjmhlaaDoorAv9
namespace Go.Av
open Classical
set_option linter.unusedSimpArgs false
set_option linter.unusedVariables false

section
variable {P : Program} {G : Nat → DV}

theorem ACalls.mono {B : Nat} {f : FuncId} {args : List DV} {σ : List ABlk} {R R' : DV → List ABlk → Prop} (h : ACalls P G B f args σ R) (hr : ∀ d σ, R d σ → R' d σ) : ACalls P G B f args σ R' := fun X vs hS hσ hB hG hv =>
  (h X vs hS hσ hB hG hv).mono fun _ _ ⟨v, he, X', h1, h2, h3, d, h4, h5⟩ => ⟨v, he, X', h1, h2, h3, d, h4, hr _ _ h5⟩

/-- The caller's store set aside: its rows hidden (or, where 'view' holds, read alone). -/
def AX.aside (X : AX) (view : Prop) : AX := { w := X.w, ρ := fun _ => none, σ := [], N := X.N, hid := fun b => X.hid b ∨ (¬ view ∧ X.mut b) }

theorem aside_live {X : AX} {v : Prop} {k g : Nat} : ¬ (X.aside v).live k g := by simp [AX.live, AX.aside]
theorem aside_mut {X : AX} {v : Prop} {b : Nat} : ¬ (X.aside v).mut b := fun ⟨_, _, _, h, _⟩ => aside_live h
theorem Sto.aside {X : AX} (hS : Sto X) (v : Prop) : Sto (X.aside v) where
  inj := fun _ _ _ _ _ _ _ h => absurd h aside_live
  gen := fun _ _ h => absurd h aside_live
  hid := fun _ h => absurd h aside_mut
  hidlt := fun b h => by
    rcases h with h | ⟨_, h⟩
    · exact hS.hidlt b h
    · exact hS.mut_lt h
  holds := fun k B h => by simp [AX.aside] at h

theorem aside_le {X : AX} (v : Prop) : X.lay.le (X.aside v).lay where
  imm := fun b o u h => by
    obtain ⟨_, h2, h3, h4⟩ := AX.imm_lt h
    exact AX.imm_mk aside_mut (fun h => h.elim h3 (fun h => h2 h.2)) h4
  top := Nat.le_refl _
  row := fun k g ob _ h => absurd (AX.row_of h).1 aside_live

/-- Back to the caller: what it had is as it was. -/
def AX.back (X Y : AX) : AX := { w := Y.w, ρ := X.ρ, σ := X.σ, N := Y.N, hid := X.hid }
theorem WExt.back {X Y : AX} {v : Prop} (hS : Sto X) (h : WExt (X.aside v) Y) : WExt X (X.back Y) where
  hid := rfl
  top := h.top
  os := h.os
  tape := h.tape
  output := h.output
  size := h.size
  old := fun b hb hm => ⟨(h.old b hb aside_mut).1, hm⟩
  rows := fun _ _ _ h => ⟨h, rfl⟩
theorem Sto.back {X Y : AX} {v : Prop} (hS : Sto X) (h : WExt (X.aside v) Y) : Sto (X.back Y) where
  inj := hS.inj
  gen := fun k g hl => Nat.le_trans (hS.gen k g hl) h.top
  hid := hS.hid
  hidlt := fun b hb => Nat.lt_of_lt_of_le (hS.hidlt b hb) h.size
  holds := fun k B hB => by
    have hB' : X.σ[k]? = some B := hB
    cases hg : B.gen? with
    | none => cases B <;> first | trivial | cases hg
    | some g =>
      exact (hS.holds k B hB).mono (WExt.back hS h).le fun b n hb => (h.old b (hS.ρ_lt ((AX.live_get hB').2 hg) hb) aside_mut).1
theorem back_imm {X Y : AX} {v : Prop} (h : WExt (X.aside v) Y) (hv : ¬ v) (b o : Nat) (u : Value) (hi : Y.lay.imm b o = some u) : (X.back Y).lay.imm b o = some u := by
  obtain ⟨_, h2, h3, h4⟩ := AX.imm_lt hi
  rw [h.hid] at h3
  exact AX.imm_mk (fun hm => h3 (.inr ⟨hv, hm⟩)) (fun hh => h3 (.inl hh)) h4

/-- A call that hands back a value without references to the store, and leaves the store as it is. -/
def Pure (P : Program) (G : Nat → DV) (f : FuncId) (args : List DV) (d : DV) : Prop := ∀ B, ACalls P G B f args [] (fun d' σ' => d' = d ∧ σ' = [])
/-- A call that hands back a list that nobody else writes. -/
def Own (P : Program) (G : Nat → DV) (f : FuncId) (args : List DV) (len es : Nat) (cs : List DV) : Prop := ∀ B, ACalls P G B f args [] (fun d' σ' => ∃ g, B < g ∧ d' = .ref 0 g 0 len es ∧ σ' = [.row g cs])

theorem Pure.lift {f : FuncId} {args : List DV} {d : DV} (h : Pure P G f args d) (hc : d.clo = true) {B : Nat} {σ : List ABlk} : ACalls P G B f args σ (fun d' σ' => d' = d ∧ σ' = σ) := fun X vs hS hσ hB hG hv => by
  refine (h X.N (X.aside False) vs (hS.aside _) rfl (Nat.le_refl _) (fun g => ⟨(hG g).1, (hG g).2.mono (aside_le _)⟩) ⟨hv.1, fun j d hj => (hv.2 j d hj).mono (aside_le _)⟩).mono ?_
  rintro e w' ⟨v, he, Y, hw, hY, hE, d', hr, rfl, hσ'⟩
  subst hw
  exact ⟨v, he, X.back Y, rfl, hS.back hE, WExt.back hS hE, _, hr.mono_clo (back_imm hE id) hc, rfl, hσ⟩

theorem Own.lift {f : FuncId} {args : List DV} {len es : Nat} {cs : List DV} (h : Own P G f args len es cs) (hc : ∀ d ∈ cs, d.clo = true) {B : Nat} {σ : List ABlk} : ACalls P G B f args σ (fun d' σ' => ∃ g, B < g ∧ d' = .ref σ.length g 0 len es ∧ σ' = σ ++ [.row g cs]) := fun X vs hS hσ hB hG hv => by
  refine (h X.N (X.aside False) vs (hS.aside _) rfl (Nat.le_refl _) (fun g => ⟨(hG g).1, (hG g).2.mono (aside_le _)⟩) ⟨hv.1, fun j d hj => (hv.2 j d hj).mono (aside_le _)⟩).mono ?_
  rintro e w' ⟨v, he, Y, hw, hY, hE, d', hr, g, hg, rfl, hσ'⟩
  subst hw
  have hback := hS.back hE
  have hEb := WExt.back hS hE
  have hY0 : Y.σ[0]? = some (.row g cs) := by rw [hσ']; rfl
  have hlY : Y.live 0 g := live_row hY0
  have hgN : g ≤ Y.N := hY.gen 0 g hlY
  have hnew : ∀ b n, Y.ρ 0 = some (b, n) → X.w.heap.size ≤ b := fun b n hb => by
    rcases Nat.lt_or_ge b X.w.heap.size with hlt | hge
    · exact absurd ⟨0, g, n, hlY, hb⟩ (hE.old b hlt aside_mut).2
    · exact hge
  let Z : AX := { w := Y.w, ρ := fun i => if i = X.σ.length then Y.ρ 0 else X.ρ i, σ := X.σ ++ [.row g cs], N := Y.N, hid := X.hid }
  have hlive : ∀ k g', Z.live k g' ↔ (k < X.σ.length ∧ X.live k g') ∨ (k = X.σ.length ∧ g' = g) := fun k g' => by
    have := AX.push_live (X := X) (w' := Y.w) (ob := Y.ρ 0) (B := .row g cs) (k := k) (g := g')
    simp only [ABlk.gen?, Option.some.injEq] at this
    rw [show Z.live k g' ↔ (X.push Y.w (Y.ρ 0) (.row g cs)).live k g' from Iff.rfl, this]
    constructor <;> (rintro (h | ⟨h1, h2⟩); exact .inl h; exact .inr ⟨h1, h2.symm⟩)
  have hρ1 : ∀ k, k < X.σ.length → Z.ρ k = X.ρ k := fun k hk => by simp only [Z]; rw [if_neg (by omega)]
  have hρ2 : Z.ρ X.σ.length = Y.ρ 0 := by simp only [Z, if_true]
  have hmut : ∀ b, Z.mut b → X.mut b ∨ X.w.heap.size ≤ b := fun b ⟨k, g', n, hl, hr⟩ => by
    rcases (hlive k g').1 hl with ⟨h1, h2⟩ | ⟨h1, _⟩
    · rw [hρ1 k h1] at hr; exact .inl ⟨k, g', n, h2, hr⟩
    · rw [h1, hρ2] at hr; exact .inr (hnew b n hr)
  have hEZ : WExt X Z := {
    hid := rfl, top := hE.top, os := hE.os, tape := hE.tape, output := hE.output, size := hE.size
    old := fun b hb hm => ⟨(hE.old b hb aside_mut).1, fun hz => by rcases hmut b hz with h | h; exact hm h; omega⟩
    rows := fun k g' hg' hl => by
      rcases (hlive k g').1 hl with ⟨h1, h2⟩ | ⟨h1, h2⟩
      · exact ⟨h2, hρ1 k h1⟩
      · omega }
  have himm : ∀ b o u, Y.lay.imm b o = some u → Z.lay.imm b o = some u := fun b o u hi => by
    obtain ⟨_, h2, h3, h4⟩ := AX.imm_lt hi
    rw [hE.hid] at h3
    refine AX.imm_mk (fun hm => ?_) (fun hh => h3 (.inl hh)) h4
    obtain ⟨k, g', n, hl, hr⟩ := hm
    rcases (hlive k g').1 hl with ⟨h1, h5⟩ | ⟨h1, _⟩
    · rw [hρ1 k h1] at hr; exact h3 (.inr ⟨id, k, g', n, h5, hr⟩)
    · rw [h1, hρ2] at hr; exact h2 ⟨0, g, n, hlY, hr⟩
  have hSZ : Sto Z := {
    inj := fun k k' g1 g1' b n n' hl hl' hr hr' => by
      rcases (hlive k g1).1 hl with ⟨h1, h2⟩ | ⟨h1, h2⟩ <;> rcases (hlive k' g1').1 hl' with ⟨h1', h2'⟩ | ⟨h1', h2'⟩
      · rw [hρ1 k h1] at hr; rw [hρ1 k' h1'] at hr'; exact hS.inj k k' g1 g1' b n n' h2 h2' hr hr'
      · rw [hρ1 k h1] at hr; rw [h1', hρ2] at hr'; have := hS.ρ_lt h2 hr; have := hnew b n' hr'; omega
      · rw [hρ1 k' h1'] at hr'; rw [h1, hρ2] at hr; have := hS.ρ_lt h2' hr'; have := hnew b n hr; omega
      · rw [h1, h1']
    gen := fun k g' hl => by
      rcases (hlive k g').1 hl with ⟨h1, h2⟩ | ⟨h1, h2⟩
      · exact Nat.le_trans (hS.gen k g' h2) hE.top
      · rw [h2]; exact hgN
    hid := fun b ⟨k, g', n, hl, hr⟩ hh => by
      rcases (hlive k g').1 hl with ⟨h1, h2⟩ | ⟨h1, h2⟩
      · rw [hρ1 k h1] at hr; exact hS.hid b ⟨k, g', n, h2, hr⟩ hh
      · rw [h1, hρ2] at hr; have := hnew b n hr; have := hS.hidlt b hh; omega
    hidlt := fun b hb => Nat.lt_of_lt_of_le (hS.hidlt b hb) hE.size
    holds := fun k B' hB' => by
      simp only [Z, List.getElem?_append] at hB'
      split at hB'
      · rename_i hlt
        rw [hρ1 k hlt]
        cases hg' : B'.gen? with
        | none => cases B' <;> first | trivial | cases hg'
        | some g' => exact (hS.holds k B' hB').mono hEZ.le fun b n hb => (hE.old b (hS.ρ_lt ((AX.live_get hB').2 hg') hb) aside_mut).1
      · rename_i hge
        have hkl : k = X.σ.length := by
          rcases Nat.lt_or_ge (k - X.σ.length) 1 with h' | h'
          · omega
          · rw [List.getElem?_eq_none (by simpa using h')] at hB'; cases hB'
        subst hkl
        simp at hB'
        subst hB'
        rw [hρ2]
        have hh := hY.holds 0 _ hY0
        cases hρ0 : Y.ρ 0 with
        | none => rw [hρ0] at hh; exact hh
        | some x =>
          obtain ⟨b, n⟩ := x
          rw [hρ0] at hh
          obtain ⟨arr, T, fr, q1, q2, q3, q4, q5⟩ := hh
          exact ⟨arr, T, fr, q1, q2, q3, q4, fun j d hj => ⟨(q5 j d hj).1, (q5 j d hj).2.mono_clo himm (hc d (List.mem_of_getElem? hj))⟩⟩ }
  have hinv := hr.ref_inv hY0
  refine ⟨v, he, Z, rfl, hSZ, hEZ, .ref X.σ.length g 0 len es, ?_, g, by omega, by rw [hσ], by rw [← hσ]⟩
  cases hr with | ref _ _ _ _ _ a l c _ _ =>
  refine .ref _ _ _ _ _ _ _ _ hgN fun ob hob => ?_
  rw [AX.row_mk ((hlive _ _).2 (.inr ⟨rfl, rfl⟩)), hρ2] at hob
  rw [← Option.some.inj hob]
  exact hinv

/-- Where the caller's rows are handed on to be read. -/
inductive View (σ : List ABlk) : List DV → List DV → Prop
  | nil : View σ [] []
  | same {d : DV} {r r' : List DV} : View σ r r' → View σ (d :: r) (d :: r')
  | ref {k g len es : Nat} {cs : List DV} {r r' : List DV} : σ[k]? = some (.row g cs) → len * es = cs.length → (∀ d ∈ cs, d.clo = true) → View σ r r' → View σ (.ref k g 0 len es :: r) (.sl es cs :: r')

theorem view_sl {X : AX} (hS : Sto X) {k g len es : Nat} {cs : List DV} {v : Value} (hσ : X.σ[k]? = some (.row g cs)) (hl : len * es = cs.length) (h : VRep X.lay (.ref k g 0 len es) v) : VRep (X.aside True).lay (.sl es cs) v := by
  obtain ⟨a, cap, rfl, h1, h2⟩ := h.ref_slice hσ
  by_cases h0 : len = 0
  · subst h0
    have : cs = [] := List.eq_nil_of_length_eq_zero (by omega)
    subst this
    exact .sl _ _ _ _ _ (fun _ => undef) (by simp) h1 (fun d hd => by simp at hd) (.inl rfl) (fun j d hj => by simp at hj)
  · obtain ⟨b, n, hρ, rfl, h3⟩ := h2 (by omega)
    obtain ⟨arr, T, fr, g1, g2, g3, g4, g5⟩ := hS.row hσ hρ
    refine .sl _ _ _ _ _ (fun j => arr.getD j undef) hl h1 (fun d hd => ?_) (.inr ⟨b, 0, rfl, fun j hj => ?_⟩) (fun j d hj => (g5 j d hj).2.mono (aside_le _))
    · obtain ⟨j, hj⟩ := List.mem_iff_getElem?.1 hd
      exact (g5 j d hj).1
    · refine AX.imm_mk aside_mut (fun hh => hh.elim (fun hh => hS.hid b ⟨k, g, n, live_row hσ, hρ⟩ hh) (fun hh => hh.1 trivial)) ?_
      have : 0 + j < arr.size := by omega
      simp only [Nat.zero_add] at this ⊢
      show X.w.cell? ⟨b, j, none⟩ = _
      rw [cell_of_row _ _ _ _ _ _ g1]
      simp [Array.getD_eq_getD_getElem?, this]

theorem View.get {X : AX} (hS : Sto X) {ds es : List DV} (h : View X.σ ds es) : ds.length = es.length ∧ ∀ (j : Nat) (d e : DV) (v : Value), ds[j]? = some d → es[j]? = some e → VRep X.lay d v → VRep (X.aside True).lay e v := by
  induction h with
  | nil => exact ⟨rfl, fun j d e v hd => by simp at hd⟩
  | same _ ih =>
    refine ⟨by simp [ih.1], fun j d e v hd he hv => ?_⟩
    cases j with
    | zero => simp at hd he; subst hd; subst he; exact hv.mono (aside_le _)
    | succ j => exact ih.2 j d e v (by simpa using hd) (by simpa using he) hv
  | ref h1 h2 _ _ ih =>
    refine ⟨by simp [ih.1], fun j d e v hd he hv => ?_⟩
    cases j with
    | zero => simp at hd he; subst hd; subst he; exact view_sl hS h1 h2 hv
    | succ j => exact ih.2 j d e v (by simpa using hd) (by simpa using he) hv

/-- A value without addresses. -/
def DV.flat : DV → Bool
  | .sc _ => true
  | .any => true
  | .tup vs => vs.all fun | .sc _ => true | .any => true | _ => false
  | .agg vs => vs.all fun | .sc _ => true | .any => true | _ => false
  | _ => false
theorem VRep.flat {L L' : Lay} {d : DV} {v : Value} (h : VRep L d v) (hf : d.flat = true) : VRep L' d v := by
  have one : ∀ e u, (match e with | DV.sc _ => true | DV.any => true | _ => false) = true → VRep L e u → VRep L' e u := fun e u he hu => by
    cases hu <;> first | exact .sc _ | exact .any _ | simp at he
  cases h with
  | any v => exact .any v
  | sc v => exact .sc v
  | tup cs vs h1 h2 => exact .tup _ _ h1 fun j e hj => one e _ (List.all_eq_true.1 hf e (List.mem_of_getElem? hj)) (h2 j e hj)
  | agg cs vs h1 h2 h3 => exact .agg _ _ h1 h2 fun j e hj => one e _ (List.all_eq_true.1 hf e (List.mem_of_getElem? hj)) (h3 j e hj)
  | _ => simp [DV.flat] at hf

theorem Pure.view {f : FuncId} {args args' : List DV} {d : DV} (h : Pure P G f args' d) (hf : d.flat = true) {B : Nat} {σ : List ABlk} (hv : View σ args args') : ACalls P G B f args σ (fun d' σ' => d' = d ∧ σ' = σ) := fun X vs hS hσ hB hG hvs => by
  subst hσ
  obtain ⟨g1, g2⟩ := hv.get hS
  refine (h X.N (X.aside True) vs (hS.aside _) rfl (Nat.le_refl _) (fun g => ⟨(hG g).1, (hG g).2.mono (aside_le _)⟩) ⟨by rw [hvs.1, g1], fun j e hj => ?_⟩).mono ?_
  · have hlt : j < args.length := by rw [g1]; exact (List.getElem?_eq_some_iff.1 hj).1
    exact g2 j _ e _ (List.getElem?_eq_getElem hlt) hj (hvs.2 j _ (List.getElem?_eq_getElem hlt))
  · rintro e w' ⟨v, he, Y, hw, hY, hE, d', hr, rfl, hσ'⟩
    subst hw
    exact ⟨v, he, X.back Y, rfl, hS.back hE, WExt.back hS hE, _, hr.flat hf, rfl, rfl⟩

variable {B : Nat} {f : Operand → DV} {σ : List ABlk} {K : DV → List ABlk → Prop} {dst : Option Tmp} {type : TypeId} {pos : String} {after : Array Edge} {gd : Option (Nat × Bool)}

theorem s_call_p {args : Array Operand} {ts : Array TypeId} {fid : FuncId} {ds : List DV} {d : DV} [FnOk P fid] (hx : f (.func fid) = .fn (.func fid) [] []) (hds : reL (args.toList.map f) = some ds) (h : Pure P G fid ds d) (hc : d.clo = true) (k : K d σ) :
    OpSem P G B ⟨dst, .call ⟨.value (.func fid), args, ts⟩, type, pos, after, gd⟩ f σ K := s_call hx hds ((h.lift hc).mono fun _ _ ⟨h1, h2⟩ => by rw [h1, h2]; exact k)
theorem s_call_o {args : Array Operand} {ts : Array TypeId} {fid : FuncId} {ds cs : List DV} {len es : Nat} [FnOk P fid] (hx : f (.func fid) = .fn (.func fid) [] []) (hds : reL (args.toList.map f) = some ds) (h : Own P G fid ds len es cs) (hc : ∀ d ∈ cs, d.clo = true) (k : ∀ g, B < g → K (.ref σ.length g 0 len es) (σ ++ [.row g cs])) :
    OpSem P G B ⟨dst, .call ⟨.value (.func fid), args, ts⟩, type, pos, after, gd⟩ f σ K := s_call hx hds ((h.lift hc).mono fun _ _ ⟨g, hg, h1, h2⟩ => by rw [h1, h2]; exact k g hg)
theorem s_call_v {args : Array Operand} {ts : Array TypeId} {fid : FuncId} {ds ds' : List DV} {d : DV} [FnOk P fid] (hx : f (.func fid) = .fn (.func fid) [] []) (hds : reL (args.toList.map f) = some ds) (hv : View σ ds ds') (h : Pure P G fid ds' d) (hf : d.flat = true) (k : K d σ) :
    OpSem P G B ⟨dst, .call ⟨.value (.func fid), args, ts⟩, type, pos, after, gd⟩ f σ K := s_call hx hds ((h.view hf hv).mono fun _ _ ⟨h1, h2⟩ => by rw [h1, h2]; exact k)

/-- What is owned may be handed on to be read. -/
theorem Own.pure {f : FuncId} {args : List DV} {len es : Nat} {cs : List DV} (h : Own P G f args len es cs) (hl : len * es = cs.length) : Pure P G f args (.sl es cs) := fun B X vs hS hσ hB hG hv => by
  refine (h B X vs hS hσ hB hG hv).mono ?_
  rintro e w' ⟨v, he, Y, hw, hY, hE, d', hr, g, hg, rfl, hσ'⟩
  subst hw
  have hY0 : Y.σ[0]? = some (.row g cs) := by rw [hσ']; rfl
  have h1 := pub_rep hY hY0 hl hr
  have h2 := sto_gone hY 0
  have h3 := shrink_gone (X := Y) 0
  have h4 : WExt { Y with σ := Y.σ.set 0 .gone } { Y with σ := [] } := WExt.shrink fun k g hg => by simp at hg
  exact ⟨v, he, { Y with σ := [] }, rfl, h2.shrink fun k B hB => by simp at hB, hE.trans (h3.trans h4), _, h1.ext h4, rfl, rfl⟩

/-! The ends of such calls. -/
variable {E : AX} {n : Nat} {st : ASt}
theorem c_pure {d : DV} {σ : List ABlk} : AClose E (fun d' σ' => d' = d ∧ σ' = []) d σ := c_nil ⟨rfl, rfl⟩
theorem c_pure' {d d' : DV} {σ : List ABlk} (h : d' = d) : AClose E (fun d' σ' => d' = d ∧ σ' = []) d' σ := c_nil ⟨h, rfl⟩
theorem c_owned {k g len es len' es' : Nat} {cs cs' : List DV} {σ : List ABlk} (hk : σ[k]? = some (.row g cs)) (h1 : len' = len) (h2 : cs' = cs) (h3 : es' = es) : AClose E (fun d' σ' => ∃ g, E.N < g ∧ d' = .ref 0 g 0 len' es' ∧ σ' = [.row g cs']) (.ref k g 0 len es) σ :=
  c_own (m := 0) (Nat.zero_le _) hk fun g' hg => ⟨g', hg, by rw [h1, h3], by rw [h2]; rfl⟩
end
end Go.Av
