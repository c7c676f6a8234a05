/-
  Calls on a part of the caller's store: the callee sees some of the caller's blocks, and no others.
-/
import Derived.Test.YtecbcpilcjmhlaaDoorAvL
namespace Go.Av
open Classical
set_option linter.unusedSimpArgs false
set_option linter.unusedVariables false

/-- The same value: the callee's block i is the caller's block q i. -/
inductive RenS (q : Nat → Nat) : DV → DV → Prop
  | clo {d : DV} : d.clo = true → RenS q d d
  | ref {k i g o l e : Nat} : k = q i → RenS q (.ref k g o l e) (.ref i g o l e)
  | ptr {k i g o : Nat} : k = q i → RenS q (.ptr k g o) (.ptr i g o)
  | mp {k i g : Nat} : k = q i → RenS q (.mp k g) (.mp i g)
inductive RenL (R : DV → DV → Prop) : List DV → List DV → Prop
  | nil : RenL R [] []
  | cons {d e : DV} {r s : List DV} : R d e → RenL R r s → RenL R (d :: r) (e :: s)
inductive RenD (q : Nat → Nat) : DV → DV → Prop
  | s {d e : DV} : RenS q d e → RenD q d e
  | fn {F : Fn} {a a' c c' : List DV} : RenL (RenS q) a a' → RenL (RenS q) c c' → RenD q (.fn F a c) (.fn F a' c')
  | tup {a a' : List DV} : RenL (RenS q) a a' → RenD q (.tup a) (.tup a')
inductive RenB (q : Nat → Nat) : ABlk → ABlk → Prop
  | gone : RenB q .gone .gone
  | row {g : Nat} {cs cs' : List DV} : RenL (RenS q) cs cs' → RenB q (.row g cs) (.row g cs')
  | rowc {g : Nat} {cs : List DV} : (∀ d ∈ cs, d.clo = true) → RenB q (.row g cs) (.row g cs)
  | map {g : Nat} {m : List (Value × DV)} : (∀ p ∈ m, p.2.clo = true) → RenB q (.mapb g m) (.mapb g m)
inductive RenBs (q : Nat → Nat) : List ABlk → List ABlk → Prop
  | nil : RenBs q [] []
  | cons {d e : ABlk} {r s : List ABlk} : RenB q d e → RenBs q r s → RenBs q (d :: r) (e :: s)

theorem RenL.get {R : DV → DV → Prop} {a b : List DV} (h : RenL R a b) : a.length = b.length ∧ ∀ (j : Nat) (d e : DV), a[j]? = some d → b[j]? = some e → R d e := by
  induction h with
  | nil => exact ⟨rfl, fun j d e h => by simp at h⟩
  | cons h1 _ ih =>
    refine ⟨by simp [ih.1], fun j d e hd he => ?_⟩
    cases j with
    | zero => simp at hd he; subst hd; subst he; exact h1
    | succ j => exact ih.2 j d e (by simpa using hd) (by simpa using he)
theorem RenBs.get {q : Nat → Nat} {a b : List ABlk} (h : RenBs q a b) : a.length = b.length ∧ ∀ (j : Nat) (d e : ABlk), a[j]? = some d → b[j]? = some e → RenB q d e := by
  induction h with
  | nil => exact ⟨rfl, fun j d e h => by simp at h⟩
  | cons h1 _ ih =>
    refine ⟨by simp [ih.1], fun j d e hd he => ?_⟩
    cases j with
    | zero => simp at hd he; subst hd; subst he; exact h1
    | succ j => exact ih.2 j d e (by simpa using hd) (by simpa using he)
theorem RenB.gen {q : Nat → Nat} {a b : ABlk} (h : RenB q a b) : a.gen? = b.gen? := by cases h <;> rfl
theorem RenS.one {q : Nat → Nat} {d e : DV} (h : RenS q d e) : d.one = e.one := by cases h <;> rfl

section
variable {q : Nat → Nat} {L L' : Lay}
theorem RenS.to (himm : ∀ b o v, L.imm b o = some v → L'.imm b o = some v) (htop : L.top ≤ L'.top) (hrow : ∀ i g ob, L'.row i g = some ob → L.row (q i) g = some ob) {d e : DV} {v : Value} (h : RenS q d e) (hv : VRep L d v) : VRep L' e v := by
  cases h with
  | clo hc => exact hv.mono_clo himm hc
  | ref hk => subst hk; cases hv with | ref _ _ _ _ _ a l c h1 h2 => exact .ref _ _ _ _ _ _ _ _ (Nat.le_trans h1 htop) fun ob hob => h2 ob (hrow _ _ ob hob)
  | ptr hk => subst hk; cases hv with | ptr _ _ _ a h1 h2 => exact .ptr _ _ _ _ (Nat.le_trans h1 htop) fun ob hob => h2 ob (hrow _ _ ob hob)
  | mp hk => subst hk; cases hv with | mp _ _ r h1 h2 => exact .mp _ _ _ (Nat.le_trans h1 htop) fun ob hob => h2 ob (hrow _ _ ob hob)
theorem RenS.from (himm : ∀ b o v, L.imm b o = some v → L'.imm b o = some v) (htop : L.top ≤ L'.top) (hrow : ∀ i g ob, L'.row (q i) g = some ob → L.row i g = some ob) {d e : DV} {v : Value} (h : RenS q d e) (hv : VRep L e v) : VRep L' d v := by
  cases h with
  | clo hc => exact hv.mono_clo himm hc
  | ref hk => subst hk; cases hv with | ref _ _ _ _ _ a l c h1 h2 => exact .ref _ _ _ _ _ _ _ _ (Nat.le_trans h1 htop) fun ob hob => h2 ob (hrow _ _ ob hob)
  | ptr hk => subst hk; cases hv with | ptr _ _ _ a h1 h2 => exact .ptr _ _ _ _ (Nat.le_trans h1 htop) fun ob hob => h2 ob (hrow _ _ ob hob)
  | mp hk => subst hk; cases hv with | mp _ _ r h1 h2 => exact .mp _ _ _ (Nat.le_trans h1 htop) fun ob hob => h2 ob (hrow _ _ ob hob)
theorem RenD.to (himm : ∀ b o v, L.imm b o = some v → L'.imm b o = some v) (htop : L.top ≤ L'.top) (hrow : ∀ i g ob, L'.row i g = some ob → L.row (q i) g = some ob) {d e : DV} {v : Value} (h : RenD q d e) (hv : VRep L d v) : VRep L' e v := by
  have lift : ∀ {a a' : List DV} {vs : Array Value}, RenL (RenS q) a a' → (∀ j d, a[j]? = some d → VRep L d (vs.getD j undef)) → ∀ j e, a'[j]? = some e → VRep L' e (vs.getD j undef) := fun hl hv j e he => by
    obtain ⟨h1, h2⟩ := hl.get
    have hj := (List.getElem?_eq_some_iff.1 he).1
    have hd := List.getElem?_eq_getElem (show j < _ by rw [h1]; exact hj)
    exact (h2 j _ e hd he).to himm htop hrow (hv j _ hd)
  cases h with
  | s h => exact h.to himm htop hrow hv
  | fn ha hc => cases hv with | fn _ _ _ fs cs h1 h2 h3 h4 => exact .fn _ _ _ _ _ (by rw [h1, ha.get.1]) (by rw [h2, hc.get.1]) (lift ha h3) (lift hc h4)
  | tup ha => cases hv with | tup _ vs h1 h2 => exact .tup _ _ (by rw [h1, ha.get.1]) (lift ha h2)
theorem RenD.from (himm : ∀ b o v, L.imm b o = some v → L'.imm b o = some v) (htop : L.top ≤ L'.top) (hrow : ∀ i g ob, L'.row (q i) g = some ob → L.row i g = some ob) {d e : DV} {v : Value} (h : RenD q d e) (hv : VRep L e v) : VRep L' d v := by
  have lift : ∀ {a a' : List DV} {vs : Array Value}, RenL (RenS q) a a' → (∀ j d, a'[j]? = some d → VRep L d (vs.getD j undef)) → ∀ j e, a[j]? = some e → VRep L' e (vs.getD j undef) := fun hl hv j e he => by
    obtain ⟨h1, h2⟩ := hl.get
    have hj := (List.getElem?_eq_some_iff.1 he).1
    have hd := List.getElem?_eq_getElem (show j < _ by rw [← h1]; exact hj)
    exact (h2 j e _ he hd).from himm htop hrow (hv j _ hd)
  cases h with
  | s h => exact h.from himm htop hrow hv
  | fn ha hc => cases hv with | fn _ _ _ fs cs h1 h2 h3 h4 => exact .fn _ _ _ _ _ (by rw [h1, ha.get.1]) (by rw [h2, hc.get.1]) (lift ha h3) (lift hc h4)
  | tup ha => cases hv with | tup _ vs h1 h2 => exact .tup _ _ (by rw [h1, ha.get.1]) (lift ha h2)
/-- Cells and entries, where each value turns into another one's. -/
theorem RenB.turn {w : World} {ob : Option (Nat × Nat)} {a b : ABlk} (ha : ∀ d e v, RenS q d e → VRep L d v → VRep L' e v) (h : RenB q a b) (hh : a.holds L w ob) : b.holds L' w ob := by
  cases h with
  | gone => trivial
  | rowc hc =>
    cases ob with
    | none => exact hh
    | some z =>
      obtain ⟨arr, T, fr, q1, q2, q3, q4, q5⟩ := hh
      exact ⟨arr, T, fr, q1, q2, q3, q4, fun j d hj => ⟨(q5 j d hj).1, ha _ _ _ (.clo (hc d (List.mem_of_getElem? hj))) (q5 j d hj).2⟩⟩
  | row hl =>
    obtain ⟨h1, h2⟩ := hl.get
    cases ob with
    | none => exact List.eq_nil_of_length_eq_zero (by rw [← h1, show _ = [] from hh]; rfl)
    | some z =>
      obtain ⟨arr, T, fr, q1, q2, q3, q4, q5⟩ := hh
      refine ⟨arr, T, fr, q1, q2, by omega, q4, fun j e he => ?_⟩
      have hj := (List.getElem?_eq_some_iff.1 he).1
      have hd := List.getElem?_eq_getElem (show j < _ by rw [h1]; exact hj)
      have hr := h2 j _ e hd he
      exact ⟨by rw [← hr.one]; exact (q5 j _ hd).1, ha _ _ _ hr (q5 j _ hd).2⟩
  | map hc =>
    obtain ⟨b, n, es, clock, q0, q1, q2, q3, q4⟩ := hh
    exact ⟨b, n, es, clock, q0, q1, q2, q3, fun j k d hj => ⟨(q4 j k d hj).1, ha _ _ _ (.clo (hc (k, d) (List.mem_of_getElem? hj))) (q4 j k d hj).2⟩⟩
theorem RenB.back {w : World} {ob : Option (Nat × Nat)} {a b : ABlk} (ha : ∀ d e v, RenS q d e → VRep L e v → VRep L' d v) (h : RenB q a b) (hh : b.holds L w ob) : a.holds L' w ob := by
  cases h with
  | gone => trivial
  | rowc hc =>
    cases ob with
    | none => exact hh
    | some z =>
      obtain ⟨arr, T, fr, q1, q2, q3, q4, q5⟩ := hh
      exact ⟨arr, T, fr, q1, q2, q3, q4, fun j d hj => ⟨(q5 j d hj).1, ha _ _ _ (.clo (hc d (List.mem_of_getElem? hj))) (q5 j d hj).2⟩⟩
  | row hl =>
    obtain ⟨h1, h2⟩ := hl.get
    cases ob with
    | none => exact List.eq_nil_of_length_eq_zero (by rw [h1, show _ = [] from hh]; rfl)
    | some z =>
      obtain ⟨arr, T, fr, q1, q2, q3, q4, q5⟩ := hh
      refine ⟨arr, T, fr, q1, q2, by omega, q4, fun j e he => ?_⟩
      have hj := (List.getElem?_eq_some_iff.1 he).1
      have hd := List.getElem?_eq_getElem (show j < _ by rw [← h1]; exact hj)
      have hr := h2 j e _ he hd
      exact ⟨by rw [hr.one]; exact (q5 j _ hd).1, ha _ _ _ hr (q5 j _ hd).2⟩
  | map hc =>
    obtain ⟨b, n, es, clock, q0, q1, q2, q3, q4⟩ := hh
    exact ⟨b, n, es, clock, q0, q1, q2, q3, fun j k d hj => ⟨(q4 j k d hj).1, ha _ _ _ (.clo (hc (k, d) (List.mem_of_getElem? hj))) (q4 j k d hj).2⟩⟩
end

theorem nodup_inj {ps : List Nat} (h : ps.Nodup) {i j : Nat} (hi : i < ps.length) (hj : j < ps.length) (e : ps[i] = ps[j]) : i = j := by
  have := List.pairwise_iff_getElem.1 h
  rcases Nat.lt_trichotomy i j with h' | h' | h'
  · exact absurd e (this i j hi hj h')
  · exact h'
  · exact absurd e.symm (this j i hj hi h')
theorem idxOf_nodup {ps : List Nat} (h : ps.Nodup) {i : Nat} (hi : i < ps.length) : ps.idxOf ps[i] = i := by
  have h1 := List.idxOf_lt_length_of_mem (List.getElem_mem hi)
  exact nodup_inj h h1 hi (List.getElem_idxOf h1)
/-- The caller's place of the callee's block i: ps, and behind the caller's store. -/
def qf (ps : List Nat) (n i : Nat) : Nat := match ps[i]? with
  | some k => k
  | none => n + (i - ps.length)
theorem qf_in {ps : List Nat} {n i : Nat} (h : i < ps.length) : qf ps n i = ps[i] := by unfold qf; rw [List.getElem?_eq_getElem h]
theorem qf_out {ps : List Nat} {n i : Nat} (h : ps.length ≤ i) : qf ps n i = n + (i - ps.length) := by unfold qf; rw [List.getElem?_eq_none h]

/-- What the caller has behind the call: d and σ' for the callee's d' and τ'. -/
structure Out (σ τ τ' : List ABlk) (ps : List Nat) (d d' : DV) (σ' : List ABlk) : Prop where
  d : RenD (qf ps σ.length) d d'
  le : τ.length ≤ τ'.length
  len : σ'.length = σ.length + (τ'.length - τ.length)
  keep : ∀ j, j < σ.length → j ∉ ps → σ'[j]? = σ[j]?
  new : ∀ i B', τ'[i]? = some B' → ∃ B, σ'[qf ps σ.length i]? = some B ∧ RenB (qf ps σ.length) B B'

section
variable {P : Program} {G : Nat → DV}
theorem ACalls.sub {f : FuncId} {args ds : List DV} {B : Nat} {σ τ : List ABlk} {ps : List Nat} {R : Nat → DV → List ABlk → Prop} {K : DV → List ABlk → Prop} (hargs : RenL (RenD (qf ps σ.length)) args ds) (hps : ps.Nodup) (hlen : ps.length = τ.length)
    (hτ : ∀ i (h : i < ps.length), ∃ b b', σ[ps[i]]? = some b ∧ τ[i]? = some b' ∧ RenB (qf ps σ.length) b b')
    (h : ∀ B', B ≤ B' → (∀ (i : Nat) (b : ABlk) (g : Nat), τ[i]? = some b → b.gen? = some g → g ≤ B') → ACalls P G B' f ds τ (R B')) (k : ∀ B' d' τ', B ≤ B' → R B' d' τ' → ∃ d σ', Out σ τ τ' ps d d' σ' ∧ K d σ') : ACalls P G B f args σ K := fun X vs hS hσ hB hG hvs => by
  subst hσ
  have hin : ∀ i, i < ps.length → ps[i]! < X.σ.length := fun i hi => by
    obtain ⟨b, b', h1, _⟩ := hτ i hi
    rw [getElem!_pos ps i hi]; exact (List.getElem?_eq_some_iff.1 h1).1
  let Y : AX := { w := X.w, ρ := fun i => X.ρ (qf ps X.σ.length i), σ := τ, N := X.N, hid := fun b => X.hid b ∨ (X.mut b ∧ ∀ i g n, i < ps.length → X.live (qf ps X.σ.length i) g → X.ρ (qf ps X.σ.length i) ≠ some (b, n)) }
  have hYl : ∀ i g, Y.live i g ↔ i < ps.length ∧ X.live (qf ps X.σ.length i) g := fun i g => by
    by_cases hi : i < ps.length
    · obtain ⟨b, b', h1, h2, h3⟩ := hτ i hi
      rw [qf_in hi]
      simp only [Y, AX.live, h1, h2, Option.bind_some, h3.gen, hi, true_and]
    · simp only [hi, false_and, iff_false]
      intro hl
      exact hi (by rw [hlen]; exact AX.live_lt hl)
  have hYm : ∀ b, Y.mut b ↔ ∃ i g n, i < ps.length ∧ X.live (qf ps X.σ.length i) g ∧ X.ρ (qf ps X.σ.length i) = some (b, n) := fun b => by
    constructor
    · rintro ⟨i, g, n, hl, hr⟩
      obtain ⟨h1, h2⟩ := (hYl i g).1 hl
      exact ⟨i, g, n, h1, h2, hr⟩
    · rintro ⟨i, g, n, h1, h2, h3⟩; exact ⟨i, g, n, (hYl i g).2 ⟨h1, h2⟩, h3⟩
  have hYX : ∀ b, Y.mut b → X.mut b := fun b hb => by
    obtain ⟨i, g, n, _, h2, h3⟩ := (hYm b).1 hb
    exact ⟨_, g, n, h2, h3⟩
  have qinj : ∀ i i', i < ps.length → i' < ps.length → qf ps X.σ.length i = qf ps X.σ.length i' → i = i' := fun i i' hi hi' he => by
    rw [qf_in hi, qf_in hi'] at he
    exact nodup_inj hps hi hi' he
  have himm : ∀ b o v, X.lay.imm b o = some v → Y.lay.imm b o = some v := fun b o v hv => by
    obtain ⟨_, h2, h3, h4⟩ := AX.imm_lt hv
    exact AX.imm_mk (fun hm => h2 (hYX b hm)) (fun hh => hh.elim h3 (fun hh => h2 hh.1)) h4
  have hrow : ∀ i g ob, Y.lay.row i g = some ob → X.lay.row (qf ps X.σ.length i) g = some ob := fun i g ob hob => by
    obtain ⟨h1, h2⟩ := AX.row_of hob
    rw [AX.row_mk ((hYl i g).1 h1).2]
    exact congrArg some h2
  have hYS : Sto Y := {
    inj := fun i i' g1 g2 b n1 n2 h1 h2 h3 h4 => by
      obtain ⟨e1, e2⟩ := (hYl i g1).1 h1
      obtain ⟨e3, e4⟩ := (hYl i' g2).1 h2
      exact qinj i i' e1 e3 (hS.inj _ _ g1 g2 b n1 n2 e2 e4 h3 h4)
    gen := fun i g h1 => hS.gen _ g ((hYl i g).1 h1).2
    hid := fun b hm hh => by
      obtain ⟨i, g, n, h1, h2, h3⟩ := (hYm b).1 hm
      rcases hh with hh | ⟨_, hh⟩
      · exact hS.hid b ⟨_, g, n, h2, h3⟩ hh
      · exact hh i g n h1 h2 h3
    hidlt := fun b hh => by
      rcases hh with hh | ⟨hh, _⟩
      · exact hS.hidlt b hh
      · exact hS.mut_lt hh
    holds := fun i b' hb' => by
      have hb' : τ[i]? = some b' := hb'
      have hi : i < ps.length := by rw [hlen]; exact (List.getElem?_eq_some_iff.1 hb').1
      obtain ⟨b, b'', h1, h2, h3⟩ := hτ i hi
      rw [h2] at hb'; cases hb'
      have hh := hS.holds _ b (by rw [← qf_in (n := X.σ.length) hi] at h1; exact h1)
      exact h3.turn (fun d e v hr hv => hr.to himm (Nat.le_refl _) hrow hv) hh }
  have hG' : GOk G Y := fun gg => ⟨(hG gg).1, (hG gg).2.mono_clo himm (hG gg).1⟩
  have hargs' : VReps Y.lay ds vs := by
    obtain ⟨h1, h2⟩ := hvs
    obtain ⟨g1, g2⟩ := hargs.get
    refine ⟨by rw [h1, g1], fun j e hj => ?_⟩
    have hlt : j < args.length := by rw [g1]; exact (List.getElem?_eq_some_iff.1 hj).1
    exact (g2 j _ e (List.getElem?_eq_getElem hlt) hj).to himm (Nat.le_refl _) hrow (h2 j _ (List.getElem?_eq_getElem hlt))
  refine (h X.N hB (fun i b g hi hg => hYS.gen i g ((AX.live_get (X := Y) (k := i) (B := b) hi).2 hg)) Y vs hYS rfl (Nat.le_refl _) hG' hargs').mono ?_
  rintro e w' ⟨v, he, Z, hw, hZS, hE, d', hrep, hR⟩
  subst hw
  obtain ⟨d, σ', hO, hK⟩ := k X.N d' Z.σ hB hR
  have hl0 : ps.length ≤ Z.σ.length := by rw [hlen]; exact hO.le
  have hl1 : σ'.length = X.σ.length + (Z.σ.length - ps.length) := by rw [hlen]; exact hO.len
  -- the caller's places: which block of the callee's lies there
  let src : Nat → Option Nat := fun j => if j ∈ ps then some (ps.idxOf j) else if j < X.σ.length then none else some (ps.length + (j - X.σ.length))
  have src_q : ∀ i, src (qf ps X.σ.length i) = some i := fun i => by
    by_cases hi : i < ps.length
    · rw [qf_in hi]
      simp only [src, List.getElem_mem, if_true]
      rw [idxOf_nodup hps hi]
    · rw [qf_out (by omega)]
      have : X.σ.length + (i - ps.length) ∉ ps := fun hm => by
        obtain ⟨i', hi', he⟩ := List.getElem_of_mem hm
        have := hin i' hi'
        rw [getElem!_pos ps i' hi'] at this
        omega
      simp only [src, this, if_false]
      rw [if_neg (by omega)]
      congr 1; omega
  have q_src : ∀ j i, src j = some i → j = qf ps X.σ.length i := fun j i hji => by
    simp only [src] at hji
    split at hji
    · rename_i hm
      cases hji
      have := List.idxOf_lt_length_of_mem hm
      rw [qf_in this, List.getElem_idxOf]
    · split at hji
      · cases hji
      · cases hji
        rw [qf_out (by omega)]; omega
  have src_n : ∀ j, src j = none → j < X.σ.length ∧ j ∉ ps := fun j hj => by
    simp only [src] at hj
    split at hj
    · cases hj
    · split at hj
      · rename_i h1 h2; exact ⟨h2, h1⟩
      · cases hj
  let W : AX := { w := Z.w, ρ := fun j => match src j with | some i => Z.ρ i | none => X.ρ j, σ := σ', N := Z.N, hid := X.hid }
  have hWq : ∀ i, W.ρ (qf ps X.σ.length i) = Z.ρ i := fun i => by simp only [W, src_q]
  have hWn : ∀ j, src j = none → W.ρ j = X.ρ j := fun j hj => by simp only [W, hj]
  have hWl : ∀ i g, W.live (qf ps X.σ.length i) g ↔ Z.live i g := fun i g => by
    by_cases hi : i < Z.σ.length
    · obtain ⟨b, h1, h2⟩ := hO.new i _ (List.getElem?_eq_getElem hi)
      simp only [W, AX.live, h1, List.getElem?_eq_getElem hi, Option.bind_some, h2.gen]
    · constructor
      · intro hl
        have := AX.live_lt hl
        have hq : qf ps X.σ.length i = X.σ.length + (i - ps.length) := qf_out (by omega)
        rw [hq] at this
        have hs : W.σ.length = σ'.length := rfl
        omega
      · intro hl; exact absurd (AX.live_lt hl) hi
  have hWk : ∀ j g, src j = none → (W.live j g ↔ X.live j g) := fun j g hj => by
    obtain ⟨h1, h2⟩ := src_n j hj
    simp only [W, AX.live, hO.keep j h1 h2]
  have hcase : ∀ j, (src j = none) ∨ ∃ i, j = qf ps X.σ.length i := fun j => by
    cases hj : src j with
    | none => exact .inl rfl
    | some i => exact .inr ⟨i, q_src j i hj⟩
  -- a block of the caller's that the callee does not see
  have hfar : ∀ j g b n, src j = none → X.live j g → X.ρ j = some (b, n) → ¬ Y.mut b := fun j g b n hj hl hr hm => by
    obtain ⟨i, g', n', h1, h2, h3⟩ := (hYm b).1 hm
    have := hS.inj j _ g g' b n n' hl h2 hr h3
    rw [this, src_q] at hj; cases hj
  have hWm : ∀ b, W.mut b → (X.mut b ∧ ¬ Y.mut b) ∨ Z.mut b := fun b ⟨j, g, n, hl, hr⟩ => by
    rcases hcase j with hj | ⟨i, rfl⟩
    · rw [hWn j hj] at hr
      have hl := (hWk j g hj).1 hl
      exact .inl ⟨⟨j, g, n, hl, hr⟩, hfar j g b n hj hl hr⟩
    · rw [hWq] at hr
      exact .inr ⟨i, g, n, (hWl i g).1 hl, hr⟩
  have hEW : WExt X W := {
    hid := rfl, top := hE.top, os := hE.os, tape := hE.tape, output := hE.output, size := hE.size
    old := fun b hb hm => by
      obtain ⟨h1, h2⟩ := hE.old b hb fun h => hm (hYX b h)
      exact ⟨h1, fun h => (hWm b h).elim (fun h => hm h.1) h2⟩
    rows := fun j g hg hl => by
      rcases hcase j with hj | ⟨i, rfl⟩
      · exact ⟨(hWk j g hj).1 hl, hWn j hj⟩
      · obtain ⟨h1, h2⟩ := hE.rows i g hg ((hWl i g).1 hl)
        exact ⟨((hYl i g).1 h1).2, by rw [hWq, h2]⟩ }
  have himm' : ∀ b o v, Z.lay.imm b o = some v → W.lay.imm b o = some v := fun b o v hv => by
    obtain ⟨_, h2, h3, h4⟩ := AX.imm_lt hv
    rw [hE.hid] at h3
    refine AX.imm_mk (fun hm => ?_) (fun hh => h3 (.inl hh)) h4
    rcases hWm b hm with ⟨h5, h6⟩ | h5
    · exact h3 (.inr ⟨h5, fun i g n hi hl hr => h6 ((hYm b).2 ⟨i, g, n, hi, hl, hr⟩)⟩)
    · exact h2 h5
  have hrow' : ∀ i g ob, W.lay.row (qf ps X.σ.length i) g = some ob → Z.lay.row i g = some ob := fun i g ob hob => by
    obtain ⟨h1, h2⟩ := AX.row_of hob
    rw [AX.row_mk ((hWl i g).1 h1), ← hWq, h2]
  have hSW : Sto W := {
    inj := fun j j' g1 g2 b n1 n2 h1 h2 h3 h4 => by
      rcases hcase j with hj | ⟨i, rfl⟩ <;> rcases hcase j' with hj' | ⟨i', rfl⟩
      · rw [hWn j hj] at h3; rw [hWn j' hj'] at h4
        exact hS.inj j j' g1 g2 b n1 n2 ((hWk j g1 hj).1 h1) ((hWk j' g2 hj').1 h2) h3 h4
      · rw [hWn j hj] at h3; rw [hWq] at h4
        have hl := (hWk j g1 hj).1 h1
        exact absurd ⟨i', g2, n2, (hWl i' g2).1 h2, h4⟩ (hE.old b (hS.ρ_lt hl h3) (hfar j g1 b n1 hj hl h3)).2
      · rw [hWn j' hj'] at h4; rw [hWq] at h3
        have hl := (hWk j' g2 hj').1 h2
        exact absurd ⟨i, g1, n1, (hWl i g1).1 h1, h3⟩ (hE.old b (hS.ρ_lt hl h4) (hfar j' g2 b n2 hj' hl h4)).2
      · rw [hWq] at h3 h4
        rw [hZS.inj i i' g1 g2 b n1 n2 ((hWl i g1).1 h1) ((hWl i' g2).1 h2) h3 h4]
    gen := fun j g hl => by
      rcases hcase j with hj | ⟨i, rfl⟩
      · exact Nat.le_trans (hS.gen j g ((hWk j g hj).1 hl)) hE.top
      · exact hZS.gen i g ((hWl i g).1 hl)
    hid := fun b hm hh => by
      rcases hWm b hm with ⟨h1, _⟩ | h1
      · exact hS.hid b h1 hh
      · exact hZS.hid b h1 (by rw [hE.hid]; exact .inl hh)
    hidlt := fun b hb => Nat.lt_of_lt_of_le (hS.hidlt b hb) hE.size
    holds := fun j b hb => by
      have hb : σ'[j]? = some b := hb
      rcases hcase j with hj | ⟨i, rfl⟩
      · obtain ⟨h1, h2⟩ := src_n j hj
        rw [hO.keep j h1 h2] at hb
        rw [hWn j hj]
        cases hg : b.gen? with
        | none => cases b <;> first | trivial | cases hg
        | some g =>
          have hl := (AX.live_get hb).2 hg
          exact (hS.holds j b hb).mono hEW.le fun b' n hb' => (hE.old b' (hS.ρ_lt hl hb') (hfar j g b' n hj hl hb')).1
      · rw [hWq]
        have hi : i < Z.σ.length := by
          by_cases hi : i < Z.σ.length
          · exact hi
          · have := (List.getElem?_eq_some_iff.1 hb).1
            rw [qf_out (by omega)] at this
            omega
        obtain ⟨b2, h1, h2⟩ := hO.new i _ (List.getElem?_eq_getElem hi)
        rw [h1] at hb; cases hb
        exact h2.back (fun d e v hr hv => hr.from himm' (Nat.le_refl _) hrow' hv) (hZS.holds i _ (List.getElem?_eq_getElem hi)) }
  exact ⟨v, he, W, rfl, hSW, hEW, d, hO.d.from himm' (Nat.le_refl _) hrow' hrep, hK⟩

/-- The store with other blocks in some places. -/
def setAll : List ABlk → List Nat → List ABlk → Option (List ABlk)
  | σ, [], [] => some σ
  | σ, p :: ps, b :: bs => match setA σ p b with | some σ1 => setAll σ1 ps bs | none => none
  | _, _, _ => none
def pickA (σ : List ABlk) : List Nat → Option (List ABlk)
  | [] => some []
  | p :: ps => match σ[p]?, pickA σ ps with | some b, some r => some (b :: r) | _, _ => none
theorem pickA_eq {σ : List ABlk} : ∀ {ps : List Nat} {bs : List ABlk}, pickA σ ps = some bs → ps.length = bs.length ∧ ∀ (i : Nat) (h : i < ps.length), ∃ b, σ[ps[i]]? = some b ∧ bs[i]? = some b
  | [], bs, h => by cases h; exact ⟨rfl, fun i h => by simp at h⟩
  | p :: ps, bs, h => by
    simp only [pickA] at h
    split at h
    · rename_i b r h1 h2
      cases h
      obtain ⟨k1, k2⟩ := pickA_eq h2
      refine ⟨by simp [k1], fun i hi => ?_⟩
      cases i with
      | zero => exact ⟨b, h1, rfl⟩
      | succ i =>
        obtain ⟨b', e1, e2⟩ := k2 i (by simpa using hi)
        exact ⟨b', by simpa using e1, by simpa using e2⟩
    · cases h
theorem setA_len {σ σ' : List ABlk} {p : Nat} {b : ABlk} (h : setA σ p b = some σ') : p < σ.length := by
  induction σ generalizing p σ' with
  | nil => simp [setA] at h
  | cons a r ih =>
    cases p with
    | zero => simp
    | succ p =>
      simp only [setA] at h
      split at h
      · rename_i r' hr; have := ih hr; simp; omega
      · cases h
theorem setAll_eq : ∀ {ps : List Nat} {σ bs σ' : List ABlk}, setAll σ ps bs = some σ' → ps.Nodup → ps.length = bs.length ∧ σ'.length = σ.length ∧ (∀ j, j ∉ ps → σ'[j]? = σ[j]?) ∧ ∀ (i : Nat) (h : i < ps.length), σ'[ps[i]]? = bs[i]?
  | [], σ, bs, σ', h, _ => by
    cases bs with
    | nil => simp only [setAll] at h; cases h; exact ⟨rfl, rfl, fun j _ => rfl, fun i h => by simp at h⟩
    | cons b bs => simp [setAll] at h
  | p :: ps, σ, [], σ', h, _ => by simp [setAll] at h
  | p :: ps, σ, b :: bs, σ', h, hn => by
    simp only [setAll] at h
    split at h
    · rename_i σ1 h1
      have hpl := setA_len h1
      have e1 := setA_eq h1
      obtain ⟨hp, hn'⟩ := List.nodup_cons.1 hn
      obtain ⟨k1, k2, k3, k4⟩ := setAll_eq h hn'
      subst e1
      refine ⟨by simp [k1], by rw [k2]; simp, fun j hj => ?_, fun i hi => ?_⟩
      · simp only [List.mem_cons, not_or] at hj
        rw [k3 j hj.2, List.getElem?_set_ne (fun e => hj.1 e.symm)]
      · cases i with
        | zero =>
          simp only [List.getElem_cons_zero, List.getElem?_cons_zero]
          rw [k3 p hp, List.getElem?_set_self hpl]
        | succ i => simpa using k4 i (by simpa using hi)
    · cases h
theorem Out.of {σ τ τ' bs σ' : List ABlk} {ps : List Nat} {d d' : DV} (hd : RenD (qf ps σ.length) d d') (hps : ps.Nodup) (hl : ps.length = τ.length) (hbs : RenBs (qf ps σ.length) bs τ') (hσ : setAll σ ps bs = some σ') : Out σ τ τ' ps d d' σ' := by
  obtain ⟨k1, k2, k3, k4⟩ := setAll_eq hσ hps
  obtain ⟨h1, h2⟩ := hbs.get
  refine ⟨hd, by omega, by omega, fun j _ hj => k3 j hj, fun i B' hB' => ?_⟩
  have hi : i < ps.length := by have := (List.getElem?_eq_some_iff.1 hB').1; omega
  have hb := List.getElem?_eq_getElem (show i < bs.length by omega)
  exact ⟨_, by rw [qf_in hi, k4 i hi]; exact hb, h2 i _ B' hb hB'⟩

variable {B : Nat} {f : Operand → DV} {σ : List ABlk} {K : DV → List ABlk → Prop} {dst : Option Tmp} {type : TypeId} {pos : String} {after : Array Edge} {gd : Option (Nat × Bool)}
theorem s_call_sub {args : Array Operand} {ts : Array TypeId} {fid : FuncId} {es ds : List DV} {τ cs : List ABlk} {R : Nat → DV → List ABlk → Prop} [FnOk P fid] (ps : List Nat) (hx : f (.func fid) = .fn (.func fid) [] []) (hds : reL (args.toList.map f) = some es) (hargs : RenL (RenD (qf ps σ.length)) es ds) (hps : ps.Nodup)
    (hcs : pickA σ ps = some cs) (hτ : RenBs (qf ps σ.length) cs τ) (h : ∀ B', B ≤ B' → (∀ (i : Nat) (b : ABlk) (g : Nat), τ[i]? = some b → b.gen? = some g → g ≤ B') → ACalls P G B' fid ds τ (R B'))
    (k : ∀ B' d' τ', B ≤ B' → R B' d' τ' → ∃ d bs σ', RenD (qf ps σ.length) d d' ∧ RenBs (qf ps σ.length) bs τ' ∧ setAll σ ps bs = some σ' ∧ K d σ') : OpSem P G B ⟨dst, .call ⟨.value (.func fid), args, ts⟩, type, pos, after, gd⟩ f σ K := by
  obtain ⟨h1, h2⟩ := pickA_eq hcs
  obtain ⟨h3, h4⟩ := hτ.get
  refine s_call hx hds (ACalls.sub hargs hps (by omega) (fun i hi => ?_) h fun B' d' τ' hB hR => ?_)
  · obtain ⟨b, e1, e2⟩ := h2 i hi
    have e3 := List.getElem?_eq_getElem (show i < τ.length by omega)
    exact ⟨b, _, e1, e3, h4 i b _ e2 e3⟩
  · obtain ⟨d, bs, σ', k1, k2, k3, k4⟩ := k B' d' τ' hB hR
    exact ⟨d, σ', Out.of k1 hps (by omega) k2 k3, k4⟩

variable {E : AX} {R : DV → List ABlk → Prop}
/-- A block is let go at the end. -/
theorem c_gone {d : DV} {σ σ' : List ABlk} (k : Nat) (hσ : setA σ k .gone = some σ') (h : AClose E R d σ') : AClose E R d σ := fun X v hX hS hE hv => by
  subst hX
  rw [setA_eq hσ] at h
  exact h { X with σ := X.σ.set k .gone } v rfl (sto_gone hS k) (hE.trans (shrink_gone k)) (hv.ext (shrink_gone k))
end
end Go.Av
