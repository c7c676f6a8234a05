/-
  Cells of a row that hold a list: a nil one is owned from here on; an owned one is read alone from here on.
-/
import Derived.Test.YtecbcpilcjmhlaaDoorAvF
namespace Go.Av
open Classical
set_option linter.unusedSimpArgs false
set_option linter.unusedVariables false
section
variable {P : Program} {G : Nat → DV} {E : AX} {n : Nat} {N : ASt → Prop} {xs : List (Nat × (ASt → Prop))} {R : ASt → Prop} {st : ASt}

theorem Sto.rowcell {X X1 : AX} (hS : Sto X) (hS1 : Sto X1) (hE : WExt X X1) (hw : X1.w = X.w) {m gm j : Nat} {cs : List DV} {d d' : DV} (hm : X.σ[m]? = some (.row gm cs)) (hm1 : X1.σ[m]? = some (.row gm cs)) (hρ : X1.ρ m = X.ρ m)
    (hj : cs[j]? = some d) (ho : d'.one = true) (hv : ∀ v, VRep X.lay d v → VRep X1.lay d' v) : ∃ X2, X2.w = X.w ∧ X2.σ = X1.σ.set m (.row gm (cs.set j d')) ∧ Sto X2 ∧ WExt X1 X2 := by
  have hok : ReplOk X1 m gm X1.w (X1.ρ m) (.row gm (cs.set j d')) X1.N := {
    live := live_row hm1, os := rfl, tape := rfl, output := rfl, size := Nat.le_refl _, block := fun _ _ _ => rfl
    gen := .inr ⟨rfl, Nat.le_refl _, rfl⟩
    lies := fun b n h => .inr ⟨n, h⟩ }
  have hE2 := WExt.repl hS1 hok
  refine ⟨X1.repl m X1.w (X1.ρ m) (.row gm (cs.set j d')) X1.N, hw, rfl, Sto.repl' hS1 hok ?_, hE2⟩
  have key : ∀ ob, X.ρ m = ob → (ABlk.row gm (cs.set j d')).holds (X1.repl m X1.w (X1.ρ m) (.row gm (cs.set j d')) X1.N).lay X1.w ob := fun ob hob => by
    have hh := hS.holds m _ hm
    rw [hob] at hh
    cases ob with
    | none =>
      have hh : cs = [] := hh
      subst hh; simp at hj
    | some x =>
      obtain ⟨b, nn⟩ := x
      obtain ⟨arr, T, fr, g1, g2, g3, g4, g5⟩ := hh
      refine ⟨arr, T, fr, by rw [hw]; exact g1, g2, by simpa using g3, g4, fun i e hi => ?_⟩
      rw [List.getElem?_set] at hi
      split at hi
      · rename_i hji
        subst hji
        split at hi
        · cases hi
          exact ⟨ho, (hv _ (g5 j d hj).2).ext hE2⟩
        · cases hi
      · exact ⟨(g5 i e hi).1, ((g5 i e hi).2.ext hE).ext hE2⟩
  exact key _ hρ.symm

theorem Rel.ownin {a : Act} {w : World} (hr : Rel G E n st a w) {m gm j es : Nat} {cs : List DV} (hm : st.σ[m]? = some (.row gm cs)) (hj : cs[j]? = some (.sc (.slice none 0 0))) :
    ∃ g, E.N < g ∧ Rel G E n ⟨st.t, st.σ.set m (.row gm (cs.set j (.ref st.σ.length g 0 0 es))) ++ [.row g []]⟩ a w := by
  obtain ⟨X, h1, h2, h3, h4, h5, h6, h7, h8⟩ := hr
  have hob : ∀ b nn, (none : Option (Nat × Nat)) = some (b, nn) → X.w.heap.size ≤ b := fun _ _ h => by cases h
  have hE := WExt.push h3 (Keep.refl X.w) (B := .row (X.N + 1) []) rfl hob
  have hS1 := h3.push (Keep.refl X.w) (B := .row (X.N + 1) []) rfl hob rfl
  rw [← h2] at hm
  have hml : m < X.σ.length := (List.getElem?_eq_some_iff.1 hm).1
  obtain ⟨X2, k1, k2, k3, k4⟩ := Sto.rowcell h3 hS1 hE rfl (d' := .ref X.σ.length (X.N + 1) 0 0 es) hm (by simp only [AX.push]; rw [List.getElem?_append_left hml]; exact hm) (by simp only [AX.push]; rw [if_neg (by omega)]) hj rfl (fun v hv => by
    rw [VRep.sc_eq hv]
    refine .ref _ _ _ _ _ _ _ _ (Nat.le_refl _) fun ob hobb => ?_
    rw [AX.row_mk (AX.push_live.2 (.inr ⟨rfl, rfl⟩))] at hobb
    simp only [AX.push, if_true, Option.some.injEq] at hobb
    subst hobb
    exact ⟨rfl, rfl, rfl⟩)
  have hE2 := hE.trans k4
  refine ⟨X.N + 1, by have := h4.top; omega, X2, by rw [k1, h1], ?_, k3, h4.trans hE2, h5.ext hE2, h6, h7, fun i => (h8 i).ext hE2⟩
  rw [k2, ← h2]
  simp only [AX.push]
  rw [List.set_append_left _ _ hml]
theorem r_ownin {t : Fr} {σ : List ABlk} {c : Code} (m j es : Nat) {gm : Nat} {cs : List DV} {σ' : Nat → List ABlk} (hm : σ[m]? = some (.row gm cs)) (hj : cs[j]? = some (.sc (.slice none 0 0))) (hσ' : ∀ g, setA σ m (.row gm (cs.set j (.ref σ.length g 0 0 es))) = some (σ' g))
    (k : ∀ g, E.N < g → ARun P G E n c N xs R ⟨t, σ' g ++ [.row g []]⟩) : ARun P G E n c N xs R ⟨t, σ⟩ := fun a w hr => by
  obtain ⟨g, hg, hr'⟩ := hr.ownin (es := es) hm hj
  have := k g hg a w
  rw [setA_eq (hσ' g)] at this
  exact this hr'

theorem Rel.pubin {a : Act} {w : World} (hr : Rel G E n st a w) {m gm j k g len es : Nat} {cs ds : List DV} (hne : m ≠ k) (hm : st.σ[m]? = some (.row gm cs)) (hj : cs[j]? = some (.ref k g 0 len es)) (hk : st.σ[k]? = some (.row g ds)) (hl : len * es = ds.length) :
    Rel G E n ⟨st.t, (st.σ.set k .gone).set m (.row gm (cs.set j (.sl es ds)))⟩ a w := by
  obtain ⟨X, h1, h2, h3, h4, h5, h6, h7, h8⟩ := hr
  have hE := shrink_gone (X := X) k
  rw [← h2] at hm hk
  obtain ⟨X2, k1, k2, k3, k4⟩ := Sto.rowcell h3 (sto_gone h3 k) hE rfl (d' := .sl es ds) hm (by show (X.σ.set k .gone)[m]? = _; rw [List.getElem?_set, if_neg (Ne.symm hne)]; exact hm) rfl hj rfl (fun v hv => pub_rep h3 hk hl hv)
  have hE2 := hE.trans k4
  exact ⟨X2, by rw [k1, h1], by rw [k2, ← h2], k3, h4.trans hE2, h5.ext hE2, h6, h7, fun i => (h8 i).ext hE2⟩
theorem r_pubin {t : Fr} {σ σ1 σ' : List ABlk} {c : Code} (m j : Nat) {gm k g len es : Nat} {cs ds : List DV} (hm : σ[m]? = some (.row gm cs)) (hj : cs[j]? = some (.ref k g 0 len es)) (hk : σ[k]? = some (.row g ds)) (hl : len * es = ds.length)
    (hσ1 : setA σ k .gone = some σ1) (hσ' : setA σ1 m (.row gm (cs.set j (.sl es ds))) = some σ') (kk : ARun P G E n c N xs R ⟨t, σ'⟩) (hne : m ≠ k := by decide) : ARun P G E n c N xs R ⟨t, σ⟩ := fun a w hr => by
  have := kk a w
  rw [setA_eq hσ', setA_eq hσ1] at this
  exact this (hr.pubin hne hm hj hk hl)
/-- The operation turns the store. -/
def effB : Op → Bool
  | .store _ _ _ => true
  | .alloc _ => true
  | .box _ _ => true
  | .makeSlice _ _ _ => true
  | .makeMap _ _ => true
  | .mapUpdate _ _ _ _ => true
  | .call ⟨.builtin .append, _, _⟩ => true
  | .call ⟨.builtin .clear, _, _⟩ => true
  | .call ⟨.builtin .copy, _, _⟩ => true
  | _ => false
def nEff : List Oper → Nat
  | [] => 0
  | o :: r => match effB o.op with | true => 0 | false => nEff r + 1
theorem nEff_le : ∀ l : List Oper, (l.take (nEff l)).length = nEff l
  | [] => rfl
  | o :: r => by
    unfold nEff
    split
    · rfl
    · rw [List.take_succ_cons, List.length_cons, nEff_le r]
/-- A region that draws its order, up to the first operation that turns the store. -/
theorem r_drawq {σ : List ABlk} {id : Nat} {l : List Oper} {t : Fr} (hm : P.follows .mixedOrders = true) (hB : drawB l.toArray (nEff l) = true)
    (h : ALex P G E.N n l.toArray σ (fun φ => ∃ t', (∀ i, look t' i = .any ∨ look t' i = φ i) ∧ AOps P G E n l.toArray (l.drop (nEff l)) N ⟨t', σ⟩) (l.take (nEff l)) (look t)) : ARun P G E n (.region id l.toArray true) N xs R ⟨t, σ⟩ :=
  r_drawm (nEff l) hm (nEff_le l) hB h
theorem g_draw {st : ASt} {id : Nat} {l : List Oper} (h : ARun P G E n (.region id l.toArray true) N xs R st) : ARun P G E n (.region id l.toArray true) N xs R st := h
/-- No operation turns the store. -/
theorem r_draw0 {σ : List ABlk} {id : Nat} {l : List Oper} {t : Fr} (hN : Nat.beq (nEff l) l.length = true) (hm : P.follows .mixedOrders = true) (hB : drawB l.toArray l.length = true)
    (h : ALex P G E.N n l.toArray σ (fun φ => ∃ t', (∀ i, look t' i = .any ∨ look t' i = φ i) ∧ AOps P G E n l.toArray [] N ⟨t', σ⟩) l (look t)) : ARun P G E n (.region id l.toArray true) N xs R ⟨t, σ⟩ := r_drawn hm hB h
/-- The m-th operation is the first that turns the store. -/
theorem r_drawk (m : Nat) {σ : List ABlk} {id : Nat} {l : List Oper} {t : Fr} (hN : Nat.beq (nEff l) m = true) (hm : P.follows .mixedOrders = true) (hB : drawB l.toArray m = true)
    (h : ALex P G E.N n l.toArray σ (fun φ => ∃ t', (∀ i, look t' i = .any ∨ look t' i = φ i) ∧ AOps P G E n l.toArray (l.drop m) N ⟨t', σ⟩) (l.take m) (look t)) : ARun P G E n (.region id l.toArray true) N xs R ⟨t, σ⟩ :=
  r_drawm m hm (by rw [← Nat.eq_of_beq_eq_true hN]; exact nEff_le l) hB h
end
section
variable {P : Program} {G : Nat → DV} {B : Nat} {f : Operand → DV} {σ : List ABlk} {K : DV → List ABlk → Prop} {dst : Option Tmp} {type : TypeId} {pos : String} {after : Array Edge} {gd : Option (Nat × Bool)}
variable {α : Type} [Enc α]
theorem s_app_r {t t' e : TypeId} {d : TypeDesc} {g1 g2 : Bool} {z1 bytes m g len es : Nat} {zs : List Value} {x y : Operand} {cs : List DV} {l xs : List α} [ht : TyI P t (.slice e) g1 z1] [ht' : SrcTy P t'] [he : TyI P e d g2 es] [hb : TyB P e bytes] [hz : TyZ P e zs]
    {σ' : Nat → List ABlk} (hzl : zs.length = es) (hx : f x = .ref m g 0 len es) (hy : f y = slOf xs) (hm : σ[m]? = some (.row g cs)) (hcs : cs = encs l) (hes : es = Enc.es α) (hlen : len = l.length) (hby : (l.length + xs.length) * bytes ≤ 140737488355328) (hsm : l.length + xs.length ≤ 9223372036854775807)
    (hσ' : ∀ g', setA σ m (.row g' (encs (l ++ xs))) = some (σ' g')) (k : ∀ g', B < g' → K (.ref m g' 0 (l ++ xs).length es) (σ' g')) : OpSem P G B ⟨dst, .call ⟨.builtin .append, #[x, y], #[t, t']⟩, type, pos, after, gd⟩ f σ K := by
  subst hes hcs
  exact s_app hzl hx hm hlen hy srcOf_slOf hby hsm hσ' k
theorem s_app_n {t t' e : TypeId} {d : TypeDesc} {g1 g2 : Bool} {z1 bytes es : Nat} {zs : List Value} {x y : Operand} {xs : List α} [ht : TyI P t (.slice e) g1 z1] [ht' : SrcTy P t'] [he : TyI P e d g2 es] [hb : TyB P e bytes] [hz : TyZ P e zs]
    (hzl : zs.length = es) (hx : f x = .sc (.slice none 0 0)) (hy : f y = slOf xs) (hes : es = Enc.es α) (hby : xs.length * bytes ≤ 140737488355328) (hsm : xs.length ≤ 9223372036854775807)
    (k : ∀ g', B < g' → K (.ref σ.length g' 0 xs.length es) (σ ++ [.row g' (encs xs)])) : OpSem P G B ⟨dst, .call ⟨.builtin .append, #[x, y], #[t, t']⟩, type, pos, after, gd⟩ f σ K := by
  subst hes
  exact s_app_nil hzl hx hy srcOf_slOf hby hsm k
end
end Go.Av
