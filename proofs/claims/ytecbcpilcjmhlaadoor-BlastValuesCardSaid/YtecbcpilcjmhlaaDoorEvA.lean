/-
  The evaluator is right: calls, and what is handed back.
-/
import Derived.Test.YtecbcpilcjmhlaaDoorEv9
namespace Go.Av
open Classical
set_option linter.unusedSimpArgs false
set_option linter.unusedVariables false

section
variable {P : Program} {G : Nat → DV} {T : Tab}

theorem argT_get : ∀ (args : List DV) (i0 : Nat) (t : Tr DV) (i : Nat) (d : DV), (argT i0 args t).get i = some d → (∃ j, i = i0 + j ∧ args[j]? = some d) ∨ t.get i = some d
  | [], _, _, _, _, h => .inr h
  | e :: r, i0, t, i, d, h => by
    rcases argT_get r (i0 + 1) _ i d h with ⟨j, h1, h2⟩ | h1
    · exact .inl ⟨j + 1, by omega, by simpa using h2⟩
    · rcases Tr.get_set _ _ _ _ _ _ h1 with ⟨h2, h3⟩ | ⟨_, h3⟩
      · exact .inl ⟨0, by omega, by rw [h3]; rfl⟩
      · exact .inr h3
theorem argFr_get : ∀ (args : List DV) (i0 j : Nat) (d : DV), args[j]? = some d → look (argFr i0 args) (i0 + j) = d
  | [], _, _, _, h => by simp at h
  | e :: r, i0, 0, d, h => by
    simp at h
    subst h
    simp only [argFr, look, Nat.add_zero, Nat.beq_refl]
  | e :: r, i0, j + 1, d, h => by
    simp only [argFr, look]
    have hb : Nat.beq i0 (i0 + (j + 1)) = false := by
      cases hb : Nat.beq i0 (i0 + (j + 1)) with
      | false => rfl
      | true => have := Nat.eq_of_beq_eq_true hb; omega
    rw [hb]
    simp only
    have := argFr_get r (i0 + 1) j d (by simpa using h)
    rwa [show i0 + 1 + j = i0 + (j + 1) by omega] at this

/-- What is handed back. -/
theorem resE_ok (hT : TOk P T) {Γ : List Nat} {S : SS} {X : AX} (hS : ES Γ S X.σ) (hX : Sto X) {t : Tr DV} {φ : Nat → DV} (hτ : ∀ i d, t.get i = some d → EV Γ d (φ i)) {tmps : Array Value} (hr : ∀ i, VRep X.lay (φ i) (tmps.getD i undef)) :
    ∀ (rs : List ResultVar) (ds : List DV), resE T t S rs = some ds → ∃ (vs : List Value) (ds' : List DV), (rs.mapM (rvSem tmps)).run P X.w = .ok vs X.w ∧ EVs Γ ds ds' ∧ vs.length = ds'.length ∧ ∀ (j : Nat) (d : DV), ds'[j]? = some d → VRep X.lay d (vs.getD j undef)
  | [], ds, h => by
    cases h
    exact ⟨[], [], rfl, .nil, rfl, fun j d hj => by simp at hj⟩
  | .tmp i :: rs, ds, h => by
    simp only [resE] at h
    split at h
    · rename_i d l hd hl
      cases h
      obtain ⟨vs, ds', h1, h2, h3, h4⟩ := resE_ok hT hS hX hτ hr rs l hl
      refine ⟨tmps.getD i undef :: vs, φ i :: ds', ?_, .cons (hτ i d hd) h2, by simp [h3], fun j e hj => ?_⟩
      · simp only [List.mapM_cons, Sem.run_bind, rvSem, Sem.run_pure, Result.andThen_ok, h1]
      · cases j with
        | zero => simp at hj; subst hj; exact hr i
        | succ j => simpa using h4 j e (by simpa using hj)
    · cases h
  | .cell a ty :: rs, ds, h => by
    simp only [resE] at h
    split at h
    · rename_i k γ off l hd hl
      obtain ⟨vs, ds', h1, h2, h3, h4⟩ := resE_ok hT hS hX hτ hr rs l hl
      have hev := hτ a _ hd
      obtain ⟨g, hg, hφ⟩ := hev.ptr_inv
      split at h
      · rename_i cs ti hrow hti
        obtain ⟨cs', hm, hcs⟩ := hS.rowOf hrow hg
        obtain ⟨td, hty, _⟩ := (hT.ty ty ti hti).d
        have hlook : ∀ i, VRep X.lay (look [(a, φ a)] i) (tmps.getD i undef) := fun i => by
          simp only [look]
          cases hb : Nat.beq a i with
          | true => rw [← Nat.eq_of_beq_eq_true hb]; exact hr a
          | false => exact .any _
        have fin : ∀ (d d' : DV) (v : Value), (rvSem tmps (.cell a ty)).run P X.w = .ok v X.w → VRep X.lay d' v → EV Γ d d' → some (d :: l) = some ds → ∃ (vs : List Value) (ds' : List DV), ((ResultVar.cell a ty :: rs).mapM (rvSem tmps)).run P X.w = .ok vs X.w ∧ EVs Γ ds ds' ∧ vs.length = ds'.length ∧ ∀ (j : Nat) (d : DV), ds'[j]? = some d → VRep X.lay d (vs.getD j undef) := by
          intro d d' v hrun hv he heq
          cases heq
          refine ⟨v :: vs, d' :: ds', ?_, .cons he h2, by simp [h3], fun j e hj => ?_⟩
          · simp only [List.mapM_cons, Sem.run_bind, hrun, Sem.run_pure, Result.andThen_ok, h1]
          · cases j with
            | zero => simp at hj; subst hj; exact hv
            | succ j => simpa using h4 j e (by simpa using hj)
        split at h
        · rename_i hag
          rw [hag] at hty
          split at h
          case h_2 => cases h
          rename_i d0 hd0
          unfold subD at hd0
          split at hd0
          case h_2 => cases hd0
          rename_i hb
          cases hd0
          have hdt := (hcs.drop off).take ti.sz
          obtain ⟨v, g1, g2⟩ := rv_cella (P := P) (a := a) (st := ⟨[(a, φ a)], X.σ⟩) (t := ty) (ds := (cs'.drop off).take ti.sz) (ht := hty) (by simp only [look, Nat.beq_refl]; exact hφ) hm (by unfold partD; exact forceD_self _) (by rw [← hdt.len]; exact Nat.eq_of_beq_eq_true hb) X tmps hX rfl hlook
          exact fin _ _ v g1 g2 (.agg' hdt) h
        · rename_i hag
          rw [hag] at hty
          split at h
          case h_2 => cases h
          rename_i d0 hd0
          rw [nth_eq] at hd0
          obtain ⟨d', h5, h6⟩ := hcs.at hd0
          obtain ⟨v, g1, g2⟩ := rv_cell (P := P) (a := a) (st := ⟨[(a, φ a)], X.σ⟩) (t := ty) (ht := hty) (by simp only [look, Nat.beq_refl]; exact hφ) hm h5 X tmps hX rfl hlook
          exact fin _ _ v g1 g2 h6 h
      · cases h
    · cases h

/-- A call is evaluated rightly. -/
theorem evf_ok (hT : TOk P T) (hm : P.follows .mixedOrders = true) : ∀ f, CallOk P G (evf T G f)
  | 0 => fun fid args S d S' h => by simp [evf] at h
  | f + 1 => fun fid args S d S' h => by
    simp only [evf] at h
    split at h
    · cases h
    · rename_i fn hfn
      refine ⟨hT.fo fid fn hfn, fun Γ args' σ K B hargs hS hK => ?_⟩
      have hf := hT.fs fid fn hfn
      split at h
      case h_2 => cases h
      rename_i c hb ha
      have ha : args.length ≤ fn.ntmps := Nat.ble_eq.mp ha
      intro X vs hSto hσ hB hG hv
      subst hσ
      have hV : VOk P ⟨T, G, evf T G f⟩ := ⟨hT, evf_ok hT hm f⟩
      have hal := hargs.len
      have hrel : RelF G X fn.ntmps (look (argFr 0 args')) X.σ { tmps := vs ++ Array.replicate (fn.ntmps - vs.size) undef, defers := [] } X.w := by
        refine ⟨X, rfl, rfl, hSto, WExt.refl X, hG, rfl, ?_, fun i => ?_⟩
        · have := hv.1; simp; omega
        · refine look_argFr args' 0 (fun j d hj => ?_) i
          have hlt : j < args'.length := (List.getElem?_eq_some_iff.1 hj).1
          have := hv.2 j d hj
          rw [Nat.zero_add]
          have hlt' : j < vs.size := by rw [hv.1]; exact hlt
          simpa [Array.getD_eq_getD_getElem?, Array.getElem?_append, hlt'] using this
      have her : ERel G X fn.ntmps Γ (argT 0 args .e).get S { tmps := vs ++ Array.replicate (fn.ntmps - vs.size) undef, defers := [] } X.w := by
        refine ⟨Γ, _, X.σ, Gle.refl _, hS, fun i d hi => ?_, hrel⟩
        rcases argT_get args 0 .e i d hi with ⟨j, h1, h2⟩ | h1
        · obtain ⟨d', h3, h4⟩ := hargs.at h2
          rw [h1, argFr_get args' 0 j d' h3]
          exact h4
        · cases h1
      -- the end
      have fin : ∀ (t : Tr DV) (S1 : SS) (r : RW), (match resE T t S1 fn.results.toList with | some [d] => some (d, S1) | some l => some (.tup l, S1) | none => none) = some (d, S') → ∀ a w, ERel G X fn.ntmps Γ t.get S1 a w → ∃ v, (results fn a.tmps).run P w = .ok v w ∧ APost X K v w := by
        intro t S1 r hres a w hr
        obtain ⟨Γ', φ, σ', hGl, hS1, hτ, Y, e1, e2, e3, e4, e5, e6, e7, e8⟩ := hr
        subst e1
        subst e2
        cases hq : resE T t S1 fn.results.toList with
        | none => rw [hq] at hres; cases hres
        | some l =>
          rw [hq] at hres
          obtain ⟨vs', ds', g1, g2, g3, g4⟩ := resE_ok hT hS1 e3 hτ e8 _ _ hq
          have hrun : (fn.results.mapM (rvSem a.tmps)).run P Y.w = .ok vs'.toArray Y.w := by
            rw [Array.mapM_eq_mapM_toList, Sem.run_map, g1]; rfl
          rw [results_eq]
          simp only [Sem.run_bind, hrun, Result.andThen_ok, Sem.run_pure]
          match l, ds', g2, hres with
          | [d0], ds', g2, hres =>
            cases hres
            obtain ⟨d', r', rfl, h1, h2⟩ := g2.cons_inv
            have := h2.nil_inv
            subst this
            obtain ⟨v, rfl⟩ : ∃ v, vs' = [v] := by
              cases vs' with
              | nil => simp at g3
              | cons v r => cases r with
                | nil => exact ⟨v, rfl⟩
                | cons _ _ => simp at g3
            refine ⟨v, by simp, Y, rfl, e3, e4, d', g4 0 d' rfl, hK Γ' d' Y.σ hGl h1 hS1⟩
          | [], ds', g2, hres =>
            cases hres
            have := g2.nil_inv
            subst this
            have : vs' = [] := List.eq_nil_of_length_eq_zero g3
            subst this
            refine ⟨.tuple #[], by simp, Y, rfl, e3, e4, .tup [], .tup _ _ rfl (fun j d hj => by simp at hj), hK Γ' _ Y.σ hGl (.tup' .nil) hS1⟩
          | d0 :: d1 :: r, ds', g2, hres =>
            cases hres
            have hlen : vs'.length ≠ 1 := by rw [g3, ← g2.len]; simp
            refine ⟨.tuple vs'.toArray, ?_, Y, rfl, e3, e4, .tup ds', .tup _ _ (by simpa using g3) (fun j d hj => ?_), hK Γ' _ Y.σ hGl (.tup' g2) hS1⟩
            · rw [dif_neg (by simpa using hlen)]
            · have := g4 j d hj
              simpa [Array.getD_eq_getD_getElem?, List.getD] using this
      split at h
      · cases h
      · rename_i ex t S1 hne hev
        refine calls_of_wp hf hb (((evc_ok (E := X) (n := fn.ntmps) (Γ0 := Γ) hV hm f).1 c _ S _ t S1 hev _ _ _ her fun a' w' hr' => ?_))
        obtain ⟨v, h1, h2⟩ := fin t S1 none h a' w' hr'
        have hdef : a'.defers = [] := by
          obtain ⟨_, _, _, _, _, _, _, _, _, _, _, _, e6, _⟩ := hr'
          exact e6
        cases ex with
        | nx => exact ⟨hdef, v, h1, v, rfl, h2⟩
        | rt => exact ⟨hdef, v, h1, v, rfl, h2⟩
        | ex id => exact (hne _ rfl).elim
      · cases h
end
end Go.Av
namespace Go.Av
open Classical
set_option linter.unusedSimpArgs false
set_option linter.unusedVariables false

def oneL : List DV → Bool
  | [] => true
  | d :: r => match d.one with | true => oneL r | false => false
theorem oneL_ok : ∀ {l : List DV}, oneL l = true → ∀ d ∈ l, d.one = true
  | [], _, d, hd => by cases hd
  | e :: r, h, d, hd => by
    simp only [oneL] at h
    split at h
    · rename_i he
      rcases List.mem_cons.1 hd with rfl | hd
      · exact he
      · exact oneL_ok h d hd
    · cases h
mutual
/-- A value with all that it leads to; nobody writes it any more. -/
def pubD (s : Tr ABlk) : Nat → DV → Option DV
  | 0, _ => none
  | f + 1, d => match d with
    | .any => some .any
    | .sc v => some (.sc v)
    | .ref k γ off len es => match rowOf s k γ with
      | some cs => match Nat.ble (off + len * es) cs.length, pubL s f ((cs.drop off).take (len * es)) with
        | true, some l => match oneL l with | true => some (.sl es l) | false => none
        | _, _ => none
      | none => none
    | .sl es cs => match pubL s f cs with
      | some l => match oneL l with | true => some (.sl es l) | false => none
      | none => none
    | .agg cs => match pubL s f cs with
      | some l => match oneL l with | true => some (.agg l) | false => none
      | none => none
    | .tup cs => match pubL s f cs with | some l => some (.tup l) | none => none
    | _ => none
def pubL (s : Tr ABlk) : Nat → List DV → Option (List DV)
  | 0, _ => none
  | f + 1, l => match l with
    | [] => some []
    | d :: r => match pubD s f d, pubL s f r with
      | some d', some r' => some (d' :: r')
      | _, _ => none
end

section
variable {Γ : List Nat} {S : SS} {X : AX}
theorem shrink_all : WExt X { X with σ := [] } := WExt.shrink fun k g hg => by simp at hg
theorem pub_ok (hS : ES Γ S X.σ) (hX : Sto X) : ∀ (f : Nat), (∀ (d dp d1 : DV) (v : Value), pubD S.s f d = some dp → EV Γ d d1 → VRep X.lay d1 v → VRep ({ X with σ := [] } : AX).lay dp v) ∧
    (∀ (l lp : List DV), pubL S.s f l = some lp → lp.length = l.length ∧ ∀ (j : Nat) (d dp : DV), l[j]? = some d → lp[j]? = some dp → ∀ (d1 : DV) (v : Value), EV Γ d d1 → VRep X.lay d1 v → VRep ({ X with σ := [] } : AX).lay dp v) := by
  intro f
  induction f with
  | zero => exact ⟨fun d dp d1 v h => by simp [pubD] at h, fun l lp h => by simp [pubL] at h⟩
  | succ f ih =>
    obtain ⟨ihd, ihl⟩ := ih
    have cells : ∀ (cs lp cs' : List DV), pubL S.s f cs = some lp → EVs Γ cs cs' → lp.length = cs'.length ∧ ∀ (j : Nat) (dp : DV) (u : Value), lp[j]? = some dp → (∀ d', cs'[j]? = some d' → VRep X.lay d' u) → VRep ({ X with σ := [] } : AX).lay dp u := by
      intro cs lp cs' hp hcs
      obtain ⟨g1, g2⟩ := ihl cs lp hp
      refine ⟨by rw [g1, hcs.len], fun j dp u hj hu => ?_⟩
      have hlt : j < cs.length := by rw [← g1]; exact (List.getElem?_eq_some_iff.1 hj).1
      obtain ⟨d', e1, e2⟩ := hcs.at (List.getElem?_eq_getElem hlt)
      exact g2 j _ dp (List.getElem?_eq_getElem hlt) hj d' u e2 (hu d' e1)
    refine ⟨fun d dp d1 v h he hv => ?_, fun l lp h => ?_⟩
    · cases d with
      | any =>
        simp only [pubD, Option.some.injEq] at h
        subst h
        exact .any _
      | sc u =>
        simp only [pubD, Option.some.injEq] at h
        subst h
        rw [he.sc_inv] at hv
        exact hv.ext shrink_all
      | ref k γ off len es =>
        simp only [pubD] at h
        obtain ⟨g, hg, rfl⟩ := he.ref_inv
        split at h
        case h_2 => cases h
        rename_i cs hr
        obtain ⟨cs', hm, hcs⟩ := hS.rowOf hr hg
        split at h
        case h_2 => cases h
        rename_i l hb hl
        split at h
        case h_2 => cases h
        rename_i hone
        cases h
        have hle := Nat.ble_eq.mp hb
        obtain ⟨g1, g2⟩ := cells _ l _ hl ((hcs.drop off).take (len * es))
        have hll : l.length = len * es := by rw [g1, List.length_take, List.length_drop, ← hcs.len]; omega
        obtain ⟨a, cap, rfl, h1, h2⟩ := hv.ref_slice hm
        by_cases h0 : len = 0
        · subst h0
          have : l = [] := List.eq_nil_of_length_eq_zero (by omega)
          subst this
          exact .sl _ _ _ _ _ (fun _ => undef) (by simp) h1 (fun d hd => by simp at hd) (.inl rfl) (fun j d hj => by simp at hj)
        · obtain ⟨b, n, hρ, rfl, h3⟩ := h2 (by omega)
          obtain ⟨arr, T, fr, q1, q2, q3, q4, q5⟩ := hX.row hm hρ
          refine .sl _ _ _ _ _ (fun j => arr.getD (off + j) undef) hll.symm h1 (oneL_ok hone) (.inr ⟨b, off, rfl, fun j hj => ?_⟩) (fun j d hj => ?_)
          · refine AX.imm_mk (fun ⟨i, g', n', hl', _⟩ => ?_) (fun hh => hX.hid b ⟨k, g, n, live_row hm, hρ⟩ hh) ?_
            · simp [AX.live] at hl'
            · have hlt : off + j < arr.size := by rw [hcs.len] at hle; omega
              show X.w.cell? ⟨b, off + j, none⟩ = _
              rw [cell_of_row _ _ _ _ _ _ q1]
              simp [Array.getD_eq_getD_getElem?, hlt]
          · refine g2 j d _ hj fun d' hd' => ?_
            rw [List.getElem?_take] at hd'
            split at hd'
            · rw [List.getElem?_drop] at hd'
              exact (q5 _ d' hd').2
            · cases hd'
      | sl es cs =>
        simp only [pubD] at h
        obtain ⟨cs', rfl, hcs⟩ := he.sl_inv
        split at h
        case h_2 => cases h
        rename_i l hl
        split at h
        case h_2 => cases h
        rename_i hone
        cases h
        obtain ⟨g1, g2⟩ := cells _ l _ hl hcs
        obtain ⟨a, len, cap, fv, rfl, h1, h2, h3, h4, h5⟩ := hv.sl_inv
        refine .sl _ _ _ _ _ fv (by rw [g1]; exact h1) h2 (oneL_ok hone) ?_ (fun j d hj => g2 j d _ hj fun d' hd' => h5 j d' hd')
        rcases h4 with h4 | ⟨b, o, h4, h6⟩
        · subst h4
          exact .inl (List.eq_nil_of_length_eq_zero g1)
        · exact .inr ⟨b, o, h4, fun j hj => shrink_all.le.imm _ _ _ (h6 j (by omega))⟩
      | agg cs =>
        simp only [pubD] at h
        obtain ⟨cs', rfl, hcs⟩ := he.agg_inv
        split at h
        case h_2 => cases h
        rename_i l hl
        split at h
        case h_2 => cases h
        rename_i hone
        cases h
        obtain ⟨g1, g2⟩ := cells _ l _ hl hcs
        obtain ⟨vs, rfl, h1, h2, h3⟩ := hv.agg_inv
        exact .agg _ _ (by rw [g1]; exact h1) (oneL_ok hone) fun j d hj => g2 j d _ hj fun d' hd' => h3 j d' hd'
      | tup cs =>
        simp only [pubD] at h
        obtain ⟨cs', rfl, hcs⟩ := he.tup_inv
        split at h
        case h_2 => cases h
        rename_i l hl
        cases h
        obtain ⟨g1, g2⟩ := cells _ l _ hl hcs
        cases hv with
        | tup _ vs h1 h2 => exact .tup _ _ (by rw [g1]; exact h1) fun j d hj => g2 j d _ hj fun d' hd' => h2 j d' hd'
      | _ => simp [pubD] at h
    · cases l with
      | nil =>
        simp only [pubL, Option.some.injEq] at h
        subst h
        exact ⟨rfl, fun j d dp hj => by simp at hj⟩
      | cons d r =>
        simp only [pubL] at h
        split at h
        case h_2 => cases h
        rename_i d' r' hd hr
        cases h
        obtain ⟨g1, g2⟩ := ihl r r' hr
        refine ⟨by simp [g1], fun j e ep hj hjp => ?_⟩
        cases j with
        | zero =>
          simp at hj hjp
          subst hj; subst hjp
          exact fun d1 v he hv => ihd d d' d1 v hd he hv
        | succ j => exact g2 j e ep (by simpa using hj) (by simpa using hjp)
end

/-- What holds of all entries of a table. -/
def TrAll {α : Type} (p : Nat → α → Prop) : Tr α → Prop
  | .e => True
  | .n v l r => (∀ x, v = some x → p 0 x) ∧ TrAll (fun i => p (2 * i + 1)) l ∧ TrAll (fun i => p (2 * i + 2)) r
theorem tr_e {α : Type} {p : Nat → α → Prop} : TrAll p .e := trivial
theorem tr_o {α : Type} {p : Nat → α → Prop} {l r : Tr α} (h : TrAll (fun i => p (2 * i + 1)) l) (k : TrAll (fun i => p (2 * i + 2)) r) : TrAll p (.n none l r) := ⟨fun x h => (by cases h), h, k⟩
theorem tr_s {α : Type} {p : Nat → α → Prop} {x : α} {l r : Tr α} (hx : p 0 x) (h : TrAll (fun i => p (2 * i + 1)) l) (k : TrAll (fun i => p (2 * i + 2)) r) : TrAll p (.n (some x) l r) := ⟨fun y h => (by cases h; exact hx), h, k⟩
theorem get_all {α : Type} (p : Nat → α → Prop) : ∀ {t : Tr α} {i : Nat} {x : α}, TrAll p t → t.get i = some x → p i x := by
  intro t
  induction t generalizing p with
  | e => intro i x _ h; cases h
  | n v l r ihl ihr =>
    intro i x ⟨h1, h2, h3⟩ h
    simp only [Tr.get] at h
    split at h
    · rename_i hi
      rw [Nat.eq_of_beq_eq_true hi]
      exact h1 x h
    · rename_i hi
      have hi0 : ¬ i = 0 := fun e => by subst e; simp at hi
      split at h
      · rename_i hm
        have hm' : i % 2 = 1 := Nat.eq_of_beq_eq_true hm
        have := ihl (fun i => p (2 * i + 1)) h2 h
        have e : 2 * (Nat.div i 2) + 1 = i := by
          show 2 * (i / 2) + 1 = i
          omega
        simpa only [e] using this
      · rename_i hm
        have hm' : ¬ i % 2 = 1 := fun e => by rw [show Nat.mod i 2 = 1 from e] at hm; simp at hm
        have := ihr (fun i => p (2 * i + 2)) h3 h
        have e : 2 * (Nat.pred (Nat.div i 2)) + 2 = i := by
          show 2 * (i / 2 - 1) + 2 = i
          omega
        simpa only [e] using this

/-- Runs a call, and publishes what it hands back. -/
def evPure (T : Tab) (G : Nat → DV) (f : Nat) (fid : FuncId) (args : List DV) : Option DV := match evf T G f fid args ⟨.e, 0, 0⟩ with
  | some (d, S) => pubD S.s 60 d
  | none => none
def S0 : SS := ⟨.e, 0, 0⟩
theorem es_zero : ES [] ⟨.e, 0, 0⟩ [] where
  m := rfl
  c := rfl
  row k γ cs h := by cases h
  map k γ l h := by cases h
/-- A call that the kernel has run. -/
theorem ev_pure {P : Program} {G : Nat → DV} {T : Tab} (hT : TOk P T) (hm : P.follows .mixedOrders = true) {f : Nat} {fid : FuncId} {args : List DV} {d : DV} (ha : ∀ a ∈ args, a.clo = true) (h : evPure T G f fid args = some d) : Pure P G fid args d := fun B X vs hS hσ hB hG hv => by
  unfold evPure at h
  split at h
  · rename_i d0 S hev
    obtain ⟨_, hc⟩ := evf_ok (G := G) hT hm f fid args _ d0 S hev
    have := hc [] args [] (fun d1 σ' => ∃ Γ, EV Γ d0 d1 ∧ ES Γ S σ') B (.same ha) es_zero (fun Γ' d' σ' _ h1 h2 => ⟨Γ', h1, h2⟩) X vs hS hσ hB hG hv
    refine this.mono ?_
    rintro e w' ⟨v, he, Y, hw, hY, hE, d1, hr, Γ, h1, h2⟩
    subst hw
    exact ⟨v, he, { Y with σ := [] }, rfl, hY.shrink fun k B hB => by simp at hB, hE.trans shrink_all, d, (pub_ok h2 hY 60).1 d0 d d1 v h h1 hr, rfl, rfl⟩
  · cases h
end Go.Av
