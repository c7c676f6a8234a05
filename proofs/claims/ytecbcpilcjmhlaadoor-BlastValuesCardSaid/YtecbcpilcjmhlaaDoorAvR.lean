/-
  From what a row's reading says of the arguments to abstract values, and from a contract to what the row asks of the call.
-/
import Derived.Test.YtecbcpilcjmhlaaDoorAvJ
import Derived.ProofKit
import Derived.SizedLaws
namespace Go.Av
open Classical Go.ChangeShapes Go.WideShapes Go.ChangeAt Go.RowKit
set_option linter.unusedSimpArgs false
set_option linter.unusedVariables false

def Sees (w : World) (L : Lay) : Prop := ∀ b o v, w.cell? ⟨b, o, none⟩ = some v → L.imm b o = some v

/-- Values of this type that a reading takes are these. -/
class Rd (P : Program) (t : TypeId) (α : outParam Type) [Enc α] (ok : outParam (α → Prop)) : Prop where
  rd : ∀ {H : Type} (enc : TypeId × Value → H) (w : World) (base : Nat) (spare : Nat → Bool) (held : Bool) (fuel : Nat) (cs : List Value) (x : DataW H × List MemPlace), DataW.trod enc P w base spare held fuel t cs = some x →
    ∃ y : α, ok y ∧ cs.length = Enc.es α ∧ ∀ L, Sees w L → ∀ j d, (Enc.enc y)[j]? = some d → VRep L d (cs.getD j undef)
  top : ∀ (W : World) (base : Nat) (v : Value), Enc.es α = 1 → Value.okWide P W .any base t v → v.cells.toList = [v]

def I64 (n : Int) : Prop := -9223372036854775808 ≤ n ∧ n ≤ 9223372036854775807
variable {P : Program}
theorem rd_one {t : TypeId} {α : Type} [Enc α] {ok : α → Prop} [h : Rd P t α ok] (he : Enc.es α = 1) {H : Type} {enc : TypeId × Value → H} {W : World} {base : Nat} {spare : Nat → Bool} {held : Bool} {v : Value} {d : DataW H} {p : List MemPlace}
    (hv : Value.okWide P W .any base t v) (ht : DataW.Trod enc P W 0 spare held t v d p) : ∃ y : α, ok y ∧ ∀ L, Sees W L → ∀ e, Enc.enc y = [e] → VRep L e v := by
  obtain ⟨fuel, hf⟩ := ht
  rw [h.top W base v he hv] at hf
  obtain ⟨y, h1, _, h3⟩ := h.rd enc W 0 spare held fuel _ _ hf
  exact ⟨y, h1, fun L hL e hy => h3 L hL 0 e (by rw [hy]; rfl)⟩

instance rd_int {t : TypeId} {z : Nat} [ht : TyI P t (.int .i64) false z] : Rd P t Int I64 where
  rd enc w base spare held fuel cs x h := by
    obtain ⟨n, rfl, _, hw⟩ := DataW.trod_int ht.u h
    refine ⟨n, ?_, rfl, fun L _ j d hj => ?_⟩
    · have h1 : IntKind.i64.min = -9223372036854775808 := rfl
      have h2 : IntKind.i64.max = 9223372036854775807 := rfl
      simp only [Lit.wf, Bool.and_eq_true, decide_eq_true_eq, h1, h2] at hw
      exact hw
    · cases j with
      | zero => cases hj; exact .sc _
      | succ j => simp [Enc.enc] at hj
  top W base v _ hv := by
    cases v <;> first | rfl | (simp [Value.okWide, ht.u, Cell.okWide, Cell.ok] at hv)
instance rd_bool {t : TypeId} {z : Nat} [ht : TyI P t .bool false z] : Rd P t Bool (fun _ => True) where
  rd enc w base spare held fuel cs x h := by
    obtain ⟨n, rfl, _⟩ := DataW.trod_bool ht.u h
    refine ⟨n, trivial, rfl, fun L _ j d hj => ?_⟩
    cases j with
    | zero => cases hj; exact .sc _
    | succ j => simp [Enc.enc] at hj
  top W base v _ hv := by
    cases v <;> first | rfl | (simp [Value.okWide, ht.u, Cell.okWide, Cell.ok] at hv)
instance rd_string {t : TypeId} {z : Nat} [ht : TyI P t .string false z] : Rd P t ByteArray (fun s => s.size ≤ 9223372036854775807) where
  rd enc w base spare held fuel cs x h := by
    obtain ⟨n, rfl, _, hw⟩ := DataW.trod_string ht.u h
    refine ⟨n, hw, rfl, fun L _ j d hj => ?_⟩
    cases j with
    | zero => cases hj; exact .sc _
    | succ j => simp [Enc.enc] at hj
  top W base v _ hv := by
    cases v <;> first | rfl | (simp [Value.okWide, ht.u, Cell.okWide, Cell.ok] at hv)

theorem spot_of {w : World} {a : Addr} {v : Value} (h : w.cell? a = some v) : a.spot = none := World.cell?_spot h

instance rd_slice {t e : TypeId} {z : Nat} {g : Bool} {de : TypeDesc} {β : Type} [Enc β] {okb : β → Prop} [ht : TyI P t (.slice e) false z] [he : TyI P e de g (Enc.es β)] [hr : Rd P e β okb] : Rd P t (List β) (fun l => l.length ≤ 9223372036854775807 ∧ ∀ x ∈ l, okb x) where
  rd enc w base spare held fuel cs x h := by
    have hcell : P.cellsOf e = Enc.es β := by
      have := he.s
      cases hi : P.info? e with
      | none => simp [hi] at this
      | some i => simp [hi] at this; simp [Program.cellsOf, hi, this]
    rcases DataW.trod_slice ht.u h with ⟨rfl, _⟩ | ⟨a, len, cap, elems, rest, n, _, rfl, _, _, hlc, hcap, hel, hget, _⟩
    · refine ⟨[], ⟨by simp, fun x hx => by simp at hx⟩, rfl, fun L _ j d hj => ?_⟩
      cases j with
      | zero => cases hj; exact .sl _ _ _ _ _ (fun _ => undef) (by simp [encs]) (Nat.le_refl _) (fun d hd => by simp [encs] at hd) (.inl rfl) (fun j d hj => by simp [encs] at hj)
      | succ j => simp [Enc.enc] at hj
    · have each : ∀ i : Fin len, ∃ y : β, ∃ ci : List Value, okb y ∧ ci.length = Enc.es β ∧ (∀ r, r < Enc.es β → w.cell? ((a.add (i.1 * Enc.es β)).add r) = ci[r]?) ∧ ∀ L, Sees w L → ∀ j d, (Enc.enc y)[j]? = some d → VRep L d (ci.getD j undef) := fun i => by
        have h1 := hget i.1 i.2
        rw [List.getElem?_eq_getElem (by omega), hcell] at h1
        obtain ⟨ci, h2, h3⟩ := Option.bind_eq_some_iff.1 h1
        obtain ⟨_, h4, h5⟩ := World.cells?_some h2
        obtain ⟨y, h6, h7, h8⟩ := hr.rd enc w base spare held n ci _ h3
        exact ⟨y, ci, h6, h4, h5, h8⟩
      let y : Fin len → β := fun i => Classical.choose (each i)
      have hy : ∀ i, ∃ ci : List Value, okb (y i) ∧ ci.length = Enc.es β ∧ (∀ r, r < Enc.es β → w.cell? ((a.add (i.1 * Enc.es β)).add r) = ci[r]?) ∧ ∀ L, Sees w L → ∀ j d, (Enc.enc (y i))[j]? = some d → VRep L d (ci.getD j undef) := fun i => Classical.choose_spec (each i)
      refine ⟨List.ofFn y, ⟨by rw [List.length_ofFn]; exact Nat.le_trans hlc (Nat.le_trans hcap (by decide)), fun x hx => ?_⟩, rfl, fun L hL j d hj => ?_⟩
      · obtain ⟨i, rfl⟩ := List.mem_ofFn.1 hx
        obtain ⟨ci, h1, _⟩ := hy i
        exact h1
      · cases j with
        | succ j => simp [Enc.enc] at hj
        | zero =>
          cases hj
          have hp := Enc.pos (α := β)
          have hlen : (encs (List.ofFn y)).length = len * Enc.es β := by rw [encs_len, List.length_ofFn]
          let f : Nat → Value := fun k => if h : k / Enc.es β < len then (Classical.choose (hy ⟨k / Enc.es β, h⟩)).getD (k % Enc.es β) undef else undef
          show VRep L (slOf (List.ofFn y)) _
          refine .sl _ _ _ _ _ f hlen.symm hlc (encs_one _) ?_ (fun k d hk => ?_)
          · by_cases h0 : len = 0
            · left
              exact List.eq_nil_of_length_eq_zero (by rw [hlen, h0, Nat.zero_mul])
            · right
              obtain ⟨b, o, sp⟩ := a
              obtain ⟨c0, _, hc0, hc1, _⟩ := hy ⟨0, by omega⟩
              have hs := hc1 0 hp
              rw [List.getElem?_eq_getElem (by omega)] at hs
              have hsp : sp = none := by simpa [Addr.add] using spot_of hs
              subst hsp
              refine ⟨b, o, rfl, fun k hk => ?_⟩
              rw [hlen] at hk
              have hkd : k / Enc.es β < len := Nat.div_lt_of_lt_mul (by rw [Nat.mul_comm]; exact hk)
              have hfk : f k = (Classical.choose (hy ⟨k / Enc.es β, hkd⟩)).getD (k % Enc.es β) undef := dif_pos hkd
              obtain ⟨_, h4, h5, _⟩ := Classical.choose_spec (hy ⟨k / Enc.es β, hkd⟩)
              have hm := Nat.mod_lt k hp
              have h6 := h5 (k % Enc.es β) hm
              rw [List.getElem?_eq_getElem (by omega)] at h6
              refine hL b (o + k) (f k) ?_
              rw [hfk, List.getD_eq_getElem?_getD, List.getElem?_eq_getElem (by omega)]
              have hadd : ((⟨b, o, none⟩ : Addr).add (k / Enc.es β * Enc.es β)).add (k % Enc.es β) = ⟨b, o + k, none⟩ := by
                rw [add_none, add_none, Nat.add_assoc, Nat.mul_comm, Nat.div_add_mod]
              rw [hadd] at h6
              exact h6
          · have hk' := (List.getElem?_eq_some_iff.1 hk).1
            rw [hlen] at hk'
            have hkd : k / Enc.es β < len := Nat.div_lt_of_lt_mul (by rw [Nat.mul_comm]; exact hk')
            have hfk : f k = (Classical.choose (hy ⟨k / Enc.es β, hkd⟩)).getD (k % Enc.es β) undef := dif_pos hkd
            obtain ⟨_, _, _, h7⟩ := Classical.choose_spec (hy ⟨k / Enc.es β, hkd⟩)
            have hm := Nat.mod_lt k hp
            have := encs_at (List.ofFn y) (k / Enc.es β) (by rw [List.length_ofFn]; exact hkd) (k % Enc.es β) hm
            rw [Nat.mul_comm, Nat.div_add_mod, hk, List.getElem_ofFn] at this
            rw [hfk]
            exact h7 L hL _ d this.symm
  top W base v _ hv := by
    obtain ⟨a0, len, cap, rfl⟩ := okWide_slice ht.u hv
    rfl

/-- What a contract says of a call in any world. -/
theorem law_calls {f : FuncId} {args : List DV} (h : Pure P (fun _ => .any) f args (.b true)) {W : World} {vs : Array Value} (hv : ∀ L, Sees W L → VReps L args vs) :
    Calls P f vs W fun e W' => e = .returned (.bool true) ∧ Below W.heap.size W W' := by
  let X : AX := { w := W, ρ := fun _ => none, σ := [], N := 0, hid := fun _ => False }
  have hm : ∀ b, ¬ X.mut b := fun b ⟨k, g, n, hl, _⟩ => by simp [AX.live, X] at hl
  have hS : Sto X := {
    inj := fun k k' g g' b n n' hl => by simp [AX.live, X] at hl
    gen := fun k g hl => by simp [AX.live, X] at hl
    hid := fun b hb => absurd hb (hm b)
    hidlt := fun b hb => hb.elim
    holds := fun k B hB => by simp [X] at hB }
  refine (h 0 X vs hS rfl (Nat.le_refl _) (fun g => ⟨by simp [DV.clo], .any _⟩) (hv X.lay fun b o v hc => AX.imm_mk (hm b) (fun h => h) hc)).mono ?_
  rintro e w' ⟨v, rfl, Y, hw, hY, hE, d, hr, rfl, _⟩
  subst hw
  rw [VRep.sc_eq hr]
  exact ⟨rfl, hE.os, hE.tape, hE.output, hE.size, fun k hk => (hE.old k hk (hm k)).1⟩

/-- A nil slice is an empty one. -/
inductive Sub : DV → DV → Prop
  | refl (d : DV) : Sub d d
  | nil (es : Nat) : Sub (.sc (.slice none 0 0)) (.sl es [])
  | sl (es : Nat) (cs cs' : List DV) : cs.length = cs'.length → (∀ (j : Nat) (d d' : DV), cs[j]? = some d → cs'[j]? = some d' → Sub d d') → Sub (.sl es cs) (.sl es cs')
theorem Sub.one {d d' : DV} (h : Sub d d') : d.one = true → d'.one = true := by
  cases h with
  | refl => exact id
  | nil => intro _; rfl
  | sl => intro _; rfl
theorem Sub.rep {L : Lay} {d d' : DV} (h : Sub d d') : ∀ {v : Value}, VRep L d v → VRep L d' v := by
  induction h with
  | refl => exact id
  | nil es => intro v hv; rw [VRep.sc_eq hv]; exact .sl _ _ _ _ _ (fun _ => undef) (by simp) (Nat.le_refl _) (fun d hd => by simp at hd) (.inl rfl) (fun j d hj => by simp at hj)
  | sl es cs cs' hl hs ih =>
    intro v hv
    obtain ⟨a, len, cap, f, rfl, h1, h2, h3, h4, h5⟩ := hv.sl_inv
    have get : ∀ (j : Nat) (d' : DV), cs'[j]? = some d' → ∃ d, cs[j]? = some d := fun j d' hj => ⟨cs[j]'(by rw [hl]; exact (List.getElem?_eq_some_iff.1 hj).1), List.getElem?_eq_getElem _⟩
    refine .sl _ _ _ _ _ f (by rw [h1, hl]) h2 (fun d' hd => ?_) ?_ (fun j d' hj => ?_)
    · obtain ⟨j, hj⟩ := List.mem_iff_getElem?.1 hd
      obtain ⟨d, hd0⟩ := get j d' hj
      exact (hs j d d' hd0 hj).one (h3 d (List.mem_of_getElem? hd0))
    · rcases h4 with h4 | ⟨b, o, h6, h7⟩
      · left
        subst h4
        exact List.eq_nil_of_length_eq_zero hl.symm
      · right
        exact ⟨b, o, h6, fun j hj => h7 j (by rw [hl]; exact hj)⟩
    · obtain ⟨d, hd0⟩ := get j d' hj
      exact ih j d d' hd0 hj (h5 j d hd0)
theorem Pure.sub {G : Nat → DV} {f : FuncId} {args args' : List DV} {d : DV} (h : Pure P G f args' d) (hl : args.length = args'.length) (hs : ∀ (j : Nat) (e e' : DV), args[j]? = some e → args'[j]? = some e' → Sub e e') : Pure P G f args d := fun B X vs hS hσ hB hG hv =>
  h B X vs hS hσ hB hG ⟨by rw [hv.1, hl], fun j e' hj => by
    have hlt : j < args.length := by rw [hl]; exact (List.getElem?_eq_some_iff.1 hj).1
    exact (hs j _ e' (List.getElem?_eq_getElem hlt) hj).rep (hv.2 j _ (List.getElem?_eq_getElem hlt))⟩
theorem sub_nil : ∀ (j : Nat) (e e' : DV), ([] : List DV)[j]? = some e → ([] : List DV)[j]? = some e' → Sub e e' := fun j e e' h => by simp at h
theorem sub_cons {d d' : DV} {r r' : List DV} (h : Sub d d') (k : ∀ (j : Nat) (e e' : DV), r[j]? = some e → r'[j]? = some e' → Sub e e') : ∀ (j : Nat) (e e' : DV), (d :: r)[j]? = some e → (d' :: r')[j]? = some e' → Sub e e' := fun j e e' h1 h2 => by
  cases j with
  | zero => cases h1; cases h2; exact h
  | succ j => exact k j e e' (by simpa using h1) (by simpa using h2)
end Go.Av
