/-
  The table of the word's operations, as the listed variable reads when the call begins.
-/
import Derived.Test.YtecbcpilcjmhlaaDoorV5
import Derived.Test.YtecbcpilcjmhlaaDoorAvR
import Derived.Test.YtecbcpilcjmhlaaDoorRows
import Derived.ProofKit
import Derived.LaidMore
import Derived.LaidHandle
import Derived.OpenShut
import Derived.Deep.Strs
import Derived.Stop.Joined
namespace Go.Av
open Classical Go.ChangeShapes Go.WideShapes Go.ChangeAt Go.RowKit
theorem law_callsG {P : Program} {G : Nat → DV} {f : FuncId} {args : List DV} (h : Pure P G f args (.b true)) {W : World} {vs : Array Value} (hv : ∀ L, Sees W L → VReps L args vs)
    (hG : ∀ L, Sees W L → ∀ g, (G g).clo = true ∧ VRep L (G g) (.pointer (some ⟨g, 0, none⟩))) :
    Calls P f vs W fun e W' => e = .returned (.bool true) ∧ Below W.heap.size W W' := by
  let X : AX := { w := W, ρ := fun _ => none, σ := [], N := 0, hid := fun _ => False }
  have hm : ∀ b, ¬ X.mut b := fun b ⟨k, g, n, hl, _⟩ => by simp [AX.live, X] at hl
  have hS : Sto X := {
    inj := fun k k' g g' b n n' hl => by simp [AX.live, X] at hl
    gen := fun k g hl => by simp [AX.live, X] at hl
    hid := fun b hb => absurd hb (hm b)
    hidlt := fun b hb => hb.elim
    holds := fun k B hB => by simp [X] at hB }
  have hL : Sees W X.lay := fun b o v hc => AX.imm_mk (hm b) (fun h => h) hc
  refine (h 0 X vs hS rfl (Nat.le_refl _) (hG X.lay hL) (hv X.lay hL)).mono ?_
  rintro e w' ⟨v, rfl, Y, hw, hY, hE, d, hr, rfl, _⟩
  subst hw
  rw [VRep.sc_eq hr]
  exact ⟨rfl, hE.os, hE.tape, hE.output, hE.size, fun k hk => (hE.old k hk (hm k)).1⟩
theorem chunks {A B : Type} (g : B → List A) (hg : ∀ b, (g b).length = 3) : ∀ (l : List B) (L : List A), L.length = 3 * l.length → (∀ i b, l[i]? = some b → (L.drop (i * 3)).take 3 = g b) → L = l.flatMap g
  | [], L, hl, _ => List.eq_nil_of_length_eq_zero (by simpa using hl)
  | b :: l, L, hl, h => by
    have h0 := h 0 b rfl
    have hr := chunks g hg l (L.drop 3) (by rw [List.length_drop, hl, List.length_cons]; omega) fun i b' hb => by
      have := h (i + 1) b' (by simpa using hb)
      rw [List.drop_drop]
      rwa [show 3 + i * 3 = (i + 1) * 3 by omega]
    rw [List.flatMap_cons, ← hr, ← h0]
    simp
end Go.Av
namespace Go.Proofs.YtecbcpilcjmhlaaDoor
open Go.ChangeShapes Go.WideShapes Go.ChangeAt Go.RowKit Go.Av Go.Proofs
set_option linter.unusedSimpArgs false
set_option linter.unusedVariables false
set_option maxRecDepth 100000
/-- The operations: the name, the function, the two marks. -/
def opsL : List (UInt8 × List UInt8 × Nat × Bool × Bool) := [(115, [99, 111, 114, 105, 97, 47, 119, 111, 114, 100, 46, 111, 112, 101, 114, 97, 116, 105, 111, 110, 115, 36, 49], 136, false, false), (115, [99, 111, 114, 105, 97, 47, 119, 111, 114, 100, 46, 111, 112, 101, 114, 97, 116, 105, 111, 110, 115, 36, 50], 137, false, false), (115, [99, 111, 114, 105, 97, 47, 119, 111, 114, 100, 46, 111, 112, 101, 114, 97, 116, 105, 111, 110, 115, 36, 51], 138, false, false), (115, [99, 111, 114, 105, 97, 47, 119, 111, 114, 100, 46, 111, 112, 101, 114, 97, 116, 105, 111, 110, 115, 36, 52], 139, true, false), (115, [99, 111, 114, 105, 97, 47, 119, 111, 114, 100, 46, 111, 112, 101, 114, 97, 116, 105, 111, 110, 115, 36, 53], 140, true, false), (115, [99, 111, 114, 105, 97, 47, 119, 111, 114, 100, 46, 111, 112, 101, 114, 97, 116, 105, 111, 110, 115, 36, 54], 141, false, false), (115, [99, 111, 114, 105, 97, 47, 119, 111, 114, 100, 46, 111, 112, 101, 114, 97, 116, 105, 111, 110, 115, 36, 55], 142, false, false), (115, [99, 111, 114, 105, 97, 47, 119, 111, 114, 100, 46, 111, 112, 101, 114, 97, 116, 105, 111, 110, 115, 36, 56], 143, false, false), (115, [99, 111, 114, 105, 97, 47, 119, 111, 114, 100, 46, 111, 112, 101, 114, 97, 116, 105, 111, 110, 115, 36, 57], 144, false, false), (115, [99, 111, 114, 105, 97, 47, 119, 111, 114, 100, 46, 111, 112, 101, 114, 97, 116, 105, 111, 110, 115, 36, 49, 48], 146, false, false), (115, [99, 111, 114, 105, 97, 47, 119, 111, 114, 100, 46, 111, 112, 101, 114, 97, 116, 105, 111, 110, 115, 36, 49, 49], 147, false, true), (115, [99, 111, 114, 105, 97, 47, 119, 111, 114, 100, 46, 111, 112, 101, 114, 97, 116, 105, 111, 110, 115, 36, 49, 50], 149, false, true), (115, [99, 111, 114, 105, 97, 47, 119, 111, 114, 100, 46, 111, 112, 101, 114, 97, 116, 105, 111, 110, 115, 36, 49, 51], 150, false, true), (115, [99, 111, 114, 105, 97, 47, 119, 111, 114, 100, 46, 111, 112, 101, 114, 97, 116, 105, 111, 110, 115, 36, 49, 52], 151, false, true)]
def opD (e : UInt8 × List UInt8 × Nat × Bool × Bool) : DataW (List UInt8) := .agg [.held (e.1 :: e.2.1), .lit (.bool e.2.2.2.1), .lit (.bool e.2.2.2.2)]
def opV (e : UInt8 × List UInt8 × Nat × Bool × Bool) : List Value := [.func (.func e.2.2.1) #[] #[], .bool e.2.2.2.1, .bool e.2.2.2.2]
def opC (e : UInt8 × List UInt8 × Nat × Bool × Bool) : List DV := [.fn (.func e.2.2.1) [] [], .b e.2.2.2.1, .b e.2.2.2.2]
theorem opsT_eq : opsT = .ep (opsL.flatMap opC) := rfl
theorem opsNamed : (opsL.all fun e => ((List.range Tryd.prog.funcs.size).filter fun f => (Tryd.prog.funcs[f]?).any (·.name.toUTF8.data.toList == e.1 :: e.2.1)) == [e.2.2.1]) = true := by kernel_rfl
theorem gOps : Tryd.prog.globalNamed "scoria/word.operations" = some 0 := by kernel_rfl
theorem tOps : (Tryd.prog.globals[0]?).map (·.type) = some 108 := by kernel_rfl
theorem cells107 : Tryd.prog.cellsOf 107 = 3 := by kernel_rfl
theorem cells108 : Tryd.prog.cellsOf 108 = 42 := by kernel_rfl
theorem cells28 : Tryd.prog.cellsOf 28 = 1 := by kernel_rfl
theorem cells4 : Tryd.prog.cellsOf 4 = 1 := by kernel_rfl

theorem op_of {W : World} {fuel : Nat} {c : List Value} {e : UInt8 × List UInt8 × Nat × Bool × Bool} {q : List MemPlace} (he : e ∈ opsL) (h : DataW.trod (funcToken Tryd.prog) Tryd.prog W 0 (fun _ => true) true fuel 107 c = some (opD e, q)) : c = opV e := by
  obtain ⟨y0, y1, y2, n, hx, hl, h0, h1, h2⟩ := Deep.trod_struct3 Tryd.underlying107 h
  rw [cells107] at hl
  match c, hl with
  | [c0, c1, c2], _ =>
    simp only [opD, Prod.mk.injEq, DataW.agg.injEq, List.cons.injEq, and_true] at hx
    obtain ⟨⟨e0, e1, e2⟩, _⟩ := hx
    have h0 : DataW.trod (funcToken Tryd.prog) Tryd.prog W 0 (fun _ => true) true n 28 [c0] = some y0 := by simp only [cells28, cells4] at h0; exact h0
    have h1 : DataW.trod (funcToken Tryd.prog) Tryd.prog W 0 (fun _ => true) true n 4 [c1] = some y1 := by simp only [cells4, cells28] at h1; exact h1
    have h2 : DataW.trod (funcToken Tryd.prog) Tryd.prog W 0 (fun _ => true) true n 4 [c2] = some y2 := by simp only [cells4, cells28] at h2; exact h2
    obtain ⟨y0, q0⟩ := y0
    cases e0
    have hone := eq_of_beq (List.all_eq_true.1 opsNamed e he)
    obtain rfl := func_of_trod Tryd.underlying28 hone h0
    obtain ⟨b1, hb1, rfl⟩ := DataW.trod_bool Tryd.underlying4 h1
    obtain ⟨b2, hb2, rfl⟩ := DataW.trod_bool Tryd.underlying4 h2
    cases hb1; cases hb2
    simp only [DataW.lit.injEq, Lit.bool.injEq] at e1 e2
    subst e1; subst e2
    rfl

theorem rep_ops (L : Lay) : ∀ (l : List (UInt8 × List UInt8 × Nat × Bool × Bool)) (j : Nat) (d : DV), (l.flatMap opC)[j]? = some d → VRep L d ((l.flatMap opV).getD j undef)
  | [], j, d, h => by simp at h
  | e :: l, 0, d, h => by
    cases h
    exact .fn _ [] [] #[] #[] rfl rfl (fun j d h => by simp at h) (fun j d h => by simp at h)
  | e :: l, 1, d, h => by cases h; exact .sc _
  | e :: l, 2, d, h => by cases h; exact .sc _
  | e :: l, j + 3, d, h => rep_ops L l j d h

/-- WHAT THE CONDITION GIVES: the table's cells. -/
theorem of_laid {W : World} {l : List (String × DataW Unit)} (hin : ("scoria/word.operations", Rows.laid_scoria_word_operations) ∈ l) (h : laidMetH Tryd.prog l W) (L : Lay) (hL : Sees W L) :
    ∀ g, (G1 g).clo = true ∧ VRep L (G1 g) (.pointer (some ⟨g, 0, none⟩)) := by
  obtain ⟨g, t, cs, fuel, p, hg, ht, hv, hd⟩ := h.funcs hin
  obtain rfl := Option.some.inj (gOps.symm.trans hg)
  obtain rfl := Option.some.inj (tOps.symm.trans ht)
  have hd' : DataW.trod (funcToken Tryd.prog) Tryd.prog W 0 (fun _ => true) true fuel 108 cs.toList = some (.agg (opsL.map opD), p) := hd
  obtain ⟨xs, m, _, hx, hl, hn, hel⟩ := DataW.trod_array (inferInstance : TyI Tryd.prog 108 (.array 14 107) true 42).u hd'
  rw [cells108] at hl
  simp only [Prod.mk.injEq, DataW.agg.injEq] at hx
  have hc : cs.toList = opsL.flatMap opV := chunks opV (fun _ => rfl) opsL cs.toList hl fun i e hi => by
    have hi14 : i < 14 := (List.getElem?_eq_some_iff.1 hi).1
    have h1 := hel i hi14
    rw [cells107] at h1
    have hxi : (xs.map (·.1))[i]? = some (opD e) := by rw [← hx.1, List.getElem?_map, hi]; rfl
    rw [List.getElem?_map] at hxi
    cases hxs : xs[i]? with
    | none => rw [hxs] at hxi; cases hxi
    | some y =>
      rw [hxs] at hxi h1
      obtain ⟨y1, y2⟩ := y
      cases Option.some.inj hxi
      exact op_of (List.mem_of_getElem? hi) h1
  intro g
  cases g with
  | succ g => exact ⟨by simp [G1, DV.clo], .any _⟩
  | zero =>
    refine ⟨?_, ?_⟩
    · show opsT.clo = true
      unfold opsT
      repeat' first | exact ac_nil | refine ac_cons ?_ ?_ | exact clo_sc | refine clo_ep ?_ | refine clo_fn ?_ ?_
    show VRep L opsT _
    rw [opsT_eq]
    refine .ep _ 0 0 (fun j => (opsL.flatMap opV).getD j undef) (by decide) (fun j hj => ?_) (rep_ops L opsL)
    refine hL _ _ _ ?_
    rw [World.var?_cell hg hv, Nat.zero_add, ← hc]
    have hj' : j < cs.toList.length := by rw [hl]; exact hj
    rw [List.getD_eq_getElem?_getD, List.getElem?_eq_getElem hj']
    simp

/-- How long a list is that a row hands over. -/
theorem len_of {H : Type} {enc : TypeId × Value → H} {W : World} {t e : TypeId} {v : Value} {d : DataW H} {q : List MemPlace} {α : Type} [Enc α] {y : List α} {ts : List TypeId} {ds : List (DataW H)} {sp : Nat → Bool} {j : Nat}
    (he : Enc.es α = 1) (hb : 1 ≤ Tryd.prog.bytesOf e) (ht : Tryd.prog.underlying t = some (.slice e)) (hsz : (DataW.weightsEach Tryd.prog ts ds).all (· ≤ reachBytes) = true) (hj : ts[j]? = some t) (hd : ds[j]? = some d)
    (hok : v.cells.toList = [v]) (h : DataW.Trod enc Tryd.prog W 0 sp true t v d q) (r : ∀ L, Sees W L → ∀ e, Enc.enc y = [e] → VRep L e v) : y.length ≤ 140737488355328 := by
  obtain ⟨fuel, hf⟩ := h
  rw [hok] at hf
  have hr := r { imm := fun b o => W.cell? ⟨b, o, none⟩, row := fun _ _ => none, top := 0 } (fun _ _ _ h => h) _ rfl
  have hlen : ∀ {a : Option Addr} {len cap : Nat}, v = .slice a len cap → y.length = len := fun hv => by
    subst hv
    generalize hs : slOf y = s at hr
    cases hr with
    | sl es cs a len cap f h1 =>
      unfold slOf at hs
      cases hs
      rw [encs_len, he] at h1
      omega
    | _ => cases hs
  rcases DataW.trod_slice ht hf with ⟨h1, _⟩ | ⟨a, len, cap, elems, rest, n, _, h1, h2, _, _, _, h3, _⟩
  · have := hlen (List.cons.inj h1).1
    omega
  · have := hlen (List.cons.inj h1).1
    cases h2
    have h4 := sized_slice hsz hj hd ht
    rw [List.length_map, h3] at h4
    have h5 := reachBytes_lt
    have h6 : len ≤ (len + (rest.map (·.1)).length) * Tryd.prog.bytesOf e := Nat.le_trans (Nat.le_add_right _ _) (Nat.le_mul_of_pos_right _ hb)
    omega
end Go.Proofs.YtecbcpilcjmhlaaDoor
