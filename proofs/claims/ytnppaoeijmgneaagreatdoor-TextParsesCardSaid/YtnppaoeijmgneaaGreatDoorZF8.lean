/-
  Part 8 of the proof: RT.
-/
import Derived.Test.YtnppaoeijmgneaaGreatDoorRows
import Derived.ProofKit
import Derived.LaidMore
import Derived.LaidHandle
import Derived.LaidSub
import Derived.MakeChecks
import Derived.OpenShut
import Derived.Deep.Strs
import Derived.Stop.Joined
import Derived.Test.YtnppaoeijmgneaaGreatDoorZF1
import Derived.Test.YtnppaoeijmgneaaGreatDoorZF3
set_option linter.unusedSimpArgs false
set_option linter.unusedVariables false
set_option maxRecDepth 100000
section
namespace Go.Av
open Classical Go.ChangeShapes Go.WideShapes Go.ChangeAt Go.RowKit
theorem law_callsG {P : Program} {G : Nat -> DV} {f : FuncId} {args : List DV} (h : Pure P G f args (.b true)) {W : World} {vs : Array Value} (hv : ∀ L, Sees W L -> VReps L args vs)
  (hG : ∀ L, Sees W L -> ∀ g, (G g).clo = true /\ VRep L (G g) (.pointer (some ⟨g, 0, none⟩))) (hT : ∀ g cs, G g = .ep cs -> ∃ T, W.shape? g = some (T, cs.length)) :
  Calls P f vs W fun e W' => e = .returned (.bool true) /\ Below W.heap.size W W' := by
 let X : AX := { w := W, ρ := fun _ => none, σ := [], N := 0, hid := fun _ => False }
 have hm : ∀ b, ¬ X.mut b := fun b ⟨k, g, n, hl, _⟩ => by simp [AX.live, X] at hl
 have hS : Sto X := {
  inj := fun k k' g g' b n n' hl => by simp [AX.live, X] at hl
  gen := fun k g hl => by simp [AX.live, X] at hl
  hid := fun b hb => absurd hb (hm b)
  hidlt := fun b hb => hb.elim
  holds := fun k B hB => by simp [X] at hB }
 have hL : Sees W X.lay := fun b o v hc => AX.imm_mk (hm b) (fun h => h) hc
 refine (h 0 X vs hS rfl (Nat.le_refl _) (fun g => ⟨⟨(hG X.lay hL g).1, fun cs hc => hT g cs hc⟩, (hG X.lay hL g).2⟩) (hv X.lay hL)).mono ?_
 rintro e w' ⟨v, rfl, Y, hw, hY, hE, d, hr, rfl, _⟩
 subst hw
 rw [VRep.sc_eq hr]
 exact ⟨rfl, hE.os, hE.tape, hE.output, hE.size, fun k hk => (hE.old k hk (hm k)).1⟩
theorem slice_rep {β : Type} [Enc β] {w : World} {a : Addr} {len cap : Nat} (hlc : len <= cap) (y : Fin len -> β)
  (hy : ∀ i, ∃ ci : List Value, ci.length = Enc.es β /\ (∀ r, r < Enc.es β -> w.cell? ((a.add (i.1 * Enc.es β)).add r) = ci[r]?) /\ ∀ L, Sees w L -> ∀ (j : Nat) d, (Enc.enc (y i) : List DV)[j]? = some d -> VRep L d (ci.getD j undef))
  (L : Lay) (hL : Sees w L) : VRep L (Qo (List.ofFn y)) (.slice (some a) len cap) := by
 have hp := Enc.pos (α := β)
 have hlen : (Wf (List.ofFn y)).length = len * Enc.es β := by rw [Qx, List.length_ofFn]
 let f : Nat -> Value := fun k => if h : k / Enc.es β < len then (Classical.choose (hy ⟨k / Enc.es β, h⟩)).getD (k % Enc.es β) undef else undef
 refine .sl _ _ _ _ _ f hlen.symm hlc (encs_one _) ?_ (fun k d hk => ?_)
 ·by_cases h0 : len = 0
  ·left
   exact List.eq_nil_of_length_eq_zero (by rw [hlen, h0, Nat.zero_mul])
  ·right
   obtain ⟨b, o, sp⟩ := a
   obtain ⟨c0, hc0, hc1, _⟩ := hy ⟨0, by omega⟩
   have hs := hc1 0 hp
   rw [List.getElem?_eq_getElem (by omega)] at hs
   have hsp : sp = none := by simpa [Addr.add] using spot_of hs
   subst hsp
   refine ⟨b, o, rfl, fun k hk => ?_⟩
   rw [hlen] at hk
   have hkd : k / Enc.es β < len := Nat.div_lt_of_lt_mul (by rw [Nat.mul_comm];exact hk)
   have hfk : f k = (Classical.choose (hy ⟨k / Enc.es β, hkd⟩)).getD (k % Enc.es β) undef := dif_pos hkd
   obtain ⟨h4, h5, _⟩ := Classical.choose_spec (hy ⟨k / Enc.es β, hkd⟩)
   have hm := Nat.mod_lt k hp
   have h6 := h5 (k % Enc.es β) hm
   rw [List.getElem?_eq_getElem (by omega)] at h6
   refine hL b (o + k) (f k) ?_
   rw [hfk, List.getD_eq_getElem?_getD, List.getElem?_eq_getElem (by omega)]
   have hadd : ((⟨b, o, none⟩ : Addr).add (k / Enc.es β * Enc.es β)).add (k % Enc.es β) = ⟨b, o + k, none⟩ := by
    rw [qb, qb, Nat.add_assoc, Nat.mul_comm, Nat.div_add_mod]
   rw [hadd] at h6
   exact h6
 ·have hk' := (List.getElem?_eq_some_iff.1 hk).1
  rw [hlen] at hk'
  have hkd : k / Enc.es β < len := Nat.div_lt_of_lt_mul (by rw [Nat.mul_comm];exact hk')
  have hfk : f k = (Classical.choose (hy ⟨k / Enc.es β, hkd⟩)).getD (k % Enc.es β) undef := dif_pos hkd
  obtain ⟨_, _, h7⟩ := Classical.choose_spec (hy ⟨k / Enc.es β, hkd⟩)
  have hm := Nat.mod_lt k hp
  have := encs_at (List.ofFn y) (k / Enc.es β) (by rw [List.length_ofFn];exact hkd) (k % Enc.es β) hm
  rw [Nat.mul_comm, Nat.div_add_mod, hk, List.getElem_ofFn] at this
  rw [hfk]
  exact h7 L hL _ d this.symm
theorem ones {A B : Type} (g : B -> A) : ∀ (l : List B) (L : List A), L.length = l.length -> (∀ i b, l[i]? = some b -> (L.drop i).take 1 = [g b]) -> L = l.map g
 | [], L, hl, _ => List.eq_nil_of_length_eq_zero (by simpa using hl)
 | b :: l, L, hl, h => by
  have h0 := h 0 b rfl
  have hr := ones g l (L.drop 1) (by rw [List.length_drop, hl, List.length_cons];omega) fun i b' hb => by
   have := h (i + 1) b' (by simpa using hb)
   rw [List.drop_drop]
   rwa [show 1 + i = i + 1 by omega]
  rw [List.map_cons, <- hr]
  have : L = L.take 1 ++ L.drop 1 := (List.take_append_drop 1 L).symm
  rw [List.drop_zero] at h0
  rw [h0] at this
  exact this
theorem shape_of_var {P : Program} {W : World} {name : String} {g : Nat} {cs : Array Value} (hg : P.globalNamed name = some g) (hv : W.var? P name = some cs) : ∃ T, W.shape? g = some (T, cs.size) := by
 unfold World.var? at hv
 rw [hg] at hv
 simp only [Option.bind_some] at hv
 split at hv
 ·rename_i h
  cases hv
  exact ⟨_, by unfold World.shape?;rw [h]⟩
 ·cases hv
end Go.Av
namespace Go.Proofs.YtnppaoeijmgneaaGreatDoor
open Go.ChangeShapes Go.WideShapes Go.ChangeAt Go.RowKit Go.Av Go.Proofs
def listD (l : List Int) : DataW Unit := match l with|[] => .nil|_ => .slice (l.map fun z => .lit (.int .i64 z)) []
def shD (s : Sh) : DataW Unit := .agg [.lit (.int .i64 s.is), .lit (.int .i64 s.low), .lit (.int .i64 s.high), .lit (.int .i64 s.last), listD s.kids, .lit (.int .i64 s.more), .lit (.int .i64 s.least), .lit (.int .i64 s.som)]
abbrev tok : TypeId × Value -> Unit := fun _ => ()
theorem cells3 : Tryz.prog.cellsOf 3 = 1 := by kernel_rfl
theorem cells111 : Tryz.prog.cellsOf 111 = 1 := by kernel_rfl
theorem cells128 : Tryz.prog.cellsOf 128 = 1 := by kernel_rfl
theorem cells130 : Tryz.prog.cellsOf 130 = 8 := by kernel_rfl
theorem cells131 : Tryz.prog.cellsOf 131 = 224 := by kernel_rfl
theorem cells5 : Tryz.prog.cellsOf 5 = 1 := by kernel_rfl
theorem cells154 : Tryz.prog.cellsOf 154 = 1 := by kernel_rfl
theorem cells158 : Tryz.prog.cellsOf 158 = 256 := by kernel_rfl
theorem cells194 : Tryz.prog.cellsOf 194 = 20 := by kernel_rfl
theorem gShapes : Tryz.prog.globalNamed "scoria/tree.shapes" = some 0 := by kernel_rfl
theorem tShapes : (Tryz.prog.globals[0]?).map (·.type) = some 131 := by kernel_rfl
theorem gSpace : Tryz.prog.globalNamed "strings.asciiSpace" = some 1 := by kernel_rfl
theorem tSpace : (Tryz.prog.globals[1]?).map (·.type) = some 158 := by kernel_rfl
theorem gPow : Tryz.prog.globalNamed "internal/strconv.uint64pow10" = some 6 := by kernel_rfl
theorem tPow : (Tryz.prog.globals[6]?).map (·.type) = some 194 := by kernel_rfl
theorem shapes_datum : (Rows.laid_scoria_tree_shapes : DataW Unit) = .agg (shapesL.map shD) := rfl
theorem space_datum : (Rows.laid_strings_asciiSpace : DataW Unit) = .agg (Lib.asciiSpaceTab.map fun z => .lit (.int .u8 z)) := rfl
theorem pow_datum : (Rows.laid_internal_strconv_uint64pow10 : DataW Unit) = .agg (Lib.pow10Tab.map fun z => .lit (.int .u64 z)) := rfl
variable {W : World} {l : List (String × DataW Unit)}
theorem kids_of {sp : Nat -> Bool} {b : Nat} {held : Bool} {fuel : Nat} {v : Value} {ks : List Int} {q : List MemPlace} (h : DataW.trod tok Tryz.prog W b sp held fuel 128 [v] = some (listD ks, q)) : ∀ L, Sees W L -> VRep L (Qo ks) v := by
 rcases DataW.trod_slice (inferInstance : TyI Tryz.prog 128 (.slice 111) false 1).u h with ⟨e3, ex⟩|⟨a, len, cap, elems, rest, n, hn, e3, ex, _, hlc, hcap, hel, hget, _⟩
 ·have e3 : v = _ := List.head_eq_of_cons_eq e3
  have : ks = [] := by
   cases ks with
   | nil => rfl
   | cons x r => simp [listD] at ex
  subst this
  intro L hL
  rw [e3]
  exact .sl _ _ _ _ _ (fun _ => undef) (by simp [Wf]) (Nat.le_refl _) (fun d hd => by simp [Wf] at hd) (.inl rfl) (fun j d hj => by simp [Wf] at hj)
 ·have e3 : v = _ := List.head_eq_of_cons_eq e3
  have ex1 : listD ks = .slice (elems.map (·.1)) (rest.map (·.1)) := (Prod.mk.inj ex).1
  have hks : (elems.map (·.1)) = ks.map fun z => DataW.lit (.int .i64 z) := by
   cases ks with
   | nil => simp [listD] at ex1
   | cons x r => simp only [listD, DataW.slice.injEq] at ex1;exact ex1.1.symm
  have hlen : len = ks.length := by
   have := congrArg List.length hks
   rw [List.length_map, List.length_map] at this
   omega
  subst hlen
  intro L hL
  rw [e3]
  have key := slice_rep (w := W) (a := a) (len := ks.length) (cap := cap) hlc (fun i : Fin ks.length => ks[i]) (fun i => by
   have h1 := hget i.1 i.2
   rw [List.getElem?_eq_getElem (by omega), cells111] at h1
   obtain ⟨ci, h2, h3⟩ := Option.bind_eq_some_iff.1 h1
   obtain ⟨_, h4, h5⟩ := World.cells?_some h2
   obtain ⟨k, e1, e2, _⟩ := DataW.trod_int (inferInstance : TyI Tryz.prog 111 (.int .i64) false 1).u h3
   have hk : (elems.map (·.1))[i.1]? = (ks.map fun z => DataW.lit (.int .i64 z))[i.1]? := by rw [hks]
   rw [List.getElem?_map, List.getElem?_map, List.getElem?_eq_getElem (by omega), List.getElem?_eq_getElem i.2, e2] at hk
   have hk : k = ks[i.1] := by simpa using hk
   subst hk
   refine ⟨ci, h4, h5, fun L hL j d hj => ?_⟩
   rw [e1]
   cases j with
   | zero => cases hj;exact .sc _
   | succ j => simp [Enc.enc] at hj) L hL
  have hof : List.ofFn (fun i : Fin ks.length => ks[i]) = ks := List.ofFn_getElem
  rw [hof] at key
  exact key
theorem int_of {t : TypeId} {z : Nat} [ht : TyI Tryz.prog t (.int .i64) false z] {sp : Nat -> Bool} {b : Nat} {held : Bool} {fuel : Nat} {v : Value} {k : Int} {q : List MemPlace} (h : DataW.trod tok Tryz.prog W b sp held fuel t [v] = some (.lit (.int .i64 k), q)) : v = .int .i64 k := by
 obtain ⟨k', e1, e2, _⟩ := DataW.trod_int ht.u h
 have : k = k' := by simpa using (Prod.mk.inj e2).1
 rw [this]
 exact List.head_eq_of_cons_eq e1
theorem sh_of {sp : Nat -> Bool} {b : Nat} {held : Bool} {fuel : Nat} {c : List Value} {s : Sh} {q : List MemPlace} (h : DataW.trod tok Tryz.prog W b sp held fuel 130 c = some (shD s, q)) : c.length = 8 /\ ∀ L, Sees W L -> ∀ (j : Nat) d, (Enc.enc s : List DV)[j]? = some d -> VRep L d (c.getD j undef) := by
 obtain ⟨xs, n, hn, ex, hl, hxl, hf⟩ := DataW.trod_struct Tryz.underlying130 h
 rw [cells130] at hl
 match xs, hxl, c, hl with
 | [y0, y1, y2, y3, y4, y5, y6, y7], _, [v0, v1, v2, v3, v4, v5, v6, v7], _ =>
 have t0 := hf 0 _ rfl
 have t1 := hf 1 _ rfl
 have t2 := hf 2 _ rfl
 have t3 := hf 3 _ rfl
 have t4 := hf 4 _ rfl
 have t5 := hf 5 _ rfl
 have t6 := hf 6 _ rfl
 have t7 := hf 7 _ rfl
 clear hf h
 have t0 : DataW.trod tok Tryz.prog W b sp held n 111 [v0] = some y0 := by
  have e : (([v0, v1, v2, v3, v4, v5, v6, v7] : List Value).drop 0).take (Tryz.prog.cellsOf 111) = [v0] := by rw [cells111];rfl
  rw [<- e];exact t0
 have t1 : DataW.trod tok Tryz.prog W b sp held n 3 [v1] = some y1 := by
  have e : (([v0, v1, v2, v3, v4, v5, v6, v7] : List Value).drop 1).take (Tryz.prog.cellsOf 3) = [v1] := by rw [cells3];rfl
  rw [<- e];exact t1
 have t2 : DataW.trod tok Tryz.prog W b sp held n 3 [v2] = some y2 := by
  have e : (([v0, v1, v2, v3, v4, v5, v6, v7] : List Value).drop 2).take (Tryz.prog.cellsOf 3) = [v2] := by rw [cells3];rfl
  rw [<- e];exact t2
 have t3 : DataW.trod tok Tryz.prog W b sp held n 3 [v3] = some y3 := by
  have e : (([v0, v1, v2, v3, v4, v5, v6, v7] : List Value).drop 3).take (Tryz.prog.cellsOf 3) = [v3] := by rw [cells3];rfl
  rw [<- e];exact t3
 have t4 : DataW.trod tok Tryz.prog W b sp held n 128 [v4] = some y4 := by
  have e : (([v0, v1, v2, v3, v4, v5, v6, v7] : List Value).drop 4).take (Tryz.prog.cellsOf 128) = [v4] := by rw [cells128];rfl
  rw [<- e];exact t4
 have t5 : DataW.trod tok Tryz.prog W b sp held n 3 [v5] = some y5 := by
  have e : (([v0, v1, v2, v3, v4, v5, v6, v7] : List Value).drop 5).take (Tryz.prog.cellsOf 3) = [v5] := by rw [cells3];rfl
  rw [<- e];exact t5
 have t6 : DataW.trod tok Tryz.prog W b sp held n 3 [v6] = some y6 := by
  have e : (([v0, v1, v2, v3, v4, v5, v6, v7] : List Value).drop 6).take (Tryz.prog.cellsOf 3) = [v6] := by rw [cells3];rfl
  rw [<- e];exact t6
 have t7 : DataW.trod tok Tryz.prog W b sp held n 111 [v7] = some y7 := by
  have e : (([v0, v1, v2, v3, v4, v5, v6, v7] : List Value).drop 7).take (Tryz.prog.cellsOf 111) = [v7] := by rw [cells111];rfl
  rw [<- e];exact t7
 have ex1 := (Prod.mk.inj ex).1
 simp only [shD, List.map_cons, List.map_nil, DataW.agg.injEq, List.cons.injEq, and_true] at ex1
 obtain ⟨x0, x1, x2, x3, x4, x5, x6, x7⟩ := ex1
 obtain ⟨y0, p0⟩ := y0
 obtain ⟨y1, p1⟩ := y1
 obtain ⟨y2, p2⟩ := y2
 obtain ⟨y3, p3⟩ := y3
 obtain ⟨y4, p4⟩ := y4
 obtain ⟨y5, p5⟩ := y5
 obtain ⟨y6, p6⟩ := y6
 obtain ⟨y7, p7⟩ := y7
 dsimp only at x0 x1 x2 x3 x4 x5 x6 x7
 subst x0 x1 x2 x3 x4 x5 x6 x7
 have e0 := int_of (t := 111) (v := v0) t0
 have e1 := int_of (t := 3) (v := v1) t1
 have e2 := int_of (t := 3) (v := v2) t2
 have e3 := int_of (t := 3) (v := v3) t3
 have e4 := kids_of (v := v4) t4
 have e5 := int_of (t := 3) (v := v5) t5
 have e6 := int_of (t := 3) (v := v6) t6
 have e7 := int_of (t := 111) (v := v7) t7
 subst e0 e1 e2 e3 e5 e6 e7
 refine ⟨rfl, fun L hL j d hj => ?_⟩
 match j, hj with
 | 0, hj => cases hj;exact .sc _
 | 1, hj => cases hj;exact .sc _
 | 2, hj => cases hj;exact .sc _
 | 3, hj => cases hj;exact .sc _
 | 4, hj => cases hj;exact e4 L hL
 | 5, hj => cases hj;exact .sc _
 | 6, hj => cases hj;exact .sc _
 | 7, hj => cases hj;exact .sc _
 | j + 8, hj => simp [Enc.enc] at hj
theorem one_laid {name : String} {d : DataW Unit} {g t : Nat} (hf : l.filter (fun x => x.1 == name) = [(name, d)]) (hh : d.handleName? = none) (hg : Tryz.prog.globalNamed name = some g) (ht : (Tryz.prog.globals[g]?).map (·.type) = some t) (h : laidMetH Tryz.prog l W) :
  ∃ cs f p, W.var? Tryz.prog name = some cs /\ DataW.trod tok Tryz.prog W 0 (fun _ => true) false f t cs.toList = some (d, p) := by
 have h1 := h.filter fun x => x.1 == name
 rw [hf, MakeChecks.laidMetH_plain _ _ _ (by simp [hh])] at h1
 obtain ⟨ps, ⟨g', t', cs, f, p, q, hg', ht', hv, hd, _⟩, _, _⟩ := h1
 obtain rfl := Option.some.inj (hg.symm.trans hg')
 obtain rfl := Option.some.inj (ht.symm.trans ht')
 exact ⟨cs, f, p, hv, hd⟩
theorem shapes_laid (hf : l.filter (fun x => x.1 == "scoria/tree.shapes") = [("scoria/tree.shapes", Rows.laid_scoria_tree_shapes)]) (h : laidMetH Tryz.prog l W) :
  ∃ cs, W.var? Tryz.prog "scoria/tree.shapes" = some cs /\ cs.toList.length = 224 /\ ∀ L, Sees W L -> ∀ (j : Nat) d, (Wf shapesL)[j]? = some d -> VRep L d (cs.toList.getD j undef) := by
 obtain ⟨cs, f, p, hv, hd⟩ := one_laid hf rfl gShapes tShapes h
 rw [shapes_datum] at hd
 obtain ⟨xs, m, _, hx, hl, hn, hel⟩ := DataW.trod_array (inferInstance : TyI Tryz.prog 131 (.array 28 130) true 224).u hd
 rw [cells131] at hl
 have hx2 : (shapesL.map shD) = xs.map (·.1) := by simpa only [DataW.agg.injEq] using (Prod.mk.inj hx).1
 refine ⟨cs, hv, hl, fun L hL j d hj => ?_⟩
 have hj' : j < 224 := by
  have := (List.getElem?_eq_some_iff.1 hj).1
  rw [Qx] at this
  exact this
 have hi : j / 8 < 28 := by omega
 have hm : j % 8 < 8 := Nat.mod_lt _ (by decide)
 have h1 := hel (j / 8) hi
 rw [cells130] at h1
 have hxi : (xs.map (·.1))[j / 8]? = (shapesL.map shD)[j / 8]? := by rw [hx2]
 have hsl : shapesL.length = 28 := rfl
 rw [List.getElem?_map, List.getElem?_map, List.getElem?_eq_getElem (show j / 8 < xs.length by omega), List.getElem?_eq_getElem (show j / 8 < shapesL.length by omega)] at hxi
 rw [List.getElem?_eq_getElem (show j / 8 < xs.length by omega)] at h1
 have hxi : (xs[j / 8]'(by omega)).1 = shD (shapesL[j / 8]'(by omega)) := by simpa using hxi
 generalize xs[j / 8]'(by omega) = y at h1 hxi
 obtain ⟨y1, y2⟩ := y
 dsimp only at hxi
 subst hxi
 obtain ⟨hc, hrep⟩ := sh_of h1
 have he := encs_at shapesL (j / 8) (by omega) (j % 8) hm
 have hes : Enc.es Sh = 8 := rfl
 rw [hes, show j / 8 * 8 + j % 8 = j by omega, hj] at he
 have := hrep L hL (j % 8) d he.symm
 rw [List.getD_eq_getElem?_getD, List.getElem?_take, if_pos hm, List.getElem?_drop, show j / 8 * 8 + j % 8 = j by omega, <- List.getD_eq_getElem?_getD] at this
 exact this
theorem ints_laid {name : String} {k : IntKind} {zs : List Int} {g t e : Nat} {N : Nat} [hat : TyI Tryz.prog t (.array N e) true N] [hie : TyI Tryz.prog e (.int k) false 1] (hN : zs.length = N) (hc : Tryz.prog.cellsOf t = N) (hce : Tryz.prog.cellsOf e = 1) (hf : l.filter (fun x => x.1 == name) = [(name, .agg (zs.map fun z => .lit (.int k z)))]) (hg : Tryz.prog.globalNamed name = some g) (ht : (Tryz.prog.globals[g]?).map (·.type) = some t) (h : laidMetH Tryz.prog l W) :
  ∃ cs, W.var? Tryz.prog name = some cs /\ cs.toList = zs.map fun z => .int k z := by
 obtain ⟨cs, f, p, hv, hd⟩ := one_laid hf rfl hg ht h
 obtain ⟨xs, m, _, hx, hl, hn, hel⟩ := DataW.trod_array hat.u hd
 rw [hc] at hl
 have hx2 : (zs.map fun z => DataW.lit (H := Unit) (.int k z)) = xs.map (·.1) := by simpa only [DataW.agg.injEq] using (Prod.mk.inj hx).1
 refine ⟨cs, hv, ones (fun z => .int k z) zs cs.toList (by omega) fun i z hi => ?_⟩
 have hi20 : i < N := by rw [<- hN];exact (List.getElem?_eq_some_iff.1 hi).1
 have h1 := hel i hi20
 rw [hce, Nat.mul_one] at h1
 have hxi : (xs.map (·.1))[i]? = some (.lit (.int k z)) := by rw [<- hx2, List.getElem?_map, hi];rfl
 rw [List.getElem?_map] at hxi
 cases hxs : xs[i]? with
 | none => rw [hxs] at hxi;cases hxi
 | some y =>
  rw [hxs] at hxi h1
  obtain ⟨k', e1, e2, _⟩ := DataW.trod_int hie.u h1
  have hy := Option.some.inj hxi
  rw [e2] at hy
  have hk : k' = z := by simpa using hy
  rw [e1, hk]
def G016 : Nat -> DV := fun g => match g with|0 => shapesT|1 => spaceT|6 => pow10T|_ => .any
theorem ints_rep {name : String} {k : IntKind} {zs : List Int} {g : Nat} {cs : Array Value} (hg : Tryz.prog.globalNamed name = some g) (hv : W.var? Tryz.prog name = some cs) (hcs : cs.toList = zs.map fun z => .int k z) (L : Lay) (hL : Sees W L) : VRep L (.ep (zs.map fun z => .sc (.int k z))) (.pointer (some ⟨g, 0, none⟩)) := by
 refine .ep _ g 0 (fun j => (zs.map fun z => Value.int k z).getD j undef) (fun d hd => ?_) (fun j hj => ?_) (fun j d hd => ?_)
 ·obtain ⟨z, _, rfl⟩ := List.mem_map.1 hd;rfl
 ·refine hL _ _ _ ?_
  rw [World.var?_cell hg hv, Nat.zero_add, <- hcs]
  have hj' : j < cs.toList.length := by rw [hcs];simpa using hj
  rw [List.getD_eq_getElem?_getD, List.getElem?_eq_getElem hj']
  simp
 ·rw [List.getElem?_map] at hd
  cases hz : zs[j]? with
  | none => rw [hz] at hd;cases hd
  | some z =>
   rw [hz] at hd
   cases hd
   rw [List.getD_eq_getElem?_getD, List.getElem?_map, hz]
   exact .sc _
theorem of_laid (hf0 : l.filter (fun x => x.1 == "scoria/tree.shapes") = [("scoria/tree.shapes", Rows.laid_scoria_tree_shapes)]) (hf1 : l.filter (fun x => x.1 == "strings.asciiSpace") = [("strings.asciiSpace", Rows.laid_strings_asciiSpace)])
  (hf6 : l.filter (fun x => x.1 == "internal/strconv.uint64pow10") = [("internal/strconv.uint64pow10", Rows.laid_internal_strconv_uint64pow10)]) (h : laidMetH Tryz.prog l W) :
  (∀ L, Sees W L -> ∀ g, (G016 g).clo = true /\ VRep L (G016 g) (.pointer (some ⟨g, 0, none⟩))) /\ ∀ g cs, G016 g = .ep cs -> ∃ T, W.shape? g = some (T, cs.length) := by
 obtain ⟨c0, v0, n0, r0⟩ := shapes_laid hf0 h
 rw [space_datum] at hf1
 rw [pow_datum] at hf6
 obtain ⟨c1, v1, r1⟩ := ints_laid (t := 158) (e := 5) (N := 256) (by kernel_rfl) cells158 cells5 hf1 gSpace tSpace h
 obtain ⟨c6, v6, r6⟩ := ints_laid (t := 194) (e := 154) (N := 20) (by kernel_rfl) cells194 cells154 hf6 gPow tPow h
 refine ⟨fun L hL g => ?_, fun g cs hg => ?_⟩
 ·match g with
  | 0 =>
   refine ⟨Z3 (Qy _), ?_⟩
   show VRep L shapesT _
   unfold shapesT
   refine .ep _ 0 0 (fun j => c0.toList.getD j undef) (encs_one _) (fun j hj => ?_) (r0 L hL)
   refine hL _ _ _ ?_
   rw [World.var?_cell gShapes v0, Nat.zero_add]
   have hj' : j < c0.toList.length := by rw [n0];exact hj
   rw [List.getD_eq_getElem?_getD, List.getElem?_eq_getElem hj']
   simp
  | 1 =>
   refine ⟨?_, ints_rep gSpace v1 r1 L hL⟩
   show spaceT.clo = true
   unfold spaceT
   refine Z3 fun d hd => ?_
   obtain ⟨z, _, rfl⟩ := List.mem_map.1 hd
   exact Wj
  | 6 =>
   refine ⟨?_, ints_rep gPow v6 r6 L hL⟩
   show pow10T.clo = true
   unfold pow10T
   refine Z3 fun d hd => ?_
   obtain ⟨z, _, rfl⟩ := List.mem_map.1 hd
   exact Wj
  | 2 => exact ⟨by simp [G016, DV.clo], .any _⟩
  | 3 => exact ⟨by simp [G016, DV.clo], .any _⟩
  | 4 => exact ⟨by simp [G016, DV.clo], .any _⟩
  | 5 => exact ⟨by simp [G016, DV.clo], .any _⟩
  | g + 7 => exact ⟨by simp [G016, DV.clo], .any _⟩
 ·match g, hg with
  | 0, hg =>
   obtain ⟨T, hT⟩ := shape_of_var gShapes v0
   refine ⟨T, ?_⟩
   have : Wf shapesL = cs := by simpa [G016, shapesT] using hg
   rw [hT, <- Array.length_toList, n0, <- this];rfl
  | 1, hg =>
   obtain ⟨T, hT⟩ := shape_of_var gSpace v1
   refine ⟨T, ?_⟩
   have : (Lib.asciiSpaceTab.map fun z => DV.sc (.int .u8 z)) = cs := by simpa [G016, spaceT] using hg
   rw [hT, <- Array.length_toList, r1, <- this, List.length_map, List.length_map]
  | 6, hg =>
   obtain ⟨T, hT⟩ := shape_of_var gPow v6
   refine ⟨T, ?_⟩
   have : (Lib.pow10Tab.map fun z => DV.sc (.int .u64 z)) = cs := by simpa [G016, pow10T] using hg
   rw [hT, <- Array.length_toList, r6, <- this, List.length_map, List.length_map]
  | 2, hg => simp [G016] at hg
  | 3, hg => simp [G016] at hg
  | 4, hg => simp [G016] at hg
  | 5, hg => simp [G016] at hg
  | g + 7, hg => simp [G016] at hg
end Go.Proofs.YtnppaoeijmgneaaGreatDoor
end
