/-
  TextPrints, for inputs that together hold at most 1048576 values and letters (each counted each time it is reached): the call returns true, and each argument reads behind the call as it read before.
  Condition: the bound on the input's bulk that the given statement names (the Upto form).
  (The last part of the proof: RU YG.)
-/
import Derived.Test.YtnppaoeijmgneaaGreatDoorCards
import Derived.Test.YtnppaoeijmgneaaGreatDoorTie
import Derived.ProofKit
import Derived.SizedLaws
import Derived.SevenTiedAt
import Derived.Deep.DeepHandedRow
import Derived.Lay
import Derived.Test.YtnppaoeijmgneaaGreatDoorZG7
set_option linter.unusedSimpArgs false
set_option linter.unusedVariables false
set_option maxRecDepth 100000
section
namespace Go.RowKit
open Go.ChangeShapes
section
variable {H : Type} {enc : TypeId × Value -> H} {P : Program} {w : World} {base : Nat} {spare : Nat -> Bool} {held : Bool}
theorem trodAll_mk5 {t t' t'' t3 t4 : TypeId} {v v' v'' v3 v4 : Value} {d d' d'' d3 d4 : DataW H} {p p' p'' p3 p4 : List MemPlace} (h : DataW.Trod enc P w base spare held t v d p) (h' : DataW.Trod enc P w base spare held t' v' d' p')
  (h'' : DataW.Trod enc P w base spare held t'' v'' d'' p'') (h3 : DataW.Trod enc P w base spare held t3 v3 d3 p3) (h4 : DataW.Trod enc P w base spare held t4 v4 d4 p4) : DataW.TrodAll enc P w base spare held [t, t', t'', t3, t4] [v, v', v'', v3, v4] [d, d', d'', d3, d4] (p ++ p' ++ p'' ++ p3 ++ p4) :=
 ⟨p, p' ++ (p'' ++ (p3 ++ p4)), h, trodAll_mk4 h' h'' h3 h4, by simp⟩
theorem trodAll_six {t t' t'' t3 t4 t5 : TypeId} {args : Array Value} {ds : List (DataW H)} {ps : List MemPlace} (h : DataW.TrodAll enc P w base spare held [t, t', t'', t3, t4, t5] args.toList ds ps) :
  ∃ v v' v'' v3 v4 v5 d d' d'' d3 d4 d5 p p' p'' p3 p4 p5, args = #[v, v', v'', v3, v4, v5] /\ ds = [d, d', d'', d3, d4, d5] /\ ps = p ++ p' ++ p'' ++ p3 ++ p4 ++ p5 /\ DataW.Trod enc P w base spare held t v d p /\ DataW.Trod enc P w base spare held t' v' d' p' /\ DataW.Trod enc P w base spare held t'' v'' d'' p'' /\ DataW.Trod enc P w base spare held t3 v3 d3 p3 /\ DataW.Trod enc P w base spare held t4 v4 d4 p4 /\ DataW.Trod enc P w base spare held t5 v5 d5 p5 := by
 obtain ⟨v, vs, d, ds', p, q, hargs, rfl, rfl, hd, hrest⟩ := trodAll_cons h
 obtain ⟨v', vs', d', ds'', p', q', rfl, rfl, rfl, hd', hrest'⟩ := trodAll_cons hrest
 obtain ⟨v'', vs'', d'', ds''', p'', q'', rfl, rfl, rfl, hd'', hrest''⟩ := trodAll_cons hrest'
 obtain ⟨v3, vs3, d3, ds3, p3, q3, rfl, rfl, rfl, hd3, hrest3⟩ := trodAll_cons hrest''
 obtain ⟨v4, vs4, d4, ds4, p4, q4, rfl, rfl, rfl, hd4, hrest4⟩ := trodAll_cons hrest3
 obtain ⟨v5, vs5, d5, ds5, p5, q5, rfl, rfl, rfl, hd5, hrest5⟩ := trodAll_cons hrest4
 obtain ⟨rfl, rfl, rfl⟩ := trodAll_nil hrest5
 exact ⟨v, v', v'', v3, v4, v5, d, d', d'', d3, d4, d5, p, p', p'', p3, p4, p5, by cases args;simp_all, rfl, by simp, hd, hd', hd'', hd3, hd4, hd5⟩
theorem trodAll_mk6 {t t' t'' t3 t4 t5 : TypeId} {v v' v'' v3 v4 v5 : Value} {d d' d'' d3 d4 d5 : DataW H} {p p' p'' p3 p4 p5 : List MemPlace} (h : DataW.Trod enc P w base spare held t v d p) (h' : DataW.Trod enc P w base spare held t' v' d' p')
  (h'' : DataW.Trod enc P w base spare held t'' v'' d'' p'') (h3 : DataW.Trod enc P w base spare held t3 v3 d3 p3) (h4 : DataW.Trod enc P w base spare held t4 v4 d4 p4) (h5 : DataW.Trod enc P w base spare held t5 v5 d5 p5) : DataW.TrodAll enc P w base spare held [t, t', t'', t3, t4, t5] [v, v', v'', v3, v4, v5] [d, d', d'', d3, d4, d5] (p ++ p' ++ p'' ++ p3 ++ p4 ++ p5) :=
 ⟨p, p' ++ p'' ++ p3 ++ p4 ++ p5, h, trodAll_mk5 h' h'' h3 h4 h5, by simp⟩
end
end Go.RowKit
namespace Go.Proofs.YtnppaoeijmgneaaGreatDoor
open Go.ChangeShapes Go.WideShapes Go.ChangeAt Go.RowKit Go.Av Go.Proofs
theorem rd22 : Rd Tryz.prog 22 (List Int) (fun l => l.length <= 9223372036854775807 /\ ∀ x ∈ l, I64 x) := rd_slice (e := 3) (ht := inferInstance) (he := (inferInstance : TyI Tryz.prog 3 (.int .i64) false 1)) (hr := rd_int)
theorem rd3 : Rd Tryz.prog 3 Int I64 := rd_int
theorem own : ownKnob Tryz.prog.godebug = none := by kernel_rfl
theorem laidOut : laidOutB Tryz.prog = true := by kernel_rfl
abbrev laid10 : List (String × DataW Unit) := [("math/bits.deBruijn32tab", Rows.laid_math_bits_deBruijn32tab), ("math/bits.deBruijn64tab", Rows.laid_math_bits_deBruijn64tab), ("internal/strconv.uint64pow10", Rows.laid_internal_strconv_uint64pow10), ("unicode/utf8.acceptRanges", Rows.laid_unicode_utf8_acceptRanges), ("scoria/tree.shapes", Rows.laid_scoria_tree_shapes), ("strconv.ErrRange", Rows.laid_strconv_ErrRange), ("strconv.ErrSyntax", Rows.laid_strconv_ErrSyntax), ("unicode.White_Space", Rows.laid_unicode_White_Space), ("strings.asciiSpace", Rows.laid_strings_asciiSpace), ("unicode/utf8.first", Rows.laid_unicode_utf8_first)]
end Go.Proofs.YtnppaoeijmgneaaGreatDoor
end
section
namespace Go.Proofs.YtnppaoeijmgneaaGreatDoor
open Go.ChangeShapes Go.WideShapes Go.ChangeAt Go.RowKit Go.Av Go.Proofs
theorem bulk_part {H : Type} {d : DataW H} {l : List (DataW H)} (h : d ∈ l) : Rows.uptoBulk d <= Rows.uptoBulkAll l := by
 induction l with
 | nil => cases h
 | cons x r ih =>
  simp only [Rows.uptoBulkAll]
  rcases List.mem_cons.1 h with e|e
  ·subst e;omega
  ·have := ih e;omega
theorem nd_arg {H : Type} {enc : TypeId × Value -> H} {W : World} {spare : Nat -> Bool} {held : Bool} {v : Value} {d : DataW H} {p : List MemPlace} (ht : DataW.Trod enc Tryz.prog W 0 spare held 25 v d p) :
  ∃ y : Go.Bl.Nd, (Qe y <= Rows.uptoBulk d /\ okN y) /\ ∀ L, Sees W L -> VRep L (.agg (Enc.enc y)) v := by
 obtain ⟨fuel, hf⟩ := ht
 obtain ⟨y, h1, h2, h3⟩ := rd_nd enc W 0 spare held fuel _ _ hf
 refine ⟨y, h2, fun L hL => ?_⟩
 cases v with
 | agg vs =>
  have hvs : (Value.agg vs).cells.toList = vs.toList := rfl
  rw [hvs] at h1 h3
  have h1' : vs.size = 4 := by simpa using h1
  refine .agg _ _ (by rw [Enc.len];exact h1') (Enc.one y) fun j e hj => ?_
  have := h3 L hL j e hj
  simpa [Array.getD_eq_getD_getElem?] using this
 | _ => simp [Value.cells] at h1
abbrev wArgs : Array Value := #[.slice none 0 0, .slice none 0 0, .int .i64 0, .int .i64 0, .int .i64 0, .agg #[.int .i64 0, .int .i64 0, .int .i64 0, .slice none 0 0]]
theorem reads (os : Os) {H : Type} (enc : TypeId × Value -> H) : ∃ places, DataW.whole enc Tryz.prog ((World.laidAll Tryz.prog os laid10).forCall (fun _ _ => 0) ⟨#[], wArgs, []⟩).memory Tryz.f3.params.toList Rows.textPrintsSpec.vars false wArgs.toList 8 =
  some ([.nil, .nil, .lit (.int .i64 0), .lit (.int .i64 0), .lit (.int .i64 0), .agg [.lit (.int .i64 0), .lit (.int .i64 0), .lit (.int .i64 0), .nil]], [], places) := ⟨[], by kernel_rfl⟩
theorem prints_witness (os : Os) {H : Type} (enc : TypeId × Value -> H) : ∃ (w : World) (tape : Tape) (i : Input), w.os = os /\ (w.forCall tape i).Shaped Tryz.checked.prog /\ i.vars = [] /\ Input.okWide Tryz.checked.prog (w.forCall tape i) .any w.heap.size 3 i /\
  (Rows.OpenSpec.upto Rows.textPrintsSpec).preRow enc Tryz.checked.prog Tryz.f3 Rows.textPrintsUptoRow.domain false Rows.textPrintsUptoRow.laid (w.forCall tape i).memory i.args /\ ({} : Assume).holds Tryz.checked.prog (lone (Frame.enter Tryz.checked.prog 3 i.args .normal) [] (w.forCall tape i)) := by
 obtain ⟨places, hx⟩ := reads os enc
 have hok : Input.okWideB Tryz.prog ((World.laidAll Tryz.prog os laid10).forCall (fun _ _ => 0) ⟨#[], wArgs, []⟩) 3 ⟨#[], wArgs, []⟩ = true := by kernel_rfl
 refine ⟨World.laidAll Tryz.prog os laid10, fun _ _ => 0, ⟨#[], wArgs, []⟩, World.laidAll_os _ _ _, World.shaped_of_ZipB (by kernel_rfl) (by kernel_rfl), (Input.okWide_of_okWideB (base := 0) hok).1, (Input.okWide_of_okWideB hok).2, ?_, ?_⟩
 ·exact OpenSpec.preRow_of_cond 8 hx (by kernel_rfl) (fun k hk => by cases hk;kernel_rfl) (by kernel_rfl) (by rw [MakeChecks.laidMetH_plain _ _ _ (by kernel_rfl)];exact laidMet_laidAll _ (by kernel_rfl) (by kernel_rfl))
 ·simp [Assume.holds]
theorem textPrints_lifted (os : Os) (started : os.Started) (H : Type) (enc : TypeId × Value -> H) (F : Stop.Interp) :
  ReturnsInHanded {} Tryz.checked os 3 .any ((Rows.OpenSpec.upto Rows.textPrintsSpec).preRow enc Tryz.prog Tryz.f3 Rows.textPrintsUptoRow.domain false Rows.textPrintsUptoRow.laid) (((Rows.OpenSpec.upto Rows.textPrintsSpec).at F).post enc Tryz.prog Tryz.f3 false true false false) := by
 refine returnsInHanded_of_row (C := Tryz.checked) (s := Rows.OpenSpec.upto Rows.textPrintsSpec) own started (by kernel_rfl) Tryz.func3 (prints_witness os enc) ?_
 intro W base args ds gs before hval0 hW0 _ hcond hsz0 hL _ _
 have hW : DataW.Whole enc Tryz.prog Tryz.f3.params.toList Rows.textPrintsSpec.vars false W args.toList ds gs before := hW0
 have hval : ∀ (j : Nat) t v, Tryz.f3.params[j]? = some t -> args[j]? = some v -> Value.okWide Tryz.prog W .any base t v := hval0
 have hW' := hW
 obtain ⟨p, q, hA0, hV, rfl, _, _⟩ := hW
 have hA : DataW.TrodAll enc Tryz.prog W 0 (fun _ => true) true [22, 22, 3, 3, 3, 25] args.toList ds p := hA0
 obtain ⟨v0, v1, v2, v3, v4, v5, d0, d1, d2, d3, d4, d5, p0, p1, p2, p3, p4, p5, rfl, rfl, rfl, h0, h1, h2, h3, h4, h5⟩ := trodAll_six hA
 obtain ⟨rfl, rfl⟩ := trodVars_none hV
 simp only [List.append_nil] at hW' hcond
 have hbulk : Rows.uptoBulkAll [d0, d1, d2, d3, d4, d5] <= 1048576 := of_decide_eq_true (hcond _ rfl)
 obtain ⟨y0, k0, s0⟩ := rd_one (h := rd22) rfl (hval 0 22 v0 rfl rfl) h0
 obtain ⟨y1, k1, s1⟩ := rd_one (h := rd22) rfl (hval 1 22 v1 rfl rfl) h1
 obtain ⟨y2, k2, s2⟩ := rd_one (h := rd3) rfl (hval 2 3 v2 rfl rfl) h2
 obtain ⟨y3, k3, s3⟩ := rd_one (h := rd3) rfl (hval 3 3 v3 rfl rfl) h3
 obtain ⟨y4, k4, s4⟩ := rd_one (h := rd3) rfl (hval 4 3 v4 rfl rfl) h4
 obtain ⟨y5, ⟨k5, o5⟩, s5⟩ := nd_arg h5
 have k5 : Qe y5 <= 1048576 := Nat.le_trans k5 (Nat.le_trans (bulk_part (by simp)) hbulk)
 have hlt : ∀ x ∈ p0 ++ p1 ++ p2 ++ p3 ++ p4 ++ p5, x.block < W.heap.size := fun x hx => by simpa using hW'.lt x (by simpa using hx)
 have hargs : ∀ {t : TypeId} {v : Value} {d : DataW H} {ps : List MemPlace} (W' : World), Below W.heap.size W W' -> Tryz.prog.readableRec t = true -> t < Tryz.prog.types.size -> DataW.Trod enc Tryz.prog W 0 (fun _ => true) true t v d ps -> (∀ x ∈ ps, x.block < W.heap.size) -> DataW.Trod enc Tryz.prog W' 0 (fun b => decide (b < W.heap.size)) true t v d ps :=
  fun W' hn h1 h2 h3 h4 => Below.trod laidOut h1 h2 h3 hn h4
 have hvs : ∀ L, Sees W L -> VReps L [Qt y0, Qt y1, .i y2, .i y3, .i y4, .agg (Enc.enc y5)] #[v0, v1, v2, v3, v4, v5] := fun L hL => ⟨rfl, fun j d hj => by
  match j, hj with
  | 0, hj => cases hj;exact s0 L hL _ rfl
  | 1, hj => cases hj;exact s1 L hL _ rfl
  | 2, hj => cases hj;exact s2 L hL _ rfl
  | 3, hj => cases hj;exact s3 L hL _ rfl
  | 4, hj => cases hj;exact s4 L hL _ rfl
  | 5, hj => cases hj;exact s5 L hL
  | j + 6, hj => simp at hj⟩
 have hof := of_laid (l := laid10) (by kernel_rfl) (by kernel_rfl) (by kernel_rfl) hL
 refine (law_callsG (prints_c (G := G016) rfl rfl rfl y0 y1 y2 y3 y4 y5 k0 k1 k2 k3 k4 o5 k5) hvs hof.1 hof.2).mono ?_
 rintro e W' ⟨rfl, hb⟩
 refine ⟨_, rfl, ?_⟩
 show Rows.textPrintsSpec.post enc Tryz.prog Tryz.f3 false true false false W _ _ W'
 refine ⟨_, _, _, [], (((((p0 ++ p1) ++ p2) ++ p3) ++ p4) ++ p5), [], hW', ?_, ?_, rfl, hb.frame _, fun h => by cases h⟩
 ·exact trodAll_mk1 (shut_bool (by kernel_rfl) true)
 ·exact trodAll_mk6 (hargs W' hb (by kernel_rfl) (of_decide_eq_true (by kernel_rfl)) h0 (fun x hx => hlt x (by simp [hx]))) (hargs W' hb (by kernel_rfl) (of_decide_eq_true (by kernel_rfl)) h1 (fun x hx => hlt x (by simp [hx]))) (hargs W' hb (by kernel_rfl) (of_decide_eq_true (by kernel_rfl)) h2 (fun x hx => hlt x (by simp [hx]))) (hargs W' hb (by kernel_rfl) (of_decide_eq_true (by kernel_rfl)) h3 (fun x hx => hlt x (by simp [hx]))) (hargs W' hb (by kernel_rfl) (of_decide_eq_true (by kernel_rfl)) h4 (fun x hx => hlt x (by simp [hx]))) (hargs W' hb (by kernel_rfl) (of_decide_eq_true (by kernel_rfl)) h5 (fun x hx => hlt x (by simp [hx])))
theorem textPrints_said : Rows.TextPrintsUptoSaid :=
 OpenClaim.holds_of_cond 3 Tryz.f3 rfl rfl rfl rfl rfl rfl rfl ⟨rfl, rfl, rfl, rfl, rfl⟩ rfl rfl rfl rfl rfl (by kernel_rfl) Tryz.func3 (by kernel_rfl)
  (of_decide_eq_true (by kernel_rfl)) (by unfold Func.isWrapper;first|(rw [if_pos (by decide +kernel)];kernel_rfl)|(rw [if_neg (by decide +kernel)];exact ⟨rfl, rfl⟩))
  (fun os started H enc _ F => by rw [OpenClaim.pre_eq_preRow];exact textPrints_lifted os started H enc F)
theorem textPrints_holds : Rows.TextPrintsUptoCardSaid :=
 Claim7.holds_tied_plain_at .later [] [.data, .data, .data, .data, .widerDeep, .sentinel, .sentinel, .listed, .data, .pinned] true (true, "ce8f576b92702dfdfea5aee54a13d26dab5ed9bfe3a7ea8535f1d48bb08681b6") true
  textPrints_said (fun _ h => by cases h) (by kernel_rfl) (fun _ h => by cases h) textPrintsUpto_row_tie rfl ⟨rfl, rfl⟩ (by kernel_rfl) rfl
  (fun f fn hf hfn => by
   obtain rfl : f = 3 := Option.some.inj ((show Tryz.prog.funcNamed "scoria/scorialaw06.TextPrints" = some 3 by kernel_rfl).symm.trans hf) |>.symm
   obtain rfl : fn = Tryz.f3 := (Option.some.inj (Tryz.func3.symm.trans hfn)).symm
   exact ⟨by kernel_rfl, fun j t ht => by
    rw [Tryz.params3] at ht
    have hm : t ∈ [22, 22, 3, 3, 3, 25] := by simpa using Array.mem_of_getElem? ht
    have hall : ([22, 22, 3, 3, 3, 25].all fun u => !Tryz.prog.wantsStandIn u) = true := by kernel_rfl
    exact (show Tryz.prog.wantsStandIn t = false by simpa using List.all_eq_true.1 hall t hm)⟩)
  (by kernel_rfl)
#print axioms textPrints_holds
end Go.Proofs.YtnppaoeijmgneaaGreatDoor
end
