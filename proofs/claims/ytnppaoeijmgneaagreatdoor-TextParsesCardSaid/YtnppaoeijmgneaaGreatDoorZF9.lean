/-
  TextParses: for every input the call returns true, and each argument reads behind the call as it read before.
  (The last part of the proof: RU YF.)
-/
import Derived.Test.YtnppaoeijmgneaaGreatDoorCards
import Derived.Test.YtnppaoeijmgneaaGreatDoorTie
import Derived.SevenTiedAt
import Derived.Lay
import Derived.Test.YtnppaoeijmgneaaGreatDoorZF7
import Derived.Test.YtnppaoeijmgneaaGreatDoorZF8
set_option linter.unusedSimpArgs false
set_option linter.unusedVariables false
set_option maxRecDepth 100000
section
namespace Go.RowKit
open Go.ChangeShapes
section
variable {H : Type} {enc : TypeId × Value -> H} {P : Program} {w : World} {base : Nat} {spare : Nat -> Bool} {held : Bool}
theorem trodAll_mk5 {t t' t'' t3 t4 : TypeId} {v v' v'' v3 v4 : Value} {d d' d'' d3 d4 : DataW H} {p p' p'' p3 p4 : List MemPlace} (h : DataW.Trod enc P w base spare held t v d p) (h' : DataW.Trod enc P w base spare held t' v' d' p')
  (h'' : DataW.Trod enc P w base spare held t'' v'' d'' p'') (h3 : DataW.Trod enc P w base spare held t3 v3 d3 p3) (h4 : DataW.Trod enc P w base spare held t4 v4 d4 p4) : DataW.TrodAll enc P w base spare held [t, t', t'', t3, t4] [v, v', v'', v3, v4] [d, d', d'', d3, d4] (p ++ p' ++ p'' ++ p3 ++ p4) :=
 ⟨p, p' ++ (p'' ++ (p3 ++ p4)), h, trodAll_mk4 h' h'' h3 h4, by simp⟩
theorem trodAll_six {t t' t'' t3 t4 t5 : TypeId} {args : Array Value} {ds : List (DataW H)} {ps : List MemPlace} (h : DataW.TrodAll enc P w base spare held [t, t', t'', t3, t4, t5] args.toList ds ps) :
  ∃ v v' v'' v3 v4 v5 d d' d'' d3 d4 d5 p p' p'' p3 p4 p5, args = #[v, v', v'', v3, v4, v5] /\ ds = [d, d', d'', d3, d4, d5] /\ ps = p ++ p' ++ p'' ++ p3 ++ p4 ++ p5 /\ DataW.Trod enc P w base spare held t v d p /\ DataW.Trod enc P w base spare held t' v' d' p' /\ DataW.Trod enc P w base spare held t'' v'' d'' p'' /\ DataW.Trod enc P w base spare held t3 v3 d3 p3 /\ DataW.Trod enc P w base spare held t4 v4 d4 p4 /\ DataW.Trod enc P w base spare held t5 v5 d5 p5 := by
 obtain ⟨v, vs, d, ds', p, q, hargs, rfl, rfl, hd, hrest⟩ := trodAll_cons h
 obtain ⟨v', vs', d', ds'', p', q', rfl, rfl, rfl, hd', hrest'⟩ := trodAll_cons hrest
 obtain ⟨v'', vs'', d'', ds''', p'', q'', rfl, rfl, rfl, hd'', hrest''⟩ := trodAll_cons hrest'
 obtain ⟨v3, vs3, d3, ds3, p3, q3, rfl, rfl, rfl, hd3, hrest3⟩ := trodAll_cons hrest''
 obtain ⟨v4, vs4, d4, ds4, p4, q4, rfl, rfl, rfl, hd4, hrest4⟩ := trodAll_cons hrest3
 obtain ⟨v5, vs5, d5, ds5, p5, q5, rfl, rfl, rfl, hd5, hrest5⟩ := trodAll_cons hrest4
 obtain ⟨rfl, rfl, rfl⟩ := trodAll_nil hrest5
 exact ⟨v, v', v'', v3, v4, v5, d, d', d'', d3, d4, d5, p, p', p'', p3, p4, p5, by cases args;simp_all, rfl, by simp, hd, hd', hd'', hd3, hd4, hd5⟩
theorem trodAll_mk6 {t t' t'' t3 t4 t5 : TypeId} {v v' v'' v3 v4 v5 : Value} {d d' d'' d3 d4 d5 : DataW H} {p p' p'' p3 p4 p5 : List MemPlace} (h : DataW.Trod enc P w base spare held t v d p) (h' : DataW.Trod enc P w base spare held t' v' d' p')
  (h'' : DataW.Trod enc P w base spare held t'' v'' d'' p'') (h3 : DataW.Trod enc P w base spare held t3 v3 d3 p3) (h4 : DataW.Trod enc P w base spare held t4 v4 d4 p4) (h5 : DataW.Trod enc P w base spare held t5 v5 d5 p5) : DataW.TrodAll enc P w base spare held [t, t', t'', t3, t4, t5] [v, v', v'', v3, v4, v5] [d, d', d'', d3, d4, d5] (p ++ p' ++ p'' ++ p3 ++ p4 ++ p5) :=
 ⟨p, p' ++ p'' ++ p3 ++ p4 ++ p5, h, trodAll_mk5 h' h'' h3 h4 h5, by simp⟩
end
end Go.RowKit
namespace Go.Proofs.YtnppaoeijmgneaaGreatDoor
open Go.ChangeShapes Go.WideShapes Go.ChangeAt Go.RowKit Go.Av Go.Proofs
theorem rd22 : Rd Tryz.prog 22 (List Int) (fun l => l.length <= 9223372036854775807 /\ ∀ x ∈ l, I64 x) := rd_slice (e := 3) (ht := inferInstance) (he := (inferInstance : TyI Tryz.prog 3 (.int .i64) false 1)) (hr := rd_int)
theorem rd3 : Rd Tryz.prog 3 Int I64 := rd_int
theorem rd9 : Rd Tryz.prog 9 ByteArray (fun s => s.size <= 9223372036854775807) := rd_string
theorem own : ownKnob Tryz.prog.godebug = none := by kernel_rfl
theorem laidOut : laidOutB Tryz.prog = true := by kernel_rfl
abbrev laid10 : List (String × DataW Unit) := [("math/bits.deBruijn32tab", Rows.laid_math_bits_deBruijn32tab), ("math/bits.deBruijn64tab", Rows.laid_math_bits_deBruijn64tab), ("internal/strconv.uint64pow10", Rows.laid_internal_strconv_uint64pow10), ("unicode/utf8.acceptRanges", Rows.laid_unicode_utf8_acceptRanges), ("scoria/tree.shapes", Rows.laid_scoria_tree_shapes), ("strconv.ErrRange", Rows.laid_strconv_ErrRange), ("strconv.ErrSyntax", Rows.laid_strconv_ErrSyntax), ("unicode.White_Space", Rows.laid_unicode_White_Space), ("strings.asciiSpace", Rows.laid_strings_asciiSpace), ("unicode/utf8.first", Rows.laid_unicode_utf8_first)]
end Go.Proofs.YtnppaoeijmgneaaGreatDoor
end
section
namespace Go.Proofs.YtnppaoeijmgneaaGreatDoor
open Go.ChangeShapes Go.WideShapes Go.ChangeAt Go.RowKit Go.Av Go.Proofs
theorem textParses_lifted (os : Os) (started : os.Started) (H : Type) (enc : TypeId × Value -> H) :
  ReturnsInHanded {} Tryz.checked os 4 .any (fun w args => (Rows.textParsesSpec.pre enc Tryz.prog Tryz.f4 [] false w args /\ laidMetH Tryz.prog laid10 w) /\ sizedMet enc Tryz.prog Tryz.f4 (OpenSpec.ofChange Rows.textParsesSpec) false w args)
   (Rows.textParsesSpec.post enc Tryz.prog Tryz.f4 false true false false) := by
 refine returnsInHanded_of_change_and (C := Tryz.checked) (X := fun w _ => laidMetH Tryz.prog laid10 w) (fun _ _ _ hh h => h.of_heap hh) own started (by kernel_rfl) Tryz.func4
  (ChangeSpec.witness_shaped (enc := enc) (C := Tryz.checked) (os := os) (X := fun w _ => laidMetH Tryz.prog laid10 w) false (World.laidAll Tryz.prog os laid10) #[.slice none 0 0, .int .i64 0, .int .i64 0, .int .i64 0, .int .i64 0, .string ⟨#[]⟩] 8 (World.laidAll_os _ _ _)
   (World.shaped_of_ZipB (by kernel_rfl) (by kernel_rfl)) (by kernel_rfl) (by kernel_rfl) (by kernel_rfl)
   (by rw [MakeChecks.laidMetH_plain _ _ _ (by kernel_rfl)];exact laidMet_laidAll _ (by kernel_rfl) (by kernel_rfl))) ?_
 intro W base args ds gs before hval0 hW _ hsz0 hL _
 have hval : ∀ (j : Nat) t v, Tryz.f4.params[j]? = some t -> args[j]? = some v -> Value.okWide Tryz.prog W .any base t v := hval0
 have hW' := hW
 obtain ⟨p, q, hA0, hV, rfl, _, _⟩ := hW
 have hA : DataW.TrodAll enc Tryz.prog W 0 (fun _ => true) true [22, 3, 3, 3, 3, 9] args.toList ds p := hA0
 obtain ⟨v0, v1, v2, v3, v4, v5, d0, d1, d2, d3, d4, d5, p0, p1, p2, p3, p4, p5, rfl, rfl, rfl, h0, h1, h2, h3, h4, h5⟩ := trodAll_six hA
 obtain ⟨rfl, rfl⟩ := trodVars_none hV
 simp only [List.append_nil] at hW'
 obtain ⟨y0, k0, r0⟩ := rd_one (h := rd22) rfl (hval 0 22 v0 rfl rfl) h0
 obtain ⟨y1, k1, r1⟩ := rd_one (h := rd3) rfl (hval 1 3 v1 rfl rfl) h1
 obtain ⟨y2, k2, r2⟩ := rd_one (h := rd3) rfl (hval 2 3 v2 rfl rfl) h2
 obtain ⟨y3, k3, r3⟩ := rd_one (h := rd3) rfl (hval 3 3 v3 rfl rfl) h3
 obtain ⟨y4, k4, r4⟩ := rd_one (h := rd3) rfl (hval 4 3 v4 rfl rfl) h4
 obtain ⟨y5, k5, r5⟩ := rd_one (h := rd9) rfl (hval 5 9 v5 rfl rfl) h5
 have hlt : ∀ x ∈ p0 ++ p1 ++ p2 ++ p3 ++ p4 ++ p5, x.block < W.heap.size := fun x hx => by simpa using hW'.lt x (by simpa using hx)
 have hargs : ∀ {t : TypeId} {v : Value} {d : DataW H} {ps : List MemPlace} (W' : World), Below W.heap.size W W' -> Tryz.prog.readableRec t = true -> t < Tryz.prog.types.size -> DataW.Trod enc Tryz.prog W 0 (fun _ => true) true t v d ps -> (∀ x ∈ ps, x.block < W.heap.size) -> DataW.Trod enc Tryz.prog W' 0 (fun b => decide (b < W.heap.size)) true t v d ps :=
  fun W' hn h1 h2 h3 h4 => Below.trod laidOut h1 h2 h3 hn h4
 have hvs : ∀ L, Sees W L -> VReps L [Qo y0, .i y1, .i y2, .i y3, .i y4, .sc (.string y5)] #[v0, v1, v2, v3, v4, v5] := fun L hL => ⟨rfl, fun j d hj => by
  cases j with
  | zero => cases hj;exact r0 L hL _ rfl
  | succ j =>
  cases j with
  | zero => cases hj;exact r1 L hL _ rfl
  | succ j =>
  cases j with
  | zero => cases hj;exact r2 L hL _ rfl
  | succ j =>
  cases j with
  | zero => cases hj;exact r3 L hL _ rfl
  | succ j =>
  cases j with
  | zero => cases hj;exact r4 L hL _ rfl
  | succ j =>
  cases j with
  | zero => cases hj;exact r5 L hL _ rfl
  | succ j =>
  simp at hj⟩
 have hof := of_laid (l := laid10) (by kernel_rfl) (by kernel_rfl) (by kernel_rfl) hL
 refine (law_callsG (parses_b (G := G016) rfl rfl rfl y0 y1 y2 y3 y4 y5 k0 k1 k2 k3 k4 k5) hvs hof.1 hof.2).mono ?_
 rintro e W' ⟨rfl, hb⟩
 refine ⟨_, rfl, _, _, _, [], (((((p0 ++ p1) ++ p2) ++ p3) ++ p4) ++ p5), [], hW', ?_, ?_, rfl, hb.frame _, fun h => by cases h⟩
 ·exact trodAll_mk1 (shut_bool (by kernel_rfl) true)
 ·exact trodAll_mk6 (hargs W' hb (by kernel_rfl) (of_decide_eq_true (by kernel_rfl)) h0 (fun x hx => hlt x (by simp [hx]))) (hargs W' hb (by kernel_rfl) (of_decide_eq_true (by kernel_rfl)) h1 (fun x hx => hlt x (by simp [hx]))) (hargs W' hb (by kernel_rfl) (of_decide_eq_true (by kernel_rfl)) h2 (fun x hx => hlt x (by simp [hx]))) (hargs W' hb (by kernel_rfl) (of_decide_eq_true (by kernel_rfl)) h3 (fun x hx => hlt x (by simp [hx]))) (hargs W' hb (by kernel_rfl) (of_decide_eq_true (by kernel_rfl)) h4 (fun x hx => hlt x (by simp [hx]))) (hargs W' hb (by kernel_rfl) (of_decide_eq_true (by kernel_rfl)) h5 (fun x hx => hlt x (by simp [hx])))
theorem textParses_said : Rows.TextParsesSaid :=
 OpenClaim.holds_of_wide 4 Tryz.f4 rfl rfl rfl rfl rfl rfl rfl ⟨rfl, rfl, rfl, rfl, rfl⟩ rfl rfl rfl rfl rfl (by kernel_rfl) Tryz.func4 (by kernel_rfl)
  (of_decide_eq_true (by kernel_rfl)) (by unfold Func.isWrapper;first|(rw [if_pos (by decide +kernel)];kernel_rfl)|(rw [if_neg (by decide +kernel)];exact ⟨rfl, rfl⟩))
  (fun os started H enc _ => textParses_lifted os started H enc)
theorem textParses_holds : Rows.TextParsesCardSaid :=
 Claim7.holds_tied_plain_at .later [] [.data, .data, .data, .data, .widerDeep, .sentinel, .sentinel, .listed, .data, .pinned] true (true, "ce8f576b92702dfdfea5aee54a13d26dab5ed9bfe3a7ea8535f1d48bb08681b6") true
  textParses_said (fun _ h => by cases h) (by kernel_rfl) (fun _ h => by cases h) textParses_row_tie rfl ⟨rfl, rfl⟩ (by kernel_rfl) rfl
  (fun f fn hf hfn => by
   obtain rfl : f = 4 := Option.some.inj ((show Tryz.prog.funcNamed "scoria/scorialaw06.TextParses" = some 4 by kernel_rfl).symm.trans hf) |>.symm
   obtain rfl : fn = Tryz.f4 := (Option.some.inj (Tryz.func4.symm.trans hfn)).symm
   exact ⟨by kernel_rfl, fun j t ht => by
    rw [Tryz.params4] at ht
    have hm : t ∈ [22, 3, 3, 3, 3, 9] := by simpa using Array.mem_of_getElem? ht
    have hall : ([22, 3, 3, 3, 3, 9].all fun u => !Tryz.prog.wantsStandIn u) = true := by kernel_rfl
    exact (show Tryz.prog.wantsStandIn t = false by simpa using List.all_eq_true.1 hall t hm)⟩)
  (by kernel_rfl)
#print axioms textParses_holds
end Go.Proofs.YtnppaoeijmgneaaGreatDoor
end
