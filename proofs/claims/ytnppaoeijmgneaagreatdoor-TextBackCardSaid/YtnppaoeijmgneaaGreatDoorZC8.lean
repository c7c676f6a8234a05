/-
  TextBack: for every input the call returns true, and each argument reads behind the call as it read before.
  (The last part of the proof: RU YC.)
-/
import Derived.Test.YtnppaoeijmgneaaGreatDoorCards
import Derived.Test.YtnppaoeijmgneaaGreatDoorTie
import Derived.SevenTiedAt
import Derived.Lay
import Derived.Test.YtnppaoeijmgneaaGreatDoorZC7
set_option linter.unusedSimpArgs false
set_option linter.unusedVariables false
set_option maxRecDepth 100000
section
namespace Go.RowKit
open Go.ChangeShapes
section
variable {H : Type} {enc : TypeId × Value -> H} {P : Program} {w : World} {base : Nat} {spare : Nat -> Bool} {held : Bool}
end
end Go.RowKit
namespace Go.Proofs.YtnppaoeijmgneaaGreatDoor
open Go.ChangeShapes Go.WideShapes Go.ChangeAt Go.RowKit Go.Av Go.Proofs
theorem rd22 : Rd Tryz.prog 22 (List Int) (fun l => l.length <= 9223372036854775807 /\ ∀ x ∈ l, I64 x) := rd_slice (e := 3) (ht := inferInstance) (he := (inferInstance : TyI Tryz.prog 3 (.int .i64) false 1)) (hr := rd_int)
theorem own : ownKnob Tryz.prog.godebug = none := by kernel_rfl
theorem laidOut : laidOutB Tryz.prog = true := by kernel_rfl
abbrev laid10 : List (String × DataW Unit) := [("math/bits.deBruijn32tab", Rows.laid_math_bits_deBruijn32tab), ("math/bits.deBruijn64tab", Rows.laid_math_bits_deBruijn64tab), ("internal/strconv.uint64pow10", Rows.laid_internal_strconv_uint64pow10), ("unicode/utf8.acceptRanges", Rows.laid_unicode_utf8_acceptRanges), ("scoria/tree.shapes", Rows.laid_scoria_tree_shapes), ("strconv.ErrRange", Rows.laid_strconv_ErrRange), ("strconv.ErrSyntax", Rows.laid_strconv_ErrSyntax), ("unicode.White_Space", Rows.laid_unicode_White_Space), ("strings.asciiSpace", Rows.laid_strings_asciiSpace), ("unicode/utf8.first", Rows.laid_unicode_utf8_first)]
end Go.Proofs.YtnppaoeijmgneaaGreatDoor
end
section
namespace Go.Proofs.YtnppaoeijmgneaaGreatDoor
open Go.ChangeShapes Go.WideShapes Go.ChangeAt Go.RowKit Go.Av Go.Proofs
theorem textBack_lifted (os : Os) (started : os.Started) (H : Type) (enc : TypeId × Value -> H) :
  ReturnsInHanded {} Tryz.checked os 8 .any (fun w args => (Rows.textBackSpec.pre enc Tryz.prog Tryz.f8 [] false w args /\ laidMetH Tryz.prog laid10 w) /\ sizedMet enc Tryz.prog Tryz.f8 (OpenSpec.ofChange Rows.textBackSpec) false w args)
   (Rows.textBackSpec.post enc Tryz.prog Tryz.f8 false true false false) := by
 refine returnsInHanded_of_change_and (C := Tryz.checked) (X := fun w _ => laidMetH Tryz.prog laid10 w) (fun _ _ _ hh h => h.of_heap hh) own started (by kernel_rfl) Tryz.func8
  (ChangeSpec.witness_shaped (enc := enc) (C := Tryz.checked) (os := os) (X := fun w _ => laidMetH Tryz.prog laid10 w) false (World.laidAll Tryz.prog os laid10) #[.slice none 0 0, .slice none 0 0] 8 (World.laidAll_os _ _ _)
   (World.shaped_of_ZipB (by kernel_rfl) (by kernel_rfl)) (by kernel_rfl) (by kernel_rfl) (by kernel_rfl)
   (by rw [MakeChecks.laidMetH_plain _ _ _ (by kernel_rfl)]; exact laidMet_laidAll _ (by kernel_rfl) (by kernel_rfl))) ?_
 intro W base args ds gs before hval0 hW _ hsz0 hL _
 have hval : ∀ (j : Nat) t v, Tryz.f8.params[j]? = some t -> args[j]? = some v -> Value.okWide Tryz.prog W .any base t v := hval0
 have hW' := hW
 obtain ⟨p, q, hA0, hV, rfl, _, _⟩ := hW
 have hA : DataW.TrodAll enc Tryz.prog W 0 (fun _ => true) true [22, 22] args.toList ds p := hA0
 obtain ⟨v0, v1, d0, d1, p0, p1, rfl, rfl, rfl, h0, h1⟩ := trodAll_two hA
 obtain ⟨rfl, rfl⟩ := trodVars_none hV
 simp only [List.append_nil] at hW'
 obtain ⟨y0, k0, r0⟩ := rd_one (h := rd22) rfl (hval 0 22 v0 rfl rfl) h0
 obtain ⟨y1, k1, r1⟩ := rd_one (h := rd22) rfl (hval 1 22 v1 rfl rfl) h1
 have hlt : ∀ x ∈ p0 ++ p1, x.block < W.heap.size := fun x hx => by simpa using hW'.lt x (by simpa using hx)
 have hargs : ∀ {t : TypeId} {v : Value} {d : DataW H} {ps : List MemPlace} (W' : World), Below W.heap.size W W' -> Tryz.prog.readableRec t = true -> t < Tryz.prog.types.size -> DataW.Trod enc Tryz.prog W 0 (fun _ => true) true t v d ps -> (∀ x ∈ ps, x.block < W.heap.size) -> DataW.Trod enc Tryz.prog W' 0 (fun b => decide (b < W.heap.size)) true t v d ps :=
  fun W' hn h1 h2 h3 h4 => Below.trod laidOut h1 h2 h3 hn h4
 have hvs : ∀ L, Sees W L -> VReps L [Q5 y0, Q5 y1] #[v0, v1] := fun L hL => ⟨rfl, fun j d hj => by
  cases j with
  | zero => cases hj; exact r0 L hL _ rfl
  | succ j =>
  cases j with
  | zero => cases hj; exact r1 L hL _ rfl
  | succ j =>
  simp at hj⟩
 have hof := of_laid (l := laid10) (by kernel_rfl) (by kernel_rfl) (by kernel_rfl) hL
 refine (law_callsG (back_c (G := G016) rfl rfl rfl y0 y1 k0 k1) hvs hof.1 hof.2).mono ?_
 rintro e W' ⟨rfl, hb⟩
 refine ⟨_, rfl, _, _, _, [], (p0 ++ p1), [], hW', ?_, ?_, rfl, hb.frame _, fun h => by cases h⟩
 ·exact trodAll_mk1 (shut_bool (by kernel_rfl) true)
 ·exact trodAll_mk2 (hargs W' hb (by kernel_rfl) (of_decide_eq_true (by kernel_rfl)) h0 (fun x hx => hlt x (by simp [hx]))) (hargs W' hb (by kernel_rfl) (of_decide_eq_true (by kernel_rfl)) h1 (fun x hx => hlt x (by simp [hx])))
theorem textBack_said : Rows.TextBackSaid :=
 OpenClaim.holds_of_wide 8 Tryz.f8 rfl rfl rfl rfl rfl rfl rfl ⟨rfl, rfl, rfl, rfl, rfl⟩ rfl rfl rfl rfl rfl (by kernel_rfl) Tryz.func8 (by kernel_rfl)
  (of_decide_eq_true (by kernel_rfl)) (by unfold Func.isWrapper; first | (rw [if_pos (by decide +kernel)]; kernel_rfl) | (rw [if_neg (by decide +kernel)]; exact ⟨rfl, rfl⟩))
  (fun os started H enc _ => textBack_lifted os started H enc)
theorem textBack_holds : Rows.TextBackCardSaid :=
 Claim7.holds_tied_plain_at .later [] [.data, .data, .data, .data, .widerDeep, .sentinel, .sentinel, .listed, .data, .pinned] true (true, "ce8f576b92702dfdfea5aee54a13d26dab5ed9bfe3a7ea8535f1d48bb08681b6") true
  textBack_said (fun _ h => by cases h) (by kernel_rfl) (fun _ h => by cases h) textBack_row_tie rfl ⟨rfl, rfl⟩ (by kernel_rfl) rfl
  (fun f fn hf hfn => by
   obtain rfl : f = 8 := Option.some.inj ((show Tryz.prog.funcNamed "scoria/scorialaw06.TextBack" = some 8 by kernel_rfl).symm.trans hf) |>.symm
   obtain rfl : fn = Tryz.f8 := (Option.some.inj (Tryz.func8.symm.trans hfn)).symm
   exact ⟨by kernel_rfl, fun j t ht => by
    rw [Tryz.params8] at ht
    have hm : t ∈ [22, 22] := by simpa using Array.mem_of_getElem? ht
    have hall : ([22, 22].all fun u => !Tryz.prog.wantsStandIn u) = true := by kernel_rfl
    exact (show Tryz.prog.wantsStandIn t = false by simpa using List.all_eq_true.1 hall t hm)⟩)
  (by kernel_rfl)
#print axioms textBack_holds
end Go.Proofs.YtnppaoeijmgneaaGreatDoor
end
