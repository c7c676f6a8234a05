/-
  NARROWER THAN 'FOR EVERY INPUT', by the rows' own cells (each row's printed sentence says how): BlastForms: loops, laid · BlastExact: laid · BlastFollows: laid · BlastValues: laid · BlastModels: laid.
  DERIVED. THE GIVEN ROWS OF THIS SEAT. 5 by the template 'for every input the law returns true; each argument reads behind the call as it read before'; 0 by the template 'total and deterministic' (their statements: YtecbcpilcjmhlaaDoorTotals.lean).
  GIVEN WITH THE SEED: the statements are not yours to turn. If you find one false, say at which input.
  Laid BY PROGRAM, IN A SANDBOX (cutbox-rows.mjs): the forced cells as the released guide's own fill.sh prints them over the translation 5df2ec57a621303f… (all of the seat's roots in one cut). By AI agents, Wed Nov 11 2026. No macro, syntax, notation, axiom, sorry.
-/
import Derived.Test.YtecbcpilcjmhlaaDoorChecked
import GoSem.Claim
import GoSem.ClaimJoined
import GoSem.ClaimMapViews
import Derived.JoinedTies
import Derived.KernelRfl
namespace Go.Proofs.YtecbcpilcjmhlaaDoor
/- THE CELL 'sum', in the pinned program and in every row, IS THE sha256 OF THE DUMP (.gsa) THAT YtecbcpilcjmhlaaDoorProg.lean LOADS. Nothing in Lean hashes anything: it is a label: what it is worth is what the hold of that sum in a sandbox is worth. -/
noncomputable def Tryd.pinned : Pinned := { name := "ytecbcpilcjmhlaadoor", sum := "5df2ec57a621303f645c66fb03c8a370756eb13d2266a1c049f067e313344003", checked := Tryd.checked }
namespace Rows
def none {H : Type} : Left H := { results := [], args := [] }

/- WHAT THE LISTED PACKAGE-LEVEL VARIABLES READ AS WHEN THE CALL BEGINS. Each datum BY PROGRAM (the guide's laid-datum.mjs) off the statement by which the dump's own 'gosem.cut.vars' lays the variable. In a bare row this is a premise. The card (YtecbcpilcjmhlaaDoorCards.lean) ties it to the program's text. -/
def laid_math_bits_deBruijn32tab {H : Type} : DataW H := .agg [.lit (.int .u8 0), .lit (.int .u8 1), .lit (.int .u8 28), .lit (.int .u8 2), .lit (.int .u8 29), .lit (.int .u8 14), .lit (.int .u8 24), .lit (.int .u8 3), .lit (.int .u8 30), .lit (.int .u8 22), .lit (.int .u8 20), .lit (.int .u8 15), .lit (.int .u8 25), .lit (.int .u8 17), .lit (.int .u8 4), .lit (.int .u8 8), .lit (.int .u8 31), .lit (.int .u8 27), .lit (.int .u8 13), .lit (.int .u8 23), .lit (.int .u8 21), .lit (.int .u8 19), .lit (.int .u8 16), .lit (.int .u8 7), .lit (.int .u8 26), .lit (.int .u8 12), .lit (.int .u8 18), .lit (.int .u8 6), .lit (.int .u8 11), .lit (.int .u8 5), .lit (.int .u8 10), .lit (.int .u8 9)]
def laid_math_bits_deBruijn64tab {H : Type} : DataW H := .agg [.lit (.int .u8 0), .lit (.int .u8 1), .lit (.int .u8 56), .lit (.int .u8 2), .lit (.int .u8 57), .lit (.int .u8 49), .lit (.int .u8 28), .lit (.int .u8 3), .lit (.int .u8 61), .lit (.int .u8 58), .lit (.int .u8 42), .lit (.int .u8 50), .lit (.int .u8 38), .lit (.int .u8 29), .lit (.int .u8 17), .lit (.int .u8 4), .lit (.int .u8 62), .lit (.int .u8 47), .lit (.int .u8 59), .lit (.int .u8 36), .lit (.int .u8 45), .lit (.int .u8 43), .lit (.int .u8 51), .lit (.int .u8 22), .lit (.int .u8 53), .lit (.int .u8 39), .lit (.int .u8 33), .lit (.int .u8 30), .lit (.int .u8 24), .lit (.int .u8 18), .lit (.int .u8 12), .lit (.int .u8 5), .lit (.int .u8 63), .lit (.int .u8 55), .lit (.int .u8 48), .lit (.int .u8 27), .lit (.int .u8 60), .lit (.int .u8 41), .lit (.int .u8 37), .lit (.int .u8 16), .lit (.int .u8 46), .lit (.int .u8 35), .lit (.int .u8 44), .lit (.int .u8 21), .lit (.int .u8 52), .lit (.int .u8 32), .lit (.int .u8 23), .lit (.int .u8 11), .lit (.int .u8 54), .lit (.int .u8 26), .lit (.int .u8 40), .lit (.int .u8 15), .lit (.int .u8 34), .lit (.int .u8 20), .lit (.int .u8 31), .lit (.int .u8 10), .lit (.int .u8 25), .lit (.int .u8 14), .lit (.int .u8 19), .lit (.int .u8 9), .lit (.int .u8 13), .lit (.int .u8 8), .lit (.int .u8 7), .lit (.int .u8 6)]
def laid_internal_strconv_uint64pow10 {H : Type} : DataW H := .agg [.lit (.int .u64 1), .lit (.int .u64 10), .lit (.int .u64 100), .lit (.int .u64 1000), .lit (.int .u64 10000), .lit (.int .u64 100000), .lit (.int .u64 1000000), .lit (.int .u64 10000000), .lit (.int .u64 100000000), .lit (.int .u64 1000000000), .lit (.int .u64 10000000000), .lit (.int .u64 100000000000), .lit (.int .u64 1000000000000), .lit (.int .u64 10000000000000), .lit (.int .u64 100000000000000), .lit (.int .u64 1000000000000000), .lit (.int .u64 10000000000000000), .lit (.int .u64 100000000000000000), .lit (.int .u64 1000000000000000000), .lit (.int .u64 10000000000000000000)]
def laid_scoria_word_operations {H : Type} : DataW H := .iface "func table" (.agg [.agg [.iface "func" (.lit (.string [115, 99, 111, 114, 105, 97, 47, 119, 111, 114, 100, 46, 111, 112, 101, 114, 97, 116, 105, 111, 110, 115, 36, 49])), .lit (.bool false), .lit (.bool false)], .agg [.iface "func" (.lit (.string [115, 99, 111, 114, 105, 97, 47, 119, 111, 114, 100, 46, 111, 112, 101, 114, 97, 116, 105, 111, 110, 115, 36, 50])), .lit (.bool false), .lit (.bool false)], .agg [.iface "func" (.lit (.string [115, 99, 111, 114, 105, 97, 47, 119, 111, 114, 100, 46, 111, 112, 101, 114, 97, 116, 105, 111, 110, 115, 36, 51])), .lit (.bool false), .lit (.bool false)], .agg [.iface "func" (.lit (.string [115, 99, 111, 114, 105, 97, 47, 119, 111, 114, 100, 46, 111, 112, 101, 114, 97, 116, 105, 111, 110, 115, 36, 52])), .lit (.bool true), .lit (.bool false)], .agg [.iface "func" (.lit (.string [115, 99, 111, 114, 105, 97, 47, 119, 111, 114, 100, 46, 111, 112, 101, 114, 97, 116, 105, 111, 110, 115, 36, 53])), .lit (.bool true), .lit (.bool false)], .agg [.iface "func" (.lit (.string [115, 99, 111, 114, 105, 97, 47, 119, 111, 114, 100, 46, 111, 112, 101, 114, 97, 116, 105, 111, 110, 115, 36, 54])), .lit (.bool false), .lit (.bool false)], .agg [.iface "func" (.lit (.string [115, 99, 111, 114, 105, 97, 47, 119, 111, 114, 100, 46, 111, 112, 101, 114, 97, 116, 105, 111, 110, 115, 36, 55])), .lit (.bool false), .lit (.bool false)], .agg [.iface "func" (.lit (.string [115, 99, 111, 114, 105, 97, 47, 119, 111, 114, 100, 46, 111, 112, 101, 114, 97, 116, 105, 111, 110, 115, 36, 56])), .lit (.bool false), .lit (.bool false)], .agg [.iface "func" (.lit (.string [115, 99, 111, 114, 105, 97, 47, 119, 111, 114, 100, 46, 111, 112, 101, 114, 97, 116, 105, 111, 110, 115, 36, 57])), .lit (.bool false), .lit (.bool false)], .agg [.iface "func" (.lit (.string [115, 99, 111, 114, 105, 97, 47, 119, 111, 114, 100, 46, 111, 112, 101, 114, 97, 116, 105, 111, 110, 115, 36, 49, 48])), .lit (.bool false), .lit (.bool false)], .agg [.iface "func" (.lit (.string [115, 99, 111, 114, 105, 97, 47, 119, 111, 114, 100, 46, 111, 112, 101, 114, 97, 116, 105, 111, 110, 115, 36, 49, 49])), .lit (.bool false), .lit (.bool true)], .agg [.iface "func" (.lit (.string [115, 99, 111, 114, 105, 97, 47, 119, 111, 114, 100, 46, 111, 112, 101, 114, 97, 116, 105, 111, 110, 115, 36, 49, 50])), .lit (.bool false), .lit (.bool true)], .agg [.iface "func" (.lit (.string [115, 99, 111, 114, 105, 97, 47, 119, 111, 114, 100, 46, 111, 112, 101, 114, 97, 116, 105, 111, 110, 115, 36, 49, 51])), .lit (.bool false), .lit (.bool true)], .agg [.iface "func" (.lit (.string [115, 99, 111, 114, 105, 97, 47, 119, 111, 114, 100, 46, 111, 112, 101, 114, 97, 116, 105, 111, 110, 115, 36, 49, 52])), .lit (.bool false), .lit (.bool true)]])

/-- 'scorialaw21.BlastForms': WHATEVER THE INPUT: true; the input reads as it did. -/
def blastFormsSpec : ChangeSpec := { name := "blastForms", fn := fun _ => fun
  | [d1, d2, d3, d4, d5] => { results := [.lit (.bool true)], args := [d1, d2, d3, d4, d5] }
  | _ => none }
def blastFormsRow : OpenClaim := { program := "ytecbcpilcjmhlaadoor", sum := "5df2ec57a621303f645c66fb03c8a370756eb13d2266a1c049f067e313344003", func := "scoria/scorialaw21.BlastForms", spec := "blastForms", unfollowed := true, recurses := true, named := ["scoria/word.operations", "internal/strconv.uint64pow10", "math/bits.deBruijn32tab", "math/bits.deBruijn64tab"], loops := true, apart := false, laid := [("math/bits.deBruijn32tab", laid_math_bits_deBruijn32tab), ("math/bits.deBruijn64tab", laid_math_bits_deBruijn64tab), ("internal/strconv.uint64pow10", laid_internal_strconv_uint64pow10), ("scoria/word.operations", laid_scoria_word_operations)] }
def BlastFormsSaid : Prop := blastFormsRow.holds Tryd.pinned (OpenSpec.ofChange blastFormsSpec)

/-- ITS FALSE NEIGHBOUR: 'it returns false'. Refute it at one input. -/
def blastFormsWrong : ChangeSpec := { name := "blastForms", fn := fun _ => fun
  | [d1, d2, d3, d4, d5] => { results := [.lit (.bool false)], args := [d1, d2, d3, d4, d5] }
  | _ => none }
def BlastFormsWrongFalsely : Prop := blastFormsRow.holds Tryd.pinned (OpenSpec.ofChange blastFormsWrong)

/-- 'scorialaw21.BlastExact': WHATEVER THE INPUT: true; the input reads as it did. -/
def blastExactSpec : ChangeSpec := { name := "blastExact", fn := fun _ => fun
  | [d1, d2] => { results := [.lit (.bool true)], args := [d1, d2] }
  | _ => none }
def blastExactRow : OpenClaim := { program := "ytecbcpilcjmhlaadoor", sum := "5df2ec57a621303f645c66fb03c8a370756eb13d2266a1c049f067e313344003", func := "scoria/scorialaw21.BlastExact", spec := "blastExact", unfollowed := true, recurses := true, named := ["scoria/word.operations", "internal/strconv.uint64pow10", "math/bits.deBruijn32tab", "math/bits.deBruijn64tab"], apart := false, laid := [("math/bits.deBruijn32tab", laid_math_bits_deBruijn32tab), ("math/bits.deBruijn64tab", laid_math_bits_deBruijn64tab), ("internal/strconv.uint64pow10", laid_internal_strconv_uint64pow10), ("scoria/word.operations", laid_scoria_word_operations)] }
def BlastExactSaid : Prop := blastExactRow.holds Tryd.pinned (OpenSpec.ofChange blastExactSpec)

/-- ITS FALSE NEIGHBOUR: 'it returns false'. Refute it at one input. -/
def blastExactWrong : ChangeSpec := { name := "blastExact", fn := fun _ => fun
  | [d1, d2] => { results := [.lit (.bool false)], args := [d1, d2] }
  | _ => none }
def BlastExactWrongFalsely : Prop := blastExactRow.holds Tryd.pinned (OpenSpec.ofChange blastExactWrong)

/-- 'scorialaw21.BlastFollows': WHATEVER THE INPUT: true; the input reads as it did. -/
def blastFollowsSpec : ChangeSpec := { name := "blastFollows", fn := fun _ => fun
  | [d1, d2, d3] => { results := [.lit (.bool true)], args := [d1, d2, d3] }
  | _ => none }
def blastFollowsRow : OpenClaim := { program := "ytecbcpilcjmhlaadoor", sum := "5df2ec57a621303f645c66fb03c8a370756eb13d2266a1c049f067e313344003", func := "scoria/scorialaw21.BlastFollows", spec := "blastFollows", unfollowed := true, recurses := true, named := ["scoria/word.operations", "internal/strconv.uint64pow10", "math/bits.deBruijn32tab", "math/bits.deBruijn64tab"], apart := false, laid := [("math/bits.deBruijn32tab", laid_math_bits_deBruijn32tab), ("math/bits.deBruijn64tab", laid_math_bits_deBruijn64tab), ("internal/strconv.uint64pow10", laid_internal_strconv_uint64pow10), ("scoria/word.operations", laid_scoria_word_operations)] }
def BlastFollowsSaid : Prop := blastFollowsRow.holds Tryd.pinned (OpenSpec.ofChange blastFollowsSpec)

/-- ITS FALSE NEIGHBOUR: 'it returns false'. Refute it at one input. -/
def blastFollowsWrong : ChangeSpec := { name := "blastFollows", fn := fun _ => fun
  | [d1, d2, d3] => { results := [.lit (.bool false)], args := [d1, d2, d3] }
  | _ => none }
def BlastFollowsWrongFalsely : Prop := blastFollowsRow.holds Tryd.pinned (OpenSpec.ofChange blastFollowsWrong)

/-- 'scorialaw21.BlastValues': WHATEVER THE INPUT: true; the input reads as it did. -/
def blastValuesSpec : ChangeSpec := { name := "blastValues", fn := fun _ => fun
  | [d1, d2] => { results := [.lit (.bool true)], args := [d1, d2] }
  | _ => none }
def blastValuesRow : OpenClaim := { program := "ytecbcpilcjmhlaadoor", sum := "5df2ec57a621303f645c66fb03c8a370756eb13d2266a1c049f067e313344003", func := "scoria/scorialaw21.BlastValues", spec := "blastValues", unfollowed := true, recurses := true, named := ["scoria/word.operations", "internal/strconv.uint64pow10", "math/bits.deBruijn32tab", "math/bits.deBruijn64tab"], apart := false, laid := [("math/bits.deBruijn32tab", laid_math_bits_deBruijn32tab), ("math/bits.deBruijn64tab", laid_math_bits_deBruijn64tab), ("internal/strconv.uint64pow10", laid_internal_strconv_uint64pow10), ("scoria/word.operations", laid_scoria_word_operations)] }
def BlastValuesSaid : Prop := blastValuesRow.holds Tryd.pinned (OpenSpec.ofChange blastValuesSpec)

/-- ITS FALSE NEIGHBOUR: 'it returns false'. Refute it at one input. -/
def blastValuesWrong : ChangeSpec := { name := "blastValues", fn := fun _ => fun
  | [d1, d2] => { results := [.lit (.bool false)], args := [d1, d2] }
  | _ => none }
def BlastValuesWrongFalsely : Prop := blastValuesRow.holds Tryd.pinned (OpenSpec.ofChange blastValuesWrong)

/-- 'scorialaw21.BlastModels': WHATEVER THE INPUT: true; the input reads as it did. -/
def blastModelsSpec : ChangeSpec := { name := "blastModels", fn := fun _ => fun
  | [d1, d2, d3] => { results := [.lit (.bool true)], args := [d1, d2, d3] }
  | _ => none }
def blastModelsRow : OpenClaim := { program := "ytecbcpilcjmhlaadoor", sum := "5df2ec57a621303f645c66fb03c8a370756eb13d2266a1c049f067e313344003", func := "scoria/scorialaw21.BlastModels", spec := "blastModels", unfollowed := true, recurses := true, named := ["scoria/word.operations", "internal/strconv.uint64pow10", "math/bits.deBruijn32tab", "math/bits.deBruijn64tab"], apart := false, laid := [("math/bits.deBruijn32tab", laid_math_bits_deBruijn32tab), ("math/bits.deBruijn64tab", laid_math_bits_deBruijn64tab), ("internal/strconv.uint64pow10", laid_internal_strconv_uint64pow10), ("scoria/word.operations", laid_scoria_word_operations)] }
def BlastModelsSaid : Prop := blastModelsRow.holds Tryd.pinned (OpenSpec.ofChange blastModelsSpec)

/-- ITS FALSE NEIGHBOUR: 'it returns false'. Refute it at one input. -/
def blastModelsWrong : ChangeSpec := { name := "blastModels", fn := fun _ => fun
  | [d1, d2, d3] => { results := [.lit (.bool false)], args := [d1, d2, d3] }
  | _ => none }
def BlastModelsWrongFalsely : Prop := blastModelsRow.holds Tryd.pinned (OpenSpec.ofChange blastModelsWrong)

/- THE SECOND FORM. 'bulk': how many values and letters a reading holds, each counted each time it is reached (what is shared counts as often as it is met; a slice's spare places count too). A statement '..UptoSaid' is the law's where the arguments, and the package variables that the reading takes, are together of bulk at most 1048576: NARROWER than '..Said'. Prove '..Said' where nothing that the law and all that it calls make is longer than what came in: it says more and counts as full. Else prove '..UptoSaid'. A law counts once. -/
mutual
def uptoBulk {H : Type} : DataW H → Nat
  | .lit (.string bytes) => bytes.length + 1
  | .lit _ => 1
  | .nil => 1
  | .ptr d => uptoBulk d + 1
  | .slice elems spare => uptoBulkAll elems + uptoBulkAll spare + 1
  | .agg parts => uptoBulkAll parts + 1
  | .iface _ d => uptoBulk d + 1
  | .map entries => uptoBulkEntries entries + 1
  | .held _ => 1
def uptoBulkAll {H : Type} : List (DataW H) → Nat
  | [] => 0
  | d :: r => uptoBulk d + uptoBulkAll r
def uptoBulkEntries {H : Type} : List (Lit × DataW H) → Nat
  | [] => 0
  | x :: r => uptoBulkEntry x + uptoBulkEntries r
def uptoBulkEntry {H : Type} : Lit × DataW H → Nat
  | (.string bytes, d) => bytes.length + uptoBulk d + 1
  | (_, d) => uptoBulk d + 1
 end
def uptoSmall : (H : Type) → List (DataW H) → Bool := fun _ ds => decide (uptoBulkAll ds ≤ 1048576)
def OpenSpec.upto (s : _root_.Go.ChangeSpec) : _root_.Go.OpenSpec := { _root_.Go.OpenSpec.ofChange s with cond := some uptoSmall }

/-- 'scorialaw21.BlastForms', WHERE WHAT IT READS IS OF BULK AT MOST 1048576: true; the input reads as it did. -/
def blastFormsUptoRow : OpenClaim := { program := "ytecbcpilcjmhlaadoor", sum := "5df2ec57a621303f645c66fb03c8a370756eb13d2266a1c049f067e313344003", func := "scoria/scorialaw21.BlastForms", spec := "blastForms", unfollowed := true, recurses := true, named := ["scoria/word.operations", "internal/strconv.uint64pow10", "math/bits.deBruijn32tab", "math/bits.deBruijn64tab"], loops := true, apart := false, laid := [("math/bits.deBruijn32tab", laid_math_bits_deBruijn32tab), ("math/bits.deBruijn64tab", laid_math_bits_deBruijn64tab), ("internal/strconv.uint64pow10", laid_internal_strconv_uint64pow10), ("scoria/word.operations", laid_scoria_word_operations)], narrowed := true }
def BlastFormsUptoSaid : Prop := blastFormsUptoRow.holds Tryd.pinned (OpenSpec.upto blastFormsSpec)

/-- 'scorialaw21.BlastExact', WHERE WHAT IT READS IS OF BULK AT MOST 1048576: true; the input reads as it did. -/
def blastExactUptoRow : OpenClaim := { program := "ytecbcpilcjmhlaadoor", sum := "5df2ec57a621303f645c66fb03c8a370756eb13d2266a1c049f067e313344003", func := "scoria/scorialaw21.BlastExact", spec := "blastExact", unfollowed := true, recurses := true, named := ["scoria/word.operations", "internal/strconv.uint64pow10", "math/bits.deBruijn32tab", "math/bits.deBruijn64tab"], apart := false, laid := [("math/bits.deBruijn32tab", laid_math_bits_deBruijn32tab), ("math/bits.deBruijn64tab", laid_math_bits_deBruijn64tab), ("internal/strconv.uint64pow10", laid_internal_strconv_uint64pow10), ("scoria/word.operations", laid_scoria_word_operations)], narrowed := true }
def BlastExactUptoSaid : Prop := blastExactUptoRow.holds Tryd.pinned (OpenSpec.upto blastExactSpec)

/-- 'scorialaw21.BlastFollows', WHERE WHAT IT READS IS OF BULK AT MOST 1048576: true; the input reads as it did. -/
def blastFollowsUptoRow : OpenClaim := { program := "ytecbcpilcjmhlaadoor", sum := "5df2ec57a621303f645c66fb03c8a370756eb13d2266a1c049f067e313344003", func := "scoria/scorialaw21.BlastFollows", spec := "blastFollows", unfollowed := true, recurses := true, named := ["scoria/word.operations", "internal/strconv.uint64pow10", "math/bits.deBruijn32tab", "math/bits.deBruijn64tab"], apart := false, laid := [("math/bits.deBruijn32tab", laid_math_bits_deBruijn32tab), ("math/bits.deBruijn64tab", laid_math_bits_deBruijn64tab), ("internal/strconv.uint64pow10", laid_internal_strconv_uint64pow10), ("scoria/word.operations", laid_scoria_word_operations)], narrowed := true }
def BlastFollowsUptoSaid : Prop := blastFollowsUptoRow.holds Tryd.pinned (OpenSpec.upto blastFollowsSpec)

/-- 'scorialaw21.BlastValues', WHERE WHAT IT READS IS OF BULK AT MOST 1048576: true; the input reads as it did. -/
def blastValuesUptoRow : OpenClaim := { program := "ytecbcpilcjmhlaadoor", sum := "5df2ec57a621303f645c66fb03c8a370756eb13d2266a1c049f067e313344003", func := "scoria/scorialaw21.BlastValues", spec := "blastValues", unfollowed := true, recurses := true, named := ["scoria/word.operations", "internal/strconv.uint64pow10", "math/bits.deBruijn32tab", "math/bits.deBruijn64tab"], apart := false, laid := [("math/bits.deBruijn32tab", laid_math_bits_deBruijn32tab), ("math/bits.deBruijn64tab", laid_math_bits_deBruijn64tab), ("internal/strconv.uint64pow10", laid_internal_strconv_uint64pow10), ("scoria/word.operations", laid_scoria_word_operations)], narrowed := true }
def BlastValuesUptoSaid : Prop := blastValuesUptoRow.holds Tryd.pinned (OpenSpec.upto blastValuesSpec)

/-- 'scorialaw21.BlastModels', WHERE WHAT IT READS IS OF BULK AT MOST 1048576: true; the input reads as it did. -/
def blastModelsUptoRow : OpenClaim := { program := "ytecbcpilcjmhlaadoor", sum := "5df2ec57a621303f645c66fb03c8a370756eb13d2266a1c049f067e313344003", func := "scoria/scorialaw21.BlastModels", spec := "blastModels", unfollowed := true, recurses := true, named := ["scoria/word.operations", "internal/strconv.uint64pow10", "math/bits.deBruijn32tab", "math/bits.deBruijn64tab"], apart := false, laid := [("math/bits.deBruijn32tab", laid_math_bits_deBruijn32tab), ("math/bits.deBruijn64tab", laid_math_bits_deBruijn64tab), ("internal/strconv.uint64pow10", laid_internal_strconv_uint64pow10), ("scoria/word.operations", laid_scoria_word_operations)], narrowed := true }
def BlastModelsUptoSaid : Prop := blastModelsUptoRow.holds Tryd.pinned (OpenSpec.upto blastModelsSpec)

end Rows
end Go.Proofs.YtecbcpilcjmhlaaDoor
