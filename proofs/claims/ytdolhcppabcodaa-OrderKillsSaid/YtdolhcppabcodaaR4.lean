/-
  OrderKills: for every input the call returns true, and each argument reads behind the call as it read before. No condition.
-/
import Derived.Test.YtdolhcppabcodaaO30
import Derived.Test.YtdolhcppabcodaaAvR
import Derived.Test.YtdolhcppabcodaaRows
import Derived.ProofKit
import Derived.SizedLaws
namespace Go.Proofs.Ytdolhcppabcodaa
open Go.ChangeShapes Go.WideShapes Go.ChangeAt Go.RowKit Go.Av Go.Proofs
set_option maxRecDepth 100000
theorem rd22 : Rd Try.prog 22 (List Int) (fun l => l.length ≤ 9223372036854775807 ∧ ∀ x ∈ l, I64 x) := rd_slice (e := 3) (ht := inferInstance) (he := (inferInstance : TyI Try.prog 3 (.int .i64) false 1)) (hr := rd_int)
theorem rd3 : Rd Try.prog 3 Int I64 := rd_int
theorem OrderKillsOwn : ownKnob Try.prog.godebug = none := by kernel_rfl
theorem OrderKillsLaidOut : laidOutB Try.prog = true := by kernel_rfl

theorem orderKills_lifted (os : Os) (started : os.Started) (H : Type) (enc : TypeId × Value → H) :
    ReturnsInHanded {} Try.checked os 6 .any (Rows.orderKillsSpec.pre6 enc Try.prog Try.f6 Rows.orderKillsRow.domain false) (Rows.orderKillsSpec.post enc Try.prog Try.f6 false true false false) := by
  refine returnsInHanded_of_change_sized (C := Try.checked) OrderKillsOwn started (by kernel_rfl) Try.func6
    (ChangeSpec.witness6 (enc := enc) (C := Try.checked) false ⟨#[], #[.slice none 0 0, .int .i64 0], []⟩ 8 (by kernel_rfl) (by kernel_rfl) (by kernel_rfl) (by kernel_rfl)) ?_
  intro W base args ds gs before hval0 hW _ hsz0 _
  have hval : ∀ (j : Nat) t v, Try.f6.params[j]? = some t → args[j]? = some v → Value.okWide Try.prog W .any base t v := hval0
  have hW' := hW
  obtain ⟨p, q, hA0, hV, rfl, _, _⟩ := hW
  have hA : DataW.TrodAll enc Try.prog W 0 (fun _ => true) true [22, 3] args.toList ds p := hA0
  obtain ⟨v0, v1, d0, d1, p0, p1, rfl, rfl, rfl, h0, h1⟩ := trodAll_two hA
  obtain ⟨rfl, rfl⟩ := trodVars_none hV
  simp only [List.append_nil] at hW'
  obtain ⟨y0, k0, r0⟩ := rd_one (h := rd22) rfl (hval 0 22 v0 rfl rfl) h0
  obtain ⟨y1, k1, r1⟩ := rd_one (h := rd3) rfl (hval 1 3 v1 rfl rfl) h1
  have hlt : ∀ x ∈ p0 ++ p1, x.block < W.heap.size := fun x hx => by simpa using hW'.lt x (by simpa using hx)
  have hargs : ∀ {t : TypeId} {v : Value} {d : DataW H} {ps : List MemPlace} (W' : World), Below W.heap.size W W' → Try.prog.readableRec t = true → t < Try.prog.types.size → DataW.Trod enc Try.prog W 0 (fun _ => true) true t v d ps → (∀ x ∈ ps, x.block < W.heap.size) → DataW.Trod enc Try.prog W' 0 (fun b => decide (b < W.heap.size)) true t v d ps :=
    fun W' hn h1 h2 h3 h4 => Below.trod OrderKillsLaidOut h1 h2 h3 hn h4
  have hvs : ∀ L, Sees W L → VReps L [slOf y0, .i y1] #[v0, v1] := fun L hL => ⟨rfl, fun j d hj => by
    cases j with
    | zero => cases hj; exact r0 L hL _ rfl
    | succ j =>
    cases j with
    | zero => cases hj; exact r1 L hL _ rfl
    | succ j =>
    simp at hj⟩
  refine (law_calls (orderKills_c y0 y1 k0.2 k0.1 k1) hvs).mono ?_
  rintro e W' ⟨rfl, hb⟩
  refine ⟨_, rfl, _, _, _, [], (p0 ++ (p1)), [], hW', ?_, ?_, rfl, hb.frame _, fun h => by cases h⟩
  · exact trodAll_mk1 (shut_bool (by kernel_rfl) true)
  · exact trodAll_mk2 (hargs W' hb (by kernel_rfl) (of_decide_eq_true (by kernel_rfl)) h0 (fun x hx => hlt x (by simp [hx]))) (hargs W' hb (by kernel_rfl) (of_decide_eq_true (by kernel_rfl)) h1 (fun x hx => hlt x (by simp [hx])))

theorem orderKills_holds : Rows.OrderKillsSaid :=
  OpenClaim.holds_of_wide 6 Try.f6 rfl rfl rfl rfl rfl rfl rfl ⟨rfl, rfl, rfl, rfl, rfl⟩ rfl rfl rfl rfl rfl (by kernel_rfl) Try.func6 (by kernel_rfl)
    (of_decide_eq_true (by kernel_rfl)) (by unfold Func.isWrapper; first | (rw [if_pos (by decide +kernel)]; kernel_rfl) | (rw [if_neg (by decide +kernel)]; exact ⟨rfl, rfl⟩))
    (fun os started H enc _ => orderKills_lifted os started H enc)
end Go.Proofs.Ytdolhcppabcodaa
