/-
  OrderChains: for every input the call returns true, and each argument reads behind the call as it read before. No condition.
-/
import Derived.Test.YtdolhcppabcodaaO32
import Derived.Test.YtdolhcppabcodaaAvR
import Derived.Test.YtdolhcppabcodaaRows
import Derived.ProofKit
import Derived.SizedLaws
namespace Go.Proofs.Ytdolhcppabcodaa
open Go.ChangeShapes Go.WideShapes Go.ChangeAt Go.RowKit Go.Av Go.Proofs
set_option maxRecDepth 100000
theorem rd22 : Rd Try.prog 22 (List Int) (fun l => l.length ≤ 9223372036854775807 ∧ ∀ x ∈ l, I64 x) := rd_slice (e := 3) (ht := inferInstance) (he := (inferInstance : TyI Try.prog 3 (.int .i64) false 1)) (hr := rd_int)
theorem OrderChainsOwn : ownKnob Try.prog.godebug = none := by kernel_rfl
theorem OrderChainsLaidOut : laidOutB Try.prog = true := by kernel_rfl

theorem orderChains_lifted (os : Os) (started : os.Started) (H : Type) (enc : TypeId × Value → H) :
    ReturnsInHanded {} Try.checked os 5 .any (Rows.orderChainsSpec.pre6 enc Try.prog Try.f5 Rows.orderChainsRow.domain false) (Rows.orderChainsSpec.post enc Try.prog Try.f5 false true false false) := by
  refine returnsInHanded_of_change_sized (C := Try.checked) OrderChainsOwn started (by kernel_rfl) Try.func5
    (ChangeSpec.witness6 (enc := enc) (C := Try.checked) false ⟨#[], #[.slice none 0 0], []⟩ 8 (by kernel_rfl) (by kernel_rfl) (by kernel_rfl) (by kernel_rfl)) ?_
  intro W base args ds gs before hval0 hW _ hsz0 _
  have hval : ∀ (j : Nat) t v, Try.f5.params[j]? = some t → args[j]? = some v → Value.okWide Try.prog W .any base t v := hval0
  have hW' := hW
  obtain ⟨p, q, hA0, hV, rfl, _, _⟩ := hW
  have hA : DataW.TrodAll enc Try.prog W 0 (fun _ => true) true [22] args.toList ds p := hA0
  obtain ⟨v0, d0, rfl, rfl, h0⟩ := trodAll_one hA
  have hp0 : ∀ x ∈ p, x ∈ p := fun x h => h
  obtain ⟨rfl, rfl⟩ := trodVars_none hV
  simp only [List.append_nil] at hW'
  obtain ⟨y0, k0, r0⟩ := rd_one (h := rd22) rfl (hval 0 22 v0 rfl rfl) h0
  have hlt : ∀ x ∈ p, x.block < W.heap.size := fun x hx => by simpa using hW'.lt x (by simpa using hx)
  have hargs : ∀ {t : TypeId} {v : Value} {d : DataW H} {ps : List MemPlace} (W' : World), Below W.heap.size W W' → Try.prog.readableRec t = true → t < Try.prog.types.size → DataW.Trod enc Try.prog W 0 (fun _ => true) true t v d ps → (∀ x ∈ ps, x.block < W.heap.size) → DataW.Trod enc Try.prog W' 0 (fun b => decide (b < W.heap.size)) true t v d ps :=
    fun W' hn h1 h2 h3 h4 => Below.trod OrderChainsLaidOut h1 h2 h3 hn h4
  have hvs : ∀ L, Sees W L → VReps L [slOf y0] #[v0] := fun L hL => ⟨rfl, fun j d hj => by
    cases j with
    | zero => cases hj; exact r0 L hL _ rfl
    | succ j =>
    simp at hj⟩
  refine (law_calls (orderChains_c y0 k0.2 k0.1) hvs).mono ?_
  rintro e W' ⟨rfl, hb⟩
  refine ⟨_, rfl, _, _, _, [], (p), [], hW', ?_, ?_, rfl, hb.frame _, fun h => by cases h⟩
  · exact trodAll_mk1 (shut_bool (by kernel_rfl) true)
  · exact trodAll_mk1 (hargs W' hb (by kernel_rfl) (of_decide_eq_true (by kernel_rfl)) h0 (fun x hx => hlt x (by simp [hx])))

theorem orderChains_holds : Rows.OrderChainsSaid :=
  OpenClaim.holds_of_wide 5 Try.f5 rfl rfl rfl rfl rfl rfl rfl ⟨rfl, rfl, rfl, rfl, rfl⟩ rfl rfl rfl rfl rfl (by kernel_rfl) Try.func5 (by kernel_rfl)
    (of_decide_eq_true (by kernel_rfl)) (by unfold Func.isWrapper; first | (rw [if_pos (by decide +kernel)]; kernel_rfl) | (rw [if_neg (by decide +kernel)]; exact ⟨rfl, rfl⟩))
    (fun os started H enc _ => orderChains_lifted os started H enc)
end Go.Proofs.Ytdolhcppabcodaa
