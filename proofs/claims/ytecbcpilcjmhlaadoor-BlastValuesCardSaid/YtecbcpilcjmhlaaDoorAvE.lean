/-
  Appends of one element, and the end with an owned row.
-/
import Derived.Test.YtecbcpilcjmhlaaDoorAvD
namespace Go.Av
section
variable {P : Program} {G : Nat → DV} {B : Nat} {f : Operand → DV} {σ : List ABlk} {K : DV → List ABlk → Prop} {dst : Option Tmp} {type : TypeId} {pos : String} {after : Array Edge} {gd : Option (Nat × Bool)}
variable {α : Type} [Enc α]

theorem s_app1 {z : α} {t t' e : TypeId} {d : TypeDesc} {g1 g2 : Bool} {z1 bytes m g len es : Nat} {zs : List Value} {x y : Operand} {cs : List DV} {l : List α} [ht : TyI P t (.slice e) g1 z1] [ht' : SrcTy P t'] [he : TyI P e d g2 es] [hb : TyB P e bytes] [hz : TyZ P e zs]
    {σ' : Nat → List ABlk} (hzl : zs.length = es) (hx : f x = .ref m g 0 len es) (hm : σ[m]? = some (.row g cs)) (hcs : cs = encs l) (hes : es = Enc.es α) (hlen : len = l.length) (hy : f y = .sl es (Enc.enc z)) (hby : (l.length + 1) * bytes ≤ 140737488355328) (hsm : l.length + 1 ≤ 9223372036854775807)
    (hσ' : ∀ g', setA σ m (.row g' (encs (l ++ [z]))) = some (σ' g')) (k : ∀ g', B < g' → K (.ref m g' 0 (l ++ [z]).length es) (σ' g')) : OpSem P G B ⟨dst, .call ⟨.builtin .append, #[x, y], #[t, t']⟩, type, pos, after, gd⟩ f σ K := by
  subst hes hcs
  exact s_app (xs := [z]) hzl hx hm hlen hy srcOf_one hby hsm hσ' k

theorem s_conv_u {s d : TypeId} {x : Operand} {a : Int} {k1 : IntKind} {ds : TypeDesc} {g1 g2 : Bool} {z1 z2 : Nat} [hs : TyI P s ds g1 z1] [hd : TyI P d (.int .u64) g2 z2] (hx : f x = .sc (.int k1 a))
    (h : 0 ≤ a ∧ a ≤ 18446744073709551615) (k : K (.sc (.int .u64 a)) σ) : OpSem P G B ⟨dst, .convert s d x, type, pos, after, gd⟩ f σ K :=
  s_conv hx (by
    have : IntKind.u64.wrap a = a := by
      simp only [IntKind.wrap, IntKind.signed, IntKind.bits]
      simp
      omega
    rw [this]; exact k)

theorem Own.read {fid : FuncId} {args : List DV} {l : List α} (h : Own P G fid args l.length (Enc.es α) (encs l)) : Pure P G fid args (slOf l) := h.pure (encs_len l).symm

variable {E : AX} {R : DV → List ABlk → Prop}
theorem c_ownedB {k g len es len' es' : Nat} {cs cs' : List DV} {σ : List ABlk} (hB : B ≤ E.N) (hk : σ[k]? = some (.row g cs)) (h1 : len' = len) (h2 : cs' = cs) (h3 : es' = es) : AClose E (fun d' σ' => ∃ g, B < g ∧ d' = .ref 0 g 0 len' es' ∧ σ' = [.row g cs']) (.ref k g 0 len es) σ :=
  c_own (m := 0) (Nat.zero_le _) hk fun g' hg => ⟨g', Nat.lt_of_le_of_lt hB hg, by rw [h1, h3], by rw [h2]; rfl⟩

variable {n : Nat} {t : Fr} {ops : Array Oper} {l : List Oper} {Q : (Nat → DV) → Prop} {N : ASt → Prop}
/-- A step that no rule takes: it stays as it is. -/
structure Stuck (p : Prop) : Prop where h : p
theorem x_stuck {i : Tmp} {op : Op} {type : TypeId} {pos : String} {after : Array Edge} {j s : Nat} {want : Bool} (hj : (ops[j]?).bind (·.dst) = some s) (hl : look t s = .sc (.bool want)) (hs : Nat.blt s n = true) (hd : Nat.blt i n = true)
    (k : Stuck (∃ d, OpSem P G B ⟨some i, op, type, pos, after, some (j, want)⟩ (aev G t) σ (fun d' σ' => d' = d ∧ σ' = σ) ∧ ALex P G B n ops σ Q l (look ((i, d) :: t)))) : ALex P G B n ops σ Q (⟨some i, op, type, pos, after, some (j, want)⟩ :: l) (look t) := by
  obtain ⟨d, h, k⟩ := k.h
  exact ⟨d, ⟨fun j hj => by cases hj; exact Nat.ble_eq.mp hd, .inl ⟨⟨s, .bool want, hj, Nat.ble_eq.mp hs, hl, by cases want <;> rfl⟩, by rw [aevF_look]; exact h⟩⟩, by rw [look_put] at k; exact k⟩
end
end Go.Av
