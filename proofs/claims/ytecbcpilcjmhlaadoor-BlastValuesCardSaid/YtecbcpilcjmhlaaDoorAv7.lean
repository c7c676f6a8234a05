/-
  The operations over abstract values: fifth part (append).
-/
import Derived.Test.YtecbcpilcjmhlaaDoorAv6
namespace Go.Av
open Classical
set_option linter.unusedSimpArgs false
set_option linter.unusedVariables false

section
variable {P : Program} {G : Nat → DV} {B : Nat} {f : Operand → DV} {σ : List ABlk} {K : DV → List ABlk → Prop} {dst : Option Tmp} {type : TypeId} {pos : String} {after : Array Edge} {gd : Option (Nat × Bool)}
variable {α : Type} [Enc α]

/-- The n elements of a slice or a string, cell by cell. -/
structure Src (P : Program) (X : AX) (v : Value) (size n : Nat) (ms : List DV) (vs : List Value) : Prop where
  len : ∀ w, (Builtin.lenOf v).run P w = .ok n w
  cells : ∀ w', (∀ a, w'.cell? a = X.w.cell? a) → (Builtin.firstCells size n v).run P w' = .ok vs.toArray w'
  hv : vs.length = n * size
  hm : ms.length = n * size
  one : ∀ u ∈ vs, u.oneCell' = true
  rep : ∀ j e, ms[j]? = some e → e.one = true ∧ VRep X.lay e (vs.getD j undef)

theorem Src.empty {X : AX} {a : Option Addr} {cap size : Nat} : Src P X (.slice a 0 cap) size 0 [] [] where
  len := fun _ => rfl
  cells := fun w' _ => by cases a <;> simp [Builtin.firstCells, loadCells, loadCellsFrom]
  hv := by simp
  hm := by simp
  one := fun u hu => by simp at hu
  rep := fun j e hj => by simp at hj

theorem Src.of_cells {X : AX} {b o n cap size : Nat} {ms : List DV} {fv : Nat → Value} (hm : ms.length = n * size) (h1 : ∀ d ∈ ms, d.one = true) (h2 : ∀ j, j < ms.length → X.w.cell? ⟨b, o + j, none⟩ = some (fv j))
    (h3 : ∀ j d, ms[j]? = some d → VRep X.lay d (fv j)) : Src P X (.slice (some ⟨b, o, none⟩) n cap) size n ms ((List.range (n * size)).map fv) where
  len := fun _ => rfl
  cells := fun w' hw => run_firstCells_some (P := P) w' size n ⟨b, o, none⟩ n cap _ (by simp) fun j u hj => by
    rw [List.getElem?_map] at hj
    cases hr : (List.range (n * size))[j]? with
    | none => simp [hr] at hj
    | some i =>
      simp [hr] at hj; subst hj
      have hlt := (List.getElem?_eq_some_iff.1 hr).1
      have : i = j := by rw [List.getElem?_eq_getElem hlt] at hr; simp at hr; exact hr.symm
      subst this
      simp at hlt
      rw [add_none, hw]
      exact h2 i (by omega)
  hv := by simp
  hm := hm
  one := fun u hu => by
    obtain ⟨j, hj, rfl⟩ := List.mem_map.1 hu
    simp at hj
    have hd : ms[j]? = some ms[j] := List.getElem?_eq_getElem (by omega)
    exact (h3 j _ hd).oneCell (h1 _ (List.getElem_mem _))
  rep := fun j e hj => by
    have hlt : j < n * size := by have := (List.getElem?_eq_some_iff.1 hj).1; omega
    refine ⟨h1 e (List.mem_of_getElem? hj), ?_⟩
    have : ((List.range (n * size)).map fv).getD j undef = fv j := by simp [List.getD, hlt]
    rw [this]; exact h3 j e hj

theorem Src.sl {X : AX} {size : Nat} {ms : List DV} {v : Value} (h : VRep X.lay (.sl size ms) v) : ∃ a n cap vs, v = .slice a n cap ∧ n * size = ms.length ∧ Src P X v size n ms vs := by
  obtain ⟨a, len, cap, fv, rfl, h1, h2, h3, h4, h5⟩ := h.sl_inv
  rcases h4 with h4 | ⟨b, o, rfl, h6⟩
  · subst h4
    refine ⟨a, len, cap, [], rfl, h1, fun _ => rfl, fun w' _ => ?_, by simp [h1], by simp [h1], fun u hu => by simp at hu, fun j e hj => by simp at hj⟩
    simp only [List.length_nil] at h1
    cases a with
    | none => simp [Builtin.firstCells]
    | some a => simp [Builtin.firstCells, h1, loadCells, loadCellsFrom]
  · exact ⟨_, len, cap, _, rfl, h1, Src.of_cells h1.symm h3 (fun j hj => (AX.imm_lt (h6 j hj)).2.2.2) h5⟩

theorem Src.ref {X : AX} (hS : Sto X) {k g off len size : Nat} {cs : List DV} {v : Value} (hσ : X.σ[k]? = some (.row g cs)) (h : VRep X.lay (.ref k g off len size) v) (hle : off + len * size ≤ cs.length) :
    ∃ vs, Src P X v size len ((cs.drop off).take (len * size)) vs := by
  obtain ⟨a, cap, rfl, h1, h2⟩ := h.ref_slice hσ
  by_cases h0 : len = 0
  · subst h0; simp only [Nat.zero_mul, List.take_zero]; exact ⟨[], Src.empty⟩
  · obtain ⟨b, n, hρ, rfl, h3⟩ := h2 (by omega)
    obtain ⟨arr, T, fr, g1, g2, g3, g4, g5⟩ := hS.row hσ hρ
    have hg : ∀ j d, ((cs.drop off).take (len * size))[j]? = some d → cs[off + j]? = some d := fun j d hj => by
      rw [List.getElem?_take] at hj
      split at hj
      · rwa [List.getElem?_drop] at hj
      · cases hj
    refine ⟨_, Src.of_cells (fv := fun j => arr.getD (off + j) undef) (by simp; omega) (fun d hd => ?_) (fun j hj => ?_) fun j d hj => (g5 _ d (hg j d hj)).2⟩
    · obtain ⟨j, hj⟩ := List.mem_iff_getElem?.1 hd
      exact (g5 _ d (hg j d hj)).1
    · rw [List.length_take, List.length_drop] at hj
      have : off + j < arr.size := by omega
      simp [World.cell?, g1, Array.getD_eq_getD_getElem?, this]

/-- The bytes of a string as cells. -/
def byteCells (s : ByteArray) : List DV := s.data.toList.map fun b => .sc (.int .u8 b.toNat)
theorem Src.str {X : AX} {s : ByteArray} : Src P X (.string s) 1 s.size (byteCells s) (s.data.toList.map fun b => .int .u8 b.toNat) where
  len := fun _ => rfl
  cells := fun w' _ => by
    have hx : (s.extract 0 s.size).data = s.data := by simp
    simp only [Builtin.firstCells, hx]
    show Result.ok _ w' = _
    congr 1
    apply Array.ext'
    simp
  hv := by rw [List.length_map, Nat.mul_one]; rfl
  hm := by rw [byteCells, List.length_map, Nat.mul_one]; rfl
  one := fun u hu => by obtain ⟨b, _, rfl⟩ := List.mem_map.1 hu; rfl
  rep := fun j e hj => by
    simp only [byteCells, List.getElem?_map] at hj
    cases hb : s.data.toList[j]? with
    | none => simp [hb] at hj
    | some b =>
      simp only [hb, Option.map_some, Option.some.injEq] at hj; subst hj
      refine ⟨rfl, ?_⟩
      have : (s.data.toList.map fun b => Value.int .u8 b.toNat).getD j undef = .int .u8 b.toNat := by simp only [List.getD, List.getElem?_map, hb]; rfl
      rw [this]; exact .sc _

/-- What append is told of its second operand's type: a slice's or a string's. -/
class SrcTy (P : Program) (t : TypeId) : Prop where
  h : (∃ e, P.underlying t = some (.slice e)) ∨ P.underlying t = some .string

theorem run_append {t t' ty e : TypeId} {d : TypeDesc} {g1 g2 : Bool} {z1 size bytes : Nat} {zs : List Value} (ht : TyI P t (.slice e) g1 z1) (ht' : SrcTy P t') (he : TyI P e d g2 size) (hb : TyB P e bytes) (hz : TyZ P e zs)
    {X : AX} {base : Option Addr} {len cap n : Nat} {x : Value} {cs ms : List DV} {us vs : List Value} (hs : Src P X (.slice base len cap) size len cs us) (hx : Src P X x size n ms vs)
    (hby : (len + n) * bytes ≤ 140737488355328) (hsm : len + n ≤ 9223372036854775807) :
    (len + n ≤ cap ∧ (Builtin.append_ #[t, t'] ty #[.slice base len cap, x]).run P X.w = (match base with | some a => (storeCells (a.add (len * size)) vs).run P X.w | none => .ok () X.w).andThen fun _ w' => .ok (.slice base (len + n) cap) w') ∨
    (cap < len + n ∧ ∃ nc, len + n ≤ nc ∧ (Builtin.append_ #[t, t'] ty #[.slice base len cap, x]).run P X.w = .ok (.slice (some ⟨X.w.heap.size, 0, none⟩) (len + n) nc) (X.w.drew.alloc (.cells (us.toArray ++ vs.toArray ++ Builtin.zeroCells zs.toArray (nc - (len + n))) e))) := by
  obtain ⟨i, hi⟩ : ∃ i, P.info? e = some i := by have := he.s; cases h : P.info? e with | none => simp [h] at this | some i => exact ⟨i, rfl⟩
  have hsz : i.size = size := by have := he.s; simpa [hi] using this
  have hbb : i.bytes = bytes := by have := hb.b; simpa [hi] using this
  obtain ⟨z, hz1, hz2⟩ : ∃ z, i.zero = some z ∧ z.cells = zs.toArray := by
    have := hz.z
    cases h : i.zero with
    | none => simp [hi, h] at this
    | some z => simp [hi, h] at this; exact ⟨z, rfl, by rw [← this]⟩
  by_cases hfit : len + n ≤ cap
  · refine .inl ⟨hfit, ?_⟩
    have hc := hx.cells X.w fun _ => rfl
    rcases ht'.h with ⟨_, hu⟩ | hu <;> (simp [Builtin.append_, run_underlying ht.u, run_underlying hu, sizeOf, typeInfo, hi, hsz, hx.len, hfit, hc]; cases base <;> simp)
  · refine .inr ⟨by omega, grownCap X.w (len + n) cap e, grownCap_ge _ _ _ _, ?_⟩
    have hc := hx.cells X.w.drew fun _ => rfl
    have hc' := hs.cells X.w.drew fun _ => rfl
    have h63 : ¬ ((9223372036854775807 : Int) < (len : Int) + (n : Int)) := by omega
    have h48 : ¬ (281474976710656 < Builtin.nextslicecap (len + n) cap * bytes) := by have := growslice_fits (need := len + n) (old := cap) (bytes := bytes) (by omega) hby; omega
    rcases ht'.h with ⟨_, hu⟩ | hu <;> (simp [Builtin.append_, run_underlying ht.u, run_underlying hu, sizeOf, typeInfo, zeroValue, hi, hz1, hz2, hsz, hbb, hx.len, hfit, h63, h48, Question.forced, hc, hc', newRow, grownCap]; congr 2; apply Array.ext'; simp)

end
end Go.Av
