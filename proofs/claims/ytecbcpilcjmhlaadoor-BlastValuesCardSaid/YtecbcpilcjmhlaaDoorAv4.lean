/-
  The operations over abstract values: second part (typed lists, lengths, indexes, fields, loads, stores, new variables).
-/
import Derived.Test.YtecbcpilcjmhlaaDoorAv3
namespace Go.Av
open Classical
set_option linter.unusedSimpArgs false
set_option linter.unusedVariables false

/-- Types whose values stand in memory as so many cells. -/
class Enc (α : Type) where
  enc : α → List DV
  es : Nat
  len : ∀ x, (enc x).length = es
  one : ∀ x, ∀ d ∈ enc x, d.one = true
  clo : ∀ x, ∀ d ∈ enc x, d.clo = true
  pos : 0 < es

def encs {α : Type} [Enc α] (l : List α) : List DV := l.flatMap Enc.enc
def slOf {α : Type} [Enc α] (l : List α) : DV := .sl (Enc.es α) (encs l)
abbrev DV.i (n : Int) : DV := .sc (.int .i64 n)
abbrev DV.b (x : Bool) : DV := .sc (.bool x)
abbrev DV.s (x : ByteArray) : DV := .sc (.string x)
abbrev DV.nil : DV := .sc (.slice none 0 0)

theorem clo_sl {es : Nat} {cs : List DV} (h : ∀ d ∈ cs, d.clo = true) : (DV.sl es cs).clo = true := by simp only [DV.clo, List.all_eq_true]; exact fun x _ => h x.1 x.2
theorem clo_agg {cs : List DV} (h : ∀ d ∈ cs, d.clo = true) : (DV.agg cs).clo = true := by simp only [DV.clo, List.all_eq_true]; exact fun x _ => h x.1 x.2
theorem clo_tup {cs : List DV} (h : ∀ d ∈ cs, d.clo = true) : (DV.tup cs).clo = true := by simp only [DV.clo, List.all_eq_true]; exact fun x _ => h x.1 x.2
theorem clo_sc {v : Value} : (DV.sc v).clo = true := by simp [DV.clo]
theorem encs_clo {α : Type} [Enc α] (l : List α) : ∀ d ∈ encs l, d.clo = true := fun d hd => by
  obtain ⟨x, _, hx⟩ := List.mem_flatMap.1 hd
  exact Enc.clo x d hx
theorem clo_slOf {α : Type} [Enc α] (l : List α) : (slOf l).clo = true := clo_sl (encs_clo l)
/-- Of a type whose values take one cell each. -/
@[reducible] def encOne {α : Type} (f : α → DV) (h1 : ∀ x, (f x).one = true) (h2 : ∀ x, (f x).clo = true) : Enc α :=
  ⟨fun x => [f x], 1, fun _ => rfl, fun x d hd => by simp at hd; subst hd; exact h1 x, fun x d hd => by simp at hd; subst hd; exact h2 x, by decide⟩

instance : Enc Int := encOne (fun n => .i n) (fun _ => rfl) (fun _ => clo_sc)
instance : Enc Bool := encOne (fun n => .b n) (fun _ => rfl) (fun _ => clo_sc)
instance : Enc ByteArray := encOne (fun n => .s n) (fun _ => rfl) (fun _ => clo_sc)
instance : Enc UInt8 := encOne (fun n => .sc (.int .u8 n.toNat)) (fun _ => rfl) (fun _ => clo_sc)
instance {α : Type} [Enc α] : Enc (List α) := encOne (fun l => slOf l) (fun _ => rfl) (fun l => clo_slOf l)

section
variable {α : Type} [Enc α]
theorem encs_nil : encs ([] : List α) = [] := rfl
theorem encs_cons (x : α) (l : List α) : encs (x :: l) = Enc.enc x ++ encs l := rfl
theorem encs_append (l m : List α) : encs (l ++ m) = encs l ++ encs m := by simp [encs]
theorem encs_len (l : List α) : (encs l).length = l.length * Enc.es α := by
  induction l with
  | nil => simp [encs]
  | cons x l ih => rw [encs_cons, List.length_append, Enc.len, ih, List.length_cons, Nat.add_one_mul]; omega
theorem encs_one (l : List α) : ∀ d ∈ encs l, d.one = true := fun d hd => by
  obtain ⟨x, _, hx⟩ := List.mem_flatMap.1 hd
  exact Enc.one x d hx
theorem encs_drop (l : List α) (i : Nat) : (encs l).drop (i * Enc.es α) = encs (l.drop i) := by
  induction l generalizing i with
  | nil => simp [encs]
  | cons x l ih =>
    cases i with
    | zero => simp
    | succ i =>
      rw [encs_cons, Nat.add_one_mul, Nat.add_comm, List.drop_append, Enc.len, List.drop_eq_nil_of_le (by rw [Enc.len]; omega), List.nil_append, Nat.add_sub_cancel_left]
      exact ih i
theorem encs_take (l : List α) (i : Nat) : (encs l).take (i * Enc.es α) = encs (l.take i) := by
  induction l generalizing i with
  | nil => simp [encs]
  | cons x l ih =>
    cases i with
    | zero => simp [encs]
    | succ i =>
      rw [encs_cons, Nat.add_one_mul, Nat.add_comm, List.take_append, Enc.len, List.take_of_length_le (by rw [Enc.len]; omega), Nat.add_sub_cancel_left, ih]
      rfl
theorem encs_at (l : List α) (i : Nat) (h : i < l.length) (j : Nat) (hj : j < Enc.es α) : (encs l)[i * Enc.es α + j]? = (Enc.enc l[i])[j]? := by
  rw [← List.getElem?_drop, encs_drop, List.drop_eq_getElem_cons h, encs_cons, List.getElem?_append_left (by rw [Enc.len]; exact hj)]
end

section
variable {P : Program} {G : Nat → DV} {B : Nat} {f : Operand → DV} {σ : List ABlk} {K : DV → List ABlk → Prop} {dst : Option Tmp} {type : TypeId} {pos : String} {after : Array Edge} {gd : Option (Nat × Bool)}
variable {α : Type} [Enc α]

/-! What a value read off. -/
theorem VRep.sl_inv {L : Lay} {es : Nat} {cs : List DV} {v : Value} (h : VRep L (.sl es cs) v) : ∃ (a : Option Addr) (len cap : Nat) (f : Nat → Value), v = .slice a len cap ∧ len * es = cs.length ∧ len ≤ cap ∧ (∀ d ∈ cs, d.one = true) ∧
    (cs = [] ∨ ∃ b o, a = some ⟨b, o, none⟩ ∧ ∀ j, j < cs.length → L.imm b (o + j) = some (f j)) ∧ (∀ j d, cs[j]? = some d → VRep L d (f j)) := by
  cases h with | sl _ _ a len cap f h1 h2 h3 h4 h5 => exact ⟨a, len, cap, f, rfl, h1, h2, h3, h4, h5⟩
theorem VRep.ep_inv {L : Lay} {cs : List DV} {v : Value} (h : VRep L (.ep cs) v) : ∃ (b o : Nat) (f : Nat → Value), v = .pointer (some ⟨b, o, none⟩) ∧ (∀ d ∈ cs, d.one = true) ∧ (∀ j, j < cs.length → L.imm b (o + j) = some (f j)) ∧ (∀ j d, cs[j]? = some d → VRep L d (f j)) := by
  cases h with | ep _ b o f h1 h2 h3 => exact ⟨b, o, f, rfl, h1, h2, h3⟩
theorem VRep.agg_inv {L : Lay} {cs : List DV} {v : Value} (h : VRep L (.agg cs) v) : ∃ vs : Array Value, v = .agg vs ∧ vs.size = cs.length ∧ (∀ d ∈ cs, d.one = true) ∧ (∀ j d, cs[j]? = some d → VRep L d (vs.getD j undef)) := by
  cases h with | agg _ vs h1 h2 h3 => exact ⟨vs, rfl, h1, h2, h3⟩

theorem live_row {X : AX} {k g : Nat} {cs : List DV} (h : X.σ[k]? = some (.row g cs)) : X.live k g := by simp [AX.live, h, ABlk.gen?]

/-- A live reference. -/
theorem VRep.ref_inv {X : AX} {k g off len es : Nat} {cs : List DV} {v : Value} (hσ : X.σ[k]? = some (.row g cs)) (h : VRep X.lay (.ref k g off len es) v) : RefOk (X.ρ k) off len es v := by
  cases h with | ref _ _ _ _ _ a l c h1 h2 => exact h2 _ (AX.row_mk (live_row hσ))
theorem VRep.ref_slice {X : AX} {k g off len es : Nat} {cs : List DV} {v : Value} (hσ : X.σ[k]? = some (.row g cs)) (h : VRep X.lay (.ref k g off len es) v) : ∃ a cap, v = .slice a len cap ∧ len ≤ cap ∧ (0 < len → ∃ b n, X.ρ k = some (b, n) ∧ a = some ⟨b, off, none⟩ ∧ off + cap * es ≤ n) := by
  have := h.ref_inv hσ
  unfold RefOk at this
  cases hρ : X.ρ k with
  | none => rw [hρ] at this; obtain ⟨rfl, rfl, rfl⟩ := this; exact ⟨none, 0, rfl, Nat.le_refl _, fun h => by omega⟩
  | some x =>
    obtain ⟨b, n⟩ := x
    rw [hρ] at this
    obtain ⟨a, cap, rfl, h1, h2⟩ := this
    refine ⟨a, cap, rfl, h1, fun hl => ?_⟩
    rcases h2 with h2 | ⟨h2, h3⟩
    · omega
    · exact ⟨b, n, rfl, h2, h3⟩
theorem VRep.ptr_inv {X : AX} {k g off : Nat} {cs : List DV} {v : Value} (hσ : X.σ[k]? = some (.row g cs)) (h : VRep X.lay (.ptr k g off) v) : ∃ b n, X.ρ k = some (b, n) ∧ v = .pointer (some ⟨b, off, none⟩) := by
  cases h with | ptr _ _ _ a h1 h2 => obtain ⟨b, n, h3, h4⟩ := h2 _ (AX.row_mk (live_row hσ)); exact ⟨b, n, h3, by rw [h4]⟩

theorem Sto.row {X : AX} (hS : Sto X) {k g b n : Nat} {cs : List DV} (hσ : X.σ[k]? = some (.row g cs)) (hρ : X.ρ k = some (b, n)) :
    ∃ arr T fr, X.w.heap[b]? = some (.cells arr T fr) ∧ arr.size = n ∧ cs.length ≤ n ∧ (∀ j, j < n → ¬ (fr.1 ≤ j ∧ j < fr.2)) ∧ ∀ j d, cs[j]? = some d → d.one = true ∧ VRep X.lay d (arr.getD j undef) := by
  have := hS.holds k _ hσ
  rw [hρ] at this
  exact this

/-! len -/
theorem s_len0 (t : TypeId) (x : Operand) {z : Int} (hr : ∀ (X : AX) (v : Value), X.σ = σ → VRep X.lay (f x) v → Sto X → (Builtin.len_ #[t] type #[v]).run P X.w = .ok (goInt z) X.w)
    (k : K (.sc (.int .i64 z)) σ) : OpSem P G B ⟨dst, .call ⟨.builtin .len, #[x], #[t]⟩, type, pos, after, gd⟩ f σ K := fun X ρ hS hσ _ _ hf => by
  have := hr X (ρ x) hσ (hf x (by simp [Op.operands, Call.operands])) hS
  subst hσ
  simp only [execOp, resolve, invoke, builtin, List.map_toArray, List.map_cons, List.map_nil, Sem.run_bind, Sem.run_pure, Result.andThen_ok, this]
  exact post_same hS (.sc _) k

theorem run_len_sl {t type e : TypeId} {a : Option Addr} {n c : Nat} {w : World} (h : P.underlying t = some (.slice e)) : (Builtin.len_ #[t] type #[.slice a n c]).run P w = .ok (goInt n) w := by
  simp [Builtin.len_, run_underlying h]

theorem s_len_sl {t e : TypeId} {g1 : Bool} {z1 : Nat} {x : Operand} {l : List α} [ht : TyI P t (.slice e) g1 z1] (hx : f x = slOf l) (k : K (.sc (.int .i64 (l.length : Nat))) σ) :
    OpSem P G B ⟨dst, .call ⟨.builtin .len, #[x], #[t]⟩, type, pos, after, gd⟩ f σ K :=
  s_len0 t x (fun X v hσ hv _ => by
    rw [hx] at hv
    obtain ⟨a, len, cap, f, rfl, h1, _⟩ := hv.sl_inv
    rw [run_len_sl ht.u]
    rw [encs_len] at h1
    have : len = l.length := Nat.eq_of_mul_eq_mul_right (Enc.pos (α := α)) h1
    rw [this]) k
theorem s_len_nil {t e : TypeId} {g1 : Bool} {z1 : Nat} {x : Operand} {a : Option Addr} {c : Nat} {len : Nat} [ht : TyI P t (.slice e) g1 z1] (hx : f x = .sc (.slice a len c)) (k : K (.sc (.int .i64 (len : Nat))) σ) :
    OpSem P G B ⟨dst, .call ⟨.builtin .len, #[x], #[t]⟩, type, pos, after, gd⟩ f σ K :=
  s_len0 t x (fun X v hσ hv _ => by rw [hx] at hv; rw [VRep.sc_eq hv, run_len_sl ht.u]) k
theorem s_len_ref {t e : TypeId} {g1 : Bool} {z1 : Nat} {x : Operand} {i g off len es : Nat} {cs : List DV} [ht : TyI P t (.slice e) g1 z1] (hx : f x = .ref i g off len es) (hi : σ[i]? = some (.row g cs)) (k : K (.sc (.int .i64 (len : Nat))) σ) :
    OpSem P G B ⟨dst, .call ⟨.builtin .len, #[x], #[t]⟩, type, pos, after, gd⟩ f σ K :=
  s_len0 t x (fun X v hσ hv _ => by
    rw [hx] at hv; subst hσ
    obtain ⟨a, cap, rfl, _⟩ := hv.ref_slice hi
    rw [run_len_sl ht.u]) k
theorem s_len_s {t : TypeId} {g1 : Bool} {z1 : Nat} {x : Operand} {s : ByteArray} [ht : TyI P t .string g1 z1] (hx : f x = .sc (.string s)) (k : K (.sc (.int .i64 (s.size : Nat))) σ) :
    OpSem P G B ⟨dst, .call ⟨.builtin .len, #[x], #[t]⟩, type, pos, after, gd⟩ f σ K :=
  s_len0 t x (fun X v hσ hv _ => by rw [hx] at hv; rw [VRep.sc_eq hv]; simp [Builtin.len_, run_underlying ht.u]) k

/-! indexAddr -/
theorem add_none (b o n : Nat) : (⟨b, o, none⟩ : Addr).add n = ⟨b, o + n, none⟩ := by unfold Addr.add; split <;> simp_all

theorem run_indexAt_sl {t e : TypeId} {g1 g2 : Bool} {z1 z2 : Nat} {d : TypeDesc} (ht : TyI P t (.slice e) g1 z1) (he : TyI P e d g2 z2) {b o len cap : Nat} {kd : IntKind} {i : Int} (h0 : 0 ≤ i) (h1 : i < len) (w : World) :
    (Instr.indexAt t (.slice (some ⟨b, o, none⟩) len cap) (.int kd i)).run P w = .ok (.pointer (some ⟨b, o + i.toNat * z2, none⟩)) w := by
  simp [Instr.indexAt, asIntOf, run_underlying ht.u, run_sizeOf he, h0, h1, add_none]
theorem run_indexAt_arr {t e : TypeId} {n : Nat} {g1 g2 : Bool} {z1 z2 : Nat} {d : TypeDesc} (ht : TyI P t (.array n e) g1 z1) (he : TyI P e d g2 z2) {b o : Nat} {kd : IntKind} {i : Int} (h0 : 0 ≤ i) (h1 : i < n) (w : World) :
    (Instr.indexAt t (.pointer (some ⟨b, o, none⟩)) (.int kd i)).run P w = .ok (.pointer (some ⟨b, o + i.toNat * z2, none⟩)) w := by
  simp [Instr.indexAt, asIntOf, run_underlying ht.u, run_sizeOf he, h0, h1, add_none, Instr.sureAddr]

theorem ep_sub {L : Lay} {b o : Nat} {cs : List DV} {f : Nat → Value} (h1 : ∀ d ∈ cs, d.one = true) (h2 : ∀ j, j < cs.length → L.imm b (o + j) = some (f j)) (h3 : ∀ j d, cs[j]? = some d → VRep L d (f j)) (m : Nat) :
    VRep L (.ep (cs.drop m)) (.pointer (some ⟨b, o + m, none⟩)) := by
  refine .ep _ b (o + m) (fun j => f (m + j)) (fun d hd => h1 d (List.mem_of_mem_drop hd)) (fun j hj => ?_) (fun j d hj => h3 _ _ (by rw [← hj, List.getElem?_drop]))
  rw [List.length_drop] at hj
  rw [Nat.add_assoc]
  exact h2 _ (by omega)
theorem ep_take {L : Lay} {cs : List DV} {v : Value} (h : VRep L (.ep cs) v) (m : Nat) : VRep L (.ep (cs.take m)) v := by
  obtain ⟨b, o, f, rfl, h1, h2, h3⟩ := h.ep_inv
  refine .ep _ b o f (fun d hd => h1 d (List.mem_of_mem_take hd)) (fun j hj => h2 j ?_) (fun j d hj => h3 j d ?_)
  · rw [List.length_take] at hj; omega
  · rw [List.getElem?_take] at hj; split at hj <;> first | exact hj | cases hj

theorem s_idx_sl {t e : TypeId} {d : TypeDesc} {g1 g2 : Bool} {z1 : Nat} {x y : Operand} {l : List α} {kd : IntKind} {i : Int} [ht : TyI P t (.slice e) g1 z1] [he : TyI P e d g2 (Enc.es α)]
    (hx : f x = slOf l) (hy : f y = .sc (.int kd i)) (h0 : 0 ≤ i) (h1 : i.toNat < l.length) (k : K (.ep (Enc.enc l[i.toNat])) σ) : OpSem P G B ⟨dst, .indexAddr t x y, type, pos, after, gd⟩ f σ K := fun X ρ hS hσ _ _ hf => by
  subst hσ
  have e1 := hf x (by simp [Op.operands, Call.operands]); rw [hx] at e1
  have e2 := hf y (by simp [Op.operands, Call.operands]); rw [hy] at e2
  obtain ⟨a, len, cap, fv, e3, h2, h3, h4, h5, h6⟩ := e1.sl_inv
  rw [encs_len] at h2
  have hl : len = l.length := Nat.eq_of_mul_eq_mul_right (Enc.pos (α := α)) h2
  rcases h5 with h5 | ⟨b, o, rfl, h5⟩
  · have := encs_len l
    rw [h5] at this
    have hp := Enc.pos (α := α)
    have : l.length = 0 := by
      rcases Nat.mul_eq_zero.1 this.symm with h | h
      · exact h
      · omega
    omega
  · simp only [execOp, e3, VRep.sc_eq e2, run_indexAt_sl ht he h0 (show i < (len : Int) by omega), Sem.run_bind, Sem.run_pure, Result.andThen_ok]
    refine post_same hS ?_ k
    have hsub := ep_take (ep_sub h4 h5 h6 (i.toNat * Enc.es α)) (Enc.es α)
    rw [encs_drop, List.drop_eq_getElem_cons h1, encs_cons, List.take_left' (Enc.len _)] at hsub
    exact hsub
theorem s_idx_sln {t e : TypeId} {d : TypeDesc} {g1 g2 : Bool} {z1 : Nat} {x y : Operand} {l : List α} {kd : IntKind} {i : Nat} [ht : TyI P t (.slice e) g1 z1] [he : TyI P e d g2 (Enc.es α)]
    (hx : f x = slOf l) (hy : f y = .sc (.int kd (i : Nat))) (h1 : i < l.length) (k : K (.ep (Enc.enc l[i])) σ) : OpSem P G B ⟨dst, .indexAddr t x y, type, pos, after, gd⟩ f σ K :=
  s_idx_sl hx hy (by omega) (by simpa using h1) (by simpa using k)

theorem s_idx_ref {t e : TypeId} {d : TypeDesc} {g1 g2 : Bool} {z1 z2 : Nat} {x y : Operand} {m g off len es : Nat} {cs : List DV} {kd : IntKind} {i : Int} [ht : TyI P t (.slice e) g1 z1] [he : TyI P e d g2 z2]
    (hx : f x = .ref m g off len es) (hm : σ[m]? = some (.row g cs)) (hy : f y = .sc (.int kd i)) (h0 : 0 ≤ i) (h1 : i.toNat < len) (k : K (.ptr m g (off + i.toNat * z2)) σ) : OpSem P G B ⟨dst, .indexAddr t x y, type, pos, after, gd⟩ f σ K := fun X ρ hS hσ _ _ hf => by
  subst hσ
  have e1 := hf x (by simp [Op.operands, Call.operands]); rw [hx] at e1
  have e2 := hf y (by simp [Op.operands, Call.operands]); rw [hy] at e2
  obtain ⟨a, cap, e3, h2, h3⟩ := e1.ref_slice hm
  obtain ⟨b, n, h4, rfl, _⟩ := h3 (by omega)
  simp only [execOp, e3, VRep.sc_eq e2, run_indexAt_sl ht he h0 (show i < (len : Int) by omega), Sem.run_bind, Sem.run_pure, Result.andThen_ok]
  refine post_same hS (.ptr _ _ _ _ (hS.gen m g (live_row hm)) fun ob hob => ⟨b, n, ?_, rfl⟩) k
  rw [AX.row_mk (live_row hm), h4] at hob
  exact (Option.some.inj hob).symm

theorem s_idx_arr {t e : TypeId} {d : TypeDesc} {n : Nat} {g1 g2 : Bool} {z1 z2 : Nat} {x y : Operand} {m g off : Nat} {cs : List DV} {kd : IntKind} {i : Int} [ht : TyI P t (.array n e) g1 z1] [he : TyI P e d g2 z2]
    (hx : f x = .ptr m g off) (hm : σ[m]? = some (.row g cs)) (hy : f y = .sc (.int kd i)) (h0 : 0 ≤ i) (h1 : i.toNat < n) (k : K (.ptr m g (off + i.toNat * z2)) σ) : OpSem P G B ⟨dst, .indexAddr t x y, type, pos, after, gd⟩ f σ K := fun X ρ hS hσ _ _ hf => by
  subst hσ
  have e1 := hf x (by simp [Op.operands, Call.operands]); rw [hx] at e1
  have e2 := hf y (by simp [Op.operands, Call.operands]); rw [hy] at e2
  obtain ⟨b, nn, h4, h5⟩ := e1.ptr_inv hm
  simp only [execOp, h5, VRep.sc_eq e2, run_indexAt_arr ht he h0 (show i < (n : Int) by omega), Sem.run_bind, Sem.run_pure, Result.andThen_ok]
  refine post_same hS (.ptr _ _ _ _ (hS.gen m g (live_row hm)) fun ob hob => ⟨b, nn, ?_, rfl⟩) k
  rw [AX.row_mk (live_row hm), h4] at hob
  exact (Option.some.inj hob).symm

theorem s_idx_ep {t e : TypeId} {d : TypeDesc} {n : Nat} {g1 g2 : Bool} {z1 z2 : Nat} {x y : Operand} {cs : List DV} {kd : IntKind} {i : Int} [ht : TyI P t (.array n e) g1 z1] [he : TyI P e d g2 z2]
    (hx : f x = .ep cs) (hy : f y = .sc (.int kd i)) (h0 : 0 ≤ i) (h1 : i.toNat < n) (k : K (.ep (cs.drop (i.toNat * z2))) σ) : OpSem P G B ⟨dst, .indexAddr t x y, type, pos, after, gd⟩ f σ K := fun X ρ hS hσ _ _ hf => by
  subst hσ
  have e1 := hf x (by simp [Op.operands, Call.operands]); rw [hx] at e1
  have e2 := hf y (by simp [Op.operands, Call.operands]); rw [hy] at e2
  obtain ⟨b, o, fv, h5, h6, h7, h8⟩ := e1.ep_inv
  simp only [execOp, h5, VRep.sc_eq e2, run_indexAt_arr ht he h0 (show i < (n : Int) by omega), Sem.run_bind, Sem.run_pure, Result.andThen_ok]
  exact post_same hS (ep_sub h6 h7 h8 _) k

/-! fieldAddr, field -/
/-- A field of a struct. -/
class TyF (P : Program) (s : TypeId) (fi : Nat) (o fz : outParam Nat) (fg : outParam Bool) : Prop where
  h : ∃ fs fd d, P.underlying s = some (.struct fs) ∧ fs[fi]? = some fd ∧ fd.offset = o ∧ TyI P fd.type d fg fz ∧ fz ≠ 0

theorem run_fieldAt {s fi o fz : Nat} {fg : Bool} (hs : TyF P s fi o fz fg) {b off : Nat} (w : World) :
    (Instr.fieldAt s (.pointer (some ⟨b, off, none⟩)) fi).run P w = .ok (.pointer (some ⟨b, off + o, none⟩)) w := by
  obtain ⟨fs, fd, d, h1, h2, h3, h4, h5⟩ := hs.h
  simp [Instr.fieldAt, run_underlying h1, h2, Instr.sureAddr, fieldPlace, run_sizeOf h4, h5, add_none, h3]

theorem s_fld_ptr {s fi o fz : Nat} {fg : Bool} {x : Operand} {m g off : Nat} {cs : List DV} [hs : TyF P s fi o fz fg] (hx : f x = .ptr m g off) (hm : σ[m]? = some (.row g cs)) (k : K (.ptr m g (off + o)) σ) :
    OpSem P G B ⟨dst, .fieldAddr s x fi, type, pos, after, gd⟩ f σ K := fun X ρ hS hσ _ _ hf => by
  subst hσ
  have e1 := hf x (by simp [Op.operands, Call.operands]); rw [hx] at e1
  obtain ⟨b, nn, h4, h5⟩ := e1.ptr_inv hm
  simp only [execOp, h5, run_fieldAt hs, Sem.run_bind, Sem.run_pure, Result.andThen_ok]
  refine post_same hS (.ptr _ _ _ _ (hS.gen m g (live_row hm)) fun ob hob => ⟨b, nn, ?_, rfl⟩) k
  rw [AX.row_mk (live_row hm), h4] at hob
  exact (Option.some.inj hob).symm
theorem s_fld_ep {s fi o fz : Nat} {fg : Bool} {x : Operand} {cs r : List DV} {d : DV} [hs : TyF P s fi o fz fg] (hx : f x = .ep cs) (hd : cs.drop o = d :: r) (k : K (.ep (d :: r)) σ) :
    OpSem P G B ⟨dst, .fieldAddr s x fi, type, pos, after, gd⟩ f σ K := fun X ρ hS hσ _ _ hf => by
  subst hσ
  have e1 := hf x (by simp [Op.operands, Call.operands]); rw [hx] at e1
  obtain ⟨b, off, fv, h5, h6, h7, h8⟩ := e1.ep_inv
  simp only [execOp, h5, run_fieldAt hs, Sem.run_bind, Sem.run_pure, Result.andThen_ok]
  exact post_same hS (by rw [← hd]; exact ep_sub h6 h7 h8 _) k

/-- A list in full, cell by cell. -/
def forceD : List DV → Option (List DV)
  | [] => some []
  | d :: r => match forceD r with | some r' => some (d :: r') | none => none
theorem forceD_eq : ∀ {l m : List DV}, forceD l = some m → m = l
  | [], m, h => by simp [forceD] at h; exact h
  | d :: r, m, h => by
    simp only [forceD] at h
    split at h
    · rename_i r' hr; cases h; rw [forceD_eq hr]
    · cases h
/-- So many cells from a place on. -/
def partD (cs : List DV) (off size : Nat) : Option (List DV) := forceD ((cs.drop off).take size)
theorem partD_spec {cs ds : List DV} {off size : Nat} (h : partD cs off size = some ds) : ds = (cs.drop off).take size := forceD_eq h

theorem run_part {t : TypeId} {d : TypeDesc} {size : Nat} {agg : Bool} (ht : TyI P t d agg size) {cs : Array Value} {off : Nat} (h : off < cs.size) (w : World) :
    (part t cs off).run P w = .ok (if agg then .agg (cs.extract off (off + size)) else cs.getD off undef) w := by
  unfold part
  simp only [Sem.run_bind, run_isAgg ht, Result.andThen_ok]
  cases agg
  · simp [h]
  · simp [run_sizeOf ht]

theorem agg_part {L : Lay} {cs ds : List DV} {vs : Array Value} {off size : Nat} (h1 : vs.size = cs.length) (h2 : ∀ d ∈ cs, d.one = true) (h3 : ∀ j d, cs[j]? = some d → VRep L d (vs.getD j undef))
    (hd : ds = (cs.drop off).take size) (hl : ds.length = size) : VRep L (.agg ds) (.agg (vs.extract off (off + size))) := by
  have hlen : off + size ≤ cs.length ∨ size = 0 := by
    rw [hd, List.length_take, List.length_drop] at hl; omega
  refine .agg _ _ ?_ (fun d hdm => h2 d ?_) (fun j d hj => ?_)
  · rw [Array.size_extract, hl]; omega
  · rw [hd] at hdm; exact List.mem_of_mem_drop (List.mem_of_mem_take hdm)
  · rw [hd, List.getElem?_take] at hj
    split at hj
    · rename_i hlt
      rw [List.getElem?_drop] at hj
      have := h3 _ _ hj
      have hsz : off + j < vs.size := by rw [h1]; exact (List.getElem?_eq_some_iff.1 hj).1
      simp only [Array.getD_eq_getD_getElem?] at this ⊢
      rw [Array.getElem?_extract]
      rw [if_pos (by omega)]
      exact this
    · cases hj

theorem s_field {s fi o : Nat} {x : Operand} {cs : List DV} {d : DV} [hs : TyF P s fi o 1 false] (hx : f x = .agg cs) (hd : cs[o]? = some d) (k : K d σ) :
    OpSem P G B ⟨dst, .field s x fi, type, pos, after, gd⟩ f σ K := fun X ρ hS hσ _ _ hf => by
  subst hσ
  have e1 := hf x (by simp [Op.operands, Call.operands]); rw [hx] at e1
  obtain ⟨vs, e2, h1, h2, h3⟩ := e1.agg_inv
  obtain ⟨fs, fd, d', g1, g2, g3, g4, g5⟩ := hs.h
  have hlt : o < vs.size := by rw [h1]; exact (List.getElem?_eq_some_iff.1 hd).1
  simp only [execOp, e2, Instr.field, run_underlying g1, g2, asAgg, Sem.run_bind, Sem.run_pure, Result.andThen_ok, g3, run_part g4 hlt]
  exact post_same hS (h3 _ _ hd) k
theorem s_field_a {s fi o fz : Nat} {x : Operand} {cs ds : List DV} [hs : TyF P s fi o fz true] (hx : f x = .agg cs) (hd : partD cs o fz = some ds) (hl : ds.length = fz) (k : K (.agg ds) σ) :
    OpSem P G B ⟨dst, .field s x fi, type, pos, after, gd⟩ f σ K := fun X ρ hS hσ _ _ hf => by
  subst hσ
  have e1 := hf x (by simp [Op.operands, Call.operands]); rw [hx] at e1
  obtain ⟨vs, e2, h1, h2, h3⟩ := e1.agg_inv
  obtain ⟨fs, fd, d', g1, g2, g3, g4, g5⟩ := hs.h
  have hlt : o < vs.size := by
    rw [h1]; have h := partD_spec hd
    have : ds.length ≤ cs.length - o := by rw [h, List.length_take, List.length_drop]; omega
    omega
  simp only [execOp, e2, Instr.field, run_underlying g1, g2, asAgg, Sem.run_bind, Sem.run_pure, Result.andThen_ok, g3, run_part g4 hlt]
  exact post_same hS (agg_part h1 h2 h3 (partD_spec hd) hl) k

/-! load -/
theorem run_loadAt_one {t : TypeId} {d : TypeDesc} {size : Nat} (ht : TyI P t d false size) {b o : Nat} {v : Value} {w : World} (h : w.cell? ⟨b, o, none⟩ = some v) :
    (Instr.loadAt t (.pointer (some ⟨b, o, none⟩))).run P w = .ok v w := by
  simp [Instr.loadAt, Instr.sureAddr, loadVar, run_isAgg ht, h, run_load]
theorem run_loadAt_agg {t : TypeId} {d : TypeDesc} {size : Nat} (ht : TyI P t d true size) {b o : Nat} {fv : Nat → Value} {w : World} (h : ∀ j, j < size → w.cell? ⟨b, o + j, none⟩ = some (fv j)) :
    (Instr.loadAt t (.pointer (some ⟨b, o, none⟩))).run P w = .ok (.agg ((List.range size).map fv).toArray) w := by
  simp only [Instr.loadAt, Instr.sureAddr, loadVar, Sem.run_bind, Sem.run_pure, Result.andThen_ok, run_isAgg ht, run_sizeOf ht, if_true, run_loadCells (P := P) w ⟨b, o, none⟩ size fv (fun j hj => by rw [add_none]; exact h j hj)]

theorem agg_range {L : Lay} {cs : List DV} {fv : Nat → Value} {n : Nat} (hn : cs.length = n) (h1 : ∀ d ∈ cs, d.one = true) (h2 : ∀ j d, cs[j]? = some d → VRep L d (fv j)) : VRep L (.agg cs) (.agg ((List.range n).map fv).toArray) := by
  refine .agg _ _ (by simp [hn]) h1 fun j d hj => ?_
  have hlt : j < n := by rw [← hn]; exact (List.getElem?_eq_some_iff.1 hj).1
  simpa [Array.getD_eq_getD_getElem?, hlt] using h2 j d hj

theorem s_load_ep {t : TypeId} {td : TypeDesc} {size : Nat} {x : Operand} {d : DV} {r : List DV} [ht : TyI P t td false size] (hx : f x = .ep (d :: r)) (k : K d σ) :
    OpSem P G B ⟨dst, .load t x, type, pos, after, gd⟩ f σ K := fun X ρ hS hσ _ _ hf => by
  subst hσ
  have e1 := hf x (by simp [Op.operands, Call.operands]); rw [hx] at e1
  obtain ⟨b, o, fv, h5, h6, h7, h8⟩ := e1.ep_inv
  have := (AX.imm_lt (h7 0 (by simp))).2.2.2
  rw [Nat.add_zero] at this
  simp only [execOp, h5, run_loadAt_one ht this, Sem.run_bind, Sem.run_pure, Result.andThen_ok]
  exact post_same hS (h8 0 d rfl) k
theorem s_load_epa {t : TypeId} {td : TypeDesc} {size : Nat} {x : Operand} {cs ds : List DV} [ht : TyI P t td true size] (hx : f x = .ep cs) (hd : partD cs 0 size = some ds) (hl : ds.length = size) (k : K (.agg ds) σ) :
    OpSem P G B ⟨dst, .load t x, type, pos, after, gd⟩ f σ K := fun X ρ hS hσ _ _ hf => by
  subst hσ
  have e1 := hf x (by simp [Op.operands, Call.operands]); rw [hx] at e1
  obtain ⟨b, o, fv, h5, h6, h7, h8⟩ := e1.ep_inv
  have hds := partD_spec hd
  rw [List.drop_zero] at hds
  have hle : size ≤ cs.length := by rw [hds, List.length_take] at hl; omega
  simp only [execOp, h5, run_loadAt_agg ht (fun j hj => (AX.imm_lt (h7 j (by omega))).2.2.2), Sem.run_bind, Sem.run_pure, Result.andThen_ok]
  refine post_same hS (agg_range hl (fun d hd => h6 d ?_) fun j d hj => h8 j d ?_) k
  · rw [hds] at hd; exact List.mem_of_mem_take hd
  · rw [hds, List.getElem?_take] at hj; split at hj <;> first | exact hj | cases hj
/-- The same, of a value of a type with a name. -/
theorem s_load_epe {t : TypeId} {td : TypeDesc} {x : Operand} {y : α} [ht : TyI P t td true (Enc.es α)] (hx : f x = .ep (Enc.enc y)) (k : K (.agg (Enc.enc y)) σ) :
    OpSem P G B ⟨dst, .load t x, type, pos, after, gd⟩ f σ K := fun X ρ hS hσ _ _ hf => by
  subst hσ
  have e1 := hf x (by simp [Op.operands, Call.operands]); rw [hx] at e1
  obtain ⟨b, o, fv, h5, h6, h7, h8⟩ := e1.ep_inv
  have hle := Enc.len y
  simp only [execOp, h5, run_loadAt_agg ht (fun j hj => (AX.imm_lt (h7 j (by omega))).2.2.2), Sem.run_bind, Sem.run_pure, Result.andThen_ok]
  exact post_same hS (agg_range hle h6 h8) k

theorem row_cell {X : AX} {k g b n : Nat} {cs : List DV} (hS : Sto X) (hσ : X.σ[k]? = some (.row g cs)) (hρ : X.ρ k = some (b, n)) {j : Nat} {d : DV} (hj : cs[j]? = some d) :
    ∃ v, X.w.cell? ⟨b, j, none⟩ = some v ∧ VRep X.lay d v ∧ d.one = true := by
  obtain ⟨arr, T, fr, h1, h2, h3, _, h4⟩ := hS.row hσ hρ
  have hlt : j < arr.size := by have := (List.getElem?_eq_some_iff.1 hj).1; omega
  refine ⟨arr.getD j undef, ?_, (h4 j d hj).2, (h4 j d hj).1⟩
  simp [World.cell?, h1, Array.getD_eq_getD_getElem?, hlt]

theorem s_load_row {t : TypeId} {td : TypeDesc} {size : Nat} {x : Operand} {m g off : Nat} {cs : List DV} {d : DV} [ht : TyI P t td false size] (hx : f x = .ptr m g off) (hm : σ[m]? = some (.row g cs)) (hd : cs[off]? = some d) (k : K d σ) :
    OpSem P G B ⟨dst, .load t x, type, pos, after, gd⟩ f σ K := fun X ρ hS hσ _ _ hf => by
  subst hσ
  have e1 := hf x (by simp [Op.operands, Call.operands]); rw [hx] at e1
  obtain ⟨b, n, hρ, e2⟩ := e1.ptr_inv hm
  obtain ⟨v, h1, h2, _⟩ := row_cell hS hm hρ hd
  simp only [execOp, e2, run_loadAt_one ht h1, Sem.run_bind, Sem.run_pure, Result.andThen_ok]
  exact post_same hS h2 k
theorem s_load_rowa' {t : TypeId} {td : TypeDesc} {size : Nat} {x : Operand} {m g off : Nat} {cs ds : List DV} [ht : TyI P t td true size] (hx : f x = .ptr m g off) (hm : σ[m]? = some (.row g cs)) (hd : ds = (cs.drop off).take size) (hl : ds.length = size) (k : K (.agg ds) σ) :
    OpSem P G B ⟨dst, .load t x, type, pos, after, gd⟩ f σ K := fun X ρ hS hσ _ _ hf => by
  subst hσ
  have e1 := hf x (by simp [Op.operands, Call.operands]); rw [hx] at e1
  obtain ⟨b, n, hρ, e2⟩ := e1.ptr_inv hm
  obtain ⟨arr, T, fr, h1, h2, h3, _, h4⟩ := hS.row hm hρ
  have hle : size = 0 ∨ off + size ≤ cs.length := by rw [hd, List.length_take, List.length_drop] at hl; omega
  have hc : ∀ j, j < size → X.w.cell? ⟨b, off + j, none⟩ = some (arr.getD (off + j) undef) := fun j hj => by
    have : off + j < arr.size := by omega
    simp [World.cell?, h1, Array.getD_eq_getD_getElem?, this]
  simp only [execOp, e2, run_loadAt_agg ht hc, Sem.run_bind, Sem.run_pure, Result.andThen_ok]
  have hds : ∀ j d, ds[j]? = some d → cs[off + j]? = some d := fun j d hj => by
    rw [hd, List.getElem?_take] at hj
    split at hj
    · rwa [List.getElem?_drop] at hj
    · cases hj
  refine post_same hS (agg_range hl (fun d hdm => ?_) fun j d hj => (h4 _ _ (hds j d hj)).2) k
  obtain ⟨j, hj⟩ := List.mem_iff_getElem?.1 hdm
  exact (h4 _ _ (hds j d hj)).1
theorem s_load_rowa {t : TypeId} {td : TypeDesc} {size : Nat} {x : Operand} {m g off : Nat} {cs ds : List DV} [ht : TyI P t td true size] (hx : f x = .ptr m g off) (hm : σ[m]? = some (.row g cs)) (hd : partD cs off size = some ds) (hl : ds.length = size) (k : K (.agg ds) σ) :
    OpSem P G B ⟨dst, .load t x, type, pos, after, gd⟩ f σ K := s_load_rowa' hx hm (partD_spec hd) hl k

end
end Go.Av
