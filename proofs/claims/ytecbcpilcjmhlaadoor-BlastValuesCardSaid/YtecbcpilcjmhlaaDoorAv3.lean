/-
  The operations over abstract values: first part (moves, numbers, loads, indexes, lengths).
-/
import Derived.Test.YtecbcpilcjmhlaaDoorAv2
namespace Go.Av
open Classical
set_option linter.unusedSimpArgs false
set_option linter.unusedVariables false

/-- What is known of a type. -/
class TyI (P : Program) (t : TypeId) (d : outParam TypeDesc) (agg : outParam Bool) (size : outParam Nat) : Prop where
  u : P.underlying t = some d
  g : (match d with | .struct _ | .array _ _ => true | _ => false) = agg
  s : (P.info? t).map (·.size) = some size
class TyB (P : Program) (t : TypeId) (bytes : outParam Nat) : Prop where
  b : (P.info? t).map (·.bytes) = some bytes
class TyZ (P : Program) (t : TypeId) (zs : outParam (List Value)) : Prop where
  z : ((P.info? t).bind (·.zero)).map (·.cells.toList) = some zs
  one : (zs.all (·.oneCell')) = true

section
variable {P : Program} {G : Nat → DV} {B : Nat} {f : Operand → DV} {σ : List ABlk} {K : DV → List ABlk → Prop} {dst : Option Tmp} {type : TypeId} {pos : String} {after : Array Edge} {gd : Option (Nat × Bool)}

theorem run_sizeOf {t : TypeId} {d : TypeDesc} {agg : Bool} {size : Nat} (h : TyI P t d agg size) (w : World) : (sizeOf t).run P w = .ok size w := by
  have h := h.s
  cases hi : P.info? t with
  | none => simp [hi] at h
  | some i =>
    simp [hi] at h
    simp [sizeOf, typeInfo, hi, h]

theorem run_isAgg {t : TypeId} {d : TypeDesc} {agg : Bool} {size : Nat} (h : TyI P t d agg size) (w : World) : (isAgg t).run P w = .ok agg w := by
  have h1 := h.u; have h2 := h.g
  unfold isAgg
  simp only [Sem.run_bind, run_underlying h1, Result.andThen_ok]
  rw [← h2]
  cases d <;> rfl

theorem run_zero {t : TypeId} {zs : List Value} (h : TyZ P t zs) (w : World) : ∃ z, (zeroValue t).run P w = .ok z w ∧ z.cells = zs.toArray := by
  have h := h.z
  cases hi : P.info? t with
  | none => simp [hi] at h
  | some i =>
    cases hz : i.zero with
    | none => simp [hi, hz] at h
    | some z =>
      simp [hi, hz] at h
      exact ⟨z, by simp [zeroValue, typeInfo, hi, hz], by rw [← h]⟩

/-- An operation that leaves all as it is. -/
theorem post_same {X : AX} (hS : Sto X) {d : DV} {v : Value} (hv : VRep X.lay d v) (k : K d X.σ) : APost X K v X.w := ⟨X, rfl, hS, .refl X, d, hv, k⟩

theorem s_move {x : Operand} (k : K (f x) σ) : OpSem P G B ⟨dst, .move x, type, pos, after, gd⟩ f σ K := fun X ρ hS hσ _ _ hf => by
  subst hσ; exact post_same hS (hf x (by simp [Op.operands])) k
theorem s_assign {x : Operand} (k : K (f x) σ) : OpSem P G B ⟨dst, .assign x, type, pos, after, gd⟩ f σ K := fun X ρ hS hσ _ _ hf => by
  subst hσ; exact post_same hS (hf x (by simp [Op.operands])) k
theorem s_move_d {x : Operand} {d : DV} (h : f x = d) (k : K d σ) : OpSem P G B ⟨dst, .move x, type, pos, after, gd⟩ f σ K := s_move (by rw [h]; exact k)
theorem s_assign_d {x : Operand} {d : DV} (h : f x = d) (k : K d σ) : OpSem P G B ⟨dst, .assign x, type, pos, after, gd⟩ f σ K := s_assign (by rw [h]; exact k)

theorem s_pick_t {c x y : Operand} {d : DV} (hc : f c = .sc (.bool true)) (h : f x = d) (k : K d σ) : OpSem P G B ⟨dst, .pick c x y, type, pos, after, gd⟩ f σ K := fun X ρ hS hσ _ _ hf => by
  subst hσ
  have h1 := hf c (by simp [Op.operands, Call.operands]); rw [hc] at h1
  have h2 := hf x (by simp [Op.operands, Call.operands]); rw [h] at h2
  have := VRep.sc_eq h1
  simp only [execOp, asBool, this]
  exact post_same hS h2 k
theorem s_pick_f {c x y : Operand} {d : DV} (hc : f c = .sc (.bool false)) (h : f y = d) (k : K d σ) : OpSem P G B ⟨dst, .pick c x y, type, pos, after, gd⟩ f σ K := fun X ρ hS hσ _ _ hf => by
  subst hσ
  have h1 := hf c (by simp [Op.operands, Call.operands]); rw [hc] at h1
  have h2 := hf y (by simp [Op.operands, Call.operands]); rw [h] at h2
  have := VRep.sc_eq h1
  simp only [execOp, asBool, this]
  exact post_same hS h2 k

/-! Arithmetic. -/

/-- An operation on two values without addresses, by the run of the model's own operation. -/
theorem s_bin {op : BinOp} {t t' : TypeId} {x y : Operand} {u v z : Value} (hx : f x = .sc u) (hy : f y = .sc v)
    (hr : ∀ w, (do eqGuard op t x y u v; binOp op t u v : Sem Value).run P w = .ok z w) (k : K (.sc z) σ) : OpSem P G B ⟨dst, .binOp op t x y t', type, pos, after, gd⟩ f σ K := fun X ρ hS hσ _ _ hf => by
  subst hσ
  have h1 := hf x (by simp [Op.operands, Call.operands]); rw [hx] at h1
  have h2 := hf y (by simp [Op.operands, Call.operands]); rw [hy] at h2
  have e1 := VRep.sc_eq h1
  have e2 := VRep.sc_eq h2
  have := hr X.w
  simp only [execOp, e1, e2, Sem.run_bind, this, Result.andThen_ok, Sem.run_pure]
  exact post_same hS (.sc z) k


theorem wrap_i64 {n : Int} (h : -9223372036854775808 ≤ n ∧ n ≤ 9223372036854775807) : IntKind.i64.wrap n = n := IntWalk.i64_in n (by omega)

theorem s_int {op : BinOp} {t t' : TypeId} {x y : Operand} {k1 : IntKind} {a b : Int} {z : Value} (hx : f x = .sc (.int k1 a)) (hy : f y = .sc (.int k1 b))
    (hr : ∀ w, (binOp op t (.int k1 a) (.int k1 b)).run P w = .ok z w) (k : K (.sc z) σ) : OpSem P G B ⟨dst, .binOp op t x y t', type, pos, after, gd⟩ f σ K :=
  s_bin hx hy (fun w => by
    have : (eqGuard op t x y (.int k1 a) (.int k1 b)).run P w = .ok () w := by unfold eqGuard; split <;> rfl
    simp only [Sem.run_bind, this, Result.andThen_ok, hr]) k

theorem s_add {t t' : TypeId} {x y : Operand} {a b : Int} (hx : f x = .sc (.int .i64 a)) (hy : f y = .sc (.int .i64 b)) (h : -9223372036854775808 ≤ a + b ∧ a + b ≤ 9223372036854775807)
    (k : K (.sc (.int .i64 (a + b))) σ) : OpSem P G B ⟨dst, .binOp .add t x y t', type, pos, after, gd⟩ f σ K :=
  s_int hx hy (fun w => by simp [binOp, Op.intArith, wrap_i64 h]) k
theorem s_sub {t t' : TypeId} {x y : Operand} {a b : Int} (hx : f x = .sc (.int .i64 a)) (hy : f y = .sc (.int .i64 b)) (h : -9223372036854775808 ≤ a - b ∧ a - b ≤ 9223372036854775807)
    (k : K (.sc (.int .i64 (a - b))) σ) : OpSem P G B ⟨dst, .binOp .sub t x y t', type, pos, after, gd⟩ f σ K :=
  s_int hx hy (fun w => by simp [binOp, Op.intArith, wrap_i64 h]) k
theorem s_mul {t t' : TypeId} {x y : Operand} {a b : Int} (hx : f x = .sc (.int .i64 a)) (hy : f y = .sc (.int .i64 b)) (h : -9223372036854775808 ≤ a * b ∧ a * b ≤ 9223372036854775807)
    (k : K (.sc (.int .i64 (a * b))) σ) : OpSem P G B ⟨dst, .binOp .mul t x y t', type, pos, after, gd⟩ f σ K :=
  s_int hx hy (fun w => by simp [binOp, Op.intArith, wrap_i64 h]) k
theorem s_addw {t t' : TypeId} {x y : Operand} {a b : Int} {k1 : IntKind} (hx : f x = .sc (.int k1 a)) (hy : f y = .sc (.int k1 b))
    (k : K (.sc (.int k1 (k1.wrap (a + b)))) σ) : OpSem P G B ⟨dst, .binOp .add t x y t', type, pos, after, gd⟩ f σ K :=
  s_int hx hy (fun w => by simp [binOp, Op.intArith]) k
theorem s_subw {t t' : TypeId} {x y : Operand} {a b : Int} {k1 : IntKind} (hx : f x = .sc (.int k1 a)) (hy : f y = .sc (.int k1 b))
    (k : K (.sc (.int k1 (k1.wrap (a - b)))) σ) : OpSem P G B ⟨dst, .binOp .sub t x y t', type, pos, after, gd⟩ f σ K :=
  s_int hx hy (fun w => by simp [binOp, Op.intArith]) k
theorem s_mulw {t t' : TypeId} {x y : Operand} {a b : Int} {k1 : IntKind} (hx : f x = .sc (.int k1 a)) (hy : f y = .sc (.int k1 b))
    (k : K (.sc (.int k1 (k1.wrap (a * b)))) σ) : OpSem P G B ⟨dst, .binOp .mul t x y t', type, pos, after, gd⟩ f σ K :=
  s_int hx hy (fun w => by simp [binOp, Op.intArith]) k

theorem wrap_tdiv {a b : Int} (ha : 0 ≤ a) (hb : 0 < b) (h : a ≤ 9223372036854775807) : IntKind.i64.wrap (a.tdiv b) = a / b := by
  rw [Int.tdiv_eq_ediv_of_nonneg ha]
  exact wrap_i64 ⟨by have := Int.ediv_nonneg ha (by omega : 0 ≤ b); omega, by have := Int.ediv_le_self b ha; omega⟩
theorem s_quo {t t' : TypeId} {x y : Operand} {a b : Int} (hx : f x = .sc (.int .i64 a)) (hy : f y = .sc (.int .i64 b)) (ha : 0 ≤ a) (hb : 0 < b) (h : a ≤ 9223372036854775807)
    (k : K (.sc (.int .i64 (a / b))) σ) : OpSem P G B ⟨dst, .binOp .quo t x y t', type, pos, after, gd⟩ f σ K :=
  s_int hx hy (fun w => by simp [binOp, Op.intDiv, show b ≠ 0 by omega, wrap_tdiv ha hb h]) k
theorem s_rem {t t' : TypeId} {x y : Operand} {a b : Int} {k1 : IntKind} (hx : f x = .sc (.int k1 a)) (hy : f y = .sc (.int k1 b)) (ha : 0 ≤ a) (hb : b ≠ 0)
    (k : K (.sc (.int k1 (a % b))) σ) : OpSem P G B ⟨dst, .binOp .rem t x y t', type, pos, after, gd⟩ f σ K :=
  s_int hx hy (fun w => by simp [binOp, Op.intDiv, hb, Int.tmod_eq_emod_of_nonneg ha]) k
theorem s_quow {t t' : TypeId} {x y : Operand} {a b : Int} {k1 : IntKind} (hx : f x = .sc (.int k1 a)) (hy : f y = .sc (.int k1 b)) (hb : b ≠ 0)
    (k : K (.sc (.int k1 (k1.wrap (a.tdiv b)))) σ) : OpSem P G B ⟨dst, .binOp .quo t x y t', type, pos, after, gd⟩ f σ K :=
  s_int hx hy (fun w => by simp [binOp, Op.intDiv, hb]) k
theorem s_remw {t t' : TypeId} {x y : Operand} {a b : Int} {k1 : IntKind} (hx : f x = .sc (.int k1 a)) (hy : f y = .sc (.int k1 b)) (hb : b ≠ 0)
    (k : K (.sc (.int k1 (a.tmod b))) σ) : OpSem P G B ⟨dst, .binOp .rem t x y t', type, pos, after, gd⟩ f σ K :=
  s_int hx hy (fun w => by simp [binOp, Op.intDiv, hb]) k

theorem s_eql {t t' : TypeId} {x y : Operand} {a b : Int} {k1 : IntKind} (hx : f x = .sc (.int k1 a)) (hy : f y = .sc (.int k1 b))
    (k : K (.sc (.bool (decide (a = b)))) σ) : OpSem P G B ⟨dst, .binOp .eql t x y t', type, pos, after, gd⟩ f σ K := s_int hx hy (fun w => by simp [binOp, Op.intCmp]; rfl) k
theorem s_neq {t t' : TypeId} {x y : Operand} {a b : Int} {k1 : IntKind} (hx : f x = .sc (.int k1 a)) (hy : f y = .sc (.int k1 b))
    (k : K (.sc (.bool (decide (a ≠ b)))) σ) : OpSem P G B ⟨dst, .binOp .neq t x y t', type, pos, after, gd⟩ f σ K := s_int hx hy (fun w => by simp [binOp, Op.intCmp]; rfl) k
theorem s_lss {t t' : TypeId} {x y : Operand} {a b : Int} {k1 : IntKind} (hx : f x = .sc (.int k1 a)) (hy : f y = .sc (.int k1 b))
    (k : K (.sc (.bool (decide (a < b)))) σ) : OpSem P G B ⟨dst, .binOp .lss t x y t', type, pos, after, gd⟩ f σ K := s_int hx hy (fun w => by simp [binOp, Op.intCmp]) k
theorem s_leq {t t' : TypeId} {x y : Operand} {a b : Int} {k1 : IntKind} (hx : f x = .sc (.int k1 a)) (hy : f y = .sc (.int k1 b))
    (k : K (.sc (.bool (decide (a ≤ b)))) σ) : OpSem P G B ⟨dst, .binOp .leq t x y t', type, pos, after, gd⟩ f σ K := s_int hx hy (fun w => by simp [binOp, Op.intCmp]) k
theorem s_gtr {t t' : TypeId} {x y : Operand} {a b : Int} {k1 : IntKind} (hx : f x = .sc (.int k1 a)) (hy : f y = .sc (.int k1 b))
    (k : K (.sc (.bool (decide (b < a)))) σ) : OpSem P G B ⟨dst, .binOp .gtr t x y t', type, pos, after, gd⟩ f σ K := s_int hx hy (fun w => by simp [binOp, Op.intCmp]) k
theorem s_geq {t t' : TypeId} {x y : Operand} {a b : Int} {k1 : IntKind} (hx : f x = .sc (.int k1 a)) (hy : f y = .sc (.int k1 b))
    (k : K (.sc (.bool (decide (b ≤ a)))) σ) : OpSem P G B ⟨dst, .binOp .geq t x y t', type, pos, after, gd⟩ f σ K := s_int hx hy (fun w => by simp [binOp, Op.intCmp]) k

/-- & | ^ &^ by the model's own words. -/
def bitsOf (op : BinOp) (k : IntKind) (x y : Int) : Int :=
  let a := BitVec.ofInt k.bits x
  let b := BitVec.ofInt k.bits y
  match op with
  | .and => k.wrap (a &&& b).toNat
  | .or => k.wrap (a ||| b).toNat
  | .xor => k.wrap (a ^^^ b).toNat
  | _ => k.wrap (a &&& ~~~b).toNat
theorem s_and {t t' : TypeId} {x y : Operand} {a b : Int} {k1 : IntKind} (hx : f x = .sc (.int k1 a)) (hy : f y = .sc (.int k1 b))
    (k : K (.sc (.int k1 (bitsOf .and k1 a b))) σ) : OpSem P G B ⟨dst, .binOp .and t x y t', type, pos, after, gd⟩ f σ K := s_int hx hy (fun w => by simp [binOp, Op.intBits, bitsOf]) k
theorem s_or {t t' : TypeId} {x y : Operand} {a b : Int} {k1 : IntKind} (hx : f x = .sc (.int k1 a)) (hy : f y = .sc (.int k1 b))
    (k : K (.sc (.int k1 (bitsOf .or k1 a b))) σ) : OpSem P G B ⟨dst, .binOp .or t x y t', type, pos, after, gd⟩ f σ K := s_int hx hy (fun w => by simp [binOp, Op.intBits, bitsOf]) k
theorem s_xor {t t' : TypeId} {x y : Operand} {a b : Int} {k1 : IntKind} (hx : f x = .sc (.int k1 a)) (hy : f y = .sc (.int k1 b))
    (k : K (.sc (.int k1 (bitsOf .xor k1 a b))) σ) : OpSem P G B ⟨dst, .binOp .xor t x y t', type, pos, after, gd⟩ f σ K := s_int hx hy (fun w => by simp [binOp, Op.intBits, bitsOf]) k
theorem s_andnot {t t' : TypeId} {x y : Operand} {a b : Int} {k1 : IntKind} (hx : f x = .sc (.int k1 a)) (hy : f y = .sc (.int k1 b))
    (k : K (.sc (.int k1 (bitsOf .andNot k1 a b))) σ) : OpSem P G B ⟨dst, .binOp .andNot t x y t', type, pos, after, gd⟩ f σ K := s_int hx hy (fun w => by simp [binOp, Op.intBits, bitsOf]) k

theorem s_shl {t t' : TypeId} {x y : Operand} {a b : Int} {k1 k2 : IntKind} (hx : f x = .sc (.int k1 a)) (hy : f y = .sc (.int k2 b)) (hb : 0 ≤ b)
    (k : K (.sc (.int k1 (k1.wrap (a * 2 ^ min b.toNat k1.bits)))) σ) : OpSem P G B ⟨dst, .binOp .shl t x y t', type, pos, after, gd⟩ f σ K :=
  s_bin hx hy (fun w => by
    have : (eqGuard .shl t x y (.int k1 a) (.int k2 b)).run P w = .ok () w := by unfold eqGuard; rfl
    simp only [Sem.run_bind, this, Result.andThen_ok]
    simp [binOp, Op.shift, show ¬ b < 0 by omega]) k
theorem s_shr {t t' : TypeId} {x y : Operand} {a b : Int} {k1 k2 : IntKind} (hx : f x = .sc (.int k1 a)) (hy : f y = .sc (.int k2 b)) (hb : 0 ≤ b)
    (k : K (.sc (.int k1 (a / 2 ^ min b.toNat k1.bits))) σ) : OpSem P G B ⟨dst, .binOp .shr t x y t', type, pos, after, gd⟩ f σ K :=
  s_bin hx hy (fun w => by
    have : (eqGuard .shr t x y (.int k1 a) (.int k2 b)).run P w = .ok () w := by unfold eqGuard; rfl
    simp only [Sem.run_bind, this, Result.andThen_ok]
    have h2 : (0 : Int) ≤ 2 ^ min b.toNat k1.bits := Int.le_of_lt (Int.pow_pos (by decide))
    simp [binOp, Op.shift, show ¬ b < 0 by omega, Int.fdiv_eq_ediv_of_nonneg _ h2]) k

theorem s_not {t : TypeId} {x : Operand} {b : Bool} (hx : f x = .sc (.bool b)) (k : K (.sc (.bool !b)) σ) : OpSem P G B ⟨dst, .unOp .not t x, type, pos, after, gd⟩ f σ K := fun X ρ hS hσ _ _ hf => by
  subst hσ
  have h1 := hf x (by simp [Op.operands, Call.operands]); rw [hx] at h1
  simp only [execOp, VRep.sc_eq h1, Op.unary, Sem.run_bind, Sem.run_pure, Result.andThen_ok]
  exact post_same hS (.sc _) k
theorem s_not_d {t : TypeId} {x : Operand} {p : Prop} [Decidable p] (hx : f x = .sc (.bool (decide p))) (k : K (.sc (.bool (decide (¬ p)))) σ) : OpSem P G B ⟨dst, .unOp .not t x, type, pos, after, gd⟩ f σ K :=
  s_not hx (by rw [← decide_not]; exact k)
theorem s_neg {t : TypeId} {x : Operand} {a : Int} (hx : f x = .sc (.int .i64 a)) (h : -9223372036854775807 ≤ a ∧ a ≤ 9223372036854775807) (k : K (.sc (.int .i64 (-a))) σ) : OpSem P G B ⟨dst, .unOp .neg t x, type, pos, after, gd⟩ f σ K := fun X ρ hS hσ _ _ hf => by
  subst hσ
  have h1 := hf x (by simp [Op.operands, Call.operands]); rw [hx] at h1
  simp only [execOp, VRep.sc_eq h1, Op.unary, Op.intArith, Sem.run_bind, Sem.run_pure, Result.andThen_ok]
  rw [wrap_i64 (by omega), Int.zero_sub]
  exact post_same hS (.sc _) k
theorem s_negw {t : TypeId} {x : Operand} {a : Int} {k1 : IntKind} (hx : f x = .sc (.int k1 a)) (k : K (.sc (.int k1 (k1.wrap (0 - a)))) σ) : OpSem P G B ⟨dst, .unOp .neg t x, type, pos, after, gd⟩ f σ K := fun X ρ hS hσ _ _ hf => by
  subst hσ
  have h1 := hf x (by simp [Op.operands, Call.operands]); rw [hx] at h1
  simp only [execOp, VRep.sc_eq h1, Op.unary, Op.intArith, Sem.run_bind, Sem.run_pure, Result.andThen_ok]
  exact post_same hS (.sc _) k
theorem s_com {t : TypeId} {x : Operand} {a : Int} {k1 : IntKind} (hx : f x = .sc (.int k1 a)) (k : K (.sc (.int k1 (bitsOf .xor k1 (if k1.signed then -1 else k1.max) a))) σ) : OpSem P G B ⟨dst, .unOp .xor t x, type, pos, after, gd⟩ f σ K := fun X ρ hS hσ _ _ hf => by
  subst hσ
  have h1 := hf x (by simp [Op.operands, Call.operands]); rw [hx] at h1
  simp only [execOp, VRep.sc_eq h1, Op.unary, Op.intBits, Sem.run_bind, Sem.run_pure, Result.andThen_ok]
  exact post_same hS (.sc _) k

theorem s_conv {s d : TypeId} {x : Operand} {a : Int} {k1 k2 : IntKind} {ds : TypeDesc} {g1 g2 : Bool} {z1 z2 : Nat} [hs : TyI P s ds g1 z1] [hd : TyI P d (.int k2) g2 z2] (hx : f x = .sc (.int k1 a))
    (k : K (.sc (.int k2 (k2.wrap a))) σ) : OpSem P G B ⟨dst, .convert s d x, type, pos, after, gd⟩ f σ K := fun X ρ hS hσ _ _ hf => by
  subst hσ
  have h1 := hf x (by simp [Op.operands, Call.operands]); rw [hx] at h1
  have : (convert s d (.int k1 a)).run P X.w = .ok (.int k2 (k2.wrap a)) X.w := by
    unfold convert
    simp only [Sem.run_bind, run_underlying hs.u, run_underlying hd.u, Result.andThen_ok]
    cases ds <;> rfl
  simp only [execOp, VRep.sc_eq h1, this, Sem.run_bind, Sem.run_pure, Result.andThen_ok]
  exact post_same hS (.sc _) k
theorem s_conv_i {s d : TypeId} {x : Operand} {a : Int} {k1 : IntKind} {ds : TypeDesc} {g1 g2 : Bool} {z1 z2 : Nat} [hs : TyI P s ds g1 z1] [hd : TyI P d (.int .i64) g2 z2] (hx : f x = .sc (.int k1 a))
    (h : -9223372036854775808 ≤ a ∧ a ≤ 9223372036854775807) (k : K (.sc (.int .i64 a)) σ) : OpSem P G B ⟨dst, .convert s d x, type, pos, after, gd⟩ f σ K :=
  s_conv hx (by rw [wrap_i64 h]; exact k)

end
end Go.Av
