/-
  Guards: the form of what comes next.
-/
import Derived.Test.YtecbcpilcjmhlaaDoorAvC
namespace Go.Av
section
variable {P : Program} {G : Nat → DV} {B : Nat} {f : Operand → DV} {σ : List ABlk} {K : DV → List ABlk → Prop} {dst : Option Tmp} {type : TypeId} {pos : String} {after : Array Edge} {gd : Option (Nat × Bool)}
theorem g_move {x : Operand} (h : OpSem P G B ⟨dst, .move x, type, pos, after, gd⟩ f σ K) : OpSem P G B ⟨dst, .move x, type, pos, after, gd⟩ f σ K := h
theorem g_assign {x : Operand} (h : OpSem P G B ⟨dst, .assign x, type, pos, after, gd⟩ f σ K) : OpSem P G B ⟨dst, .assign x, type, pos, after, gd⟩ f σ K := h
theorem g_pick {c x y : Operand} (h : OpSem P G B ⟨dst, .pick c x y, type, pos, after, gd⟩ f σ K) : OpSem P G B ⟨dst, .pick c x y, type, pos, after, gd⟩ f σ K := h
theorem g_alloc {t : TypeId} (h : OpSem P G B ⟨dst, .alloc t, type, pos, after, gd⟩ f σ K) : OpSem P G B ⟨dst, .alloc t, type, pos, after, gd⟩ f σ K := h
theorem g_box {t : TypeId} {x : Operand} (h : OpSem P G B ⟨dst, .box t x, type, pos, after, gd⟩ f σ K) : OpSem P G B ⟨dst, .box t x, type, pos, after, gd⟩ f σ K := h
theorem g_build {t : TypeId} {ps : Array (Nat × Operand)} (h : OpSem P G B ⟨dst, .build t ps, type, pos, after, gd⟩ f σ K) : OpSem P G B ⟨dst, .build t ps, type, pos, after, gd⟩ f σ K := h
theorem g_buildSlice {t : TypeId} {m : Nat} {ps : Array (Nat × Operand)} (h : OpSem P G B ⟨dst, .buildSlice t m ps, type, pos, after, gd⟩ f σ K) : OpSem P G B ⟨dst, .buildSlice t m ps, type, pos, after, gd⟩ f σ K := h
theorem g_insert {t : TypeId} {x y z : Operand} (h : OpSem P G B ⟨dst, .insert t x y z, type, pos, after, gd⟩ f σ K) : OpSem P G B ⟨dst, .insert t x y z, type, pos, after, gd⟩ f σ K := h
theorem g_load {t : TypeId} {x : Operand} (h : OpSem P G B ⟨dst, .load t x, type, pos, after, gd⟩ f σ K) : OpSem P G B ⟨dst, .load t x, type, pos, after, gd⟩ f σ K := h
theorem g_store {t : TypeId} {x y : Operand} (h : OpSem P G B ⟨dst, .store t x y, type, pos, after, gd⟩ f σ K) : OpSem P G B ⟨dst, .store t x y, type, pos, after, gd⟩ f σ K := h
theorem g_nilCheck {x : Operand} (h : OpSem P G B ⟨dst, .nilCheck x, type, pos, after, gd⟩ f σ K) : OpSem P G B ⟨dst, .nilCheck x, type, pos, after, gd⟩ f σ K := h
theorem g_binOp {op : BinOp} {t : TypeId} {x y : Operand} {t' : TypeId} (h : OpSem P G B ⟨dst, .binOp op t x y t', type, pos, after, gd⟩ f σ K) : OpSem P G B ⟨dst, .binOp op t x y t', type, pos, after, gd⟩ f σ K := h
theorem g_unOp {op : UnOp} {t : TypeId} {x : Operand} (h : OpSem P G B ⟨dst, .unOp op t x, type, pos, after, gd⟩ f σ K) : OpSem P G B ⟨dst, .unOp op t x, type, pos, after, gd⟩ f σ K := h
theorem g_convert {t t' : TypeId} {x : Operand} (h : OpSem P G B ⟨dst, .convert t t' x, type, pos, after, gd⟩ f σ K) : OpSem P G B ⟨dst, .convert t t' x, type, pos, after, gd⟩ f σ K := h
theorem g_makeFunc {fn : Fn} {x y : Array Operand} (h : OpSem P G B ⟨dst, .makeFunc fn x y, type, pos, after, gd⟩ f σ K) : OpSem P G B ⟨dst, .makeFunc fn x y, type, pos, after, gd⟩ f σ K := h
theorem g_makeMap {t : TypeId} {x : Option Operand} (h : OpSem P G B ⟨dst, .makeMap t x, type, pos, after, gd⟩ f σ K) : OpSem P G B ⟨dst, .makeMap t x, type, pos, after, gd⟩ f σ K := h
theorem g_makeSlice {t : TypeId} {x y : Operand} (h : OpSem P G B ⟨dst, .makeSlice t x y, type, pos, after, gd⟩ f σ K) : OpSem P G B ⟨dst, .makeSlice t x y, type, pos, after, gd⟩ f σ K := h
theorem g_slice {t : TypeId} {x : Operand} {a b c : Option Operand} (h : OpSem P G B ⟨dst, .slice t x a b c, type, pos, after, gd⟩ f σ K) : OpSem P G B ⟨dst, .slice t x a b c, type, pos, after, gd⟩ f σ K := h
theorem g_fieldAddr {t : TypeId} {x : Operand} {m : Nat} (h : OpSem P G B ⟨dst, .fieldAddr t x m, type, pos, after, gd⟩ f σ K) : OpSem P G B ⟨dst, .fieldAddr t x m, type, pos, after, gd⟩ f σ K := h
theorem g_field {t : TypeId} {x : Operand} {m : Nat} (h : OpSem P G B ⟨dst, .field t x m, type, pos, after, gd⟩ f σ K) : OpSem P G B ⟨dst, .field t x m, type, pos, after, gd⟩ f σ K := h
theorem g_indexAddr {t : TypeId} {x y : Operand} (h : OpSem P G B ⟨dst, .indexAddr t x y, type, pos, after, gd⟩ f σ K) : OpSem P G B ⟨dst, .indexAddr t x y, type, pos, after, gd⟩ f σ K := h
theorem g_index {t : TypeId} {x y : Operand} (h : OpSem P G B ⟨dst, .index t x y, type, pos, after, gd⟩ f σ K) : OpSem P G B ⟨dst, .index t x y, type, pos, after, gd⟩ f σ K := h
theorem g_lookup {t : TypeId} {x y : Operand} {b : Bool} (h : OpSem P G B ⟨dst, .lookup t x y b, type, pos, after, gd⟩ f σ K) : OpSem P G B ⟨dst, .lookup t x y b, type, pos, after, gd⟩ f σ K := h
theorem g_mapUpdate {t : TypeId} {x y z : Operand} (h : OpSem P G B ⟨dst, .mapUpdate t x y z, type, pos, after, gd⟩ f σ K) : OpSem P G B ⟨dst, .mapUpdate t x y z, type, pos, after, gd⟩ f σ K := h
theorem g_range {t : TypeId} {x : Operand} (h : OpSem P G B ⟨dst, .range t x, type, pos, after, gd⟩ f σ K) : OpSem P G B ⟨dst, .range t x, type, pos, after, gd⟩ f σ K := h
theorem g_next {x : Operand} {b : Bool} (h : OpSem P G B ⟨dst, .next x b, type, pos, after, gd⟩ f σ K) : OpSem P G B ⟨dst, .next x b, type, pos, after, gd⟩ f σ K := h
theorem g_extract {x : Operand} {m : Nat} (h : OpSem P G B ⟨dst, .extract x m, type, pos, after, gd⟩ f σ K) : OpSem P G B ⟨dst, .extract x m, type, pos, after, gd⟩ f σ K := h
theorem g_call {c : Call} (h : OpSem P G B ⟨dst, .call c, type, pos, after, gd⟩ f σ K) : OpSem P G B ⟨dst, .call c, type, pos, after, gd⟩ f σ K := h
theorem g_binOp_add {t t' : TypeId} {x y : Operand} (h : OpSem P G B ⟨dst, .binOp .add t x y t', type, pos, after, gd⟩ f σ K) : OpSem P G B ⟨dst, .binOp .add t x y t', type, pos, after, gd⟩ f σ K := h
theorem g_binOp_sub {t t' : TypeId} {x y : Operand} (h : OpSem P G B ⟨dst, .binOp .sub t x y t', type, pos, after, gd⟩ f σ K) : OpSem P G B ⟨dst, .binOp .sub t x y t', type, pos, after, gd⟩ f σ K := h
theorem g_binOp_mul {t t' : TypeId} {x y : Operand} (h : OpSem P G B ⟨dst, .binOp .mul t x y t', type, pos, after, gd⟩ f σ K) : OpSem P G B ⟨dst, .binOp .mul t x y t', type, pos, after, gd⟩ f σ K := h
theorem g_binOp_quo {t t' : TypeId} {x y : Operand} (h : OpSem P G B ⟨dst, .binOp .quo t x y t', type, pos, after, gd⟩ f σ K) : OpSem P G B ⟨dst, .binOp .quo t x y t', type, pos, after, gd⟩ f σ K := h
theorem g_binOp_rem {t t' : TypeId} {x y : Operand} (h : OpSem P G B ⟨dst, .binOp .rem t x y t', type, pos, after, gd⟩ f σ K) : OpSem P G B ⟨dst, .binOp .rem t x y t', type, pos, after, gd⟩ f σ K := h
theorem g_binOp_and {t t' : TypeId} {x y : Operand} (h : OpSem P G B ⟨dst, .binOp .and t x y t', type, pos, after, gd⟩ f σ K) : OpSem P G B ⟨dst, .binOp .and t x y t', type, pos, after, gd⟩ f σ K := h
theorem g_binOp_or {t t' : TypeId} {x y : Operand} (h : OpSem P G B ⟨dst, .binOp .or t x y t', type, pos, after, gd⟩ f σ K) : OpSem P G B ⟨dst, .binOp .or t x y t', type, pos, after, gd⟩ f σ K := h
theorem g_binOp_xor {t t' : TypeId} {x y : Operand} (h : OpSem P G B ⟨dst, .binOp .xor t x y t', type, pos, after, gd⟩ f σ K) : OpSem P G B ⟨dst, .binOp .xor t x y t', type, pos, after, gd⟩ f σ K := h
theorem g_binOp_shl {t t' : TypeId} {x y : Operand} (h : OpSem P G B ⟨dst, .binOp .shl t x y t', type, pos, after, gd⟩ f σ K) : OpSem P G B ⟨dst, .binOp .shl t x y t', type, pos, after, gd⟩ f σ K := h
theorem g_binOp_shr {t t' : TypeId} {x y : Operand} (h : OpSem P G B ⟨dst, .binOp .shr t x y t', type, pos, after, gd⟩ f σ K) : OpSem P G B ⟨dst, .binOp .shr t x y t', type, pos, after, gd⟩ f σ K := h
theorem g_binOp_andNot {t t' : TypeId} {x y : Operand} (h : OpSem P G B ⟨dst, .binOp .andNot t x y t', type, pos, after, gd⟩ f σ K) : OpSem P G B ⟨dst, .binOp .andNot t x y t', type, pos, after, gd⟩ f σ K := h
theorem g_binOp_eql {t t' : TypeId} {x y : Operand} (h : OpSem P G B ⟨dst, .binOp .eql t x y t', type, pos, after, gd⟩ f σ K) : OpSem P G B ⟨dst, .binOp .eql t x y t', type, pos, after, gd⟩ f σ K := h
theorem g_binOp_neq {t t' : TypeId} {x y : Operand} (h : OpSem P G B ⟨dst, .binOp .neq t x y t', type, pos, after, gd⟩ f σ K) : OpSem P G B ⟨dst, .binOp .neq t x y t', type, pos, after, gd⟩ f σ K := h
theorem g_binOp_lss {t t' : TypeId} {x y : Operand} (h : OpSem P G B ⟨dst, .binOp .lss t x y t', type, pos, after, gd⟩ f σ K) : OpSem P G B ⟨dst, .binOp .lss t x y t', type, pos, after, gd⟩ f σ K := h
theorem g_binOp_leq {t t' : TypeId} {x y : Operand} (h : OpSem P G B ⟨dst, .binOp .leq t x y t', type, pos, after, gd⟩ f σ K) : OpSem P G B ⟨dst, .binOp .leq t x y t', type, pos, after, gd⟩ f σ K := h
theorem g_binOp_gtr {t t' : TypeId} {x y : Operand} (h : OpSem P G B ⟨dst, .binOp .gtr t x y t', type, pos, after, gd⟩ f σ K) : OpSem P G B ⟨dst, .binOp .gtr t x y t', type, pos, after, gd⟩ f σ K := h
theorem g_binOp_geq {t t' : TypeId} {x y : Operand} (h : OpSem P G B ⟨dst, .binOp .geq t x y t', type, pos, after, gd⟩ f σ K) : OpSem P G B ⟨dst, .binOp .geq t x y t', type, pos, after, gd⟩ f σ K := h
theorem g_unOp_not {t : TypeId} {x : Operand} (h : OpSem P G B ⟨dst, .unOp .not t x, type, pos, after, gd⟩ f σ K) : OpSem P G B ⟨dst, .unOp .not t x, type, pos, after, gd⟩ f σ K := h
theorem g_unOp_neg {t : TypeId} {x : Operand} (h : OpSem P G B ⟨dst, .unOp .neg t x, type, pos, after, gd⟩ f σ K) : OpSem P G B ⟨dst, .unOp .neg t x, type, pos, after, gd⟩ f σ K := h
theorem g_unOp_xor {t : TypeId} {x : Operand} (h : OpSem P G B ⟨dst, .unOp .xor t x, type, pos, after, gd⟩ f σ K) : OpSem P G B ⟨dst, .unOp .xor t x, type, pos, after, gd⟩ f σ K := h
theorem g_call_len {x : Array Operand} {t : Array TypeId} (h : OpSem P G B ⟨dst, .call ⟨.builtin .len, x, t⟩, type, pos, after, gd⟩ f σ K) : OpSem P G B ⟨dst, .call ⟨.builtin .len, x, t⟩, type, pos, after, gd⟩ f σ K := h
theorem g_call_append {x : Array Operand} {t : Array TypeId} (h : OpSem P G B ⟨dst, .call ⟨.builtin .append, x, t⟩, type, pos, after, gd⟩ f σ K) : OpSem P G B ⟨dst, .call ⟨.builtin .append, x, t⟩, type, pos, after, gd⟩ f σ K := h
theorem g_call_min {x : Array Operand} {t : Array TypeId} (h : OpSem P G B ⟨dst, .call ⟨.builtin .min, x, t⟩, type, pos, after, gd⟩ f σ K) : OpSem P G B ⟨dst, .call ⟨.builtin .min, x, t⟩, type, pos, after, gd⟩ f σ K := h
theorem g_call_clear {x : Array Operand} {t : Array TypeId} (h : OpSem P G B ⟨dst, .call ⟨.builtin .clear, x, t⟩, type, pos, after, gd⟩ f σ K) : OpSem P G B ⟨dst, .call ⟨.builtin .clear, x, t⟩, type, pos, after, gd⟩ f σ K := h
theorem g_call_value {y : Operand} {x : Array Operand} {t : Array TypeId} (h : OpSem P G B ⟨dst, .call ⟨.value y, x, t⟩, type, pos, after, gd⟩ f σ K) : OpSem P G B ⟨dst, .call ⟨.value y, x, t⟩, type, pos, after, gd⟩ f σ K := h
theorem g_sem {o : Oper} (h : OpSem P G B o f σ K) : OpSem P G B o f σ K := h
variable {E : AX} {n : Nat} {N : ASt → Prop} {xs : List (Nat × (ASt → Prop))} {R : ASt → Prop} {st : ASt}
theorem g_run {c : Code} (h : ARun P G E n c N xs R st) : ARun P G E n c N xs R st := h
theorem g_ops {ops : Array Oper} {l : List Oper} (h : AOps P G E n ops l N st) : AOps P G E n ops l N st := h
theorem g_lex {ops : Array Oper} {l : List Oper} {Q : (Nat → DV) → Prop} {φ : Nat → DV} (h : ALex P G B n ops σ Q l φ) : ALex P G B n ops σ Q l φ := h
end
end Go.Av
