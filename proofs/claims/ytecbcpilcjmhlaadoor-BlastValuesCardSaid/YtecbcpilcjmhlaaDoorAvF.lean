/-
  Bits: what and, or, xor, andNot and shifts come to over numbers that are not negative.
-/
import Derived.Test.YtecbcpilcjmhlaaDoorAvE
namespace Go.Av
theorem wrap_u64 {n : Int} (h : 0 ≤ n ∧ n < 18446744073709551616) : IntKind.u64.wrap n = n := by
  simp only [IntKind.wrap, IntKind.signed, IntKind.bits]; simp; omega
theorem bits_and_i64 (a b : Nat) (ha : a < 2 ^ 63) (hb : b < 2 ^ 63) : bitsOf .and .i64 a b = (a &&& b : Nat) := by
  have hle : a &&& b ≤ a := Nat.and_le_left
  have hM : (2:Nat)^64 = 18446744073709551616 := by decide
  have hm : (2:Nat)^63 = 9223372036854775808 := by decide
  show IntKind.i64.wrap ((BitVec.ofInt 64 a &&& BitVec.ofInt 64 b).toNat : Int) = _
  rw [BitVec.ofInt_natCast, BitVec.ofInt_natCast, BitVec.toNat_and, BitVec.toNat_ofNat, BitVec.toNat_ofNat, Nat.mod_eq_of_lt (by omega), Nat.mod_eq_of_lt (by omega)]
  exact wrap_i64 (by omega)
theorem bits_and_u64 (a b : Nat) (ha : a < 2 ^ 64) (hb : b < 2 ^ 64) : bitsOf .and .u64 a b = (a &&& b : Nat) := by
  have hle : a &&& b ≤ a := Nat.and_le_left
  have hM : (2:Nat)^64 = 18446744073709551616 := by decide
  have hm : (2:Nat)^63 = 9223372036854775808 := by decide
  show IntKind.u64.wrap ((BitVec.ofInt 64 a &&& BitVec.ofInt 64 b).toNat : Int) = _
  rw [BitVec.ofInt_natCast, BitVec.ofInt_natCast, BitVec.toNat_and, BitVec.toNat_ofNat, BitVec.toNat_ofNat, Nat.mod_eq_of_lt (by omega), Nat.mod_eq_of_lt (by omega)]
  exact wrap_u64 (by omega)
theorem bits_or_i64 (a b : Nat) (ha : a < 2 ^ 63) (hb : b < 2 ^ 63) : bitsOf .or .i64 a b = (a ||| b : Nat) := by
  have hle : a ||| b < 2 ^ 63 := Nat.or_lt_two_pow ha hb
  have hM : (2:Nat)^64 = 18446744073709551616 := by decide
  have hm : (2:Nat)^63 = 9223372036854775808 := by decide
  show IntKind.i64.wrap ((BitVec.ofInt 64 a ||| BitVec.ofInt 64 b).toNat : Int) = _
  rw [BitVec.ofInt_natCast, BitVec.ofInt_natCast, BitVec.toNat_or, BitVec.toNat_ofNat, BitVec.toNat_ofNat, Nat.mod_eq_of_lt (by omega), Nat.mod_eq_of_lt (by omega)]
  exact wrap_i64 (by omega)
theorem bits_or_u64 (a b : Nat) (ha : a < 2 ^ 64) (hb : b < 2 ^ 64) : bitsOf .or .u64 a b = (a ||| b : Nat) := by
  have hle : a ||| b < 2 ^ 64 := Nat.or_lt_two_pow ha hb
  have hM : (2:Nat)^64 = 18446744073709551616 := by decide
  have hm : (2:Nat)^63 = 9223372036854775808 := by decide
  show IntKind.u64.wrap ((BitVec.ofInt 64 a ||| BitVec.ofInt 64 b).toNat : Int) = _
  rw [BitVec.ofInt_natCast, BitVec.ofInt_natCast, BitVec.toNat_or, BitVec.toNat_ofNat, BitVec.toNat_ofNat, Nat.mod_eq_of_lt (by omega), Nat.mod_eq_of_lt (by omega)]
  exact wrap_u64 (by omega)
theorem bits_xor_i64 (a b : Nat) (ha : a < 2 ^ 63) (hb : b < 2 ^ 63) : bitsOf .xor .i64 a b = (a ^^^ b : Nat) := by
  have hle : a ^^^ b < 2 ^ 63 := Nat.xor_lt_two_pow ha hb
  have hM : (2:Nat)^64 = 18446744073709551616 := by decide
  have hm : (2:Nat)^63 = 9223372036854775808 := by decide
  show IntKind.i64.wrap ((BitVec.ofInt 64 a ^^^ BitVec.ofInt 64 b).toNat : Int) = _
  rw [BitVec.ofInt_natCast, BitVec.ofInt_natCast, BitVec.toNat_xor, BitVec.toNat_ofNat, BitVec.toNat_ofNat, Nat.mod_eq_of_lt (by omega), Nat.mod_eq_of_lt (by omega)]
  exact wrap_i64 (by omega)
theorem bits_xor_u64 (a b : Nat) (ha : a < 2 ^ 64) (hb : b < 2 ^ 64) : bitsOf .xor .u64 a b = (a ^^^ b : Nat) := by
  have hle : a ^^^ b < 2 ^ 64 := Nat.xor_lt_two_pow ha hb
  have hM : (2:Nat)^64 = 18446744073709551616 := by decide
  have hm : (2:Nat)^63 = 9223372036854775808 := by decide
  show IntKind.u64.wrap ((BitVec.ofInt 64 a ^^^ BitVec.ofInt 64 b).toNat : Int) = _
  rw [BitVec.ofInt_natCast, BitVec.ofInt_natCast, BitVec.toNat_xor, BitVec.toNat_ofNat, BitVec.toNat_ofNat, Nat.mod_eq_of_lt (by omega), Nat.mod_eq_of_lt (by omega)]
  exact wrap_u64 (by omega)
theorem nn_shr {a : Int} {n : Nat} (h : 0 ≤ a) : 0 ≤ a / 2 ^ n := Int.ediv_nonneg h (Int.le_of_lt (Int.pow_pos (by decide)))
section
variable {P : Program} {G : Nat → DV} {E : AX} {n : Nat} {N : ASt → Prop} {xs : List (Nat × (ASt → Prop))} {R : ASt → Prop} {st : ASt}
/-- A loop that makes a list longer: its generation turns from round to round. -/
theorem r_loopg {c : Code} {ι : Type} (I : ι → Nat → ASt) (pre : ι → Prop) (μ : ι → Nat) (x0 : ι) (g0 : Nat) (hg0 : E.N < g0) (h0 : ALe st (I x0 g0)) (hp0 : pre x0)
    (round : ∀ x g, pre x → E.N < g → ARun P G E n c (fun st' => ∃ y g', pre y ∧ E.N < g' ∧ μ y < μ x ∧ ALe st' (I y g')) xs R (I x g)) : ARun P G E n (.loop c) N xs R st :=
  r_loop (fun z : ι × Nat => I z.1 z.2) (fun z => pre z.1 ∧ E.N < z.2) (fun z => μ z.1) (x0, g0) h0 ⟨hp0, hg0⟩ fun ⟨x, g⟩ ⟨h1, h2⟩ a w hr =>
    wp_mono (round x g h1 h2 a w hr) fun e a' w' ⟨st', hr', hq⟩ => by
      refine ⟨st', hr', ?_⟩
      cases e with
      | normal => obtain ⟨y, g', h3, h4, h5, h6⟩ := hq; exact ⟨(y, g'), ⟨h3, h4⟩, h5, h6⟩
      | exit id => exact hq
      | ret => exact hq
      | goto l => exact hq.elim
      | panic ch => exact hq.elim
      | outgrown => exact hq.elim

theorem APost.ext {X X' : AX} (hE : WExt X X') {R : DV → List ABlk → Prop} {v : Value} {w' : World} (h : APost X' R v w') : APost X R v w' := by
  obtain ⟨Y, h1, h2, h3, h4⟩ := h
  exact ⟨Y, h1, h2, hE.trans h3, h4⟩
/-- A row is read alone from this operation on. -/
theorem s_pub {t : Fr} {σ σ' : List ABlk} {B i k g len es : Nat} {cs : List DV} {o : Oper} {K : DV → List ABlk → Prop} (h : look t i = .ref k g 0 len es) (hk : σ[k]? = some (.row g cs)) (hl : len * es = cs.length) (hσ' : setA σ k .gone = some σ')
    (kk : OpSem P G B o (aev G ((i, .sl es cs) :: t)) σ' K) : OpSem P G B o (aev G t) σ K := fun X ρ hS hσ hB hG hf => by
  have hE := shrink_gone (X := X) k
  subst hσ
  have hs := kk { X with σ := X.σ.set k .gone } ρ (sto_gone hS k) (by rw [setA_eq hσ']) hB (hG.ext hE) fun x hx => by
    have hv := hf x hx
    cases x with
    | tmp j =>
      simp only [aev, look] at hv ⊢
      cases hb : Nat.beq i j with
      | true =>
        have := Nat.eq_of_beq_eq_true hb
        subst this
        rw [h] at hv
        exact pub_rep hS hk hl hv
      | false => exact hv.ext hE
    | const v => exact hv.ext hE
    | global g => exact hv.ext hE
    | func g => exact hv.ext hE
  show OPost P X K ((execOp ρ o).run P X.w)
  have hs' : OPost P { X with σ := X.σ.set k .gone } K ((execOp ρ o).run P X.w) := hs
  generalize (execOp ρ o).run P X.w = r at *
  cases r with
  | ok nx w' =>
    cases nx <;> simp only [OPost] at hs' ⊢
    case value v => exact hs'.ext hE
    case skip => exact hs'.ext hE
    case enter f args => exact ⟨hs'.1, hs'.2.mono fun e w'' ⟨v, he, hp⟩ => ⟨v, he, hp.ext hE⟩⟩
  | halt hh w' => simp only [OPost] at hs'
theorem s_bslice_pub {t : Fr} {σ σ' : List ABlk} {B i k g len es : Nat} {cs : List DV} {K : DV → List ABlk → Prop} {dst : Option Tmp} {ty type : TypeId} {pos : String} {after : Array Edge} {gd : Option (Nat × Bool)} {m : Nat} {r : List (Nat × Operand)} (h : look t i = .ref k g 0 len es) (hk : σ[k]? = some (.row g cs)) (hl : len * es = cs.length) (hσ' : setA σ k .gone = some σ')
    (kk : OpSem P G B ⟨dst, .buildSlice ty m ((0, .tmp i) :: r).toArray, type, pos, after, gd⟩ (aev G ((i, .sl es cs) :: t)) σ' K) : OpSem P G B ⟨dst, .buildSlice ty m ((0, .tmp i) :: r).toArray, type, pos, after, gd⟩ (aev G t) σ K := s_pub h hk hl hσ' kk
end
end Go.Av
