/-
  Part 9 of the proof: EvT V5 V8 W0 W1 W2.
-/
import Derived.Test.YtecbcpilcjmhlaaDoorZB1
import Derived.Test.YtecbcpilcjmhlaaDoorZB3
import Derived.Test.YtecbcpilcjmhlaaDoorZB5
import Derived.Test.YtecbcpilcjmhlaaDoorZB8
set_option maxRecDepth 100000
set_option linter.unusedSimpArgs false
set_option linter.unusedVariables false
set_option maxHeartbeats 4000000
section
namespace Go.Proofs
open Go.Av
def opsT : DV := .ep [.fn (.func 136) [] [], .b false, .b false, .fn (.func 137) [] [], .b false, .b false, .fn (.func 138) [] [], .b false, .b false, .fn (.func 139) [] [], .b true, .b false, .fn (.func 140) [] [], .b true, .b false,
 .fn (.func 141) [] [], .b false, .b false, .fn (.func 142) [] [], .b false, .b false, .fn (.func 143) [] [], .b false, .b false, .fn (.func 144) [] [], .b false, .b false, .fn (.func 146) [] [], .b false, .b false,
 .fn (.func 147) [] [], .b false, .b true, .fn (.func 149) [] [], .b false, .b true, .fn (.func 150) [] [], .b false, .b true, .fn (.func 151) [] [], .b false, .b true]
def G1 : Nat -> DV := fun g => match g with | 0 => opsT | _ => .any
end Go.Proofs
namespace Go.Proofs
open Go.Av
end Go.Proofs
end
section
namespace Go.Proofs
open Go.Av
variable {G : Nat -> DV}
attribute [local irreducible] OpSem WE WY W0 ACalls ZE QV RV
open Go.Fo
theorem sameIntsV_c (a b : List Int) (ha : a.length <= 4611686018427387904) (hb : b.length <= 4611686018427387904) : Go.Av.Pure Tryd.prog G 23 [Qy a, Qy b] (.b (decide (a = b))) := fun B => by
 refine Qb Tryd.func23 rfl Tryd.ntmps23 rfl (t := [(0, Qy a), (1, Qy b)]) rfl fun E hE => ?_
 (repeat' first | refine Qt rfl ?_ | refine Qv rfl ?_ | refine W6 rfl rfl ?_ | refine Qn rfl ?_ | refine Qe ?_ | refine Qp rfl ?_ | refine Qf ?_ | refine Qa ?_)
 refine QE rfl (fun h => ?_) (fun h => ?_)
 ·(repeat' first | refine Qv rfl ?_ | refine Qe ?_ | refine Qp rfl ?_ | refine Qf ?_ | refine Qa ?_ | refine Qm ?_)
  refine e_1 Tryd.results23 (Qh rfl) (Qr ?_)
  rw [decide_eq_false (p := a = b) (fun e => h (by rw [e]))]
 have hl : a.length = b.length := by omega
 (repeat' first | refine Qv rfl ?_ | refine Qe ?_ | refine Qp rfl ?_ | refine Qf ?_ | refine Qa ?_ | refine Qg ?_ | refine Qj ?_)
 refine Wi (fun k : Nat => ⟨[(0, Qy a), (1, Qy b), (5, .i k)], []⟩) (fun k => k <= a.length /\ a.take k = b.take k) (fun k => a.length - k) 0 ?_ ⟨by omega, by simp⟩ ?_
 ·exact zal rfl
 intro k ⟨hk, hall⟩
 (repeat' first | refine Qt rfl ?_ | refine QG rfl rfl ?_ | refine Qn rfl ?_ | refine Qe ?_ | refine Qp rfl ?_ | refine Qf ?_ | refine Qa ?_)
 refine QE rfl (fun h => ?_) (fun h => ?_)
 ·have hk' : k < a.length := by omega
  have hk'' : k < b.length := by omega
  (repeat' first | refine Qe ?_ | refine Qf ?_ | refine Qg ?_ | (refine Wa ?_; first | refine Wj (by rfl) (by kernel_rfl) (by kernel_rfl) ?_ | refine QT (by kernel_rfl) (by kernel_rfl) ?_) | refine Qj ?_ | refine x_op rfl (by (repeat' first | refine Qt rfl ?_ | refine QF rfl ?_ | refine Qo rfl rfl (by first | assumption | omega | (simp; done) | (simp; omega)) ?_ | refine W6 rfl rfl ?_ | exact ⟨rfl, rfl⟩)) ?_ | refine x_nil ?_)
  refine QE rfl (fun h => ?_) (fun h => ?_)
  ·(repeat' first | refine Qv rfl ?_ | refine Qe ?_ | refine Qp rfl ?_ | refine Qf ?_ | refine Qa ?_ | refine Qm ?_)
   refine e_1 Tryd.results23 (Qh rfl) (Qr ?_)
   rw [decide_eq_false (p := a = b) (fun e => h (by subst e; rfl))]
  ·(repeat' first | refine Qt rfl ?_ | refine Qv rfl ?_ | refine QS rfl rfl (by omega) ?_ | refine Qe ?_ | refine Qp rfl ?_ | refine Qa ?_ | refine Qj ?_)
   refine ⟨k + 1, ⟨hk', ?_⟩, by omega, ?_⟩
   ·rw [List.take_succ_eq_append_getElem hk', List.take_succ_eq_append_getElem hk'', hall, Decidable.not_not.1 h]
   ·exact zal rfl
 ·(repeat' first | refine Qv rfl ?_ | refine Qe ?_ | refine Qp rfl ?_ | refine Qf ?_ | refine Qa ?_ | refine QU rfl ?_ | refine Qm ?_)
  refine e_1 Tryd.results23 (Qh rfl) (Qr ?_)
  rw [List.take_of_length_le (by omega), List.take_of_length_le (by omega)] at hall
  rw [decide_eq_true hall]
end Go.Proofs
end
section
namespace Go.Av
section
variable {P : Program} {G : Nat -> DV} {B : Nat} {f : Operand -> DV} {σ : List ABlk} {K : DV -> List ABlk -> Prop} {dst : Option Tmp} {type : TypeId} {pos : String} {after : Array Edge} {gd : Option (Nat × Bool)}
theorem s_max_m {ts : Array TypeId} {x y : Operand} {k1 : IntKind} {a b : Int} (hx : f x = .sc (.int k1 a)) (hy : f y = .sc (.int k1 b)) (k : K (.sc (.int k1 (max a b))) σ) : OpSem P G B ⟨dst, .call ⟨.builtin .max, #[x, y], ts⟩, type, pos, after, gd⟩ f σ K :=
 s_max hx hy (by rwa [show (if a < b then b else a) = max a b by rw [Int.max_def]; split <;> split <;> omega])
end
theorem r_loop4 {P : Program} {G : Nat -> DV} {E : AX} {n : Nat} {N : ASt -> Prop} {xs : List (Nat × (ASt -> Prop))} {R : ASt -> Prop} {st : ASt} {c : Code} {α β γ δ : Type} (I : α -> β -> γ -> δ -> ASt) (pre : α -> β -> γ -> δ -> Prop) (μ : α -> Nat) (x0 : α) (y0 : β) (z0 : γ) (w0 : δ) (h0 : ALe st (I x0 y0 z0 w0)) (hp0 : pre x0 y0 z0 w0)
  (round : ∀ x y z w, pre x y z w -> WE P G E n c (fun st' => ∃ x' y' z' w', pre x' y' z' w' /\ μ x' < μ x /\ ALe st' (I x' y' z' w')) xs R (I x y z w)) : WE P G E n (.loop c) N xs R st :=
 r_loop3 (fun x y (s : γ × δ) => I x y s.1 s.2) (fun x y s => pre x y s.1 s.2) (fun x _ _ => μ x) x0 y0 (z0, w0) h0 hp0 fun x y s hs a w hr => wp_mono (round x y s.1 s.2 hs a w hr) fun e a' w' ⟨st', hr', hq⟩ => ⟨st', hr', by
  cases e with
  | normal => obtain ⟨x', y', z', v', h1, h2, h3⟩ := hq; exact ⟨x', y', (z', v'), h1, h2, h3⟩
  | exit id => exact hq
  | ret => exact hq
  | goto l => exact hq
  | panic ch => exact hq
  | outgrown => exact hq⟩
end Go.Av
namespace Go.Fv
open Go.Av in
theorem zeros_eq : ∀ n : Nat, WP [.int .i64 0] n = Qq (List.replicate n (0 : Int))
 | 0 => rfl
 | n + 1 => by rw [WP, zeros_eq n, List.replicate_succ, WD]; rfl
def bitM (model : List Bool) (a : Nat) : Bool := model.getD a false
def nM (model : List Bool) (a : Nat) : Nat -> Nat
 | 0 => 0
 | k + 1 => if bitM model (a + k) then nM model a k + 2 ^ k else nM model a k
theorem nM_lt (model : List Bool) (a : Nat) : ∀ k, nM model a k < 2 ^ k
 | 0 => by simp [nM]
 | k + 1 => by
  have := nM_lt model a k
  rw [nM, Nat.pow_succ]
  split <;> omega
def wrapM (n : Nat) : Int := if 7 < n then (n : Int) - 16 else n
def wid (t : Int) : Nat := if t = 1 then 1 else 4
theorem wid_le (t : Int) : wid t <= 4 := by unfold wid; split <;> omega
def valM (model : List Bool) (t first : Int) : Int := if t = 1 then nM model (first - 1).toNat 1 else wrapM (nM model (first - 1).toNat 4)
def maxM (l : List Int) : Int := l.foldl max (-1)
def outM (names types firsts : List Int) (model : List Bool) : Nat -> List Int
 | 0 => List.replicate (maxM names + 1).toNat 0
 | i + 1 => (outM names types firsts model i).set (names.getD i 0).toNat (valM model (types.getD i 0) (firsts.getD i 0))
theorem outM_len (names types firsts : List Int) (model : List Bool) : ∀ i, (outM names types firsts model i).length = (maxM names + 1).toNat
 | 0 => by simp [outM]
 | i + 1 => by rw [outM, List.length_set]; exact outM_len names types firsts model i
theorem max_le {l : List Int} : ∀ {m : Int}, m <= l.foldl max m := by
 induction l with
 | nil => intro m; exact Int.le_refl _
 | cons a r ih =>
  intro m
  rw [List.foldl_cons]
  exact Int.le_trans (by omega) (ih (m := max m a))
theorem le_max {l : List Int} {x : Int} (h : x ∈ l) : ∀ {m : Int}, x <= l.foldl max m := by
 induction l with
 | nil => cases h
 | cons a r ih =>
  intro m
  rw [List.foldl_cons]
  rcases List.mem_cons.1 h with rfl | h
  ·exact Int.le_trans (by omega) (max_le (m := max m x))
  ·exact ih h
theorem max_lt {l : List Int} {b : Int} (h : ∀ x ∈ l, x < b) : ∀ {m : Int}, m < b -> l.foldl max m < b := by
 induction l with
 | nil => intro m hm; exact hm
 | cons a r ih =>
  intro m hm
  rw [List.foldl_cons]
  have := h a (by simp)
  exact ih (fun x hx => h x (by simp [hx])) (by omega)
theorem maxM_succ {l : List Int} {i : Nat} (h : i < l.length) : maxM (l.take (i + 1)) = max (maxM (l.take i)) l[i] := by
 unfold maxM
 rw [List.take_succ_eq_append_getElem h, List.foldl_append]; rfl
theorem or_pow : ∀ k : Nat, k < 4 -> ∀ n : Nat, n < 2 ^ k -> Av.bitsOf .or .i64 (n : Int) (IntKind.i64.wrap (1 * 2 ^ min ((k : Nat) : Int).toNat IntKind.i64.bits)) = ((n + 2 ^ k : Nat) : Int) := by decide +kernel
theorem and_15 : ∀ n : Nat, n < 16 -> Av.bitsOf .and .i64 (n : Int) 15 = (n : Int) := by decide +kernel
end Go.Fv
end
section
namespace Go.Proofs
open Go.Av
variable {G : Nat -> DV}
attribute [local irreducible] OpSem WE WY W0 ACalls ZE QV RV
open Go.Fv
theorem widthV_c (k : Int) : Go.Av.Pure Tryd.prog G 39 [.i k] (.i (wid k)) := fun B => by
 refine Qb Tryd.func39 rfl Tryd.ntmps39 rfl (t := [(0, .i k)]) rfl fun E hE => ?_
 (repeat' first | refine Qt rfl ?_ | refine Qv rfl ?_ | refine QH rfl rfl ?_ | refine Qe ?_ | refine Qp rfl ?_ | refine Qf ?_ | refine Qa ?_)
 refine QE rfl (fun h => ?_) (fun h => ?_)
 ·(repeat' first | refine Qv rfl ?_ | refine Qe ?_ | refine Qp rfl ?_ | refine Qf ?_ | refine Qa ?_ | refine Qm ?_)
  refine e_1 Tryd.results39 (Qh rfl) (Qr ?_)
  unfold wid; rw [if_pos h]; rfl
 ·(repeat' first | refine Qv rfl ?_ | refine Qe ?_ | refine Qp rfl ?_ | refine Qf ?_ | refine Qa ?_ | refine Qj ?_ | refine Qm ?_)
  refine e_1 Tryd.results39 (Qh rfl) (Qr ?_)
  unfold wid; rw [if_neg h]; rfl
theorem wWrap_c (n : Nat) (hn : n < 16) : Go.Av.Pure Tryd.prog G 57 [.i n] (.i (wrapM n)) := fun B => by
 have h15 := and_15 n hn
 refine Qb Tryd.func57 rfl Tryd.ntmps57 rfl (t := [(0, .i n)]) rfl fun E hE => ?_
 (repeat' first | refine Qt rfl ?_ | refine Qv rfl ?_ | refine s_gtr rfl rfl ?_ | refine s_and rfl rfl ?_ | refine Qe ?_ | refine Qp rfl ?_ | refine Qf ?_ | refine Qa ?_)
 rw [h15]
 refine QE rfl (fun h => ?_) (fun h => ?_)
 ·(repeat' first | refine Qt rfl ?_ | refine Qv rfl ?_ | refine Zn rfl rfl (by omega) ?_ | refine Qe ?_ | refine Qp rfl ?_ | refine Qf ?_ | refine Qa ?_ | refine Qm ?_)
  refine e_1 Tryd.results57 (Qh rfl) (Qr ?_)
  unfold wrapM; rw [if_pos (by omega)]
 ·(repeat' first | refine Qt rfl ?_ | refine Qv rfl ?_ | refine Qe ?_ | refine Qp rfl ?_ | refine Qf ?_ | refine Qa ?_ | refine Qj ?_ | refine Qm ?_)
  refine e_1 Tryd.results57 (Qh rfl) (Qr ?_)
  unfold wrapM; rw [if_neg (by omega)]
theorem maxI_c (l : List Int) (hl : l.length <= 1048576) (h0 : 0 < l.length) (hp : ∀ x ∈ l, 0 <= x) : Go.Av.Pure Tryd.prog G 56 [Qy l] (.i (maxM l)) := fun B => by
 have hf : maxM (l.take 1) = l[0] := by
  have := maxM_succ (l := l) (i := 0) h0
  rw [this]
  have := hp _ (List.getElem_mem h0)
  simp [maxM]; omega
 refine Qb Tryd.func56 rfl Tryd.ntmps56 rfl (t := [(0, Qy l)]) rfl fun E hE => ?_
 (repeat' first | refine Qt rfl ?_ | refine Qv rfl ?_ | refine QF rfl ?_ | refine Qo rfl rfl (by first | assumption | omega | (simp; done) | (simp; omega)) ?_ | refine QG rfl rfl ?_ | refine Qn rfl ?_ | refine Qe ?_ | refine Qp rfl ?_ | refine Qf ?_ | refine Qa ?_ | refine Qg ?_ | refine Qj ?_ | refine QD rfl (by omega) ?_)
 refine Wi (fun i : Nat => ⟨[(0, Qy l), (3, .i (maxM (l.take (i + 1)))), (4, .i ((i : Int) + 1))], []⟩) (fun i => i + 1 <= l.length) (fun i => l.length - i) 0 ?_ (by omega) ?_
 ·rw [hf]
  exact zal rfl
 intro i hi
 by_cases hc : i + 1 < l.length
 ·have hlt : ((i : Int) + 1).toNat < l.length := by omega
  have hs : maxM (l.take (i + 1 + 1)) = max (maxM (l.take (i + 1))) (l[((i : Int) + 1).toNat]'hlt) := by
   have e : ((i : Int) + 1).toNat = i + 1 := by omega
   rw [maxM_succ hc]
   simp only [e]
  (repeat' first | refine Qt rfl ?_ | refine Qv rfl ?_ | refine QF rfl ?_ | refine Qo rfl rfl (by first | assumption | omega | (simp; done) | (simp; omega)) ?_ | refine QG rfl rfl ?_ | refine QS rfl rfl (by omega) ?_ | refine s_max_m rfl rfl ?_ | refine Qn rfl ?_ | refine Qe ?_ | refine Qp rfl ?_ | refine Qf ?_ | refine Qa ?_ | refine Qg ?_ | refine Qj ?_ | refine Qx rfl (by omega) ?_)
  refine ⟨i + 1, by omega, by omega, ?_⟩
  rw [hs]
  exact zal rfl
 ·(repeat' first | refine Qt rfl ?_ | refine Qv rfl ?_ | refine QG rfl rfl ?_ | refine Qn rfl ?_ | refine Qe ?_ | refine Qp rfl ?_ | refine Qf ?_ | refine Qa ?_ | refine QD rfl (by omega) ?_ | refine QU rfl ?_ | refine Qm ?_)
  refine e_1 Tryd.results56 (Qh rfl) (Qr ?_)
  rw [List.take_of_length_le (by omega)]
end Go.Proofs
end
