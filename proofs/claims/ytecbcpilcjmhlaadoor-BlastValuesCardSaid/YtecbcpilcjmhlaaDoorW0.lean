/-
  The values out of a model, in plain Lean.
-/
import Derived.Test.YtecbcpilcjmhlaaDoorO0
import Derived.Test.YtecbcpilcjmhlaaDoorAvN
import Derived.Test.YtecbcpilcjmhlaaDoorEv2
import Derived.Test.YtecbcpilcjmhlaaDoorV0
namespace Go.Av
section
variable {P : Program} {G : Nat → DV} {B : Nat} {f : Operand → DV} {σ : List ABlk} {K : DV → List ABlk → Prop} {dst : Option Tmp} {type : TypeId} {pos : String} {after : Array Edge} {gd : Option (Nat × Bool)}
theorem s_max_m {ts : Array TypeId} {x y : Operand} {k1 : IntKind} {a b : Int} (hx : f x = .sc (.int k1 a)) (hy : f y = .sc (.int k1 b)) (k : K (.sc (.int k1 (max a b))) σ) : OpSem P G B ⟨dst, .call ⟨.builtin .max, #[x, y], ts⟩, type, pos, after, gd⟩ f σ K :=
  s_max hx hy (by rwa [show (if a < b then b else a) = max a b by rw [Int.max_def]; split <;> split <;> omega])
theorem g_call_max {x : Array Operand} {t : Array TypeId} (h : OpSem P G B ⟨dst, .call ⟨.builtin .max, x, t⟩, type, pos, after, gd⟩ f σ K) : OpSem P G B ⟨dst, .call ⟨.builtin .max, x, t⟩, type, pos, after, gd⟩ f σ K := h
end
theorem r_loop4 {P : Program} {G : Nat → DV} {E : AX} {n : Nat} {N : ASt → Prop} {xs : List (Nat × (ASt → Prop))} {R : ASt → Prop} {st : ASt} {c : Code} {α β γ δ : Type} (I : α → β → γ → δ → ASt) (pre : α → β → γ → δ → Prop) (μ : α → Nat) (x0 : α) (y0 : β) (z0 : γ) (w0 : δ) (h0 : ALe st (I x0 y0 z0 w0)) (hp0 : pre x0 y0 z0 w0)
    (round : ∀ x y z w, pre x y z w → ARun P G E n c (fun st' => ∃ x' y' z' w', pre x' y' z' w' ∧ μ x' < μ x ∧ ALe st' (I x' y' z' w')) xs R (I x y z w)) : ARun P G E n (.loop c) N xs R st :=
  r_loop3 (fun x y (s : γ × δ) => I x y s.1 s.2) (fun x y s => pre x y s.1 s.2) (fun x _ _ => μ x) x0 y0 (z0, w0) h0 hp0 fun x y s hs a w hr => wp_mono (round x y s.1 s.2 hs a w hr) fun e a' w' ⟨st', hr', hq⟩ => ⟨st', hr', by
    cases e with
    | normal => obtain ⟨x', y', z', v', h1, h2, h3⟩ := hq; exact ⟨x', y', (z', v'), h1, h2, h3⟩
    | exit id => exact hq
    | ret => exact hq
    | goto l => exact hq
    | panic ch => exact hq
    | outgrown => exact hq⟩
end Go.Av
namespace Go.Fv
open Go.Av in
theorem zeros_eq : ∀ n : Nat, zerosD [.int .i64 0] n = encs (List.replicate n (0 : Int))
  | 0 => rfl
  | n + 1 => by rw [zerosD, zeros_eq n, List.replicate_succ, encs_cons]; rfl
def bitM (model : List Bool) (a : Nat) : Bool := model.getD a false
/-- The number of the first k bits from a. -/
def nM (model : List Bool) (a : Nat) : Nat → Nat
  | 0 => 0
  | k + 1 => if bitM model (a + k) then nM model a k + 2 ^ k else nM model a k
theorem nM_lt (model : List Bool) (a : Nat) : ∀ k, nM model a k < 2 ^ k
  | 0 => by simp [nM]
  | k + 1 => by
    have := nM_lt model a k
    rw [nM, Nat.pow_succ]
    split <;> omega
def wrapM (n : Nat) : Int := if 7 < n then (n : Int) - 16 else n
def wid (t : Int) : Nat := if t = 1 then 1 else 4
theorem wid_le (t : Int) : wid t ≤ 4 := by unfold wid; split <;> omega
def valM (model : List Bool) (t first : Int) : Int := if t = 1 then nM model (first - 1).toNat 1 else wrapM (nM model (first - 1).toNat 4)
def maxM (l : List Int) : Int := l.foldl max (-1)
def outM (names types firsts : List Int) (model : List Bool) : Nat → List Int
  | 0 => List.replicate (maxM names + 1).toNat 0
  | i + 1 => (outM names types firsts model i).set (names.getD i 0).toNat (valM model (types.getD i 0) (firsts.getD i 0))
theorem outM_len (names types firsts : List Int) (model : List Bool) : ∀ i, (outM names types firsts model i).length = (maxM names + 1).toNat
  | 0 => by simp [outM]
  | i + 1 => by rw [outM, List.length_set]; exact outM_len names types firsts model i
theorem max_le {l : List Int} : ∀ {m : Int}, m ≤ l.foldl max m := by
  induction l with
  | nil => intro m; exact Int.le_refl _
  | cons a r ih =>
    intro m
    rw [List.foldl_cons]
    exact Int.le_trans (by omega) (ih (m := max m a))
theorem le_max {l : List Int} {x : Int} (h : x ∈ l) : ∀ {m : Int}, x ≤ l.foldl max m := by
  induction l with
  | nil => cases h
  | cons a r ih =>
    intro m
    rw [List.foldl_cons]
    rcases List.mem_cons.1 h with rfl | h
    · exact Int.le_trans (by omega) (max_le (m := max m x))
    · exact ih h
theorem max_lt {l : List Int} {b : Int} (h : ∀ x ∈ l, x < b) : ∀ {m : Int}, m < b → l.foldl max m < b := by
  induction l with
  | nil => intro m hm; exact hm
  | cons a r ih =>
    intro m hm
    rw [List.foldl_cons]
    have := h a (by simp)
    exact ih (fun x hx => h x (by simp [hx])) (by omega)
theorem maxM_succ {l : List Int} {i : Nat} (h : i < l.length) : maxM (l.take (i + 1)) = max (maxM (l.take i)) l[i] := by
  unfold maxM
  rw [List.take_succ_eq_append_getElem h, List.foldl_append]; rfl
theorem or_pow : ∀ k : Nat, k < 4 → ∀ n : Nat, n < 2 ^ k → Av.bitsOf .or .i64 (n : Int) (IntKind.i64.wrap (1 * 2 ^ min ((k : Nat) : Int).toNat IntKind.i64.bits)) = ((n + 2 ^ k : Nat) : Int) := by decide +kernel
theorem and_15 : ∀ n : Nat, n < 16 → Av.bitsOf .and .i64 (n : Int) 15 = (n : Int) := by decide +kernel
end Go.Fv
