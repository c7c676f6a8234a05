/-
  Chapter 21: the builder of clauses, in plain Lean, and what a call of one of its methods is over the layer of values.
-/
import Derived.Test.YtecbcpilcjmhlaaDoorAvM
import Derived.Test.YtecbcpilcjmhlaaDoorAvI
namespace Go.Bl
open Go.Av
set_option linter.unusedSimpArgs false
set_option linter.unusedVariables false

/-- How many variables there are, and the clauses. -/
structure St where
  vars : Int
  cl : List (List Int)
def full (s : St) : Bool := decide (2000 < s.vars) || decide (16384 < (s.cl.length : Int))
def fresh (s : St) : St := ⟨s.vars + 1, s.cl⟩
def kept (l : List Int) : List Int := l.filter fun x => !decide (x = -1)
def add (s : St) (l : List Int) : St := if (full s || l.contains 1) = true then s else ⟨s.vars, s.cl ++ [kept l]⟩
def and (s : St) (x y : Int) : Int × St :=
  if x = 1 ∨ x = y then (y, s) else if y = 1 then (x, s) else if x = -1 ∨ y = -1 ∨ x = -y then (-1, s) else
  (s.vars + 1, add (add (add (fresh s) [-x, -y, s.vars + 1]) [x, -(s.vars + 1)]) [y, -(s.vars + 1)])
def or (s : St) (x y : Int) : Int × St := (-(and s (-x) (-y)).1, (and s (-x) (-y)).2)
def xor (s : St) (x y : Int) : Int × St :=
  if x = y then (-1, s) else if x = -y then (1, s) else if x = 1 ∨ x = -1 then (y * -x, s) else if y = 1 ∨ y = -1 then (x * -y, s) else
  (s.vars + 1, add (add (add (add (fresh s) [-x, -y, -(s.vars + 1)]) [x, y, -(s.vars + 1)]) [-x, y, s.vars + 1]) [x, -y, s.vars + 1])

/-- A state that a call may begin with. -/
structure Ok (s : St) : Prop where
  v0 : 0 ≤ s.vars
  v1 : s.vars ≤ 1099511627776
  c : s.cl.length ≤ 16385
theorem add_vars (s : St) (l : List Int) : (add s l).vars = s.vars := by unfold add; split <;> rfl
theorem add_len {s : St} {l : List Int} (h : s.cl.length ≤ 16385) : (add s l).cl.length ≤ 16385 := by
  unfold add
  split
  · exact h
  · rename_i hf
    have : ¬ (16384 < (s.cl.length : Int)) := fun h => hf (by simp [full, h])
    simp; omega
theorem add_ok {s : St} (h : Ok s) (l : List Int) : Ok (add s l) := ⟨by rw [add_vars]; exact h.v0, by rw [add_vars]; exact h.v1, add_len h.c⟩
theorem fresh_ok {s : St} (h : Ok s) (h1 : s.vars < 1099511627776) : Ok (fresh s) := ⟨by have := h.v0; show 0 ≤ s.vars + 1; omega, by show s.vars + 1 ≤ _; omega, h.c⟩
/-- A literal of a state: no greater than its variables. -/
def Lim (s : St) (x : Int) : Prop := -(s.vars + 1) ≤ x ∧ x ≤ s.vars + 1
theorem and_lim {s : St} {x y : Int} (hx : Lim s x) (hy : Lim s y) (h0 : 0 ≤ s.vars) : Lim s (and s x y).1 := by
  obtain ⟨h1, h2⟩ := hx
  obtain ⟨h3, h4⟩ := hy
  unfold and
  split
  · exact ⟨h3, h4⟩
  · split
    · exact ⟨h1, h2⟩
    · split
      · exact ⟨by omega, by omega⟩
      · exact ⟨by show -(s.vars + 1) ≤ s.vars + 1; omega, Int.le_refl _⟩
theorem and_vars (s : St) (x y : Int) : s.vars ≤ (and s x y).2.vars ∧ (and s x y).2.vars ≤ s.vars + 1 := by
  unfold and
  split
  · simp; omega
  · split
    · simp; omega
    · split
      · simp; omega
      · simp only [add_vars, fresh]; omega
theorem and_ok {s : St} (hs : Ok s) (hv : s.vars < 1099511627776) (x y : Int) : Ok (and s x y).2 := by
  unfold and
  split
  · exact hs
  · split
    · exact hs
    · split
      · exact hs
      · exact add_ok (add_ok (add_ok (fresh_ok hs hv) _) _) _
theorem xor_lim {s : St} {x y : Int} (hx : Lim s x) (hy : Lim s y) (h0 : 0 ≤ s.vars) : Lim s (xor s x y).1 := by
  obtain ⟨h1, h2⟩ := hx
  obtain ⟨h3, h4⟩ := hy
  unfold xor
  split
  · exact ⟨by omega, by omega⟩
  · split
    · exact ⟨by omega, by omega⟩
    · split
      · rename_i h
        rcases h with rfl | rfl
        · exact ⟨by show _ ≤ y * -1; omega, by show y * -1 ≤ _; omega⟩
        · exact ⟨by show _ ≤ y * - -1; omega, by show y * - -1 ≤ _; omega⟩
      · split
        · rename_i h
          rcases h with rfl | rfl
          · exact ⟨by show _ ≤ x * -1; omega, by show x * -1 ≤ _; omega⟩
          · exact ⟨by show _ ≤ x * - -1; omega, by show x * - -1 ≤ _; omega⟩
        · exact ⟨by show -(s.vars + 1) ≤ s.vars + 1; omega, Int.le_refl _⟩
theorem xor_vars (s : St) (x y : Int) : s.vars ≤ (xor s x y).2.vars ∧ (xor s x y).2.vars ≤ s.vars + 1 := by
  unfold xor
  split
  · simp; omega
  · split
    · simp; omega
    · split
      · simp; omega
      · split
        · simp; omega
        · simp only [add_vars, fresh]; omega
theorem xor_ok {s : St} (hs : Ok s) (hv : s.vars < 1099511627776) (x y : Int) : Ok (xor s x y).2 := by
  unfold xor
  split
  · exact hs
  · split
    · exact hs
    · split
      · exact hs
      · split
        · exact hs
        · exact add_ok (add_ok (add_ok (add_ok (fresh_ok hs hv) _) _) _) _
theorem Lim.mono {s s' : St} {x : Int} (h : Lim s x) (hv : s.vars ≤ s'.vars) : Lim s' x := by
  obtain ⟨h1, h2⟩ := h
  exact ⟨by omega, by omega⟩
theorem Lim.neg {s : St} {x : Int} (h : Lim s x) : Lim s (-x) := by
  obtain ⟨h1, h2⟩ := h
  exact ⟨by omega, by omega⟩
/-- The bits of words. -/
def wbits (n : Int) : Int := Av.bitsOf .and .i64 n 15
def bitAt (n : Int) (i : Nat) : Prop := Av.bitsOf .and .i64 (wbits n / 2 ^ min ((i : Int)).toNat 64) 1 = 1
instance (n : Int) (i : Nat) : Decidable (bitAt n i) := inferInstanceAs (Decidable (_ = _))
def numberTo (n : Int) : Nat → List Int
  | 0 => [0, 0, 0, 0]
  | i + 1 => (numberTo n i).set i (if bitAt n i then 1 else -1)
def number (n : Int) : List Int := numberTo n 4
theorem numberTo_len (n : Int) : ∀ i, (numberTo n i).length = 4
  | 0 => rfl
  | i + 1 => by rw [numberTo, List.length_set, numberTo_len n i]
def width (k : Int) : Int := if k = 1 then 1 else 4
theorem or_lim {s : St} {x y : Int} (hx : Lim s x) (hy : Lim s y) (h0 : 0 ≤ s.vars) : Lim s (or s x y).1 := (and_lim hx.neg hy.neg h0).neg
theorem or_vars (s : St) (x y : Int) : s.vars ≤ (or s x y).2.vars ∧ (or s x y).2.vars ≤ s.vars + 1 := and_vars s (-x) (-y)
theorem or_ok {s : St} (hs : Ok s) (hv : s.vars < 1099511627776) (x y : Int) : Ok (or s x y).2 := and_ok hs hv (-x) (-y)

/-- One place of a comparison. -/
def lessAt (s : St) (a b out : Int) : Int × St :=
  or (and (xor (and s (-a) b).2 a b).2 (-(xor (and s (-a) b).2 a b).1) out).2 (and s (-a) b).1 (and (xor (and s (-a) b).2 a b).2 (-(xor (and s (-a) b).2 a b).1) out).1
def lessTo (s : St) (x y : List Int) : Nat → Int × St
  | 0 => (-1, s)
  | i + 1 => lessAt (lessTo s x y i).2 (x.getD i 0) (y.getD i 0) (lessTo s x y i).1
def swapX (x y : List Int) : List Int := x.set 3 (y.getD 3 0)
def less (s : St) (x y : List Int) : Int × St := lessTo s (swapX x y) (swapX y x) 4
/-- What is so behind a gate: few variables more. -/
structure Gate (s s' : St) (k : Int) : Prop where
  ok : Ok s'
  lo : s.vars ≤ s'.vars
  hi : s'.vars ≤ s.vars + k
theorem Gate.trans {s s' s'' : St} {k j : Int} (h : Gate s s' k) (h' : Gate s' s'' j) : Gate s s'' (k + j) := ⟨h'.ok, by have := h.lo; have := h'.lo; omega, by have := h.hi; have := h'.hi; omega⟩
theorem and_gate {s : St} (hs : Ok s) (hv : s.vars < 1099511627776) (x y : Int) : Gate s (and s x y).2 1 := ⟨and_ok hs hv x y, (and_vars s x y).1, (and_vars s x y).2⟩
theorem or_gate {s : St} (hs : Ok s) (hv : s.vars < 1099511627776) (x y : Int) : Gate s (or s x y).2 1 := ⟨or_ok hs hv x y, (or_vars s x y).1, (or_vars s x y).2⟩
theorem xor_gate {s : St} (hs : Ok s) (hv : s.vars < 1099511627776) (x y : Int) : Gate s (xor s x y).2 1 := ⟨xor_ok hs hv x y, (xor_vars s x y).1, (xor_vars s x y).2⟩
theorem lessAt_gate {s : St} (hs : Ok s) (hv : s.vars + 4 < 1099511627776) {a b out : Int} (ha : Lim s a) (hb : Lim s b) (ho : Lim s out) : Gate s (lessAt s a b out).2 4 ∧ Lim (lessAt s a b out).2 (lessAt s a b out).1 := by
  have g1 := and_gate hs (by omega) (-a) b
  have l1 := and_lim (s := s) ha.neg hb hs.v0
  have k1 := g1.hi
  have g2 := xor_gate g1.ok (by omega) a b
  have l2 := xor_lim (s := (and s (-a) b).2) (ha.mono g1.lo) (hb.mono g1.lo) g1.ok.v0
  have k2 := g2.hi
  have g3 := and_gate g2.ok (by omega) (-(xor (and s (-a) b).2 a b).1) out
  have l3 := and_lim (s := (xor (and s (-a) b).2 a b).2) (l2.neg.mono g2.lo) (ho.mono (by have := g1.lo; have := g2.lo; omega)) g2.ok.v0
  have k3 := g3.hi
  have g4 := or_gate g3.ok (by omega) (and s (-a) b).1 (and (xor (and s (-a) b).2 a b).2 (-(xor (and s (-a) b).2 a b).1) out).1
  have l4 := or_lim (s := (and (xor (and s (-a) b).2 a b).2 (-(xor (and s (-a) b).2 a b).1) out).2) (x := (and s (-a) b).1) (l1.mono (by have := g1.lo; have := g2.lo; have := g3.lo; omega)) (l3.mono g3.lo) g3.ok.v0
  exact ⟨((g1.trans g2).trans g3).trans g4, l4.mono g4.lo⟩
theorem getD_lim {s : St} {x : List Int} (h : ∀ v ∈ x, Lim s v) (h0 : 0 ≤ s.vars) (i : Nat) : Lim s (x.getD i 0) := by
  rw [List.getD_eq_getElem?_getD]
  by_cases hi : i < x.length
  · rw [List.getElem?_eq_getElem hi]; exact h _ (List.getElem_mem hi)
  · rw [List.getElem?_eq_none (by omega)]; exact ⟨by show _ ≤ (0 : Int); omega, by show (0 : Int) ≤ _; omega⟩
theorem lessTo_gate {s : St} (hs : Ok s) (hv : s.vars + 100 < 1099511627776) {x y : List Int} (hx : ∀ v ∈ x, Lim s v) (hy : ∀ v ∈ y, Lim s v) : ∀ i : Nat, i ≤ 8 → Gate s (lessTo s x y i).2 (4 * i) ∧ Lim (lessTo s x y i).2 (lessTo s x y i).1
  | 0, _ => ⟨⟨hs, Int.le_refl _, by show s.vars ≤ _; omega⟩, by have := hs.v0; exact ⟨by show _ ≤ (-1 : Int); show -(s.vars + 1) ≤ -1; omega, by show (-1 : Int) ≤ s.vars + 1; omega⟩⟩
  | i + 1, hi => by
    obtain ⟨h1, h2⟩ := lessTo_gate hs hv hx hy i (by omega)
    have hh := h1.hi
    obtain ⟨k1, k2⟩ := lessAt_gate h1.ok (by omega) ((getD_lim hx hs.v0 i).mono h1.lo) ((getD_lim hy hs.v0 i).mono h1.lo) h2
    exact ⟨by have := h1.trans k1; rwa [show (4 : Int) * (i : Int) + 4 = 4 * ((i + 1 : Nat) : Int) by omega] at this, k2⟩
end Go.Bl

namespace Go.Av
open Go.Bl
section
variable {P : Program} {G : Nat → DV}
/-- The builder's blocks: its cells, its clauses, its two maps. -/
def BM (P : Program) (G : Nat → DV) (f : FuncId) (args : List DV) (v : Int) (cl : List (List Int)) (res : DV) (s' : St) : Prop :=
  ∀ (g0 g1 g2 g3 : Nat) (c2 c3 c4 : DV) (m : List (Int × DV)) (sn : List (Value × DV)), c2.clo = true → c3.clo = true → c4.clo = true → (∀ p ∈ imap m, p.2.clo = true) → (∀ p ∈ sn, p.2.clo = true) → ∀ B, g0 ≤ B → g1 ≤ B → g2 ≤ B → g3 ≤ B →
    ACalls P G B f (.ptr 0 g0 0 :: args) [.row g0 [.sc (.int .i64 v), .ref 1 g1 0 cl.length 1, c2, c3, c4, .mp 2 g2, .mp 3 g3], .row g1 (encs cl), .mapb g2 (imap m), .mapb g3 sn]
      (fun d' τ' => d' = res ∧ ∃ g1', (g1' = g1 ∨ B < g1') ∧ τ' = [.row g0 [.sc (.int .i64 s'.vars), .ref 1 g1' 0 s'.cl.length 1, c2, c3, c4, .mp 2 g2, .mp 3 g3], .row g1' (encs s'.cl), .mapb g2 (imap m), .mapb g3 sn])
/-- A method that takes a row of its own: it is gone behind the call. -/
def BA (P : Program) (G : Nat → DV) (f : FuncId) (l : List Int) (v : Int) (cl : List (List Int)) (s' : St) : Prop :=
  ∀ (g0 g1 g2 g3 gl : Nat) (c2 c3 c4 : DV) (m : List (Int × DV)) (sn : List (Value × DV)), c2.clo = true → c3.clo = true → c4.clo = true → (∀ p ∈ imap m, p.2.clo = true) → (∀ p ∈ sn, p.2.clo = true) → ∀ B, g0 ≤ B → g1 ≤ B → g2 ≤ B → g3 ≤ B → gl ≤ B →
    ACalls P G B f [.ptr 0 g0 0, .ref 4 gl 0 l.length 1] [.row g0 [.sc (.int .i64 v), .ref 1 g1 0 cl.length 1, c2, c3, c4, .mp 2 g2, .mp 3 g3], .row g1 (encs cl), .mapb g2 (imap m), .mapb g3 sn, .row gl (encs l)]
      (fun d' τ' => d' = .tup [] ∧ ∃ g1', (g1' = g1 ∨ B < g1') ∧ τ' = [.row g0 [.sc (.int .i64 s'.vars), .ref 1 g1' 0 s'.cl.length 1, c2, c3, c4, .mp 2 g2, .mp 3 g3], .row g1' (encs s'.cl), .mapb g2 (imap m), .mapb g3 sn, .gone])

variable {B : Nat} {f : Operand → DV} {σ : List ABlk} {K : DV → List ABlk → Prop} {dst : Option Tmp} {type : TypeId} {pos : String} {after : Array Edge} {gd : Option (Nat × Bool)}
theorem renl_clo {q : Nat → Nat} : ∀ {ds : List DV}, (∀ d ∈ ds, d.clo = true) → RenL (RenD q) ds ds
  | [], _ => .nil
  | d :: r, h => .cons (.s (.clo (h d (by simp)))) (renl_clo fun e he => h e (by simp [he]))

theorem s_call_bm {args : Array Operand} {ts : Array TypeId} {fid : FuncId} {ds : List DV} {v : Int} {cl : List (List Int)} {res : DV} {s' : St} {g0 g1 g2 g3 : Nat} {c2 c3 c4 : DV} {m : List (Int × DV)} {sn : List (Value × DV)} {rest : List ABlk} [FnOk P fid]
    (hx : f (.func fid) = .fn (.func fid) [] []) (hds : reL (args.toList.map f) = some (.ptr 0 g0 0 :: ds)) (h : BM P G fid ds v cl res s')
    (hσ : σ = .row g0 [.sc (.int .i64 v), .ref 1 g1 0 cl.length 1, c2, c3, c4, .mp 2 g2, .mp 3 g3] :: .row g1 (encs cl) :: .mapb g2 (imap m) :: .mapb g3 sn :: rest)
    (h2 : c2.clo = true) (h3 : c3.clo = true) (h4 : c4.clo = true) (hm : ∀ p ∈ imap m, p.2.clo = true) (hsn : ∀ p ∈ sn, p.2.clo = true) (hdc : ∀ d ∈ ds, d.clo = true) (hres : res.clo = true)
    (k : ∀ g1', (g1' = g1 ∨ B < g1') → K res (.row g0 [.sc (.int .i64 s'.vars), .ref 1 g1' 0 s'.cl.length 1, c2, c3, c4, .mp 2 g2, .mp 3 g3] :: .row g1' (encs s'.cl) :: .mapb g2 (imap m) :: .mapb g3 sn :: rest)) :
    OpSem P G B ⟨dst, .call ⟨.value (.func fid), args, ts⟩, type, pos, after, gd⟩ f σ K := by
  subst hσ
  have hrow : ∀ {n : Nat} {v : Int} {g1 l : Nat}, RenB (qf [0, 1, 2, 3] n) (.row g0 [.sc (.int .i64 v), .ref 1 g1 0 l 1, c2, c3, c4, .mp 2 g2, .mp 3 g3]) (.row g0 [.sc (.int .i64 v), .ref 1 g1 0 l 1, c2, c3, c4, .mp 2 g2, .mp 3 g3]) := fun {n v g1 l} =>
    .row (.cons (.clo (by simp [DV.clo])) (.cons (.ref rfl) (.cons (.clo h2) (.cons (.clo h3) (.cons (.clo h4) (.cons (.mp rfl) (.cons (.mp rfl) .nil)))))))
  have hbs : ∀ {n : Nat} {v : Int} {cl : List (List Int)} {g1 : Nat}, RenBs (qf [0, 1, 2, 3] n) [.row g0 [.sc (.int .i64 v), .ref 1 g1 0 cl.length 1, c2, c3, c4, .mp 2 g2, .mp 3 g3], .row g1 (encs cl), .mapb g2 (imap m), .mapb g3 sn] [.row g0 [.sc (.int .i64 v), .ref 1 g1 0 cl.length 1, c2, c3, c4, .mp 2 g2, .mp 3 g3], .row g1 (encs cl), .mapb g2 (imap m), .mapb g3 sn] := fun {n v cl g1} =>
    .cons hrow (.cons (.rowc (encs_clo cl)) (.cons (.map hm) (.cons (.map hsn) .nil)))
  refine s_call_sub (R := fun B d' τ' => d' = res ∧ ∃ g1', (g1' = g1 ∨ B < g1') ∧ τ' = [.row g0 [.sc (.int .i64 s'.vars), .ref 1 g1' 0 s'.cl.length 1, c2, c3, c4, .mp 2 g2, .mp 3 g3], .row g1' (encs s'.cl), .mapb g2 (imap m), .mapb g3 sn]) [0, 1, 2, 3] hx hds (.cons (.s (.ptr rfl)) (renl_clo hdc)) (by decide) rfl hbs (fun B' hB hg => h g0 g1 g2 g3 c2 c3 c4 m sn h2 h3 h4 hm hsn B' (hg 0 _ _ rfl rfl) (hg 1 _ _ rfl rfl) (hg 2 _ _ rfl rfl) (hg 3 _ _ rfl rfl)) ?_
  rintro B' d' τ' hB ⟨rfl, g1', hg, rfl⟩
  exact ⟨d', _, _, .s (.clo hres), hbs, rfl, k g1' (by omega)⟩

theorem s_call_ba {args : Array Operand} {ts : Array TypeId} {fid : FuncId} {l : List Int} {v : Int} {cl : List (List Int)} {s' : St} {g0 g1 g2 g3 gl ki len es : Nat} {c2 c3 c4 : DV} {m : List (Int × DV)} {sn : List (Value × DV)} {cs : List DV} {rest rest' : List ABlk} [FnOk P fid]
    (hx : f (.func fid) = .fn (.func fid) [] []) (hds : reL (args.toList.map f) = some [.ptr 0 g0 0, .ref ki gl 0 len es]) (h : BA P G fid l v cl s')
    (hσ : σ = .row g0 [.sc (.int .i64 v), .ref 1 g1 0 cl.length 1, c2, c3, c4, .mp 2 g2, .mp 3 g3] :: .row g1 (encs cl) :: .mapb g2 (imap m) :: .mapb g3 sn :: rest)
    (h2 : c2.clo = true) (h3 : c3.clo = true) (h4 : c4.clo = true) (hm : ∀ p ∈ imap m, p.2.clo = true) (hsn : ∀ p ∈ sn, p.2.clo = true) (hlen : len = l.length) (hes : es = 1) (hcs : cs = encs l) (hki : Nat.ble 4 ki = true) (hk : rest[ki - 4]? = some (.row gl cs)) (hr : setA rest (ki - 4) .gone = some rest')
    (k : ∀ g1', (g1' = g1 ∨ B < g1') → K (.tup []) (.row g0 [.sc (.int .i64 s'.vars), .ref 1 g1' 0 s'.cl.length 1, c2, c3, c4, .mp 2 g2, .mp 3 g3] :: .row g1' (encs s'.cl) :: .mapb g2 (imap m) :: .mapb g3 sn :: rest')) :
    OpSem P G B ⟨dst, .call ⟨.value (.func fid), args, ts⟩, type, pos, after, gd⟩ f σ K := by
  subst hσ hlen hes hcs
  obtain ⟨kl, rfl⟩ : ∃ kl, ki = kl + 4 := ⟨ki - 4, by have := Nat.ble_eq.mp hki; omega⟩
  rw [Nat.add_sub_cancel] at hk hr
  have hrow : ∀ {n : Nat} {v : Int} {g1 l : Nat}, RenB (qf [0, 1, 2, 3, kl + 4] n) (.row g0 [.sc (.int .i64 v), .ref 1 g1 0 l 1, c2, c3, c4, .mp 2 g2, .mp 3 g3]) (.row g0 [.sc (.int .i64 v), .ref 1 g1 0 l 1, c2, c3, c4, .mp 2 g2, .mp 3 g3]) := fun {n v g1 l} =>
    .row (.cons (.clo (by simp [DV.clo])) (.cons (.ref rfl) (.cons (.clo h2) (.cons (.clo h3) (.cons (.clo h4) (.cons (.mp rfl) (.cons (.mp rfl) .nil)))))))
  refine s_call_sub (R := fun B d' τ' => d' = .tup [] ∧ ∃ g1', (g1' = g1 ∨ B < g1') ∧ τ' = [.row g0 [.sc (.int .i64 s'.vars), .ref 1 g1' 0 s'.cl.length 1, c2, c3, c4, .mp 2 g2, .mp 3 g3], .row g1' (encs s'.cl), .mapb g2 (imap m), .mapb g3 sn, .gone]) [0, 1, 2, 3, kl + 4] hx hds
    (.cons (.s (.ptr rfl)) (.cons (.s (.ref rfl)) .nil)) (by simp [List.nodup_cons]) (cs := [.row g0 [.sc (.int .i64 v), .ref 1 g1 0 cl.length 1, c2, c3, c4, .mp 2 g2, .mp 3 g3], .row g1 (encs cl), .mapb g2 (imap m), .mapb g3 sn, .row gl (encs l)]) (by simp [pickA, hk]) (.cons hrow (.cons (.rowc (encs_clo cl)) (.cons (.map hm) (.cons (.map hsn) (.cons (.rowc (encs_clo l)) .nil)))))
    (fun B' hB hg => h g0 g1 g2 g3 gl c2 c3 c4 m sn h2 h3 h4 hm hsn B' (hg 0 _ _ rfl rfl) (hg 1 _ _ rfl rfl) (hg 2 _ _ rfl rfl) (hg 3 _ _ rfl rfl) (hg 4 _ _ rfl rfl)) ?_
  rintro B' d' τ' hB ⟨rfl, g1', hg, rfl⟩
  exact ⟨_, _, _, .s (.clo (by simp [DV.clo])), .cons hrow (.cons (.rowc (encs_clo _)) (.cons (.map hm) (.cons (.map hsn) (.cons .gone .nil)))), (by simp [setAll, setA, hr]), k g1' (by omega)⟩
end
end Go.Av
