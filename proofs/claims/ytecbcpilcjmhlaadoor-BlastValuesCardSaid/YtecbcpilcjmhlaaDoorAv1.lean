/-
  A layer of abstract values over the kit's walk: deep values (DV), a small abstract store (ABlk), and what it means that a world bears them (VRep, Sto, WExt).
  Generic: no program in sight.
-/
import Derived.WalkKit
namespace Go.Av
open Classical
set_option linter.unusedSimpArgs false
set_option linter.unusedVariables false

/-- What is known of a value. -/
inductive DV where
  | any
  | sc (v : Value)
  | sl (es : Nat) (cs : List DV)
  | ep (cs : List DV)
  | ref (k g off len es : Nat)
  | ptr (k g off : Nat)
  | agg (cs : List DV)
  | tup (vs : List DV)
  | fn (f : Fn) (first cap : List DV)
  | mp (k g : Nat)
  deriving Inhabited

/-- The value takes one cell. -/
def DV.one : DV → Bool
  | .sc v => v.oneCell'
  | .sl _ _ => true
  | .ep _ => true
  | .ref _ _ _ _ _ => true
  | .ptr _ _ _ => true
  | .fn _ _ _ => true
  | .mp _ _ => true
  | .any => false
  | .agg _ => false
  | .tup _ => false

/-- It names no block of the store. -/
def DV.clo : DV → Bool
  | .any => true
  | .sc _ => true
  | .sl _ cs => cs.attach.all fun ⟨d, _⟩ => d.clo
  | .ep cs => cs.attach.all fun ⟨d, _⟩ => d.clo
  | .ref _ _ _ _ _ => false
  | .ptr _ _ _ => false
  | .agg cs => cs.attach.all fun ⟨d, _⟩ => d.clo
  | .tup cs => cs.attach.all fun ⟨d, _⟩ => d.clo
  | .fn _ a b => (a.attach.all fun ⟨d, _⟩ => d.clo) && (b.attach.all fun ⟨d, _⟩ => d.clo)
  | .mp _ _ => false

/-- What memory can be read for ever, where the writable rows are, and the greatest generation. -/
structure Lay where
  imm : Nat → Nat → Option Value
  row : Nat → Nat → Option (Option (Nat × Nat))
  top : Nat

def RefOk (ob : Option (Nat × Nat)) (off len es : Nat) (v : Value) : Prop :=
  match ob with
  | none => v = .slice none 0 0 ∧ off = 0 ∧ len = 0
  | some (b, n) => ∃ a cap, v = .slice a len cap ∧ len ≤ cap ∧ (cap = 0 ∨ (a = some ⟨b, off, none⟩ ∧ off + cap * es ≤ n))

inductive VRep (L : Lay) : DV → Value → Prop
  | any (v : Value) : VRep L .any v
  | sc (v : Value) : VRep L (.sc v) v
  | sl (es : Nat) (cs : List DV) (a : Option Addr) (len cap : Nat) (f : Nat → Value) : len * es = cs.length → len ≤ cap → (∀ d ∈ cs, d.one = true) →
      (cs = [] ∨ ∃ b o, a = some ⟨b, o, none⟩ ∧ ∀ j, j < cs.length → L.imm b (o + j) = some (f j)) →
      (∀ j d, cs[j]? = some d → VRep L d (f j)) → VRep L (.sl es cs) (.slice a len cap)
  | ep (cs : List DV) (b o : Nat) (f : Nat → Value) : (∀ d ∈ cs, d.one = true) → (∀ j, j < cs.length → L.imm b (o + j) = some (f j)) →
      (∀ j d, cs[j]? = some d → VRep L d (f j)) → VRep L (.ep cs) (.pointer (some ⟨b, o, none⟩))
  | ref (k g off len es : Nat) (a : Option Addr) (l c : Nat) : g ≤ L.top → (∀ ob, L.row k g = some ob → RefOk ob off len es (.slice a l c)) → VRep L (.ref k g off len es) (.slice a l c)
  | ptr (k g off : Nat) (a : Option Addr) : g ≤ L.top → (∀ ob, L.row k g = some ob → ∃ b n, ob = some (b, n) ∧ a = some ⟨b, off, none⟩) → VRep L (.ptr k g off) (.pointer a)
  | agg (cs : List DV) (vs : Array Value) : vs.size = cs.length → (∀ d ∈ cs, d.one = true) → (∀ j d, cs[j]? = some d → VRep L d (vs.getD j undef)) → VRep L (.agg cs) (.agg vs)
  | tup (cs : List DV) (vs : Array Value) : vs.size = cs.length → (∀ j d, cs[j]? = some d → VRep L d (vs.getD j undef)) → VRep L (.tup cs) (.tuple vs)
  | fn (f : Fn) (first cap : List DV) (fs cs : Array Value) : fs.size = first.length → cs.size = cap.length → (∀ j d, first[j]? = some d → VRep L d (fs.getD j undef)) →
      (∀ j d, cap[j]? = some d → VRep L d (cs.getD j undef)) → VRep L (.fn f first cap) (.func f fs cs)
  | mp (k g : Nat) (r : Option Nat) : g ≤ L.top → (∀ ob, L.row k g = some ob → ∃ b n, ob = some (b, n) ∧ r = some b) → VRep L (.mp k g) (.map r)

/-- One layout says no less than another. -/
structure Lay.le (L L' : Lay) : Prop where
  imm : ∀ b o v, L.imm b o = some v → L'.imm b o = some v
  top : L.top ≤ L'.top
  row : ∀ k g ob, g ≤ L.top → L'.row k g = some ob → L.row k g = some ob

theorem VRep.mono {L L' : Lay} (h : L.le L') {d : DV} {v : Value} (r : VRep L d v) : VRep L' d v := by
  induction r with
  | any v => exact .any v
  | sc v => exact .sc v
  | sl es cs a len cap f h1 h2 h3 h4 _ ih =>
    refine .sl es cs a len cap f h1 h2 h3 ?_ ih
    rcases h4 with h4 | ⟨b, o, h4, h5⟩
    · exact .inl h4
    · exact .inr ⟨b, o, h4, fun j hj => h.imm _ _ _ (h5 j hj)⟩
  | ep cs b o f h1 h2 _ ih => exact .ep cs b o f h1 (fun j hj => h.imm _ _ _ (h2 j hj)) ih
  | ref k g off len es a l c h1 h2 => exact .ref k g off len es a l c (Nat.le_trans h1 h.top) fun ob hob => h2 ob (h.row _ _ _ h1 hob)
  | ptr k g off a h1 h2 => exact .ptr k g off a (Nat.le_trans h1 h.top) fun ob hob => h2 ob (h.row _ _ _ h1 hob)
  | agg cs vs h1 h2 _ ih => exact .agg cs vs h1 h2 ih
  | tup cs vs h1 _ ih => exact .tup cs vs h1 ih
  | fn f first cap fs cs h1 h2 _ _ ih1 ih2 => exact .fn f first cap fs cs h1 h2 ih1 ih2
  | mp k g r h1 h2 => exact .mp k g r (Nat.le_trans h1 h.top) fun ob hob => h2 ob (h.row _ _ _ h1 hob)

theorem VRep.mono_clo {L L' : Lay} (h : ∀ b o v, L.imm b o = some v → L'.imm b o = some v) {d : DV} {v : Value} (r : VRep L d v) (hc : d.clo = true) : VRep L' d v := by
  induction r with
  | any v => exact .any v
  | sc v => exact .sc v
  | sl es cs a len cap f h1 h2 h3 h4 _ ih =>
    simp only [DV.clo, List.all_eq_true] at hc
    refine .sl es cs a len cap f h1 h2 h3 ?_ fun j d hj => ih j d hj (hc ⟨d, List.mem_of_getElem? hj⟩ (List.mem_attach _ _))
    rcases h4 with h4 | ⟨b, o, h4, h5⟩
    · exact .inl h4
    · exact .inr ⟨b, o, h4, fun j hj => h _ _ _ (h5 j hj)⟩
  | ep cs b o f h1 h2 _ ih =>
    simp only [DV.clo, List.all_eq_true] at hc
    exact .ep cs b o f h1 (fun j hj => h _ _ _ (h2 j hj)) fun j d hj => ih j d hj (hc ⟨d, List.mem_of_getElem? hj⟩ (List.mem_attach _ _))
  | ref k g off len es a l c h1 h2 => simp [DV.clo] at hc
  | ptr k g off a h1 h2 => simp [DV.clo] at hc
  | agg cs vs h1 h2 _ ih =>
    simp only [DV.clo, List.all_eq_true] at hc
    exact .agg cs vs h1 h2 fun j d hj => ih j d hj (hc ⟨d, List.mem_of_getElem? hj⟩ (List.mem_attach _ _))
  | tup cs vs h1 _ ih =>
    simp only [DV.clo, List.all_eq_true] at hc
    exact .tup cs vs h1 fun j d hj => ih j d hj (hc ⟨d, List.mem_of_getElem? hj⟩ (List.mem_attach _ _))
  | fn f first cap fs cs h1 h2 _ _ ih1 ih2 =>
    simp only [DV.clo, Bool.and_eq_true, List.all_eq_true] at hc
    exact .fn f first cap fs cs h1 h2 (fun j d hj => ih1 j d hj (hc.1 ⟨d, List.mem_of_getElem? hj⟩ (List.mem_attach _ _))) (fun j d hj => ih2 j d hj (hc.2 ⟨d, List.mem_of_getElem? hj⟩ (List.mem_attach _ _)))
  | mp k g r h1 h2 => simp [DV.clo] at hc

theorem VRep.oneCell {L : Lay} {d : DV} {v : Value} (r : VRep L d v) (h : d.one = true) : v.oneCell' = true := by
  cases r <;> first | rfl | exact h | cases h

/-- A block of the abstract store. -/
inductive ABlk where
  | row (g : Nat) (cs : List DV)
  | mapb (g : Nat) (m : List (Value × DV))
  | gone
  deriving Inhabited

def ABlk.gen? : ABlk → Option Nat
  | .row g _ => some g
  | .mapb g _ => some g
  | .gone => none

/-- A world, the abstract store that it bears, where its blocks lie, what is hidden, and the greatest generation. -/
structure AX where
  w : World
  ρ : Nat → Option (Nat × Nat)
  σ : List ABlk
  N : Nat
  hid : Nat → Prop

def AX.live (X : AX) (k g : Nat) : Prop := (X.σ[k]?).bind ABlk.gen? = some g
def AX.mut (X : AX) (b : Nat) : Prop := ∃ k g n, X.live k g ∧ X.ρ k = some (b, n)
noncomputable def AX.lay (X : AX) : Lay where
  imm := fun b o => if X.mut b ∨ X.hid b then none else X.w.cell? ⟨b, o, none⟩
  row := fun k g => if X.live k g then some (X.ρ k) else none
  top := X.N

/-- What a block of the abstract store says of the world. -/
def ABlk.holds (L : Lay) (w : World) (ob : Option (Nat × Nat)) : ABlk → Prop
  | .row _ cs => match ob with
    | none => cs = []
    | some (b, n) => ∃ arr T fr, w.heap[b]? = some (.cells arr T fr) ∧ arr.size = n ∧ cs.length ≤ n ∧ (∀ j, j < n → ¬ (fr.1 ≤ j ∧ j < fr.2)) ∧ ∀ j d, cs[j]? = some d → d.one = true ∧ VRep L d (arr.getD j undef)
  | .mapb _ m => ∃ b n es clock, ob = some (b, n) ∧ w.heap[b]? = some (.map es clock) ∧ es.size = m.length ∧ (∀ e ∈ es, e.born < clock) ∧
      ∀ (j : Nat) (k : Value) (d : DV), m[j]? = some (k, d) → (es.getD j default).key = k ∧ VRep L d (es.getD j default).val
  | .gone => True

structure Sto (X : AX) : Prop where
  inj : ∀ k k' g g' b n n', X.live k g → X.live k' g' → X.ρ k = some (b, n) → X.ρ k' = some (b, n') → k = k'
  gen : ∀ k g, X.live k g → g ≤ X.N
  hid : ∀ b, X.mut b → ¬ X.hid b
  hidlt : ∀ b, X.hid b → b < X.w.heap.size
  holds : ∀ (k : Nat) (B : ABlk), X.σ[k]? = some B → B.holds X.lay X.w (X.ρ k)

/-- From one to a later one. -/
structure WExt (X X' : AX) : Prop where
  hid : X'.hid = X.hid
  top : X.N ≤ X'.N
  os : X'.w.os = X.w.os
  tape : X'.w.tape = X.w.tape
  output : X'.w.output = X.w.output
  size : X.w.heap.size ≤ X'.w.heap.size
  old : ∀ b, b < X.w.heap.size → ¬ X.mut b → X'.w.heap[b]? = X.w.heap[b]? ∧ ¬ X'.mut b
  rows : ∀ k g, g ≤ X.N → X'.live k g → X.live k g ∧ X'.ρ k = X.ρ k

theorem WExt.refl (X : AX) : WExt X X := ⟨rfl, Nat.le_refl _, rfl, rfl, rfl, Nat.le_refl _, fun _ _ h => ⟨rfl, h⟩, fun _ _ _ h => ⟨h, rfl⟩⟩

theorem WExt.trans {X Y Z : AX} (h : WExt X Y) (k : WExt Y Z) : WExt X Z where
  hid := k.hid.trans h.hid
  top := Nat.le_trans h.top k.top
  os := k.os.trans h.os
  tape := k.tape.trans h.tape
  output := k.output.trans h.output
  size := Nat.le_trans h.size k.size
  old := fun b hb hm => by
    obtain ⟨h1, h2⟩ := h.old b hb hm
    obtain ⟨k1, k2⟩ := k.old b (Nat.lt_of_lt_of_le hb h.size) h2
    exact ⟨k1.trans h1, k2⟩
  rows := fun i g hg hl => by
    obtain ⟨k1, k2⟩ := k.rows i g (Nat.le_trans hg h.top) hl
    obtain ⟨h1, h2⟩ := h.rows i g hg k1
    exact ⟨h1, k2.trans h2⟩

theorem AX.imm_lt {X : AX} {b o : Nat} {v : Value} (h : X.lay.imm b o = some v) : b < X.w.heap.size ∧ ¬ X.mut b ∧ ¬ X.hid b ∧ X.w.cell? ⟨b, o, none⟩ = some v := by
  simp only [AX.lay] at h
  split at h
  · cases h
  · rename_i hm
    exact ⟨World.block_lt_of_cell? _ _ h, fun h' => hm (.inl h'), fun h' => hm (.inr h'), h⟩

theorem AX.imm_mk {X : AX} {b o : Nat} {v : Value} (hm : ¬ X.mut b) (hh : ¬ X.hid b) (h : X.w.cell? ⟨b, o, none⟩ = some v) : X.lay.imm b o = some v := by
  simp only [AX.lay]
  rw [if_neg (fun h' => h'.elim hm hh)]; exact h

theorem AX.row_mk {X : AX} {k g : Nat} (h : X.live k g) : X.lay.row k g = some (X.ρ k) := by simp only [AX.lay, if_pos h]
theorem AX.row_of {X : AX} {k g : Nat} {ob : Option (Nat × Nat)} (h : X.lay.row k g = some ob) : X.live k g ∧ X.ρ k = ob := by
  simp only [AX.lay] at h
  split at h
  · rename_i hl; exact ⟨hl, Option.some.inj h⟩
  · cases h

theorem WExt.le {X X' : AX} (h : WExt X X') : X.lay.le X'.lay where
  imm := fun b o v hv => by
    obtain ⟨h1, h2, h3, h4⟩ := AX.imm_lt hv
    obtain ⟨h5, h6⟩ := h.old b h1 h2
    refine AX.imm_mk h6 (by rw [h.hid]; exact h3) ?_
    rw [World.cell?_of_block (w := X.w) h5]; exact h4
  top := h.top
  row := fun k g ob hg hr => by
    obtain ⟨h1, h2⟩ := AX.row_of hr
    obtain ⟨h3, h4⟩ := h.rows k g hg h1
    rw [AX.row_mk h3, ← h4, h2]

theorem VRep.ext {X X' : AX} (h : WExt X X') {d : DV} {v : Value} (r : VRep X.lay d v) : VRep X'.lay d v := r.mono h.le

theorem ABlk.holds.mono {L L' : Lay} (h : L.le L') {w w' : World} {ob : Option (Nat × Nat)} {B : ABlk} (hw : ∀ b n, ob = some (b, n) → w'.heap[b]? = w.heap[b]?)
    (hh : B.holds L w ob) : B.holds L' w' ob := by
  cases B with
  | gone => trivial
  | row g cs =>
    cases ob with
    | none => exact hh
    | some x =>
      obtain ⟨b, n⟩ := x
      obtain ⟨arr, T, fr, h1, h2, h3, hfr, h4⟩ := hh
      exact ⟨arr, T, fr, (hw b n rfl).trans h1, h2, h3, hfr, fun j d hj => ⟨(h4 j d hj).1, (h4 j d hj).2.mono h⟩⟩
  | mapb g m =>
    obtain ⟨b, n, es, clock, h1, h2, h3, h4, h5⟩ := hh
    exact ⟨b, n, es, clock, h1, (hw b n h1).trans h2, h3, h4, fun j k d hj => ⟨(h5 j k d hj).1, (h5 j k d hj).2.mono h⟩⟩

/-! What keeps the store: another world in which nothing that is there has turned. -/

/-- The world grows: old blocks are as they were. -/
structure Keep (w w' : World) : Prop where
  os : w'.os = w.os
  tape : w'.tape = w.tape
  output : w'.output = w.output
  size : w.heap.size ≤ w'.heap.size
  block : ∀ b, b < w.heap.size → w'.heap[b]? = w.heap[b]?

theorem Keep.refl (w : World) : Keep w w := ⟨rfl, rfl, rfl, Nat.le_refl _, fun _ _ => rfl⟩
theorem Keep.trans {a b c : World} (h : Keep a b) (k : Keep b c) : Keep a c :=
  ⟨k.os.trans h.os, k.tape.trans h.tape, k.output.trans h.output, Nat.le_trans h.size k.size, fun i hi => (k.block i (Nat.lt_of_lt_of_le hi h.size)).trans (h.block i hi)⟩
theorem Keep.alloc (w : World) (o : Obj) : Keep w (w.alloc o) :=
  ⟨rfl, rfl, rfl, by simp, fun b hb => by rw [show (w.alloc o).heap = w.heap.push o from rfl, Array.getElem?_push, if_neg (by omega)]⟩
theorem Keep.drew (w : World) : Keep w w.drew := ⟨rfl, rfl, rfl, Nat.le_refl _, fun _ _ => rfl⟩

theorem lt_of_heap {w : World} {b : Nat} {o : Obj} (h : w.heap[b]? = some o) : b < w.heap.size := (Array.getElem?_eq_some_iff.1 h).1

theorem Sto.ρ_lt {X : AX} (h : Sto X) {k g b n : Nat} (hl : X.live k g) (hr : X.ρ k = some (b, n)) : b < X.w.heap.size := by
  unfold AX.live at hl
  cases hk : X.σ[k]? with
  | none => simp [hk] at hl
  | some B =>
    have hh := h.holds k B hk
    rw [hr] at hh
    cases B with
    | gone => simp [hk, ABlk.gen?] at hl
    | row g' cs => obtain ⟨arr, T, fr, h1, _⟩ := hh; exact lt_of_heap h1
    | mapb g' m => obtain ⟨b', n', es, clock, h1, h2, _⟩ := hh; cases h1; exact lt_of_heap h2

theorem Sto.mut_lt {X : AX} (h : Sto X) {b : Nat} (hm : X.mut b) : b < X.w.heap.size := by
  obtain ⟨k, g, n, hl, hr⟩ := hm
  exact h.ρ_lt hl hr

/-- The same store in a world that has grown. -/
def AX.inW (X : AX) (w' : World) : AX := { X with w := w' }

theorem WExt.inW {X : AX} {w' : World} (hk : Keep X.w w') : WExt X (X.inW w') :=
  ⟨rfl, Nat.le_refl _, hk.os, hk.tape, hk.output, hk.size, fun b hb hm => ⟨hk.block b hb, hm⟩, fun _ _ _ h => ⟨h, rfl⟩⟩

theorem Sto.inW {X : AX} (h : Sto X) {w' : World} (hk : Keep X.w w') : Sto (X.inW w') where
  inj := h.inj
  gen := h.gen
  hid := h.hid
  hidlt := fun b hb => Nat.lt_of_lt_of_le (h.hidlt b hb) hk.size
  holds := fun k B hB => by
    have hB' : X.σ[k]? = some B := hB
    cases B with
    | gone => trivial
    | row g cs => exact (h.holds k _ hB).mono (WExt.inW hk).le fun b n hb => hk.block b (h.ρ_lt (k := k) (g := g) (by unfold AX.live; rw [hB']; rfl) hb)
    | mapb g m => exact (h.holds k _ hB).mono (WExt.inW hk).le fun b n hb => hk.block b (h.ρ_lt (k := k) (g := g) (by unfold AX.live; rw [hB']; rfl) hb)

/-! The store changes. -/

theorem AX.live_get {X : AX} {k : Nat} {B : ABlk} (h : X.σ[k]? = some B) {g : Nat} : X.live k g ↔ B.gen? = some g := by simp [AX.live, h]
theorem AX.live_lt {X : AX} {k g : Nat} (h : X.live k g) : k < X.σ.length := by
  unfold AX.live at h
  rcases Nat.lt_or_ge k X.σ.length with h' | h'
  · exact h'
  · simp [List.getElem?_eq_none h'] at h

/-- A new block of the store, which lies in new memory (or nowhere yet). -/
def AX.push (X : AX) (w' : World) (ob : Option (Nat × Nat)) (B : ABlk) : AX :=
  { w := w', ρ := fun i => if i = X.σ.length then ob else X.ρ i, σ := X.σ ++ [B], N := X.N + 1, hid := X.hid }

theorem AX.push_live {X : AX} {w' : World} {ob : Option (Nat × Nat)} {B : ABlk} {k g : Nat} :
    (X.push w' ob B).live k g ↔ (k < X.σ.length ∧ X.live k g) ∨ (k = X.σ.length ∧ B.gen? = some g) := by
  simp only [AX.live, AX.push, List.getElem?_append]
  split
  · rename_i h; simp [h]; omega
  · rename_i h
    by_cases hk : k = X.σ.length
    · subst hk; simp
    · have : ¬ k < X.σ.length := h
      simp only [this, false_and, hk, false_or]
      rw [List.getElem?_eq_none (by simp; omega)]
      simp

theorem WExt.push {X : AX} (hS : Sto X) {w' : World} (hk : Keep X.w w') {ob : Option (Nat × Nat)} {B : ABlk} (hg : B.gen? = some (X.N + 1)) (hob : ∀ b n, ob = some (b, n) → X.w.heap.size ≤ b) : WExt X (X.push w' ob B) where
  hid := rfl
  top := Nat.le_succ _
  os := hk.os
  tape := hk.tape
  output := hk.output
  size := hk.size
  old := fun b hb hm => ⟨hk.block b hb, fun ⟨k, g, n, hl, hr⟩ => by
    rcases AX.push_live.1 hl with ⟨h1, h2⟩ | ⟨h1, h2⟩
    · simp only [AX.push, if_neg (Nat.ne_of_lt h1)] at hr
      exact hm ⟨k, g, n, h2, hr⟩
    · simp only [AX.push, if_pos h1] at hr
      have := hob b n hr
      omega⟩
  rows := fun k g hgN hl => by
    rcases AX.push_live.1 hl with ⟨h1, h2⟩ | ⟨h1, h2⟩
    · exact ⟨h2, by simp only [AX.push, if_neg (Nat.ne_of_lt h1)]⟩
    · rw [hg] at h2; cases h2; omega

theorem Sto.push {X : AX} (hS : Sto X) {w' : World} (hk : Keep X.w w') {ob : Option (Nat × Nat)} {B : ABlk} (hg : B.gen? = some (X.N + 1)) (hob : ∀ b n, ob = some (b, n) → X.w.heap.size ≤ b)
    (hB : B.holds X.lay w' ob) : Sto (X.push w' ob B) where
  inj := fun k k' g g' b n n' hl hl' hr hr' => by
    rcases AX.push_live.1 hl with ⟨h1, h2⟩ | ⟨h1, h2⟩ <;> rcases AX.push_live.1 hl' with ⟨h1', h2'⟩ | ⟨h1', h2'⟩
    · simp only [AX.push, if_neg (Nat.ne_of_lt h1)] at hr
      simp only [AX.push, if_neg (Nat.ne_of_lt h1')] at hr'
      exact hS.inj k k' g g' b n n' h2 h2' hr hr'
    · simp only [AX.push, if_neg (Nat.ne_of_lt h1)] at hr
      simp only [AX.push, if_pos h1'] at hr'
      have := hS.ρ_lt h2 hr
      have := hob b n' hr'
      omega
    · simp only [AX.push, if_neg (Nat.ne_of_lt h1')] at hr'
      simp only [AX.push, if_pos h1] at hr
      have := hS.ρ_lt h2' hr'
      have := hob b n hr
      omega
    · rw [h1, h1']
  gen := fun k g hl => by
    rcases AX.push_live.1 hl with ⟨h1, h2⟩ | ⟨h1, h2⟩
    · exact Nat.le_trans (hS.gen k g h2) (Nat.le_succ _)
    · rw [hg] at h2; cases h2; exact Nat.le_refl _
  hid := fun b ⟨k, g, n, hl, hr⟩ hh => by
    rcases AX.push_live.1 hl with ⟨h1, h2⟩ | ⟨h1, h2⟩
    · simp only [AX.push, if_neg (Nat.ne_of_lt h1)] at hr
      exact hS.hid b ⟨k, g, n, h2, hr⟩ hh
    · simp only [AX.push, if_pos h1] at hr
      have := hob b n hr
      have := hS.hidlt b hh
      omega
  hidlt := fun b hb => Nat.lt_of_lt_of_le (hS.hidlt b hb) hk.size
  holds := fun k B' hB' => by
    have hle := (WExt.push hS hk hg hob).le
    simp only [AX.push, List.getElem?_append] at hB'
    split at hB'
    · rename_i hlt
      have hρ : (X.push w' ob B).ρ k = X.ρ k := by simp only [AX.push, if_neg (Nat.ne_of_lt hlt)]
      rw [hρ]
      cases hg' : B'.gen? with
      | none => cases B' <;> first | trivial | cases hg'
      | some g =>
        exact (hS.holds k B' hB').mono hle fun b n hb => hk.block b (hS.ρ_lt (k := k) (g := g) ((AX.live_get hB').2 hg') hb)
    · rename_i hge
      have hkl : k = X.σ.length := by
        rcases Nat.lt_or_ge (k - X.σ.length) 1 with h' | h'
        · omega
        · rw [List.getElem?_eq_none (by simpa using h')] at hB'; cases hB'
      subst hkl
      simp at hB'
      subst hB'
      have hρ : (X.push w' ob B).ρ X.σ.length = ob := by simp only [AX.push, if_pos]
      rw [hρ]
      exact hB.mono hle fun _ _ _ => rfl

/-- A block of the store is replaced: another generation, in new memory or in the same; or the same generation in the same memory. -/
def AX.repl (X : AX) (k : Nat) (w' : World) (ob : Option (Nat × Nat)) (B : ABlk) (N' : Nat) : AX :=
  { w := w', ρ := fun i => if i = k then ob else X.ρ i, σ := X.σ.set k B, N := N', hid := X.hid }

theorem AX.repl_live {X : AX} {k : Nat} {w' : World} {ob : Option (Nat × Nat)} {B : ABlk} {N' i g : Nat} (hk : k < X.σ.length) :
    (X.repl k w' ob B N').live i g ↔ (i ≠ k ∧ X.live i g) ∨ (i = k ∧ B.gen? = some g) := by
  simp only [AX.live, AX.repl, List.getElem?_set]
  by_cases h : k = i
  · subst h; simp [hk]
  · simp only [h, if_false]
    have h' : i ≠ k := fun e => h e.symm
    simp [h']

/-- What may be done to the block k. -/
structure ReplOk (X : AX) (k g : Nat) (w' : World) (ob : Option (Nat × Nat)) (B : ABlk) (N' : Nat) : Prop where
  live : X.live k g
  os : w'.os = X.w.os
  tape : w'.tape = X.w.tape
  output : w'.output = X.w.output
  size : X.w.heap.size ≤ w'.heap.size
  block : ∀ b, b < X.w.heap.size → (∀ n, X.ρ k ≠ some (b, n)) → w'.heap[b]? = X.w.heap[b]?
  gen : (∃ g', B.gen? = some g' ∧ X.N < g' ∧ g' ≤ N') ∨ (B.gen? = some g ∧ X.N ≤ N' ∧ ob = X.ρ k)
  lies : ∀ b n, ob = some (b, n) → X.w.heap.size ≤ b ∨ ∃ n0, X.ρ k = some (b, n0)

theorem WExt.repl {X : AX} (hS : Sto X) {k g : Nat} {w' : World} {ob : Option (Nat × Nat)} {B : ABlk} {N' : Nat} (h : ReplOk X k g w' ob B N') : WExt X (X.repl k w' ob B N') where
  hid := rfl
  top := by rcases h.gen with ⟨g', _, h1, h2⟩ | ⟨_, h1, _⟩ <;> simp only [AX.repl] <;> omega
  os := h.os
  tape := h.tape
  output := h.output
  size := h.size
  old := fun b hb hm => ⟨h.block b hb (fun n hn => hm ⟨k, g, n, h.live, hn⟩), fun ⟨i, g', n, hl, hr⟩ => by
    rcases (AX.repl_live (AX.live_lt h.live)).1 hl with ⟨h1, h2⟩ | ⟨h1, h2⟩
    · simp only [AX.repl, if_neg h1] at hr
      exact hm ⟨i, g', n, h2, hr⟩
    · simp only [AX.repl, if_pos h1] at hr
      rcases h.lies b n hr with h3 | ⟨n0, h3⟩
      · omega
      · exact hm ⟨k, g, n0, h.live, h3⟩⟩
  rows := fun i g' hgN hl => by
    rcases (AX.repl_live (AX.live_lt h.live)).1 hl with ⟨h1, h2⟩ | ⟨h1, h2⟩
    · exact ⟨h2, by simp only [AX.repl, if_neg h1]⟩
    · subst h1
      rcases h.gen with ⟨g1, h3, h4, _⟩ | ⟨h3, _, h4⟩
      · rw [h3] at h2; cases h2; omega
      · rw [h3] at h2; cases h2
        exact ⟨h.live, by simp only [AX.repl, if_true]; exact h4⟩

theorem Sto.repl' {X : AX} (hS : Sto X) {k g : Nat} {w' : World} {ob : Option (Nat × Nat)} {B : ABlk} {N' : Nat} (h : ReplOk X k g w' ob B N') (hB : B.holds (X.repl k w' ob B N').lay w' ob) : Sto (X.repl k w' ob B N') where
  inj := fun i i' g1 g1' b n n' hl hl' hr hr' => by
    have hk := AX.live_lt h.live
    rcases (AX.repl_live hk).1 hl with ⟨h1, h2⟩ | ⟨h1, h2⟩ <;> rcases (AX.repl_live hk).1 hl' with ⟨h1', h2'⟩ | ⟨h1', h2'⟩
    · simp only [AX.repl, if_neg h1] at hr
      simp only [AX.repl, if_neg h1'] at hr'
      exact hS.inj i i' g1 g1' b n n' h2 h2' hr hr'
    · simp only [AX.repl, if_neg h1] at hr
      simp only [AX.repl, if_pos h1'] at hr'
      have hlt := hS.ρ_lt h2 hr
      rcases h.lies b n' hr' with h3 | ⟨n0, h3⟩
      · omega
      · exact absurd (hS.inj i k g1 g b n n0 h2 h.live hr h3) h1
    · simp only [AX.repl, if_neg h1'] at hr'
      simp only [AX.repl, if_pos h1] at hr
      have hlt := hS.ρ_lt h2' hr'
      rcases h.lies b n hr with h3 | ⟨n0, h3⟩
      · omega
      · exact absurd (hS.inj i' k g1' g b n' n0 h2' h.live hr' h3) h1'
    · rw [h1, h1']
  gen := fun i g' hl => by
    rcases (AX.repl_live (AX.live_lt h.live)).1 hl with ⟨h1, h2⟩ | ⟨h1, h2⟩
    · have := hS.gen i g' h2
      simp only [AX.repl]
      rcases h.gen with ⟨g1, _, h3, h4⟩ | ⟨_, h3, _⟩ <;> omega
    · simp only [AX.repl]
      rcases h.gen with ⟨g1, h3, h4, h5⟩ | ⟨h3, h4, _⟩
      · rw [h3] at h2; cases h2; omega
      · rw [h3] at h2; cases h2
        have := hS.gen k g h.live
        omega
  hid := fun b ⟨i, g', n, hl, hr⟩ hh => by
    rcases (AX.repl_live (AX.live_lt h.live)).1 hl with ⟨h1, h2⟩ | ⟨h1, h2⟩
    · simp only [AX.repl, if_neg h1] at hr
      exact hS.hid b ⟨i, g', n, h2, hr⟩ hh
    · simp only [AX.repl, if_pos h1] at hr
      have := hS.hidlt b hh
      rcases h.lies b n hr with h3 | ⟨n0, h3⟩
      · omega
      · exact hS.hid b ⟨k, g, n0, h.live, h3⟩ hh
  hidlt := fun b hb => Nat.lt_of_lt_of_le (hS.hidlt b hb) h.size
  holds := fun i B' hB' => by
    have hle := (WExt.repl hS h).le
    have hk := AX.live_lt h.live
    simp only [AX.repl, List.getElem?_set] at hB'
    by_cases hik : k = i
    · subst hik
      simp [hk] at hB'
      subst hB'
      have hρ : (X.repl k w' ob B N').ρ k = ob := by simp only [AX.repl, if_pos]
      rw [hρ]
      exact hB
    · simp only [hik, if_false] at hB'
      have hρ : (X.repl k w' ob B N').ρ i = X.ρ i := by simp only [AX.repl, if_neg (Ne.symm hik)]
      rw [hρ]
      cases hg' : B'.gen? with
      | none => cases B' <;> first | trivial | cases hg'
      | some g' =>
        have hlive : X.live i g' := (AX.live_get hB').2 hg'
        exact (hS.holds i B' hB').mono hle fun b n hb => h.block b (hS.ρ_lt hlive hb) fun n0 hn0 => hik (hS.inj i k g' g b n n0 hlive h.live hb hn0).symm

theorem Sto.repl {X : AX} (hS : Sto X) {k g : Nat} {w' : World} {ob : Option (Nat × Nat)} {B : ABlk} {N' : Nat} (h : ReplOk X k g w' ob B N') (hB : B.holds X.lay w' ob) : Sto (X.repl k w' ob B N') :=
  hS.repl' h (hB.mono (WExt.repl hS h).le fun _ _ _ => rfl)

/-- Blocks of the store are let go: what they held is read for ever. -/
theorem WExt.shrink {X : AX} {σ' : List ABlk} (h : ∀ (k : Nat) (g : Nat), (σ'[k]?).bind ABlk.gen? = some g → X.live k g) : WExt X { X with σ := σ' } where
  hid := rfl
  top := Nat.le_refl _
  os := rfl
  tape := rfl
  output := rfl
  size := Nat.le_refl _
  old := fun b _ hm => ⟨rfl, fun ⟨k, g, n, hl, hr⟩ => hm ⟨k, g, n, h k g hl, hr⟩⟩
  rows := fun k g _ hl => ⟨h k g hl, rfl⟩

theorem Sto.shrink {X : AX} (hS : Sto X) {σ' : List ABlk} (h : ∀ (k : Nat) (B : ABlk), σ'[k]? = some B → B = .gone ∨ X.σ[k]? = some B) : Sto { X with σ := σ' } := by
  have hl : ∀ (k : Nat) (g : Nat), (σ'[k]?).bind ABlk.gen? = some g → X.live k g := fun k g hg => by
    cases hB : σ'[k]? with
    | none => simp [hB] at hg
    | some B =>
      rcases h k B hB with rfl | h'
      · simp [hB, ABlk.gen?] at hg
      · simpa [AX.live, h', hB] using hg
  exact {
    inj := fun k k' g g' b n n' h1 h2 h3 h4 => hS.inj k k' g g' b n n' (hl k g h1) (hl k' g' h2) h3 h4
    gen := fun k g h1 => hS.gen k g (hl k g h1)
    hid := fun b ⟨k, g, n, h1, h2⟩ => hS.hid b ⟨k, g, n, hl k g h1, h2⟩
    hidlt := hS.hidlt
    holds := fun k B hB => by
      rcases h k B hB with rfl | h'
      · trivial
      · exact (hS.holds k B h').mono (WExt.shrink hl).le fun _ _ _ => rfl }

end Go.Av
