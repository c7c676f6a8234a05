/-
  Part 0 of the proof: Av1 Av2 Av3 Av4 Av5 Av6 Av7 Av8 Av9 AvA.
-/
import Derived.WalkKit
set_option linter.unusedSimpArgs false
set_option linter.unusedVariables false
section
namespace Go.Av
open Classical
inductive DV where
 | any
 | sc (v : Value)
 | sl (es : Nat) (cs : List DV)
 | ep (cs : List DV)
 | ref (k g off len es : Nat)
 | ptr (k g off : Nat)
 | agg (cs : List DV)
 | tup (vs : List DV)
 | fn (f : Fn) (first cap : List DV)
 | mp (k g : Nat)
 | bld (T k g : Nat)
 | bref (T k g len : Nat)
 deriving Inhabited
def DV.one : DV -> Bool
 | .sc v => v.oneCell'
 | .sl _ _ => true
 | .ep _ => true
 | .ref _ _ _ _ _ => true
 | .ptr _ _ _ => true
 | .fn _ _ _ => true
 | .mp _ _ => true
 | .bld _ _ _ => true
 | .bref _ _ _ _ => true
 | .any => false
 | .agg _ => false
 | .tup _ => false
def DV.clo : DV -> Bool
 | .any => true
 | .sc _ => true
 | .sl _ cs => cs.attach.all fun ⟨d, _⟩ => d.clo
 | .ep cs => cs.attach.all fun ⟨d, _⟩ => d.clo
 | .ref _ _ _ _ _ => false
 | .ptr _ _ _ => false
 | .agg cs => cs.attach.all fun ⟨d, _⟩ => d.clo
 | .tup cs => cs.attach.all fun ⟨d, _⟩ => d.clo
 | .fn _ a b => (a.attach.all fun ⟨d, _⟩ => d.clo) && (b.attach.all fun ⟨d, _⟩ => d.clo)
 | .mp _ _ => false
 | .bld _ _ _ => false
 | .bref _ _ _ _ => false
structure Lay where
 imm : Nat -> Nat -> Option Value
 row : Nat -> Nat -> Option (Option (Nat × Nat))
 top : Nat
 shp : Nat -> Option (TypeId × Nat)
def RefOk (ob : Option (Nat × Nat)) (off len es : Nat) (v : Value) : Prop :=
 match ob with
 | none => v = .slice none 0 0 /\ off = 0 /\ len = 0
 | some (b, n) => ∃ a cap, v = .slice a len cap /\ len <= cap /\ (cap = 0 \/ (a = some ⟨b, off, none⟩ /\ off + cap * es <= n))
inductive VRep (L : Lay) : DV -> Value -> Prop
 | any (v : Value) : VRep L .any v
 | sc (v : Value) : VRep L (.sc v) v
 | sl (es : Nat) (cs : List DV) (a : Option Addr) (len cap : Nat) (f : Nat -> Value) : len * es = cs.length -> len <= cap -> (∀ d ∈ cs, d.one = true) ->
   (cs = [] \/ ∃ b o, a = some ⟨b, o, none⟩ /\ ∀ j, j < cs.length -> L.imm b (o + j) = some (f j)) ->
   (∀ j d, cs[j]? = some d -> VRep L d (f j)) -> VRep L (.sl es cs) (.slice a len cap)
 | ep (cs : List DV) (b o : Nat) (f : Nat -> Value) : (∀ d ∈ cs, d.one = true) -> (∀ j, j < cs.length -> L.imm b (o + j) = some (f j)) ->
   (∀ j d, cs[j]? = some d -> VRep L d (f j)) -> VRep L (.ep cs) (.pointer (some ⟨b, o, none⟩))
 | ref (k g off len es : Nat) (a : Option Addr) (l c : Nat) : g <= L.top -> (∀ ob, L.row k g = some ob -> RefOk ob off len es (.slice a l c)) -> VRep L (.ref k g off len es) (.slice a l c)
 | ptr (k g off : Nat) (a : Option Addr) : g <= L.top -> (∀ ob, L.row k g = some ob -> ∃ b n, ob = some (b, n) /\ a = some ⟨b, off, none⟩) -> VRep L (.ptr k g off) (.pointer a)
 | agg (cs : List DV) (vs : Array Value) : vs.size = cs.length -> (∀ d ∈ cs, d.one = true) -> (∀ j d, cs[j]? = some d -> VRep L d (vs.getD j undef)) -> VRep L (.agg cs) (.agg vs)
 | tup (cs : List DV) (vs : Array Value) : vs.size = cs.length -> (∀ j d, cs[j]? = some d -> VRep L d (vs.getD j undef)) -> VRep L (.tup cs) (.tuple vs)
 | fn (f : Fn) (first cap : List DV) (fs cs : Array Value) : fs.size = first.length -> cs.size = cap.length -> (∀ j d, first[j]? = some d -> VRep L d (fs.getD j undef)) ->
   (∀ j d, cap[j]? = some d -> VRep L d (cs.getD j undef)) -> VRep L (.fn f first cap) (.func f fs cs)
 | mp (k g : Nat) (r : Option Nat) : g <= L.top -> (∀ ob, L.row k g = some ob -> ∃ b n, ob = some (b, n) /\ r = some b) -> VRep L (.mp k g) (.map r)
 | bld (T k g : Nat) (a : Option Addr) : g <= L.top -> (∀ ob, L.row k g = some ob -> ∃ b n, ob = some (b, n) /\ L.shp b = some (T, 3) /\ (a = none \/ a = some ⟨b, 0, none⟩)) -> VRep L (.bld T k g) (.pointer a)
 | bref (T k g len : Nat) (a : Option Addr) (l c : Nat) : g <= L.top -> (∀ ob, L.row k g = some ob -> RefOk ob 0 len 1 (.slice a l c) /\ ∀ b n, ob = some (b, n) -> ∃ m, L.shp b = some (T, m)) -> VRep L (.bref T k g len) (.slice a l c)
structure Lay.le (L L' : Lay) : Prop where
 imm : ∀ b o v, L.imm b o = some v -> L'.imm b o = some v
 top : L.top <= L'.top
 row : ∀ k g ob, g <= L.top -> L'.row k g = some ob -> L.row k g = some ob
 shp : ∀ b s, L.shp b = some s -> L'.shp b = some s
theorem VRep.mono {L L' : Lay} (h : L.le L') {d : DV} {v : Value} (r : VRep L d v) : VRep L' d v := by
 induction r with
 | any v => exact .any v
 | sc v => exact .sc v
 | sl es cs a len cap f h1 h2 h3 h4 _ ih =>
  refine .sl es cs a len cap f h1 h2 h3 ?_ ih
  rcases h4 with h4|⟨b, o, h4, h5⟩
  ·exact .inl h4
  ·exact .inr ⟨b, o, h4, fun j hj => h.imm _ _ _ (h5 j hj)⟩
 | ep cs b o f h1 h2 _ ih => exact .ep cs b o f h1 (fun j hj => h.imm _ _ _ (h2 j hj)) ih
 | ref k g off len es a l c h1 h2 => exact .ref k g off len es a l c (Nat.le_trans h1 h.top) fun ob hob => h2 ob (h.row _ _ _ h1 hob)
 | ptr k g off a h1 h2 => exact .ptr k g off a (Nat.le_trans h1 h.top) fun ob hob => h2 ob (h.row _ _ _ h1 hob)
 | agg cs vs h1 h2 _ ih => exact .agg cs vs h1 h2 ih
 | tup cs vs h1 _ ih => exact .tup cs vs h1 ih
 | fn f first cap fs cs h1 h2 _ _ ih1 ih2 => exact .fn f first cap fs cs h1 h2 ih1 ih2
 | mp k g r h1 h2 => exact .mp k g r (Nat.le_trans h1 h.top) fun ob hob => h2 ob (h.row _ _ _ h1 hob)
 | bld T k g a h1 h2 => exact .bld T k g a (Nat.le_trans h1 h.top) fun ob hob => (let ⟨b, n, q1, q2, q3⟩ := h2 ob (h.row _ _ _ h1 hob);⟨b, n, q1, h.shp _ _ q2, q3⟩)
 | bref T k g len a l c h1 h2 => exact .bref T k g len a l c (Nat.le_trans h1 h.top) fun ob hob => (let ⟨q1, q2⟩ := h2 ob (h.row _ _ _ h1 hob);⟨q1, fun b n hb => (let ⟨m, hm⟩ := q2 b n hb;⟨m, h.shp _ _ hm⟩)⟩)
theorem VRep.mono_clo {L L' : Lay} (h : ∀ b o v, L.imm b o = some v -> L'.imm b o = some v) {d : DV} {v : Value} (r : VRep L d v) (hc : d.clo = true) : VRep L' d v := by
 induction r with
 | any v => exact .any v
 | sc v => exact .sc v
 | sl es cs a len cap f h1 h2 h3 h4 _ ih =>
  simp only [DV.clo, List.all_eq_true] at hc
  refine .sl es cs a len cap f h1 h2 h3 ?_ fun j d hj => ih j d hj (hc ⟨d, List.mem_of_getElem? hj⟩ (List.mem_attach _ _))
  rcases h4 with h4|⟨b, o, h4, h5⟩
  ·exact .inl h4
  ·exact .inr ⟨b, o, h4, fun j hj => h _ _ _ (h5 j hj)⟩
 | ep cs b o f h1 h2 _ ih =>
  simp only [DV.clo, List.all_eq_true] at hc
  exact .ep cs b o f h1 (fun j hj => h _ _ _ (h2 j hj)) fun j d hj => ih j d hj (hc ⟨d, List.mem_of_getElem? hj⟩ (List.mem_attach _ _))
 | ref k g off len es a l c h1 h2 => simp [DV.clo] at hc
 | ptr k g off a h1 h2 => simp [DV.clo] at hc
 | agg cs vs h1 h2 _ ih =>
  simp only [DV.clo, List.all_eq_true] at hc
  exact .agg cs vs h1 h2 fun j d hj => ih j d hj (hc ⟨d, List.mem_of_getElem? hj⟩ (List.mem_attach _ _))
 | tup cs vs h1 _ ih =>
  simp only [DV.clo, List.all_eq_true] at hc
  exact .tup cs vs h1 fun j d hj => ih j d hj (hc ⟨d, List.mem_of_getElem? hj⟩ (List.mem_attach _ _))
 | fn f first cap fs cs h1 h2 _ _ ih1 ih2 =>
  simp only [DV.clo, Bool.and_eq_true, List.all_eq_true] at hc
  exact .fn f first cap fs cs h1 h2 (fun j d hj => ih1 j d hj (hc.1 ⟨d, List.mem_of_getElem? hj⟩ (List.mem_attach _ _))) (fun j d hj => ih2 j d hj (hc.2 ⟨d, List.mem_of_getElem? hj⟩ (List.mem_attach _ _)))
 | mp k g r h1 h2 => simp [DV.clo] at hc
 | bld T k g a h1 h2 => simp [DV.clo] at hc
 | bref T k g len a l c h1 h2 => simp [DV.clo] at hc
theorem VRep.oneCell {L : Lay} {d : DV} {v : Value} (r : VRep L d v) (h : d.one = true) : v.oneCell' = true := by
 cases r <;> first|rfl|exact h|cases h
inductive ABlk where
 | row (g : Nat) (cs : List DV)
 | mapb (g : Nat) (m : List (Value × DV))
 | gone
 deriving Inhabited
def ABlk.gen? : ABlk -> Option Nat
 | .row g _ => some g
 | .mapb g _ => some g
 | .gone => none
structure AX where
 w : World
 ρ : Nat -> Option (Nat × Nat)
 σ : List ABlk
 N : Nat
 hid : Nat -> Prop
def AX.live (X : AX) (k g : Nat) : Prop := (X.σ[k]?).bind ABlk.gen? = some g
def AX.mut (X : AX) (b : Nat) : Prop := ∃ k g n, X.live k g /\ X.ρ k = some (b, n)
noncomputable def AX.lay (X : AX) : Lay where
 imm := fun b o => if X.mut b \/ X.hid b then none else X.w.cell? ⟨b, o, none⟩
 row := fun k g => if X.live k g then some (X.ρ k) else none
 top := X.N
 shp := fun b => X.w.shape? b
def ABlk.holds (L : Lay) (w : World) (ob : Option (Nat × Nat)) : ABlk -> Prop
 | .row _ cs => match ob with
  | none => cs = []
  | some (b, n) => ∃ arr T fr, w.heap[b]? = some (.cells arr T fr) /\ arr.size = n /\ cs.length <= n /\ (∀ j, j < n -> ¬ (fr.1 <= j /\ j < fr.2)) /\ ∀ j d, cs[j]? = some d -> d.one = true /\ VRep L d (arr.getD j undef)
 | .mapb _ m => ∃ b n es clock, ob = some (b, n) /\ w.heap[b]? = some (.map es clock) /\ es.size = m.length /\ (∀ e ∈ es, e.born < clock) /\
   ∀ (j : Nat) (k : Value) (d : DV), m[j]? = some (k, d) -> (es.getD j default).key = k /\ VRep L d (es.getD j default).val
 | .gone => True
structure Sto (X : AX) : Prop where
 inj : ∀ k k' g g' b n n', X.live k g -> X.live k' g' -> X.ρ k = some (b, n) -> X.ρ k' = some (b, n') -> k = k'
 gen : ∀ k g, X.live k g -> g <= X.N
 hid : ∀ b, X.mut b -> ¬ X.hid b
 hidlt : ∀ b, X.hid b -> b < X.w.heap.size
 holds : ∀ (k : Nat) (B : ABlk), X.σ[k]? = some B -> B.holds X.lay X.w (X.ρ k)
structure WExt (X X' : AX) : Prop where
 hid : X'.hid = X.hid
 top : X.N <= X'.N
 os : X'.w.os = X.w.os
 tape : X'.w.tape = X.w.tape
 output : X'.w.output = X.w.output
 size : X.w.heap.size <= X'.w.heap.size
 old : ∀ b, b < X.w.heap.size -> ¬ X.mut b -> X'.w.heap[b]? = X.w.heap[b]? /\ ¬ X'.mut b
 rows : ∀ k g, g <= X.N -> X'.live k g -> X.live k g /\ X'.ρ k = X.ρ k
 shp : ∀ b s, X.w.shape? b = some s -> X'.w.shape? b = some s
theorem WExt.refl (X : AX) : WExt X X := ⟨rfl, Nat.le_refl _, rfl, rfl, rfl, Nat.le_refl _, fun _ _ h => ⟨rfl, h⟩, fun _ _ _ h => ⟨h, rfl⟩, fun _ _ h => h⟩
theorem WExt.trans {X Y Z : AX} (h : WExt X Y) (k : WExt Y Z) : WExt X Z where
 hid := k.hid.trans h.hid
 top := Nat.le_trans h.top k.top
 os := k.os.trans h.os
 tape := k.tape.trans h.tape
 output := k.output.trans h.output
 size := Nat.le_trans h.size k.size
 old := fun b hb hm => by
  obtain ⟨h1, h2⟩ := h.old b hb hm
  obtain ⟨k1, k2⟩ := k.old b (Nat.lt_of_lt_of_le hb h.size) h2
  exact ⟨k1.trans h1, k2⟩
 rows := fun i g hg hl => by
  obtain ⟨k1, k2⟩ := k.rows i g (Nat.le_trans hg h.top) hl
  obtain ⟨h1, h2⟩ := h.rows i g hg k1
  exact ⟨h1, k2.trans h2⟩
 shp := fun b s hs => k.shp b s (h.shp b s hs)
theorem AX.imm_lt {X : AX} {b o : Nat} {v : Value} (h : X.lay.imm b o = some v) : b < X.w.heap.size /\ ¬ X.mut b /\ ¬ X.hid b /\ X.w.cell? ⟨b, o, none⟩ = some v := by
 simp only [AX.lay] at h
 split at h
 ·cases h
 ·rename_i hm
  exact ⟨World.block_lt_of_cell? _ _ h, fun h' => hm (.inl h'), fun h' => hm (.inr h'), h⟩
theorem AX.imm_mk {X : AX} {b o : Nat} {v : Value} (hm : ¬ X.mut b) (hh : ¬ X.hid b) (h : X.w.cell? ⟨b, o, none⟩ = some v) : X.lay.imm b o = some v := by
 simp only [AX.lay]
 rw [if_neg (fun h' => h'.elim hm hh)];exact h
theorem AX.row_mk {X : AX} {k g : Nat} (h : X.live k g) : X.lay.row k g = some (X.ρ k) := by simp only [AX.lay, if_pos h]
theorem AX.row_of {X : AX} {k g : Nat} {ob : Option (Nat × Nat)} (h : X.lay.row k g = some ob) : X.live k g /\ X.ρ k = ob := by
 simp only [AX.lay] at h
 split at h
 ·rename_i hl;exact ⟨hl, Option.some.inj h⟩
 ·cases h
theorem WExt.le {X X' : AX} (h : WExt X X') : X.lay.le X'.lay where
 imm := fun b o v hv => by
  obtain ⟨h1, h2, h3, h4⟩ := AX.imm_lt hv
  obtain ⟨h5, h6⟩ := h.old b h1 h2
  refine AX.imm_mk h6 (by rw [h.hid];exact h3) ?_
  rw [World.cell?_of_block (w := X.w) h5];exact h4
 top := h.top
 row := fun k g ob hg hr => by
  obtain ⟨h1, h2⟩ := AX.row_of hr
  obtain ⟨h3, h4⟩ := h.rows k g hg h1
  rw [AX.row_mk h3, <- h4, h2]
 shp := h.shp
theorem VRep.ext {X X' : AX} (h : WExt X X') {d : DV} {v : Value} (r : VRep X.lay d v) : VRep X'.lay d v := r.mono h.le
theorem ABlk.holds.mono {L L' : Lay} (h : L.le L') {w w' : World} {ob : Option (Nat × Nat)} {B : ABlk} (hw : ∀ b n, ob = some (b, n) -> w'.heap[b]? = w.heap[b]?)
  (hh : B.holds L w ob) : B.holds L' w' ob := by
 cases B with
 | gone => trivial
 | row g cs =>
  cases ob with
  | none => exact hh
  | some x =>
   obtain ⟨b, n⟩ := x
   obtain ⟨arr, T, fr, h1, h2, h3, hfr, h4⟩ := hh
   exact ⟨arr, T, fr, (hw b n rfl).trans h1, h2, h3, hfr, fun j d hj => ⟨(h4 j d hj).1, (h4 j d hj).2.mono h⟩⟩
 | mapb g m =>
  obtain ⟨b, n, es, clock, h1, h2, h3, h4, h5⟩ := hh
  exact ⟨b, n, es, clock, h1, (hw b n h1).trans h2, h3, h4, fun j k d hj => ⟨(h5 j k d hj).1, (h5 j k d hj).2.mono h⟩⟩
/-! What keeps the store: another world in which nothing that is there has turned. -/
structure Keep (w w' : World) : Prop where
 os : w'.os = w.os
 tape : w'.tape = w.tape
 output : w'.output = w.output
 size : w.heap.size <= w'.heap.size
 block : ∀ b, b < w.heap.size -> w'.heap[b]? = w.heap[b]?
theorem Keep.refl (w : World) : Keep w w := ⟨rfl, rfl, rfl, Nat.le_refl _, fun _ _ => rfl⟩
theorem Keep.trans {a b c : World} (h : Keep a b) (k : Keep b c) : Keep a c :=
 ⟨k.os.trans h.os, k.tape.trans h.tape, k.output.trans h.output, Nat.le_trans h.size k.size, fun i hi => (k.block i (Nat.lt_of_lt_of_le hi h.size)).trans (h.block i hi)⟩
theorem Keep.alloc (w : World) (o : Obj) : Keep w (w.alloc o) :=
 ⟨rfl, rfl, rfl, by simp, fun b hb => by rw [show (w.alloc o).heap = w.heap.push o from rfl, Array.getElem?_push, if_neg (by omega)]⟩
theorem Keep.drew (w : World) : Keep w w.drew := ⟨rfl, rfl, rfl, Nat.le_refl _, fun _ _ => rfl⟩
theorem shape_of_heap {w w' : World} {b : Nat} (h : w'.heap[b]? = w.heap[b]?) : w'.shape? b = w.shape? b := by unfold World.shape?;rw [h]
theorem shape_lt {w : World} {b : Nat} {s : TypeId × Nat} (h : w.shape? b = some s) : b < w.heap.size := by
 rcases Nat.lt_or_ge b w.heap.size with h'|h'
 ·exact h'
 ·simp [World.shape?, Array.getElem?_eq_none h'] at h
theorem Keep.shp {w w' : World} (hk : Keep w w') : ∀ b s, w.shape? b = some s -> w'.shape? b = some s := fun b s h => (shape_of_heap (hk.block b (shape_lt h))).trans h
theorem lt_of_heap {w : World} {b : Nat} {o : Obj} (h : w.heap[b]? = some o) : b < w.heap.size := (Array.getElem?_eq_some_iff.1 h).1
theorem Sto.ρ_lt {X : AX} (h : Sto X) {k g b n : Nat} (hl : X.live k g) (hr : X.ρ k = some (b, n)) : b < X.w.heap.size := by
 unfold AX.live at hl
 cases hk : X.σ[k]? with
 | none => simp [hk] at hl
 | some B =>
  have hh := h.holds k B hk
  rw [hr] at hh
  cases B with
  | gone => simp [hk, ABlk.gen?] at hl
  | row g' cs => obtain ⟨arr, T, fr, h1, _⟩ := hh;exact lt_of_heap h1
  | mapb g' m => obtain ⟨b', n', es, clock, h1, h2, _⟩ := hh;cases h1;exact lt_of_heap h2
theorem Sto.mut_lt {X : AX} (h : Sto X) {b : Nat} (hm : X.mut b) : b < X.w.heap.size := by
 obtain ⟨k, g, n, hl, hr⟩ := hm
 exact h.ρ_lt hl hr
def AX.inW (X : AX) (w' : World) : AX := { X with w := w' }
theorem WExt.inW {X : AX} {w' : World} (hk : Keep X.w w') : WExt X (X.inW w') :=
 ⟨rfl, Nat.le_refl _, hk.os, hk.tape, hk.output, hk.size, fun b hb hm => ⟨hk.block b hb, hm⟩, fun _ _ _ h => ⟨h, rfl⟩, hk.shp⟩
theorem Sto.inW {X : AX} (h : Sto X) {w' : World} (hk : Keep X.w w') : Sto (X.inW w') where
 inj := h.inj
 gen := h.gen
 hid := h.hid
 hidlt := fun b hb => Nat.lt_of_lt_of_le (h.hidlt b hb) hk.size
 holds := fun k B hB => by
  have hB' : X.σ[k]? = some B := hB
  cases B with
  | gone => trivial
  | row g cs => exact (h.holds k _ hB).mono (WExt.inW hk).le fun b n hb => hk.block b (h.ρ_lt (k := k) (g := g) (by unfold AX.live;rw [hB'];rfl) hb)
  | mapb g m => exact (h.holds k _ hB).mono (WExt.inW hk).le fun b n hb => hk.block b (h.ρ_lt (k := k) (g := g) (by unfold AX.live;rw [hB'];rfl) hb)
/-! The store changes. -/
theorem AX.live_get {X : AX} {k : Nat} {B : ABlk} (h : X.σ[k]? = some B) {g : Nat} : X.live k g ↔ B.gen? = some g := by simp [AX.live, h]
theorem AX.live_lt {X : AX} {k g : Nat} (h : X.live k g) : k < X.σ.length := by
 unfold AX.live at h
 rcases Nat.lt_or_ge k X.σ.length with h'|h'
 ·exact h'
 ·simp [List.getElem?_eq_none h'] at h
def AX.push (X : AX) (w' : World) (ob : Option (Nat × Nat)) (B : ABlk) : AX :=
 { w := w', ρ := fun i => if i = X.σ.length then ob else X.ρ i, σ := X.σ ++ [B], N := X.N + 1, hid := X.hid }
theorem AX.push_live {X : AX} {w' : World} {ob : Option (Nat × Nat)} {B : ABlk} {k g : Nat} :
  (X.push w' ob B).live k g ↔ (k < X.σ.length /\ X.live k g) \/ (k = X.σ.length /\ B.gen? = some g) := by
 simp only [AX.live, AX.push, List.getElem?_append]
 split
 ·rename_i h;simp [h];omega
 ·rename_i h
  by_cases hk : k = X.σ.length
  ·subst hk;simp
  ·have : ¬ k < X.σ.length := h
   simp only [this, false_and, hk, false_or]
   rw [List.getElem?_eq_none (by simp;omega)]
   simp
theorem WExt.push {X : AX} (hS : Sto X) {w' : World} (hk : Keep X.w w') {ob : Option (Nat × Nat)} {B : ABlk} (hg : B.gen? = some (X.N + 1)) (hob : ∀ b n, ob = some (b, n) -> X.w.heap.size <= b) : WExt X (X.push w' ob B) where
 hid := rfl
 top := Nat.le_succ _
 os := hk.os
 tape := hk.tape
 output := hk.output
 size := hk.size
 old := fun b hb hm => ⟨hk.block b hb, fun ⟨k, g, n, hl, hr⟩ => by
  rcases AX.push_live.1 hl with ⟨h1, h2⟩|⟨h1, h2⟩
  ·simp only [AX.push, if_neg (Nat.ne_of_lt h1)] at hr
   exact hm ⟨k, g, n, h2, hr⟩
  ·simp only [AX.push, if_pos h1] at hr
   have := hob b n hr
   omega⟩
 rows := fun k g hgN hl => by
  rcases AX.push_live.1 hl with ⟨h1, h2⟩|⟨h1, h2⟩
  ·exact ⟨h2, by simp only [AX.push, if_neg (Nat.ne_of_lt h1)]⟩
  ·rw [hg] at h2;cases h2;omega
 shp := hk.shp
theorem Sto.push {X : AX} (hS : Sto X) {w' : World} (hk : Keep X.w w') {ob : Option (Nat × Nat)} {B : ABlk} (hg : B.gen? = some (X.N + 1)) (hob : ∀ b n, ob = some (b, n) -> X.w.heap.size <= b)
  (hB : B.holds X.lay w' ob) : Sto (X.push w' ob B) where
 inj := fun k k' g g' b n n' hl hl' hr hr' => by
  rcases AX.push_live.1 hl with ⟨h1, h2⟩|⟨h1, h2⟩ <;> rcases AX.push_live.1 hl' with ⟨h1', h2'⟩|⟨h1', h2'⟩
  ·simp only [AX.push, if_neg (Nat.ne_of_lt h1)] at hr
   simp only [AX.push, if_neg (Nat.ne_of_lt h1')] at hr'
   exact hS.inj k k' g g' b n n' h2 h2' hr hr'
  ·simp only [AX.push, if_neg (Nat.ne_of_lt h1)] at hr
   simp only [AX.push, if_pos h1'] at hr'
   have := hS.ρ_lt h2 hr
   have := hob b n' hr'
   omega
  ·simp only [AX.push, if_neg (Nat.ne_of_lt h1')] at hr'
   simp only [AX.push, if_pos h1] at hr
   have := hS.ρ_lt h2' hr'
   have := hob b n hr
   omega
  ·rw [h1, h1']
 gen := fun k g hl => by
  rcases AX.push_live.1 hl with ⟨h1, h2⟩|⟨h1, h2⟩
  ·exact Nat.le_trans (hS.gen k g h2) (Nat.le_succ _)
  ·rw [hg] at h2;cases h2;exact Nat.le_refl _
 hid := fun b ⟨k, g, n, hl, hr⟩ hh => by
  rcases AX.push_live.1 hl with ⟨h1, h2⟩|⟨h1, h2⟩
  ·simp only [AX.push, if_neg (Nat.ne_of_lt h1)] at hr
   exact hS.hid b ⟨k, g, n, h2, hr⟩ hh
  ·simp only [AX.push, if_pos h1] at hr
   have := hob b n hr
   have := hS.hidlt b hh
   omega
 hidlt := fun b hb => Nat.lt_of_lt_of_le (hS.hidlt b hb) hk.size
 holds := fun k B' hB' => by
  have hle := (WExt.push hS hk hg hob).le
  simp only [AX.push, List.getElem?_append] at hB'
  split at hB'
  ·rename_i hlt
   have hρ : (X.push w' ob B).ρ k = X.ρ k := by simp only [AX.push, if_neg (Nat.ne_of_lt hlt)]
   rw [hρ]
   cases hg' : B'.gen? with
   | none => cases B' <;> first|trivial|cases hg'
   | some g =>
    exact (hS.holds k B' hB').mono hle fun b n hb => hk.block b (hS.ρ_lt (k := k) (g := g) ((AX.live_get hB').2 hg') hb)
  ·rename_i hge
   have hkl : k = X.σ.length := by
    rcases Nat.lt_or_ge (k - X.σ.length) 1 with h'|h'
    ·omega
    ·rw [List.getElem?_eq_none (by simpa using h')] at hB';cases hB'
   subst hkl
   simp at hB'
   subst hB'
   have hρ : (X.push w' ob B).ρ X.σ.length = ob := by simp only [AX.push, if_pos]
   rw [hρ]
   exact hB.mono hle fun _ _ _ => rfl
def AX.repl (X : AX) (k : Nat) (w' : World) (ob : Option (Nat × Nat)) (B : ABlk) (N' : Nat) : AX :=
 { w := w', ρ := fun i => if i = k then ob else X.ρ i, σ := X.σ.set k B, N := N', hid := X.hid }
theorem AX.repl_live {X : AX} {k : Nat} {w' : World} {ob : Option (Nat × Nat)} {B : ABlk} {N' i g : Nat} (hk : k < X.σ.length) :
  (X.repl k w' ob B N').live i g ↔ (i ≠ k /\ X.live i g) \/ (i = k /\ B.gen? = some g) := by
 simp only [AX.live, AX.repl, List.getElem?_set]
 by_cases h : k = i
 ·subst h;simp [hk]
 ·simp only [h, if_false]
  have h' : i ≠ k := fun e => h e.symm
  simp [h']
structure ReplOk (X : AX) (k g : Nat) (w' : World) (ob : Option (Nat × Nat)) (B : ABlk) (N' : Nat) : Prop where
 live : X.live k g
 os : w'.os = X.w.os
 tape : w'.tape = X.w.tape
 output : w'.output = X.w.output
 size : X.w.heap.size <= w'.heap.size
 block : ∀ b, b < X.w.heap.size -> (∀ n, X.ρ k ≠ some (b, n)) -> w'.heap[b]? = X.w.heap[b]?
 gen : (∃ g', B.gen? = some g' /\ X.N < g' /\ g' <= N') \/ (B.gen? = some g /\ X.N <= N' /\ ob = X.ρ k)
 lies : ∀ b n, ob = some (b, n) -> X.w.heap.size <= b \/ ∃ n0, X.ρ k = some (b, n0)
 shp : ∀ b s, X.w.shape? b = some s -> w'.shape? b = some s
theorem WExt.repl {X : AX} (hS : Sto X) {k g : Nat} {w' : World} {ob : Option (Nat × Nat)} {B : ABlk} {N' : Nat} (h : ReplOk X k g w' ob B N') : WExt X (X.repl k w' ob B N') where
 hid := rfl
 top := by rcases h.gen with ⟨g', _, h1, h2⟩|⟨_, h1, _⟩ <;> simp only [AX.repl] <;> omega
 os := h.os
 tape := h.tape
 output := h.output
 size := h.size
 old := fun b hb hm => ⟨h.block b hb (fun n hn => hm ⟨k, g, n, h.live, hn⟩), fun ⟨i, g', n, hl, hr⟩ => by
  rcases (AX.repl_live (AX.live_lt h.live)).1 hl with ⟨h1, h2⟩|⟨h1, h2⟩
  ·simp only [AX.repl, if_neg h1] at hr
   exact hm ⟨i, g', n, h2, hr⟩
  ·simp only [AX.repl, if_pos h1] at hr
   rcases h.lies b n hr with h3|⟨n0, h3⟩
   ·omega
   ·exact hm ⟨k, g, n0, h.live, h3⟩⟩
 rows := fun i g' hgN hl => by
  rcases (AX.repl_live (AX.live_lt h.live)).1 hl with ⟨h1, h2⟩|⟨h1, h2⟩
  ·exact ⟨h2, by simp only [AX.repl, if_neg h1]⟩
  ·subst h1
   rcases h.gen with ⟨g1, h3, h4, _⟩|⟨h3, _, h4⟩
   ·rw [h3] at h2;cases h2;omega
   ·rw [h3] at h2;cases h2
    exact ⟨h.live, by simp only [AX.repl, if_true];exact h4⟩
 shp := h.shp
theorem Sto.repl' {X : AX} (hS : Sto X) {k g : Nat} {w' : World} {ob : Option (Nat × Nat)} {B : ABlk} {N' : Nat} (h : ReplOk X k g w' ob B N') (hB : B.holds (X.repl k w' ob B N').lay w' ob) : Sto (X.repl k w' ob B N') where
 inj := fun i i' g1 g1' b n n' hl hl' hr hr' => by
  have hk := AX.live_lt h.live
  rcases (AX.repl_live hk).1 hl with ⟨h1, h2⟩|⟨h1, h2⟩ <;> rcases (AX.repl_live hk).1 hl' with ⟨h1', h2'⟩|⟨h1', h2'⟩
  ·simp only [AX.repl, if_neg h1] at hr
   simp only [AX.repl, if_neg h1'] at hr'
   exact hS.inj i i' g1 g1' b n n' h2 h2' hr hr'
  ·simp only [AX.repl, if_neg h1] at hr
   simp only [AX.repl, if_pos h1'] at hr'
   have hlt := hS.ρ_lt h2 hr
   rcases h.lies b n' hr' with h3|⟨n0, h3⟩
   ·omega
   ·exact absurd (hS.inj i k g1 g b n n0 h2 h.live hr h3) h1
  ·simp only [AX.repl, if_neg h1'] at hr'
   simp only [AX.repl, if_pos h1] at hr
   have hlt := hS.ρ_lt h2' hr'
   rcases h.lies b n hr with h3|⟨n0, h3⟩
   ·omega
   ·exact absurd (hS.inj i' k g1' g b n' n0 h2' h.live hr' h3) h1'
  ·rw [h1, h1']
 gen := fun i g' hl => by
  rcases (AX.repl_live (AX.live_lt h.live)).1 hl with ⟨h1, h2⟩|⟨h1, h2⟩
  ·have := hS.gen i g' h2
   simp only [AX.repl]
   rcases h.gen with ⟨g1, _, h3, h4⟩|⟨_, h3, _⟩ <;> omega
  ·simp only [AX.repl]
   rcases h.gen with ⟨g1, h3, h4, h5⟩|⟨h3, h4, _⟩
   ·rw [h3] at h2;cases h2;omega
   ·rw [h3] at h2;cases h2
    have := hS.gen k g h.live
    omega
 hid := fun b ⟨i, g', n, hl, hr⟩ hh => by
  rcases (AX.repl_live (AX.live_lt h.live)).1 hl with ⟨h1, h2⟩|⟨h1, h2⟩
  ·simp only [AX.repl, if_neg h1] at hr
   exact hS.hid b ⟨i, g', n, h2, hr⟩ hh
  ·simp only [AX.repl, if_pos h1] at hr
   have := hS.hidlt b hh
   rcases h.lies b n hr with h3|⟨n0, h3⟩
   ·omega
   ·exact hS.hid b ⟨k, g, n0, h.live, h3⟩ hh
 hidlt := fun b hb => Nat.lt_of_lt_of_le (hS.hidlt b hb) h.size
 holds := fun i B' hB' => by
  have hle := (WExt.repl hS h).le
  have hk := AX.live_lt h.live
  simp only [AX.repl, List.getElem?_set] at hB'
  by_cases hik : k = i
  ·subst hik
   simp [hk] at hB'
   subst hB'
   have hρ : (X.repl k w' ob B N').ρ k = ob := by simp only [AX.repl, if_pos]
   rw [hρ]
   exact hB
  ·simp only [hik, if_false] at hB'
   have hρ : (X.repl k w' ob B N').ρ i = X.ρ i := by simp only [AX.repl, if_neg (Ne.symm hik)]
   rw [hρ]
   cases hg' : B'.gen? with
   | none => cases B' <;> first|trivial|cases hg'
   | some g' =>
    have hlive : X.live i g' := (AX.live_get hB').2 hg'
    exact (hS.holds i B' hB').mono hle fun b n hb => h.block b (hS.ρ_lt hlive hb) fun n0 hn0 => hik (hS.inj i k g' g b n n0 hlive h.live hb hn0).symm
theorem Sto.repl {X : AX} (hS : Sto X) {k g : Nat} {w' : World} {ob : Option (Nat × Nat)} {B : ABlk} {N' : Nat} (h : ReplOk X k g w' ob B N') (hB : B.holds X.lay w' ob) : Sto (X.repl k w' ob B N') :=
 hS.repl' h (hB.mono (WExt.repl hS h).le fun _ _ _ => rfl)
theorem WExt.shrink {X : AX} {σ' : List ABlk} (h : ∀ (k : Nat) (g : Nat), (σ'[k]?).bind ABlk.gen? = some g -> X.live k g) : WExt X { X with σ := σ' } where
 hid := rfl
 top := Nat.le_refl _
 os := rfl
 tape := rfl
 output := rfl
 size := Nat.le_refl _
 old := fun b _ hm => ⟨rfl, fun ⟨k, g, n, hl, hr⟩ => hm ⟨k, g, n, h k g hl, hr⟩⟩
 rows := fun k g _ hl => ⟨h k g hl, rfl⟩
 shp := fun _ _ h => h
theorem Sto.shrink {X : AX} (hS : Sto X) {σ' : List ABlk} (h : ∀ (k : Nat) (B : ABlk), σ'[k]? = some B -> B = .gone \/ X.σ[k]? = some B) : Sto { X with σ := σ' } := by
 have hl : ∀ (k : Nat) (g : Nat), (σ'[k]?).bind ABlk.gen? = some g -> X.live k g := fun k g hg => by
  cases hB : σ'[k]? with
  | none => simp [hB] at hg
  | some B =>
   rcases h k B hB with rfl|h'
   ·simp [hB, ABlk.gen?] at hg
   ·simpa [AX.live, h', hB] using hg
 exact {
  inj := fun k k' g g' b n n' h1 h2 h3 h4 => hS.inj k k' g g' b n n' (hl k g h1) (hl k' g' h2) h3 h4
  gen := fun k g h1 => hS.gen k g (hl k g h1)
  hid := fun b ⟨k, g, n, h1, h2⟩ => hS.hid b ⟨k, g, n, hl k g h1, h2⟩
  hidlt := hS.hidlt
  holds := fun k B hB => by
   rcases h k B hB with rfl|h'
   ·trivial
   ·exact (hS.holds k B h').mono (WExt.shrink hl).le fun _ _ _ => rfl }
abbrev Fr := List (Nat × DV)
def look : Fr -> Nat -> DV
 | [], _ => .any
 | (i, d) :: r, j => match Nat.beq i j with|true => d|false => look r j
def putF (dst : Option Tmp) (d : DV) (t : Fr) : Fr := match dst with|some i => (i, d) :: t|none => t
def aev (G : Nat -> DV) (t : Fr) : Operand -> DV
 | .tmp i => look t i
 | .const v => .sc v
 | .global g => G g
 | .func f => .fn (.func f) [] []
structure ASt where
 t : Fr
 σ : List ABlk
def GOk (G : Nat -> DV) (X : AX) : Prop := ∀ g, ((G g).clo = true /\ ∀ cs, G g = .ep cs -> ∃ T, X.lay.shp g = some (T, cs.length)) /\ VRep X.lay (G g) (.pointer (some ⟨g, 0, none⟩))
theorem GOk.ext {G : Nat -> DV} {X X' : AX} (h : GOk G X) (hE : WExt X X') : GOk G X' := fun g => ⟨⟨(h g).1.1, fun cs hc => let ⟨T, hT⟩ := (h g).1.2 cs hc;⟨T, hE.shp _ _ hT⟩⟩, (h g).2.ext hE⟩
def VReps (L : Lay) (ds : List DV) (vs : Array Value) : Prop := vs.size = ds.length /\ ∀ (j : Nat) (d : DV), ds[j]? = some d -> VRep L d (vs.getD j undef)
def APost (X : AX) (R : DV -> List ABlk -> Prop) (v : Value) (w' : World) : Prop := ∃ X', X'.w = w' /\ Sto X' /\ WExt X X' /\ ∃ d, VRep X'.lay d v /\ R d X'.σ
def CPost (X : AX) (R : DV -> List ABlk -> Prop) (e : Ending) (w' : World) : Prop := ∃ v, e = .returned v /\ APost X R v w'
def OPost (P : Program) (X : AX) (K : DV -> List ABlk -> Prop) : Result Next -> Prop
 | .ok (.value v) w' => APost X K v w'
 | .ok .skip w' => APost X K undef w'
 | .ok (.enter f args) w' => w' = X.w /\ Calls P f args w' (CPost X K)
 | _ => False
def OpSem (P : Program) (G : Nat -> DV) (B : Nat) (o : Oper) (f : Operand -> DV) (σ : List ABlk) (K : DV -> List ABlk -> Prop) : Prop :=
 ∀ (X : AX) (ρ : Operand -> Value), Sto X -> X.σ = σ -> B <= X.N -> GOk G X -> (∀ x ∈ o.op.operands, VRep X.lay (f x) (ρ x)) -> OPost P X K ((execOp ρ o).run P X.w)
def ACalls (P : Program) (G : Nat -> DV) (B : Nat) (f : FuncId) (args : List DV) (σ : List ABlk) (R : DV -> List ABlk -> Prop) : Prop :=
 ∀ (X : AX) (vs : Array Value), Sto X -> X.σ = σ -> B <= X.N -> GOk G X -> VReps X.lay args vs -> Calls P f vs X.w (CPost X R)
def Rel (G : Nat -> DV) (E : AX) (n : Nat) (st : ASt) (a : Act) (w : World) : Prop :=
 ∃ X : AX, X.w = w /\ X.σ = st.σ /\ Sto X /\ WExt E X /\ GOk G X /\ a.defers = [] /\ a.tmps.size = n /\ ∀ i, VRep X.lay (look st.t i) (a.tmps.getD i undef)
def xlook : List (Nat × (ASt -> Prop)) -> Nat -> Option (ASt -> Prop)
 | [], _ => none
 | (i, q) :: r, j => match Nat.beq i j with|true => some q|false => xlook r j
def QOf (G : Nat -> DV) (E : AX) (n : Nat) (N : ASt -> Prop) (xs : List (Nat × (ASt -> Prop))) (R : ASt -> Prop) : Exit -> Act -> World -> Prop := fun e a w =>
 ∃ st, Rel G E n st a w /\ match e with
  | .normal => N st
  | .exit id => ∃ q, xlook xs id = some q /\ q st
  | .ret => R st
  | _ => False
def WR (P : Program) (G : Nat -> DV) (E : AX) (n : Nat) (c : Code) (N : ASt -> Prop) (xs : List (Nat × (ASt -> Prop))) (R : ASt -> Prop) (st : ASt) : Prop :=
 ∀ a w, Rel G E n st a w -> c.wp P (QOf G E n N xs R) a w
section
variable {P : Program} {G : Nat -> DV} {E : AX} {n : Nat} {N : ASt -> Prop} {xs : List (Nat × (ASt -> Prop))} {R : ASt -> Prop} {st : ASt}
theorem Q7 {c d : Code} (h : WR P G E n c (fun st' => WR P G E n d N xs R st') xs R st) : WR P G E n (.seq c d) N xs R st := fun a w hr =>
 wp_seq (wp_mono (h a w hr) fun e a' w' ⟨st', hr', hq⟩ => by
  cases e with
  | normal => exact hq a' w' hr'
  | exit id => exact ⟨st', hr', hq⟩
  | ret => exact ⟨st', hr', hq⟩
  | goto l => exact hq.elim
  | panic ch => exact hq.elim
  | outgrown => exact hq.elim)
theorem QV (h : N st) : WR P G E n .skip N xs R st := fun _ _ hr => wp_skip ⟨st, hr, h⟩
theorem Wi (h : R st) : WR P G E n .ret N xs R st := fun _ _ hr => wp_ret ⟨st, hr, h⟩
theorem W8 {id : Nat} {q : ASt -> Prop} (hx : xlook xs id = some q) (h : q st) : WR P G E n (.exit id) N xs R st := fun _ _ hr => wp_exit ⟨st, hr, q, hx, h⟩
theorem QM {id : Nat} {c : Code} (h : WR P G E n c N ((id, N) :: xs) R st) : WR P G E n (.block id c) N xs R st := fun a w hr =>
 wp_block (wp_mono (h a w hr) fun e a' w' ⟨st', hr', hq⟩ => by
  cases e with
  | normal => exact ⟨st', hr', hq⟩
  | exit id' =>
   obtain ⟨q, hx, hq⟩ := hq
   simp only [Exit.inBlock]
   simp only [xlook] at hx
   by_cases hid : id' = id
   ·rw [if_pos hid]
    rw [hid, Nat.beq_refl] at hx
    cases hx
    exact ⟨st', hr', hq⟩
   ·rw [if_neg hid]
    have hb : Nat.beq id id' = false := by
     cases hb : Nat.beq id id' with
     | false => rfl
     | true => exact absurd (Nat.eq_of_beq_eq_true hb).symm hid
    rw [hb] at hx
    exact ⟨st', hr', q, hx, hq⟩
  | ret => exact ⟨st', hr', hq⟩
  | goto l => exact hq.elim
  | panic ch => exact hq.elim
  | outgrown => exact hq.elim)
theorem Rel.eval {a : Act} {w : World} (hr : Rel G E n st a w) : ∃ X : AX, X.w = w /\ X.σ = st.σ /\ Sto X /\ WExt E X /\ GOk G X /\ ∀ x, VRep X.lay (aev G st.t x) (a.eval x) := by
 obtain ⟨X, h1, h2, h3, h4, h5, _, _, h8⟩ := hr
 refine ⟨X, h1, h2, h3, h4, h5, fun x => ?_⟩
 cases x with
 | tmp i => exact h8 i
 | const v => exact .sc v
 | global g => exact (h5 g).2
 | func f => exact .fn _ [] [] #[] #[] rfl rfl (fun j d h => by simp at h) (fun j d h => by simp at h)
theorem VRep.sc_eq {L : Lay} {v u : Value} (h : VRep L (.sc v) u) : u = v := by cases h;rfl
theorem r_cond {t : Fr} {σ : List ABlk} {x : Operand} {c d : Code} {b : Bool} (hb : aev G t x = .sc (.bool b)) (ht : b = true -> WR P G E n c N xs R ⟨t, σ⟩) (hf : b = false -> WR P G E n d N xs R ⟨t, σ⟩) :
  WR P G E n (.cond x c d) N xs R ⟨t, σ⟩ := fun a w hr => by
 obtain ⟨X, _, _, _, _, _, h⟩ := hr.eval
 have h1 := h x
 rw [hb] at h1
 exact wp_cond_split (VRep.sc_eq h1) (fun e => ht e a w hr) (fun e => hf e a w hr)
theorem QD {t : Fr} {σ : List ABlk} {x : Operand} {c d : Code} (hb : aev G t x = .sc (.bool true)) (ht : WR P G E n c N xs R ⟨t, σ⟩) : WR P G E n (.cond x c d) N xs R ⟨t, σ⟩ :=
 r_cond hb (fun _ => ht) (fun e => by cases e)
theorem QR {t : Fr} {σ : List ABlk} {x : Operand} {c d : Code} (hb : aev G t x = .sc (.bool false)) (hf : WR P G E n d N xs R ⟨t, σ⟩) : WR P G E n (.cond x c d) N xs R ⟨t, σ⟩ :=
 r_cond hb (fun e => by cases e) (fun _ => hf)
theorem r_cond_d {t : Fr} {σ : List ABlk} {x : Operand} {c d : Code} {p : Prop} [Decidable p] (hb : aev G t x = .sc (.bool (decide p))) (ht : p -> WR P G E n c N xs R ⟨t, σ⟩) (hf : ¬ p -> WR P G E n d N xs R ⟨t, σ⟩) : WR P G E n (.cond x c d) N xs R ⟨t, σ⟩ :=
 r_cond hb (fun h => ht (of_decide_eq_true h)) (fun h => hf (of_decide_eq_false h))
theorem Qu {t : Fr} {σ : List ABlk} {x : Operand} {c d : Code} {p : Prop} [Decidable p] (hb : aev G t x = .sc (.bool (decide p))) (hp : p) (ht : WR P G E n c N xs R ⟨t, σ⟩) : WR P G E n (.cond x c d) N xs R ⟨t, σ⟩ :=
 r_cond_d hb (fun _ => ht) (fun h => absurd hp h)
theorem Qn {t : Fr} {σ : List ABlk} {x : Operand} {c d : Code} {p : Prop} [Decidable p] (hb : aev G t x = .sc (.bool (decide p))) (hp : ¬ p) (hf : WR P G E n d N xs R ⟨t, σ⟩) : WR P G E n (.cond x c d) N xs R ⟨t, σ⟩ :=
 r_cond_d hb (fun h => absurd h hp) (fun _ => hf)
structure ALe (st st' : ASt) : Prop where
 t : ∀ p ∈ st'.t, look st.t p.1 = p.2
 σ : ∃ r, st.σ = st'.σ ++ r
theorem ale_drop {st : ASt} {t : Fr} {σ r : List ABlk} (h : ∀ p ∈ t, look st.t p.1 = p.2) (hσ : st.σ = σ ++ r) : ALe st ⟨t, σ⟩ := ⟨h, r, hσ⟩
theorem mem_nil {st : ASt} : ∀ p ∈ ([] : Fr), look st.t p.1 = p.2 := fun p hp => by simp at hp
theorem mem_cons {st : ASt} {i : Nat} {d : DV} {t : Fr} (h : look st.t i = d) (r : ∀ p ∈ t, look st.t p.1 = p.2) : ∀ p ∈ ((i, d) :: t : Fr), look st.t p.1 = p.2 := fun p hp => by
 rcases List.mem_cons.1 hp with rfl|hp
 ·exact h
 ·exact r p hp
theorem look_mem {t t' : Fr} (h : ∀ p ∈ t', look t p.1 = p.2) (i : Nat) : look t' i = .any \/ look t' i = look t i := by
 induction t' with
 | nil => exact .inl rfl
 | cons p r ih =>
  obtain ⟨j, d⟩ := p
  simp only [look]
  cases hb : Nat.beq j i with
  | true =>
   have := Nat.eq_of_beq_eq_true hb
   subst this
   exact .inr (h (j, d) (by simp)).symm
  | false => exact ih fun p hp => h p (by simp [hp])
theorem Rel.le {st st' : ASt} {a : Act} {w : World} (hr : Rel G E n st a w) (h : ALe st st') : Rel G E n st' a w := by
 obtain ⟨X, h1, h2, h3, h4, h5, h6, h7, h8⟩ := hr
 obtain ⟨r, hσ⟩ := h.σ
 have hget : ∀ (k : Nat) (B : ABlk), st'.σ[k]? = some B -> X.σ[k]? = some B := fun k B hB => by
  rw [h2, hσ, List.getElem?_append_left]
  ·exact hB
  ·exact (List.getElem?_eq_some_iff.1 hB).1
 have hE : WExt X { X with σ := st'.σ } := WExt.shrink fun k g hg => by
  cases hB : st'.σ[k]? with
  | none => simp [hB] at hg
  | some B => simpa [AX.live, hget k B hB, hB] using hg
 refine ⟨{ X with σ := st'.σ }, h1, rfl, h3.shrink fun k B hB => .inr (hget k B hB), h4.trans hE, h5.ext hE, h6, h7, fun i => ?_⟩
 rcases look_mem h.t i with h'|h'
 ·rw [h'];exact .any _
 ·rw [h'];exact (h8 i).ext hE
theorem wp_loop_ix {P : Program} {c : Code} {Q : Exit -> Act -> World -> Prop} {ι : Type} (J : ι -> Act -> World -> Prop) (μ : ι -> Nat) (x0 : ι) {a : Act} {w : World} (h0 : J x0 a w)
  (round : ∀ x a w, J x a w -> c.wp P (Exit.then (fun a' w' => ∃ y, μ y < μ x /\ J y a' w') Q) a w) : (Code.loop c).wp P Q a w := by
 intro b k cs
 have key : ∀ n x a w, μ x = n -> J x a w -> ∃ e a' w', Q e a' w' /\ Arrives P (lone (b.at a (.code c :: .inLoop c :: k)) cs w) b k cs e a' w' := by
  intro n
  induction n using Nat.strongRecOn with
  | _ n ih =>
   intro x a w hn hJ
   obtain ⟨e, a₁, w₁, hq, harr⟩ := round x a w hJ b (.inLoop c :: k) cs
   cases e with
   | normal =>
    obtain ⟨y, hlt, hJ₁⟩ := hq
    obtain ⟨e₂, a₂, w₂, hq₂, harr₂⟩ := ih (μ y) (hn ▸ hlt) y a₁ w₁ rfl hJ₁
    exact ⟨e₂, a₂, w₂, hq₂, .of_steps (Steps.trans harr (.one step_inLoop)) harr₂⟩
   | exit id => exact ⟨_, a₁, w₁, hq, .pass (x := .inLoop c) rfl (fun _ _ => .inl (by simp)) harr⟩
   | goto l => exact ⟨_, a₁, w₁, hq, .pass (x := .inLoop c) rfl (fun _ _ => .inl (by simp)) harr⟩
   | ret => exact ⟨_, a₁, w₁, hq, .pass (x := .inLoop c) rfl (fun _ _ => .inl (by simp)) harr⟩
   | panic ch => exact ⟨_, a₁, w₁, hq, .pass (x := .inLoop c) rfl (fun _ _ => .inl (by simp)) harr⟩
   | outgrown => exact ⟨_, a₁, w₁, hq, .pass (x := .inLoop c) rfl (fun _ _ => .inl (by simp)) harr⟩
 obtain ⟨e, a', w', hq, harr⟩ := key _ x0 a w rfl h0
 exact ⟨e, a', w', hq, .of_steps (.one step_loop) harr⟩
theorem WY {c : Code} {ι : Type} (I : ι -> ASt) (pre : ι -> Prop) (μ : ι -> Nat) (x0 : ι) (h0 : ALe st (I x0)) (hp0 : pre x0)
  (round : ∀ x, pre x -> WR P G E n c (fun st' => ∃ y, pre y /\ μ y < μ x /\ ALe st' (I y)) xs R (I x)) : WR P G E n (.loop c) N xs R st := fun a w hr =>
 wp_loop_ix (fun x a w => pre x /\ Rel G E n (I x) a w) μ x0 ⟨hp0, hr.le h0⟩ fun x a w ⟨hp, hrx⟩ =>
  wp_mono (round x hp a w hrx) fun e a' w' ⟨st', hr', hq⟩ => by
   cases e with
   | normal =>
    obtain ⟨y, hpy, hlt, hle⟩ := hq
    exact ⟨y, hlt, hpy, hr'.le hle⟩
   | exit id => exact ⟨st', hr', hq⟩
   | ret => exact ⟨st', hr', hq⟩
   | goto l => exact hq.elim
   | panic ch => exact hq.elim
   | outgrown => exact hq.elim
theorem wp_mono_list {P : Program} {ops : Array Oper} {l : List Oper} {Q Q' : Exit -> Act -> World -> Prop} {a : Act} {w : World} (h : wpList P ops Q l a w) (hq : ∀ e a w, Q e a w -> Q' e a w) : wpList P ops Q' l a w := by
 induction l generalizing a w with
 | nil => exact hq _ _ _ h
 | cons o r ih =>
  unfold wpList at h ⊢
  split
  ·rename_i hw
   rw [if_pos hw] at h
   rcases h with h|⟨h1, a0, w0, h2⟩
   ·refine .inl ?_
    unfold Oper.wp at *
    generalize (execOp a.eval o).run P w = x at *
    cases x with
    | ok nx w' =>
     cases nx <;> simp only [Oper.upon] at h ⊢ <;> first
      | exact ih h
      | exact Calls.mono h (fun e w'' he => by cases e <;> first|exact ih he|exact hq _ _ _ he|exact (let ⟨a1, w1, h1⟩ := he;⟨a1, w1, hq _ _ _ h1⟩))
      | exact Rows.mono h (fun _ _ he => ih he)
    | halt hh w' => cases hh <;> simp only [Oper.upon] at h ⊢ <;> first|exact hq _ _ _ h|exact h
   ·exact .inr ⟨h1, a0, w0, hq _ _ _ h2⟩
  ·rename_i hw
   rw [if_neg hw] at h
   exact ih h
def Zc (P : Program) (G : Nat -> DV) (E : AX) (n : Nat) (ops : Array Oper) (l : List Oper) (N : ASt -> Prop) (st : ASt) : Prop :=
 ∀ a w, Rel G E n st a w -> wpList P ops (fun e a w => e = .normal /\ ∃ st', Rel G E n st' a w /\ N st') l a w
theorem Qm {id : Nat} {l : List Oper} (h : Zc P G E n l.toArray l N st) : WR P G E n (.region id l.toArray false) N xs R st := fun a w hr =>
 wp_region_lit (wp_mono_list (h a w hr) fun e a' w' ⟨he, st', hr', hq⟩ => by subst he;exact ⟨st', hr', hq⟩)
theorem Wb {ops : Array Oper} (h : N st) : Zc P G E n ops [] N st := fun _ _ hr => wpList_nil ⟨rfl, st, hr, h⟩
theorem Rel.put {X : AX} {t : Fr} {a : Act} (h3 : Sto X) (h4 : WExt E X) (h5 : GOk G X) (h6 : a.defers = []) (h7 : a.tmps.size = n) (h8 : ∀ i, VRep X.lay (look t i) (a.tmps.getD i undef))
  {dst : Option Tmp} (hd : ∀ i, dst = some i -> i < n) {d : DV} {v : Value} (hv : VRep X.lay d v) : Rel G E n ⟨putF dst d t, X.σ⟩ (a.put dst v) X.w := by
 cases dst with
 | none => exact ⟨X, rfl, rfl, h3, h4, h5, h6, h7, h8⟩
 | some i =>
  have hi := hd i rfl
  refine ⟨X, rfl, rfl, h3, h4, h5, h6, by simpa [Act.put] using h7, fun j => ?_⟩
  simp only [putF, look, Act.put]
  cases hb : Nat.beq i j with
  | true =>
   have := Nat.eq_of_beq_eq_true hb
   subst this
   simpa [Array.getD_eq_getD_getElem?, Array.getElem?_setIfInBounds, h7, hi] using hv
  | false =>
   have hne : i ≠ j := fun e => by subst e;simp at hb
   have := h8 j
   simpa [Array.getD_eq_getD_getElem?, Array.getElem?_setIfInBounds_ne hne] using this
theorem o_go {ops : Array Oper} {o : Oper} {r : List Oper} (hw : ∀ a w, Rel G E n st a w -> Region.wanted o (yielded ops a.tmps) = true) (hd : ∀ i, o.dst = some i -> i < n)
  (h : OpSem P G E.N o (aev G st.t) st.σ (fun d σ => Zc P G E n ops r N ⟨putF o.dst d st.t, σ⟩)) : Zc P G E n ops (o :: r) N st := fun a w hr => by
 unfold wpList
 rw [if_pos (hw a w hr)]
 refine .inl ?_
 obtain ⟨X, h1, h2, h3, h4, h5, h6, h7, h8⟩ := hr
 have hx : ∀ x, VRep X.lay (aev G st.t x) (a.eval x) := fun x => by
  cases x with
  | tmp i => exact h8 i
  | const v => exact .sc v
  | global g => exact (h5 g).2
  | func f => exact .fn _ [] [] #[] #[] rfl rfl (fun j d h => by simp at h) (fun j d h => by simp at h)
 have hs := h X a.eval h3 h2 h4.top h5 fun x _ => hx x
 rw [h1] at hs
 have fin : ∀ {v : Value} {w' : World}, APost X (fun d σ => Zc P G E n ops r N ⟨putF o.dst d st.t, σ⟩) v w' -> wpList P ops (fun e a w => e = .normal /\ ∃ st', Rel G E n st' a w /\ N st') r (a.put o.dst v) w' := by
  rintro v w' ⟨X', e1, e2, e3, d, hv, hk⟩
  subst e1
  exact hk _ _ (Rel.put e2 (h4.trans e3) (h5.ext e3) h6 h7 (fun i => (h8 i).ext e3) hd hv)
 unfold Oper.wp
 generalize (execOp a.eval o).run P w = x at *
 cases x with
 | ok nx w' =>
  cases nx <;> simp only [OPost] at hs <;> simp only [Oper.upon]
  case value v => exact fin hs
  case skip => exact fin hs
  case enter f args =>
   refine hs.2.mono fun e w'' ⟨v, he, hp⟩ => ?_
   subst he
   exact fin hp
 | halt hh w' => simp only [OPost] at hs
theorem Zg {t : Fr} {σ : List ABlk} {ops : Array Oper} {i : Tmp} {op : Op} {type : TypeId} {pos : String} {after : Array Edge} {r : List Oper} (hd : Nat.blt i n = true)
  (h : OpSem P G E.N ⟨some i, op, type, pos, after, none⟩ (aev G t) σ (fun d σ => Zc P G E n ops r N ⟨(i, d) :: t, σ⟩)) : Zc P G E n ops (⟨some i, op, type, pos, after, none⟩ :: r) N ⟨t, σ⟩ :=
 o_go (fun _ _ _ => rfl) (fun j hj => by cases hj;exact Nat.ble_eq.mp hd) h
theorem WI {t : Fr} {σ : List ABlk} {ops : Array Oper} {op : Op} {type : TypeId} {pos : String} {after : Array Edge} {r : List Oper}
  (h : OpSem P G E.N ⟨none, op, type, pos, after, none⟩ (aev G t) σ (fun _ σ => Zc P G E n ops r N ⟨t, σ⟩)) : Zc P G E n ops (⟨none, op, type, pos, after, none⟩ :: r) N ⟨t, σ⟩ :=
 o_go (fun _ _ _ => rfl) (fun j hj => by cases hj) h
theorem o_pass {ops : Array Oper} {o : Oper} {r : List Oper} (hw : ∀ a w, Rel G E n st a w -> Region.wanted o (yielded ops a.tmps) = false) (hd : ∀ i, o.dst = some i -> i < n)
  (h : Zc P G E n ops r N ⟨putF o.dst (.sc undef) st.t, st.σ⟩) : Zc P G E n ops (o :: r) N st := fun a w hr => by
 unfold wpList
 rw [if_neg (by rw [hw a w hr];simp)]
 obtain ⟨X, h1, h2, h3, h4, h5, h6, h7, h8⟩ := hr
 have := Rel.put h3 h4 h5 h6 h7 h8 hd (VRep.sc (L := X.lay) undef)
 rw [h2, h1] at this
 exact h _ _ this
theorem yielded_of {ops : Array Oper} {a : Act} {w : World} {j s : Nat} {b : Bool} (hj : (ops[j]?).bind (·.dst) = some s) (hl : look st.t s = .sc (.bool b)) (hr : Rel G E n st a w) (hs : s < n) :
  yielded ops a.tmps j = some b := by
 obtain ⟨X, _, _, _, _, _, _, h7, h8⟩ := hr
 have h := h8 s
 rw [hl] at h
 have hv := VRep.sc_eq h
 have hget : a.tmps[s]? = some (.bool b) := by
  have hlt : s < a.tmps.size := by omega
  simp only [Array.getD_eq_getD_getElem?] at hv
  rw [Array.getElem?_eq_getElem hlt] at hv ⊢
  simpa using hv
 simp [yielded, hj, hget]
theorem Rel.same {a : Act} {w : World} (hr : Rel G E n st a w) {s : Nat} {d : DV} (h : look st.t s = d) : Rel G E n ⟨(s, d) :: st.t, st.σ⟩ a w := by
 obtain ⟨X, h1, h2, h3, h4, h5, h6, h7, h8⟩ := hr
 refine ⟨X, h1, h2, h3, h4, h5, h6, h7, fun i => ?_⟩
 simp only [look]
 cases hb : Nat.beq s i with
 | true =>
  have := Nat.eq_of_beq_eq_true hb
  subst this
  rw [<- h];exact h8 s
 | false => exact h8 i
theorem qd {t : Fr} {σ : List ABlk} {ops : Array Oper} {i : Tmp} {op : Op} {type : TypeId} {pos : String} {after : Array Edge} {j s : Nat} {want : Bool} {r : List Oper}
  (hj : (ops[j]?).bind (·.dst) = some s) (hl : look t s = .sc (.bool want)) (hs : Nat.blt s n = true) (hd : Nat.blt i n = true)
  (yes : OpSem P G E.N ⟨some i, op, type, pos, after, some (j, want)⟩ (aev G t) σ (fun d σ => Zc P G E n ops r N ⟨(i, d) :: t, σ⟩)) : Zc P G E n ops (⟨some i, op, type, pos, after, some (j, want)⟩ :: r) N ⟨t, σ⟩ := fun a w hr => by
 refine o_go (fun a w hr => ?_) (fun k hk => by cases hk;exact Nat.ble_eq.mp hd) yes a w hr
 have : yielded ops a.tmps j = some want := yielded_of hj hl hr (Nat.ble_eq.mp hs)
 simp [Region.wanted, this]
theorem qw {t : Fr} {σ : List ABlk} {ops : Array Oper} {i : Tmp} {op : Op} {type : TypeId} {pos : String} {after : Array Edge} {j s : Nat} {want : Bool} {r : List Oper}
  (hj : (ops[j]?).bind (·.dst) = some s) (hl : look t s = .sc (.bool !want)) (hs : Nat.blt s n = true) (hd : Nat.blt i n = true)
  (no : Zc P G E n ops r N ⟨(i, .sc undef) :: t, σ⟩) : Zc P G E n ops (⟨some i, op, type, pos, after, some (j, want)⟩ :: r) N ⟨t, σ⟩ := fun a w hr => by
 refine o_pass (fun a w hr => ?_) (fun k hk => by cases hk;exact Nat.ble_eq.mp hd) no a w hr
 have : yielded ops a.tmps j = some (!want) := yielded_of hj hl hr (Nat.ble_eq.mp hs)
 cases want <;> simp [Region.wanted, this]
def yv : Value -> Option Bool
 | .bool b => some b
 | _ => none
theorem o_gu {t : Fr} {σ : List ABlk} {ops : Array Oper} {i : Tmp} {op : Op} {type : TypeId} {pos : String} {after : Array Edge} {j s : Nat} {want : Bool} {r : List Oper} {v : Value}
  (hj : (ops[j]?).bind (·.dst) = some s) (hl : look t s = .sc v) (hv : yv v = none) (hs : Nat.blt s n = true) (hd : Nat.blt i n = true)
  (no : Zc P G E n ops r N ⟨(i, .sc undef) :: t, σ⟩) : Zc P G E n ops (⟨some i, op, type, pos, after, some (j, want)⟩ :: r) N ⟨t, σ⟩ := fun a w hr => by
 refine o_pass (fun a w hr => ?_) (fun k hk => by cases hk;exact Nat.ble_eq.mp hd) no a w hr
 obtain ⟨X, _, _, _, _, _, _, h7, h8⟩ := hr
 have h := h8 s
 rw [show look (ASt.t ⟨t, σ⟩) s = .sc v from hl] at h
 have hw := VRep.sc_eq h
 have hget : a.tmps[s]? = some v := by
  have hlt : s < a.tmps.size := by have := Nat.ble_eq.mp hs;omega
  simp only [Array.getD_eq_getD_getElem?] at hw
  rw [Array.getElem?_eq_getElem hlt] at hw ⊢
  simpa using hw
 have : yielded ops a.tmps j = none := by
  simp only [yielded, hj, Option.bind_some, hget]
  cases v <;> first|rfl|(simp [yv] at hv)
 simp [Region.wanted, this]
theorem o_sp {t : Fr} {σ : List ABlk} {ops : Array Oper} {dst : Option Tmp} {op : Op} {type : TypeId} {pos : String} {after : Array Edge} {j s : Nat} {want b : Bool} {r : List Oper}
  (hj : (ops[j]?).bind (·.dst) = some s) (hl : look t s = .sc (.bool b)) (yes : b = true -> Zc P G E n ops (⟨dst, op, type, pos, after, some (j, want)⟩ :: r) N ⟨(s, .sc (.bool true)) :: t, σ⟩)
  (no : b = false -> Zc P G E n ops (⟨dst, op, type, pos, after, some (j, want)⟩ :: r) N ⟨(s, .sc (.bool false)) :: t, σ⟩) : Zc P G E n ops (⟨dst, op, type, pos, after, some (j, want)⟩ :: r) N ⟨t, σ⟩ := fun a w hr => by
 cases b with
 | true => exact yes rfl a w (hr.same hl)
 | false => exact no rfl a w (hr.same hl)
theorem za {t : Fr} {σ : List ABlk} {ops : Array Oper} {dst : Option Tmp} {op : Op} {type : TypeId} {pos : String} {after : Array Edge} {j s : Nat} {want : Bool} {p : Prop} [Decidable p] {r : List Oper}
  (hj : (ops[j]?).bind (·.dst) = some s) (hl : look t s = .sc (.bool (decide p))) (yes : p -> Zc P G E n ops (⟨dst, op, type, pos, after, some (j, want)⟩ :: r) N ⟨(s, .sc (.bool true)) :: t, σ⟩)
  (no : ¬ p -> Zc P G E n ops (⟨dst, op, type, pos, after, some (j, want)⟩ :: r) N ⟨(s, .sc (.bool false)) :: t, σ⟩) : Zc P G E n ops (⟨dst, op, type, pos, after, some (j, want)⟩ :: r) N ⟨t, σ⟩ :=
 o_sp hj hl (fun h => yes (of_decide_eq_true h)) (fun h => no (of_decide_eq_false h))
theorem WN {t : Fr} {σ : List ABlk} {ops : Array Oper} {dst : Option Tmp} {op : Op} {type : TypeId} {pos : String} {after : Array Edge} {j s : Nat} {want : Bool} {p : Prop} [Decidable p] {r : List Oper}
  (hj : (ops[j]?).bind (·.dst) = some s) (hl : look t s = .sc (.bool (decide p))) (hp : p) (yes : Zc P G E n ops (⟨dst, op, type, pos, after, some (j, want)⟩ :: r) N ⟨(s, .sc (.bool true)) :: t, σ⟩) : Zc P G E n ops (⟨dst, op, type, pos, after, some (j, want)⟩ :: r) N ⟨t, σ⟩ :=
 za hj hl (fun _ => yes) (fun h => absurd hp h)
theorem WD {t : Fr} {σ : List ABlk} {ops : Array Oper} {dst : Option Tmp} {op : Op} {type : TypeId} {pos : String} {after : Array Edge} {j s : Nat} {want : Bool} {p : Prop} [Decidable p] {r : List Oper}
  (hj : (ops[j]?).bind (·.dst) = some s) (hl : look t s = .sc (.bool (decide p))) (hp : ¬ p) (no : Zc P G E n ops (⟨dst, op, type, pos, after, some (j, want)⟩ :: r) N ⟨(s, .sc (.bool false)) :: t, σ⟩) : Zc P G E n ops (⟨dst, op, type, pos, after, some (j, want)⟩ :: r) N ⟨t, σ⟩ :=
 za hj hl (fun h => absurd h hp) (fun _ => no)
end
def argFr : Nat -> List DV -> Fr
 | _, [] => []
 | i, d :: r => (i, d) :: argFr (i + 1) r
theorem look_argFr {L : Lay} {vs : Array Value} : ∀ (ds : List DV) (i0 : Nat), (∀ j d, ds[j]? = some d -> VRep L d (vs.getD (i0 + j) undef)) -> ∀ i, VRep L (look (argFr i0 ds) i) (vs.getD i undef)
 | [], _, _, _ => .any _
 | d :: r, i0, h, i => by
  simp only [argFr, look]
  cases hb : Nat.beq i0 i with
  | true =>
   have := Nat.eq_of_beq_eq_true hb
   subst this
   exact h 0 d rfl
  | false => exact look_argFr r (i0 + 1) (fun j d' hj => by have := h (j + 1) d' (by simpa using hj);rwa [Nat.add_assoc, Nat.add_comm 1 j]) i
def ZS (P : Program) (fn : Func) (G : Nat -> DV) (E : AX) (n : Nat) (R : DV -> List ABlk -> Prop) (st : ASt) : Prop :=
 ∀ a w, Rel G E n st a w -> ∃ v, (results fn a.tmps).run P w = .ok v w /\ APost E R v w
theorem Qa {P : Program} {G : Nat -> DV} {B : Nat} {f : FuncId} {fn : Func} {c : Code} {args : List DV} {σ : List ABlk} {R : DV -> List ABlk -> Prop} {n : Nat} {t : Fr}
  (hf : P.funcs[f]? = some fn) (hb : fn.body = some c) (hn : fn.ntmps = n) (ha : Nat.ble args.length n = true) (ht : argFr 0 args = t)
  (h : ∀ E, B <= E.N -> WR P G E n c (ZS P fn G E n R) [] (ZS P fn G E n R) ⟨t, σ⟩) : ACalls P G B f args σ R := by
 intro X vs hS hσ hB hG hv
 subst ht
 have ha : args.length <= n := Nat.ble_eq.mp ha
 refine calls_of_wp hf hb (wp_mono (h X hB _ _ ⟨X, rfl, hσ, hS, WExt.refl X, hG, rfl, ?_, ?_⟩) ?_)
 ·have := hv.1;simp [hn];omega
 ·intro i
  refine look_argFr args 0 (fun j d hj => ?_) i
  have hlt : j < args.length := (List.getElem?_eq_some_iff.1 hj).1
  have := hv.2 j d hj
  rw [Nat.zero_add]
  have hlt' : j < vs.size := by rw [hv.1];exact hlt
  simpa [Array.getD_eq_getD_getElem?, Array.getElem?_append, hlt'] using this
 ·rintro e a w ⟨st', hr, hq⟩
  cases e with
  | normal =>
   obtain ⟨v, h1, h2⟩ := hq a w hr
   obtain ⟨_, _, _, _, _, _, hd, _⟩ := hr
   exact ⟨hd, v, h1, v, rfl, h2⟩
  | ret =>
   obtain ⟨v, h1, h2⟩ := hq a w hr
   obtain ⟨_, _, _, _, _, _, hd, _⟩ := hr
   exact ⟨hd, v, h1, v, rfl, h2⟩
  | exit id => obtain ⟨q, hx, _⟩ := hq;cases hx
  | goto l => exact hq.elim
  | panic ch => exact hq.elim
  | outgrown => exact hq.elim
class TyI (P : Program) (t : TypeId) (d : outParam TypeDesc) (agg : outParam Bool) (size : outParam Nat) : Prop where
 u : P.underlying t = some d
 g : (match d with|.struct _|.array _ _ => true|_ => false) = agg
 s : (P.info? t).map (·.size) = some size
class TyB (P : Program) (t : TypeId) (bytes : outParam Nat) : Prop where
 b : (P.info? t).map (·.bytes) = some bytes
class TyZ (P : Program) (t : TypeId) (zs : outParam (List Value)) : Prop where
 z : ((P.info? t).bind (·.zero)).map (·.cells.toList) = some zs
 one : (zs.all (·.oneCell')) = true
section
variable {P : Program} {G : Nat -> DV} {B : Nat} {f : Operand -> DV} {σ : List ABlk} {K : DV -> List ABlk -> Prop} {dst : Option Tmp} {type : TypeId} {pos : String} {after : Array Edge} {gd : Option (Nat × Bool)}
theorem Zv {t : TypeId} {d : TypeDesc} {agg : Bool} {size : Nat} (h : TyI P t d agg size) (w : World) : (sizeOf t).run P w = .ok size w := by
 have h := h.s
 cases hi : P.info? t with
 | none => simp [hi] at h
 | some i =>
  simp [hi] at h
  simp [sizeOf, typeInfo, hi, h]
theorem run_isAgg {t : TypeId} {d : TypeDesc} {agg : Bool} {size : Nat} (h : TyI P t d agg size) (w : World) : (isAgg t).run P w = .ok agg w := by
 have h1 := h.u;have h2 := h.g
 unfold isAgg
 simp only [Sem.run_bind, run_underlying h1, Result.andThen_ok]
 rw [<- h2]
 cases d <;> rfl
theorem run_zero {t : TypeId} {zs : List Value} (h : TyZ P t zs) (w : World) : ∃ z, (zeroValue t).run P w = .ok z w /\ z.cells = zs.toArray := by
 have h := h.z
 cases hi : P.info? t with
 | none => simp [hi] at h
 | some i =>
  cases hz : i.zero with
  | none => simp [hi, hz] at h
  | some z =>
   simp [hi, hz] at h
   exact ⟨z, by simp [zeroValue, typeInfo, hi, hz], by rw [<- h]⟩
theorem Wn {X : AX} (hS : Sto X) {d : DV} {v : Value} (hv : VRep X.lay d v) (k : K d X.σ) : APost X K v X.w := ⟨X, rfl, hS, .refl X, d, hv, k⟩
theorem s_move {x : Operand} (k : K (f x) σ) : OpSem P G B ⟨dst, .move x, type, pos, after, gd⟩ f σ K := fun X ρ hS hσ _ _ hf => by
 subst hσ;exact Wn hS (hf x (by simp [Op.operands])) k
theorem s_assign {x : Operand} (k : K (f x) σ) : OpSem P G B ⟨dst, .assign x, type, pos, after, gd⟩ f σ K := fun X ρ hS hσ _ _ hf => by
 subst hσ;exact Wn hS (hf x (by simp [Op.operands])) k
theorem s_pick_t {c x y : Operand} {d : DV} (hc : f c = .sc (.bool true)) (h : f x = d) (k : K d σ) : OpSem P G B ⟨dst, .pick c x y, type, pos, after, gd⟩ f σ K := fun X ρ hS hσ _ _ hf => by
 subst hσ
 have h1 := hf c (by simp [Op.operands, Call.operands]);rw [hc] at h1
 have h2 := hf x (by simp [Op.operands, Call.operands]);rw [h] at h2
 have := VRep.sc_eq h1
 simp only [execOp, asBool, this]
 exact Wn hS h2 k
theorem s_pick_f {c x y : Operand} {d : DV} (hc : f c = .sc (.bool false)) (h : f y = d) (k : K d σ) : OpSem P G B ⟨dst, .pick c x y, type, pos, after, gd⟩ f σ K := fun X ρ hS hσ _ _ hf => by
 subst hσ
 have h1 := hf c (by simp [Op.operands, Call.operands]);rw [hc] at h1
 have h2 := hf y (by simp [Op.operands, Call.operands]);rw [h] at h2
 have := VRep.sc_eq h1
 simp only [execOp, asBool, this]
 exact Wn hS h2 k
/-! Arithmetic. -/
theorem s_bin {op : BinOp} {t t' : TypeId} {x y : Operand} {u v z : Value} (hx : f x = .sc u) (hy : f y = .sc v)
  (hr : ∀ w, (do eqGuard op t x y u v;binOp op t u v : Sem Value).run P w = .ok z w) (k : K (.sc z) σ) : OpSem P G B ⟨dst, .binOp op t x y t', type, pos, after, gd⟩ f σ K := fun X ρ hS hσ _ _ hf => by
 subst hσ
 have h1 := hf x (by simp [Op.operands, Call.operands]);rw [hx] at h1
 have h2 := hf y (by simp [Op.operands, Call.operands]);rw [hy] at h2
 have e1 := VRep.sc_eq h1
 have e2 := VRep.sc_eq h2
 have := hr X.w
 simp only [execOp, e1, e2, Sem.run_bind, this, Result.andThen_ok, Sem.run_pure]
 exact Wn hS (.sc z) k
theorem wrap_i64 {n : Int} (h : -9223372036854775808 <= n /\ n <= 9223372036854775807) : IntKind.i64.wrap n = n := IntWalk.i64_in n (by omega)
theorem s_int {op : BinOp} {t t' : TypeId} {x y : Operand} {k1 : IntKind} {a b : Int} {z : Value} (hx : f x = .sc (.int k1 a)) (hy : f y = .sc (.int k1 b))
  (hr : ∀ w, (binOp op t (.int k1 a) (.int k1 b)).run P w = .ok z w) (k : K (.sc z) σ) : OpSem P G B ⟨dst, .binOp op t x y t', type, pos, after, gd⟩ f σ K :=
 s_bin hx hy (fun w => by
  have : (eqGuard op t x y (.int k1 a) (.int k1 b)).run P w = .ok () w := by unfold eqGuard;split <;> rfl
  simp only [Sem.run_bind, this, Result.andThen_ok, hr]) k
theorem ZU {t t' : TypeId} {x y : Operand} {a b : Int} (hx : f x = .sc (.int .i64 a)) (hy : f y = .sc (.int .i64 b)) (h : -9223372036854775808 <= a + b /\ a + b <= 9223372036854775807)
  (k : K (.sc (.int .i64 (a + b))) σ) : OpSem P G B ⟨dst, .binOp .add t x y t', type, pos, after, gd⟩ f σ K :=
 s_int hx hy (fun w => by simp [binOp, Op.intArith, wrap_i64 h]) k
theorem qC {t t' : TypeId} {x y : Operand} {a b : Int} (hx : f x = .sc (.int .i64 a)) (hy : f y = .sc (.int .i64 b)) (h : -9223372036854775808 <= a - b /\ a - b <= 9223372036854775807)
  (k : K (.sc (.int .i64 (a - b))) σ) : OpSem P G B ⟨dst, .binOp .sub t x y t', type, pos, after, gd⟩ f σ K :=
 s_int hx hy (fun w => by simp [binOp, Op.intArith, wrap_i64 h]) k
theorem s_mul {t t' : TypeId} {x y : Operand} {a b : Int} (hx : f x = .sc (.int .i64 a)) (hy : f y = .sc (.int .i64 b)) (h : -9223372036854775808 <= a * b /\ a * b <= 9223372036854775807)
  (k : K (.sc (.int .i64 (a * b))) σ) : OpSem P G B ⟨dst, .binOp .mul t x y t', type, pos, after, gd⟩ f σ K :=
 s_int hx hy (fun w => by simp [binOp, Op.intArith, wrap_i64 h]) k
theorem wrap_tdiv {a b : Int} (ha : 0 <= a) (hb : 0 < b) (h : a <= 9223372036854775807) : IntKind.i64.wrap (a.tdiv b) = a / b := by
 rw [Int.tdiv_eq_ediv_of_nonneg ha]
 exact wrap_i64 ⟨by have := Int.ediv_nonneg ha (by omega : 0 <= b);omega, by have := Int.ediv_le_self b ha;omega⟩
theorem s_quo {t t' : TypeId} {x y : Operand} {a b : Int} (hx : f x = .sc (.int .i64 a)) (hy : f y = .sc (.int .i64 b)) (ha : 0 <= a) (hb : 0 < b) (h : a <= 9223372036854775807)
  (k : K (.sc (.int .i64 (a / b))) σ) : OpSem P G B ⟨dst, .binOp .quo t x y t', type, pos, after, gd⟩ f σ K :=
 s_int hx hy (fun w => by simp [binOp, Op.intDiv, show b ≠ 0 by omega, wrap_tdiv ha hb h]) k
theorem s_rem {t t' : TypeId} {x y : Operand} {a b : Int} {k1 : IntKind} (hx : f x = .sc (.int k1 a)) (hy : f y = .sc (.int k1 b)) (ha : 0 <= a) (hb : b ≠ 0)
  (k : K (.sc (.int k1 (a % b))) σ) : OpSem P G B ⟨dst, .binOp .rem t x y t', type, pos, after, gd⟩ f σ K :=
 s_int hx hy (fun w => by simp [binOp, Op.intDiv, hb, Int.tmod_eq_emod_of_nonneg ha]) k
theorem WX {t t' : TypeId} {x y : Operand} {a b : Int} {k1 : IntKind} (hx : f x = .sc (.int k1 a)) (hy : f y = .sc (.int k1 b))
  (k : K (.sc (.bool (decide (a = b)))) σ) : OpSem P G B ⟨dst, .binOp .eql t x y t', type, pos, after, gd⟩ f σ K := s_int hx hy (fun w => by simp [binOp, Op.intCmp];rfl) k
theorem s_neq {t t' : TypeId} {x y : Operand} {a b : Int} {k1 : IntKind} (hx : f x = .sc (.int k1 a)) (hy : f y = .sc (.int k1 b))
  (k : K (.sc (.bool (decide (a ≠ b)))) σ) : OpSem P G B ⟨dst, .binOp .neq t x y t', type, pos, after, gd⟩ f σ K := s_int hx hy (fun w => by simp [binOp, Op.intCmp];rfl) k
theorem Zw {t t' : TypeId} {x y : Operand} {a b : Int} {k1 : IntKind} (hx : f x = .sc (.int k1 a)) (hy : f y = .sc (.int k1 b))
  (k : K (.sc (.bool (decide (a < b)))) σ) : OpSem P G B ⟨dst, .binOp .lss t x y t', type, pos, after, gd⟩ f σ K := s_int hx hy (fun w => by simp [binOp, Op.intCmp]) k
theorem qv {t t' : TypeId} {x y : Operand} {a b : Int} {k1 : IntKind} (hx : f x = .sc (.int k1 a)) (hy : f y = .sc (.int k1 b))
  (k : K (.sc (.bool (decide (a <= b)))) σ) : OpSem P G B ⟨dst, .binOp .leq t x y t', type, pos, after, gd⟩ f σ K := s_int hx hy (fun w => by simp [binOp, Op.intCmp]) k
theorem s_gtr {t t' : TypeId} {x y : Operand} {a b : Int} {k1 : IntKind} (hx : f x = .sc (.int k1 a)) (hy : f y = .sc (.int k1 b))
  (k : K (.sc (.bool (decide (b < a)))) σ) : OpSem P G B ⟨dst, .binOp .gtr t x y t', type, pos, after, gd⟩ f σ K := s_int hx hy (fun w => by simp [binOp, Op.intCmp]) k
theorem WG {t t' : TypeId} {x y : Operand} {a b : Int} {k1 : IntKind} (hx : f x = .sc (.int k1 a)) (hy : f y = .sc (.int k1 b))
  (k : K (.sc (.bool (decide (b <= a)))) σ) : OpSem P G B ⟨dst, .binOp .geq t x y t', type, pos, after, gd⟩ f σ K := s_int hx hy (fun w => by simp [binOp, Op.intCmp]) k
theorem qK {t : TypeId} {x : Operand} {b : Bool} (hx : f x = .sc (.bool b)) (k : K (.sc (.bool !b)) σ) : OpSem P G B ⟨dst, .unOp .not t x, type, pos, after, gd⟩ f σ K := fun X ρ hS hσ _ _ hf => by
 subst hσ
 have h1 := hf x (by simp [Op.operands, Call.operands]);rw [hx] at h1
 simp only [execOp, VRep.sc_eq h1, Op.unary, Sem.run_bind, Sem.run_pure, Result.andThen_ok]
 exact Wn hS (.sc _) k
theorem s_not_d {t : TypeId} {x : Operand} {p : Prop} [Decidable p] (hx : f x = .sc (.bool (decide p))) (k : K (.sc (.bool (decide (¬ p)))) σ) : OpSem P G B ⟨dst, .unOp .not t x, type, pos, after, gd⟩ f σ K :=
 qK hx (by rw [<- decide_not];exact k)
theorem s_neg {t : TypeId} {x : Operand} {a : Int} (hx : f x = .sc (.int .i64 a)) (h : -9223372036854775807 <= a /\ a <= 9223372036854775807) (k : K (.sc (.int .i64 (-a))) σ) : OpSem P G B ⟨dst, .unOp .neg t x, type, pos, after, gd⟩ f σ K := fun X ρ hS hσ _ _ hf => by
 subst hσ
 have h1 := hf x (by simp [Op.operands, Call.operands]);rw [hx] at h1
 simp only [execOp, VRep.sc_eq h1, Op.unary, Op.intArith, Sem.run_bind, Sem.run_pure, Result.andThen_ok]
 rw [wrap_i64 (by omega), Int.zero_sub]
 exact Wn hS (.sc _) k
theorem s_conv {s d : TypeId} {x : Operand} {a : Int} {k1 k2 : IntKind} {ds : TypeDesc} {g1 g2 : Bool} {z1 z2 : Nat} [hs : TyI P s ds g1 z1] [hd : TyI P d (.int k2) g2 z2] (hx : f x = .sc (.int k1 a))
  (k : K (.sc (.int k2 (k2.wrap a))) σ) : OpSem P G B ⟨dst, .convert s d x, type, pos, after, gd⟩ f σ K := fun X ρ hS hσ _ _ hf => by
 subst hσ
 have h1 := hf x (by simp [Op.operands, Call.operands]);rw [hx] at h1
 have : (convert s d (.int k1 a)).run P X.w = .ok (.int k2 (k2.wrap a)) X.w := by
  unfold convert
  simp only [Sem.run_bind, run_underlying hs.u, run_underlying hd.u, Result.andThen_ok]
  cases ds <;> rfl
 simp only [execOp, VRep.sc_eq h1, this, Sem.run_bind, Sem.run_pure, Result.andThen_ok]
 exact Wn hS (.sc _) k
theorem s_conv_i {s d : TypeId} {x : Operand} {a : Int} {k1 : IntKind} {ds : TypeDesc} {g1 g2 : Bool} {z1 z2 : Nat} [hs : TyI P s ds g1 z1] [hd : TyI P d (.int .i64) g2 z2] (hx : f x = .sc (.int k1 a))
  (h : -9223372036854775808 <= a /\ a <= 9223372036854775807) (k : K (.sc (.int .i64 a)) σ) : OpSem P G B ⟨dst, .convert s d x, type, pos, after, gd⟩ f σ K :=
 s_conv hx (by rw [wrap_i64 h];exact k)
end
class Enc (α : Type) where
 enc : α -> List DV
 es : Nat
 len : ∀ x, (enc x).length = es
 one : ∀ x, ∀ d ∈ enc x, d.one = true
 clo : ∀ x, ∀ d ∈ enc x, d.clo = true
 pos : 0 < es
def Wf {α : Type} [Enc α] (l : List α) : List DV := l.flatMap Enc.enc
def Qo {α : Type} [Enc α] (l : List α) : DV := .sl (Enc.es α) (Wf l)
abbrev DV.i (n : Int) : DV := .sc (.int .i64 n)
abbrev DV.b (x : Bool) : DV := .sc (.bool x)
abbrev DV.s (x : ByteArray) : DV := .sc (.string x)
abbrev DV.nil : DV := .sc (.slice none 0 0)
theorem WH {es : Nat} {cs : List DV} (h : ∀ d ∈ cs, d.clo = true) : (DV.sl es cs).clo = true := by simp only [DV.clo, List.all_eq_true];exact fun x _ => h x.1 x.2
theorem WS {cs : List DV} (h : ∀ d ∈ cs, d.clo = true) : (DV.agg cs).clo = true := by simp only [DV.clo, List.all_eq_true];exact fun x _ => h x.1 x.2
theorem W4 {cs : List DV} (h : ∀ d ∈ cs, d.clo = true) : (DV.tup cs).clo = true := by simp only [DV.clo, List.all_eq_true];exact fun x _ => h x.1 x.2
theorem Wj {v : Value} : (DV.sc v).clo = true := by simp [DV.clo]
theorem Qy {α : Type} [Enc α] (l : List α) : ∀ d ∈ Wf l, d.clo = true := fun d hd => by
 obtain ⟨x, _, hx⟩ := List.mem_flatMap.1 hd
 exact Enc.clo x d hx
theorem WB {α : Type} [Enc α] (l : List α) : (Qo l).clo = true := WH (Qy l)
@[reducible] def encOne {α : Type} (f : α -> DV) (h1 : ∀ x, (f x).one = true) (h2 : ∀ x, (f x).clo = true) : Enc α :=
 ⟨fun x => [f x], 1, fun _ => rfl, fun x d hd => by simp at hd;subst hd;exact h1 x, fun x d hd => by simp at hd;subst hd;exact h2 x, by decide⟩
instance : Enc Int := encOne (fun n => .i n) (fun _ => rfl) (fun _ => Wj)
instance : Enc ByteArray := encOne (fun n => .s n) (fun _ => rfl) (fun _ => Wj)
instance : Enc UInt8 := encOne (fun n => .sc (.int .u8 n.toNat)) (fun _ => rfl) (fun _ => Wj)
instance {α : Type} [Enc α] : Enc (List α) := encOne (fun l => Qo l) (fun _ => rfl) (fun l => WB l)
section
variable {α : Type} [Enc α]
theorem encs_cons (x : α) (l : List α) : Wf (x :: l) = Enc.enc x ++ Wf l := rfl
theorem encs_append (l m : List α) : Wf (l ++ m) = Wf l ++ Wf m := by simp [Wf]
theorem Qx (l : List α) : (Wf l).length = l.length * Enc.es α := by
 induction l with
 | nil => simp [Wf]
 | cons x l ih => rw [encs_cons, List.length_append, Enc.len, ih, List.length_cons, Nat.add_one_mul];omega
theorem encs_one (l : List α) : ∀ d ∈ Wf l, d.one = true := fun d hd => by
 obtain ⟨x, _, hx⟩ := List.mem_flatMap.1 hd
 exact Enc.one x d hx
theorem encs_drop (l : List α) (i : Nat) : (Wf l).drop (i * Enc.es α) = Wf (l.drop i) := by
 induction l generalizing i with
 | nil => simp [Wf]
 | cons x l ih =>
  cases i with
  | zero => simp
  | succ i =>
   rw [encs_cons, Nat.add_one_mul, Nat.add_comm, List.drop_append, Enc.len, List.drop_eq_nil_of_le (by rw [Enc.len];omega), List.nil_append, Nat.add_sub_cancel_left]
   exact ih i
theorem encs_take (l : List α) (i : Nat) : (Wf l).take (i * Enc.es α) = Wf (l.take i) := by
 induction l generalizing i with
 | nil => simp [Wf]
 | cons x l ih =>
  cases i with
  | zero => simp [Wf]
  | succ i =>
   rw [encs_cons, Nat.add_one_mul, Nat.add_comm, List.take_append, Enc.len, List.take_of_length_le (by rw [Enc.len];omega), Nat.add_sub_cancel_left, ih]
   rfl
theorem encs_at (l : List α) (i : Nat) (h : i < l.length) (j : Nat) (hj : j < Enc.es α) : (Wf l)[i * Enc.es α + j]? = (Enc.enc l[i])[j]? := by
 rw [<- List.getElem?_drop, encs_drop, List.drop_eq_getElem_cons h, encs_cons, List.getElem?_append_left (by rw [Enc.len];exact hj)]
end
section
variable {P : Program} {G : Nat -> DV} {B : Nat} {f : Operand -> DV} {σ : List ABlk} {K : DV -> List ABlk -> Prop} {dst : Option Tmp} {type : TypeId} {pos : String} {after : Array Edge} {gd : Option (Nat × Bool)}
variable {α : Type} [Enc α]
/-! What a value read off. -/
theorem VRep.sl_inv {L : Lay} {es : Nat} {cs : List DV} {v : Value} (h : VRep L (.sl es cs) v) : ∃ (a : Option Addr) (len cap : Nat) (f : Nat -> Value), v = .slice a len cap /\ len * es = cs.length /\ len <= cap /\ (∀ d ∈ cs, d.one = true) /\
  (cs = [] \/ ∃ b o, a = some ⟨b, o, none⟩ /\ ∀ j, j < cs.length -> L.imm b (o + j) = some (f j)) /\ (∀ j d, cs[j]? = some d -> VRep L d (f j)) := by
 cases h with|sl _ _ a len cap f h1 h2 h3 h4 h5 => exact ⟨a, len, cap, f, rfl, h1, h2, h3, h4, h5⟩
theorem VRep.ep_inv {L : Lay} {cs : List DV} {v : Value} (h : VRep L (.ep cs) v) : ∃ (b o : Nat) (f : Nat -> Value), v = .pointer (some ⟨b, o, none⟩) /\ (∀ d ∈ cs, d.one = true) /\ (∀ j, j < cs.length -> L.imm b (o + j) = some (f j)) /\ (∀ j d, cs[j]? = some d -> VRep L d (f j)) := by
 cases h with|ep _ b o f h1 h2 h3 => exact ⟨b, o, f, rfl, h1, h2, h3⟩
theorem Wt {X : AX} {k g : Nat} {cs : List DV} (h : X.σ[k]? = some (.row g cs)) : X.live k g := by simp [AX.live, h, ABlk.gen?]
theorem VRep.ref_inv {X : AX} {k g off len es : Nat} {cs : List DV} {v : Value} (hσ : X.σ[k]? = some (.row g cs)) (h : VRep X.lay (.ref k g off len es) v) : RefOk (X.ρ k) off len es v := by
 cases h with|ref _ _ _ _ _ a l c h1 h2 => exact h2 _ (AX.row_mk (Wt hσ))
theorem VRep.ref_slice {X : AX} {k g off len es : Nat} {cs : List DV} {v : Value} (hσ : X.σ[k]? = some (.row g cs)) (h : VRep X.lay (.ref k g off len es) v) : ∃ a cap, v = .slice a len cap /\ len <= cap /\ (0 < len -> ∃ b n, X.ρ k = some (b, n) /\ a = some ⟨b, off, none⟩ /\ off + cap * es <= n) := by
 have := h.ref_inv hσ
 unfold RefOk at this
 cases hρ : X.ρ k with
 | none => rw [hρ] at this;obtain ⟨rfl, rfl, rfl⟩ := this;exact ⟨none, 0, rfl, Nat.le_refl _, fun h => by omega⟩
 | some x =>
  obtain ⟨b, n⟩ := x
  rw [hρ] at this
  obtain ⟨a, cap, rfl, h1, h2⟩ := this
  refine ⟨a, cap, rfl, h1, fun hl => ?_⟩
  rcases h2 with h2|⟨h2, h3⟩
  ·omega
  ·exact ⟨b, n, rfl, h2, h3⟩
theorem VRep.ptr_inv {X : AX} {k g off : Nat} {cs : List DV} {v : Value} (hσ : X.σ[k]? = some (.row g cs)) (h : VRep X.lay (.ptr k g off) v) : ∃ b n, X.ρ k = some (b, n) /\ v = .pointer (some ⟨b, off, none⟩) := by
 cases h with|ptr _ _ _ a h1 h2 => obtain ⟨b, n, h3, h4⟩ := h2 _ (AX.row_mk (Wt hσ));exact ⟨b, n, h3, by rw [h4]⟩
theorem Sto.row {X : AX} (hS : Sto X) {k g b n : Nat} {cs : List DV} (hσ : X.σ[k]? = some (.row g cs)) (hρ : X.ρ k = some (b, n)) :
  ∃ arr T fr, X.w.heap[b]? = some (.cells arr T fr) /\ arr.size = n /\ cs.length <= n /\ (∀ j, j < n -> ¬ (fr.1 <= j /\ j < fr.2)) /\ ∀ j d, cs[j]? = some d -> d.one = true /\ VRep X.lay d (arr.getD j undef) := by
 have := hS.holds k _ hσ
 rw [hρ] at this
 exact this
/-! len -/
theorem s_len0 (t : TypeId) (x : Operand) {z : Int} (hr : ∀ (X : AX) (v : Value), X.σ = σ -> VRep X.lay (f x) v -> Sto X -> (Builtin.len_ #[t] type #[v]).run P X.w = .ok (goInt z) X.w)
  (k : K (.sc (.int .i64 z)) σ) : OpSem P G B ⟨dst, .call ⟨.builtin .len, #[x], #[t]⟩, type, pos, after, gd⟩ f σ K := fun X ρ hS hσ _ _ hf => by
 have := hr X (ρ x) hσ (hf x (by simp [Op.operands, Call.operands])) hS
 subst hσ
 simp only [execOp, resolve, invoke, builtin, List.map_toArray, List.map_cons, List.map_nil, Sem.run_bind, Sem.run_pure, Result.andThen_ok, this]
 exact Wn hS (.sc _) k
theorem run_len_sl {t type e : TypeId} {a : Option Addr} {n c : Nat} {w : World} (h : P.underlying t = some (.slice e)) : (Builtin.len_ #[t] type #[.slice a n c]).run P w = .ok (goInt n) w := by
 simp [Builtin.len_, run_underlying h]
theorem Qv {t e : TypeId} {g1 : Bool} {z1 : Nat} {x : Operand} {l : List α} [ht : TyI P t (.slice e) g1 z1] (hx : f x = Qo l) (k : K (.sc (.int .i64 (l.length : Nat))) σ) :
  OpSem P G B ⟨dst, .call ⟨.builtin .len, #[x], #[t]⟩, type, pos, after, gd⟩ f σ K :=
 s_len0 t x (fun X v hσ hv _ => by
  rw [hx] at hv
  obtain ⟨a, len, cap, f, rfl, h1, _⟩ := hv.sl_inv
  rw [run_len_sl ht.u]
  rw [Qx] at h1
  have : len = l.length := Nat.eq_of_mul_eq_mul_right (Enc.pos (α := α)) h1
  rw [this]) k
theorem s_len_ref {t e : TypeId} {g1 : Bool} {z1 : Nat} {x : Operand} {i g off len es : Nat} {cs : List DV} [ht : TyI P t (.slice e) g1 z1] (hx : f x = .ref i g off len es) (hi : σ[i]? = some (.row g cs)) (k : K (.sc (.int .i64 (len : Nat))) σ) :
  OpSem P G B ⟨dst, .call ⟨.builtin .len, #[x], #[t]⟩, type, pos, after, gd⟩ f σ K :=
 s_len0 t x (fun X v hσ hv _ => by
  rw [hx] at hv;subst hσ
  obtain ⟨a, cap, rfl, _⟩ := hv.ref_slice hi
  rw [run_len_sl ht.u]) k
theorem s_len_s {t : TypeId} {g1 : Bool} {z1 : Nat} {x : Operand} {s : ByteArray} [ht : TyI P t .string g1 z1] (hx : f x = .sc (.string s)) (k : K (.sc (.int .i64 (s.size : Nat))) σ) :
  OpSem P G B ⟨dst, .call ⟨.builtin .len, #[x], #[t]⟩, type, pos, after, gd⟩ f σ K :=
 s_len0 t x (fun X v hσ hv _ => by rw [hx] at hv;rw [VRep.sc_eq hv];simp [Builtin.len_, run_underlying ht.u]) k
/-! indexAddr -/
theorem qb (b o n : Nat) : (⟨b, o, none⟩ : Addr).add n = ⟨b, o + n, none⟩ := by unfold Addr.add;split <;> simp_all
theorem run_indexAt_sl {t e : TypeId} {g1 g2 : Bool} {z1 z2 : Nat} {d : TypeDesc} (ht : TyI P t (.slice e) g1 z1) (he : TyI P e d g2 z2) {b o len cap : Nat} {kd : IntKind} {i : Int} (h0 : 0 <= i) (h1 : i < len) (w : World) :
  (Instr.indexAt t (.slice (some ⟨b, o, none⟩) len cap) (.int kd i)).run P w = .ok (.pointer (some ⟨b, o + i.toNat * z2, none⟩)) w := by
 simp [Instr.indexAt, asIntOf, run_underlying ht.u, Zv he, h0, h1, qb]
theorem run_indexAt_arr {t e : TypeId} {n : Nat} {g1 g2 : Bool} {z1 z2 : Nat} {d : TypeDesc} (ht : TyI P t (.array n e) g1 z1) (he : TyI P e d g2 z2) {b o : Nat} {kd : IntKind} {i : Int} (h0 : 0 <= i) (h1 : i < n) (w : World) :
  (Instr.indexAt t (.pointer (some ⟨b, o, none⟩)) (.int kd i)).run P w = .ok (.pointer (some ⟨b, o + i.toNat * z2, none⟩)) w := by
 simp [Instr.indexAt, asIntOf, run_underlying ht.u, Zv he, h0, h1, qb, Instr.sureAddr]
theorem ep_sub {L : Lay} {b o : Nat} {cs : List DV} {f : Nat -> Value} (h1 : ∀ d ∈ cs, d.one = true) (h2 : ∀ j, j < cs.length -> L.imm b (o + j) = some (f j)) (h3 : ∀ j d, cs[j]? = some d -> VRep L d (f j)) (m : Nat) :
  VRep L (.ep (cs.drop m)) (.pointer (some ⟨b, o + m, none⟩)) := by
 refine .ep _ b (o + m) (fun j => f (m + j)) (fun d hd => h1 d (List.mem_of_mem_drop hd)) (fun j hj => ?_) (fun j d hj => h3 _ _ (by rw [<- hj, List.getElem?_drop]))
 rw [List.length_drop] at hj
 rw [Nat.add_assoc]
 exact h2 _ (by omega)
theorem ep_take {L : Lay} {cs : List DV} {v : Value} (h : VRep L (.ep cs) v) (m : Nat) : VRep L (.ep (cs.take m)) v := by
 obtain ⟨b, o, f, rfl, h1, h2, h3⟩ := h.ep_inv
 refine .ep _ b o f (fun d hd => h1 d (List.mem_of_mem_take hd)) (fun j hj => h2 j ?_) (fun j d hj => h3 j d ?_)
 ·rw [List.length_take] at hj;omega
 ·rw [List.getElem?_take] at hj;split at hj <;> first|exact hj|cases hj
theorem s_idx_sl {t e : TypeId} {d : TypeDesc} {g1 g2 : Bool} {z1 : Nat} {x y : Operand} {l : List α} {kd : IntKind} {i : Int} [ht : TyI P t (.slice e) g1 z1] [he : TyI P e d g2 (Enc.es α)]
  (hx : f x = Qo l) (hy : f y = .sc (.int kd i)) (h0 : 0 <= i) (h1 : i.toNat < l.length) (k : K (.ep (Enc.enc l[i.toNat])) σ) : OpSem P G B ⟨dst, .indexAddr t x y, type, pos, after, gd⟩ f σ K := fun X ρ hS hσ _ _ hf => by
 subst hσ
 have e1 := hf x (by simp [Op.operands, Call.operands]);rw [hx] at e1
 have e2 := hf y (by simp [Op.operands, Call.operands]);rw [hy] at e2
 obtain ⟨a, len, cap, fv, e3, h2, h3, h4, h5, h6⟩ := e1.sl_inv
 rw [Qx] at h2
 have hl : len = l.length := Nat.eq_of_mul_eq_mul_right (Enc.pos (α := α)) h2
 rcases h5 with h5|⟨b, o, rfl, h5⟩
 ·have := Qx l
  rw [h5] at this
  have hp := Enc.pos (α := α)
  have : l.length = 0 := by
   rcases Nat.mul_eq_zero.1 this.symm with h|h
   ·exact h
   ·omega
  omega
 ·simp only [execOp, e3, VRep.sc_eq e2, run_indexAt_sl ht he h0 (show i < (len : Int) by omega), Sem.run_bind, Sem.run_pure, Result.andThen_ok]
  refine Wn hS ?_ k
  have hsub := ep_take (ep_sub h4 h5 h6 (i.toNat * Enc.es α)) (Enc.es α)
  rw [encs_drop, List.drop_eq_getElem_cons h1, encs_cons, List.take_left' (Enc.len _)] at hsub
  exact hsub
theorem Qq {t e : TypeId} {d : TypeDesc} {g1 g2 : Bool} {z1 : Nat} {x y : Operand} {l : List α} {kd : IntKind} {i : Nat} [ht : TyI P t (.slice e) g1 z1] [he : TyI P e d g2 (Enc.es α)]
  (hx : f x = Qo l) (hy : f y = .sc (.int kd (i : Nat))) (h1 : i < l.length) (k : K (.ep (Enc.enc l[i])) σ) : OpSem P G B ⟨dst, .indexAddr t x y, type, pos, after, gd⟩ f σ K :=
 s_idx_sl hx hy (by omega) (by simpa using h1) (by simpa using k)
theorem s_idx_ref {t e : TypeId} {d : TypeDesc} {g1 g2 : Bool} {z1 z2 : Nat} {x y : Operand} {m g off len es : Nat} {cs : List DV} {kd : IntKind} {i : Int} [ht : TyI P t (.slice e) g1 z1] [he : TyI P e d g2 z2]
  (hx : f x = .ref m g off len es) (hm : σ[m]? = some (.row g cs)) (hy : f y = .sc (.int kd i)) (h0 : 0 <= i) (h1 : i.toNat < len) (k : K (.ptr m g (off + i.toNat * z2)) σ) : OpSem P G B ⟨dst, .indexAddr t x y, type, pos, after, gd⟩ f σ K := fun X ρ hS hσ _ _ hf => by
 subst hσ
 have e1 := hf x (by simp [Op.operands, Call.operands]);rw [hx] at e1
 have e2 := hf y (by simp [Op.operands, Call.operands]);rw [hy] at e2
 obtain ⟨a, cap, e3, h2, h3⟩ := e1.ref_slice hm
 obtain ⟨b, n, h4, rfl, _⟩ := h3 (by omega)
 simp only [execOp, e3, VRep.sc_eq e2, run_indexAt_sl ht he h0 (show i < (len : Int) by omega), Sem.run_bind, Sem.run_pure, Result.andThen_ok]
 refine Wn hS (.ptr _ _ _ _ (hS.gen m g (Wt hm)) fun ob hob => ⟨b, n, ?_, rfl⟩) k
 rw [AX.row_mk (Wt hm), h4] at hob
 exact (Option.some.inj hob).symm
theorem s_idx_arr {t e : TypeId} {d : TypeDesc} {n : Nat} {g1 g2 : Bool} {z1 z2 : Nat} {x y : Operand} {m g off : Nat} {cs : List DV} {kd : IntKind} {i : Int} [ht : TyI P t (.array n e) g1 z1] [he : TyI P e d g2 z2]
  (hx : f x = .ptr m g off) (hm : σ[m]? = some (.row g cs)) (hy : f y = .sc (.int kd i)) (h0 : 0 <= i) (h1 : i.toNat < n) (k : K (.ptr m g (off + i.toNat * z2)) σ) : OpSem P G B ⟨dst, .indexAddr t x y, type, pos, after, gd⟩ f σ K := fun X ρ hS hσ _ _ hf => by
 subst hσ
 have e1 := hf x (by simp [Op.operands, Call.operands]);rw [hx] at e1
 have e2 := hf y (by simp [Op.operands, Call.operands]);rw [hy] at e2
 obtain ⟨b, nn, h4, h5⟩ := e1.ptr_inv hm
 simp only [execOp, h5, VRep.sc_eq e2, run_indexAt_arr ht he h0 (show i < (n : Int) by omega), Sem.run_bind, Sem.run_pure, Result.andThen_ok]
 refine Wn hS (.ptr _ _ _ _ (hS.gen m g (Wt hm)) fun ob hob => ⟨b, nn, ?_, rfl⟩) k
 rw [AX.row_mk (Wt hm), h4] at hob
 exact (Option.some.inj hob).symm
theorem s_idx_ep {t e : TypeId} {d : TypeDesc} {n : Nat} {g1 g2 : Bool} {z1 z2 : Nat} {x y : Operand} {cs : List DV} {kd : IntKind} {i : Int} [ht : TyI P t (.array n e) g1 z1] [he : TyI P e d g2 z2]
  (hx : f x = .ep cs) (hy : f y = .sc (.int kd i)) (h0 : 0 <= i) (h1 : i.toNat < n) (k : K (.ep (cs.drop (i.toNat * z2))) σ) : OpSem P G B ⟨dst, .indexAddr t x y, type, pos, after, gd⟩ f σ K := fun X ρ hS hσ _ _ hf => by
 subst hσ
 have e1 := hf x (by simp [Op.operands, Call.operands]);rw [hx] at e1
 have e2 := hf y (by simp [Op.operands, Call.operands]);rw [hy] at e2
 obtain ⟨b, o, fv, h5, h6, h7, h8⟩ := e1.ep_inv
 simp only [execOp, h5, VRep.sc_eq e2, run_indexAt_arr ht he h0 (show i < (n : Int) by omega), Sem.run_bind, Sem.run_pure, Result.andThen_ok]
 exact Wn hS (ep_sub h6 h7 h8 _) k
/-! fieldAddr, field -/
class TyF (P : Program) (s : TypeId) (fi : Nat) (o fz : outParam Nat) (fg : outParam Bool) : Prop where
 h : ∃ fs fd d, P.underlying s = some (.struct fs) /\ fs[fi]? = some fd /\ fd.offset = o /\ TyI P fd.type d fg fz /\ fz ≠ 0
theorem run_fieldAt {s fi o fz : Nat} {fg : Bool} (hs : TyF P s fi o fz fg) {b off : Nat} (w : World) :
  (Instr.fieldAt s (.pointer (some ⟨b, off, none⟩)) fi).run P w = .ok (.pointer (some ⟨b, off + o, none⟩)) w := by
 obtain ⟨fs, fd, d, h1, h2, h3, h4, h5⟩ := hs.h
 simp [Instr.fieldAt, run_underlying h1, h2, Instr.sureAddr, fieldPlace, Zv h4, h5, qb, h3]
theorem Qe {s fi o fz : Nat} {fg : Bool} {x : Operand} {m g off : Nat} {cs : List DV} [hs : TyF P s fi o fz fg] (hx : f x = .ptr m g off) (hm : σ[m]? = some (.row g cs)) (k : K (.ptr m g (off + o)) σ) :
  OpSem P G B ⟨dst, .fieldAddr s x fi, type, pos, after, gd⟩ f σ K := fun X ρ hS hσ _ _ hf => by
 subst hσ
 have e1 := hf x (by simp [Op.operands, Call.operands]);rw [hx] at e1
 obtain ⟨b, nn, h4, h5⟩ := e1.ptr_inv hm
 simp only [execOp, h5, run_fieldAt hs, Sem.run_bind, Sem.run_pure, Result.andThen_ok]
 refine Wn hS (.ptr _ _ _ _ (hS.gen m g (Wt hm)) fun ob hob => ⟨b, nn, ?_, rfl⟩) k
 rw [AX.row_mk (Wt hm), h4] at hob
 exact (Option.some.inj hob).symm
theorem Wz {s fi o fz : Nat} {fg : Bool} {x : Operand} {cs r : List DV} {d : DV} [hs : TyF P s fi o fz fg] (hx : f x = .ep cs) (hd : cs.drop o = d :: r) (k : K (.ep (d :: r)) σ) :
  OpSem P G B ⟨dst, .fieldAddr s x fi, type, pos, after, gd⟩ f σ K := fun X ρ hS hσ _ _ hf => by
 subst hσ
 have e1 := hf x (by simp [Op.operands, Call.operands]);rw [hx] at e1
 obtain ⟨b, off, fv, h5, h6, h7, h8⟩ := e1.ep_inv
 simp only [execOp, h5, run_fieldAt hs, Sem.run_bind, Sem.run_pure, Result.andThen_ok]
 exact Wn hS (by rw [<- hd];exact ep_sub h6 h7 h8 _) k
def forceD : List DV -> Option (List DV)
 | [] => some []
 | d :: r => match forceD r with|some r' => some (d :: r')|none => none
theorem forceD_eq : ∀ {l m : List DV}, forceD l = some m -> m = l
 | [], m, h => by simp [forceD] at h;exact h
 | d :: r, m, h => by
  simp only [forceD] at h
  split at h
  ·rename_i r' hr;cases h;rw [forceD_eq hr]
  ·cases h
def partD (cs : List DV) (off size : Nat) : Option (List DV) := forceD ((cs.drop off).take size)
theorem partD_spec {cs ds : List DV} {off size : Nat} (h : partD cs off size = some ds) : ds = (cs.drop off).take size := forceD_eq h
/-! load -/
theorem run_loadAt_one {t : TypeId} {d : TypeDesc} {size : Nat} (ht : TyI P t d false size) {b o : Nat} {v : Value} {w : World} (h : w.cell? ⟨b, o, none⟩ = some v) :
  (Instr.loadAt t (.pointer (some ⟨b, o, none⟩))).run P w = .ok v w := by
 simp [Instr.loadAt, Instr.sureAddr, loadVar, run_isAgg ht, h, run_load]
theorem qV {t : TypeId} {d : TypeDesc} {size : Nat} (ht : TyI P t d true size) {b o : Nat} {fv : Nat -> Value} {w : World} (h : ∀ j, j < size -> w.cell? ⟨b, o + j, none⟩ = some (fv j)) :
  (Instr.loadAt t (.pointer (some ⟨b, o, none⟩))).run P w = .ok (.agg ((List.range size).map fv).toArray) w := by
 simp only [Instr.loadAt, Instr.sureAddr, loadVar, Sem.run_bind, Sem.run_pure, Result.andThen_ok, run_isAgg ht, Zv ht, if_true, run_loadCells (P := P) w ⟨b, o, none⟩ size fv (fun j hj => by rw [qb];exact h j hj)]
theorem agg_range {L : Lay} {cs : List DV} {fv : Nat -> Value} {n : Nat} (hn : cs.length = n) (h1 : ∀ d ∈ cs, d.one = true) (h2 : ∀ j d, cs[j]? = some d -> VRep L d (fv j)) : VRep L (.agg cs) (.agg ((List.range n).map fv).toArray) := by
 refine .agg _ _ (by simp [hn]) h1 fun j d hj => ?_
 have hlt : j < n := by rw [<- hn];exact (List.getElem?_eq_some_iff.1 hj).1
 simpa [Array.getD_eq_getD_getElem?, hlt] using h2 j d hj
theorem QA {t : TypeId} {td : TypeDesc} {size : Nat} {x : Operand} {d : DV} {r : List DV} [ht : TyI P t td false size] (hx : f x = .ep (d :: r)) (k : K d σ) :
  OpSem P G B ⟨dst, .load t x, type, pos, after, gd⟩ f σ K := fun X ρ hS hσ _ _ hf => by
 subst hσ
 have e1 := hf x (by simp [Op.operands, Call.operands]);rw [hx] at e1
 obtain ⟨b, o, fv, h5, h6, h7, h8⟩ := e1.ep_inv
 have := (AX.imm_lt (h7 0 (by simp))).2.2.2
 rw [Nat.add_zero] at this
 simp only [execOp, h5, run_loadAt_one ht this, Sem.run_bind, Sem.run_pure, Result.andThen_ok]
 exact Wn hS (h8 0 d rfl) k
theorem s_load_epa {t : TypeId} {td : TypeDesc} {size : Nat} {x : Operand} {cs ds : List DV} [ht : TyI P t td true size] (hx : f x = .ep cs) (hd : partD cs 0 size = some ds) (hl : ds.length = size) (k : K (.agg ds) σ) :
  OpSem P G B ⟨dst, .load t x, type, pos, after, gd⟩ f σ K := fun X ρ hS hσ _ _ hf => by
 subst hσ
 have e1 := hf x (by simp [Op.operands, Call.operands]);rw [hx] at e1
 obtain ⟨b, o, fv, h5, h6, h7, h8⟩ := e1.ep_inv
 have hds := partD_spec hd
 rw [List.drop_zero] at hds
 have hle : size <= cs.length := by rw [hds, List.length_take] at hl;omega
 simp only [execOp, h5, qV ht (fun j hj => (AX.imm_lt (h7 j (by omega))).2.2.2), Sem.run_bind, Sem.run_pure, Result.andThen_ok]
 refine Wn hS (agg_range hl (fun d hd => h6 d ?_) fun j d hj => h8 j d ?_) k
 ·rw [hds] at hd;exact List.mem_of_mem_take hd
 ·rw [hds, List.getElem?_take] at hj;split at hj <;> first|exact hj|cases hj
theorem Q0 {t : TypeId} {td : TypeDesc} {x : Operand} {y : α} [ht : TyI P t td true (Enc.es α)] (hx : f x = .ep (Enc.enc y)) (k : K (.agg (Enc.enc y)) σ) :
  OpSem P G B ⟨dst, .load t x, type, pos, after, gd⟩ f σ K := fun X ρ hS hσ _ _ hf => by
 subst hσ
 have e1 := hf x (by simp [Op.operands, Call.operands]);rw [hx] at e1
 obtain ⟨b, o, fv, h5, h6, h7, h8⟩ := e1.ep_inv
 have hle := Enc.len y
 simp only [execOp, h5, qV ht (fun j hj => (AX.imm_lt (h7 j (by omega))).2.2.2), Sem.run_bind, Sem.run_pure, Result.andThen_ok]
 exact Wn hS (agg_range hle h6 h8) k
theorem row_cell {X : AX} {k g b n : Nat} {cs : List DV} (hS : Sto X) (hσ : X.σ[k]? = some (.row g cs)) (hρ : X.ρ k = some (b, n)) {j : Nat} {d : DV} (hj : cs[j]? = some d) :
  ∃ v, X.w.cell? ⟨b, j, none⟩ = some v /\ VRep X.lay d v /\ d.one = true := by
 obtain ⟨arr, T, fr, h1, h2, h3, _, h4⟩ := hS.row hσ hρ
 have hlt : j < arr.size := by have := (List.getElem?_eq_some_iff.1 hj).1;omega
 refine ⟨arr.getD j undef, ?_, (h4 j d hj).2, (h4 j d hj).1⟩
 simp [World.cell?, h1, Array.getD_eq_getD_getElem?, hlt]
theorem Qc {t : TypeId} {td : TypeDesc} {size : Nat} {x : Operand} {m g off : Nat} {cs : List DV} {d : DV} [ht : TyI P t td false size] (hx : f x = .ptr m g off) (hm : σ[m]? = some (.row g cs)) (hd : cs[off]? = some d) (k : K d σ) :
  OpSem P G B ⟨dst, .load t x, type, pos, after, gd⟩ f σ K := fun X ρ hS hσ _ _ hf => by
 subst hσ
 have e1 := hf x (by simp [Op.operands, Call.operands]);rw [hx] at e1
 obtain ⟨b, n, hρ, e2⟩ := e1.ptr_inv hm
 obtain ⟨v, h1, h2, _⟩ := row_cell hS hm hρ hd
 simp only [execOp, e2, run_loadAt_one ht h1, Sem.run_bind, Sem.run_pure, Result.andThen_ok]
 exact Wn hS h2 k
theorem s_load_rowa' {t : TypeId} {td : TypeDesc} {size : Nat} {x : Operand} {m g off : Nat} {cs ds : List DV} [ht : TyI P t td true size] (hx : f x = .ptr m g off) (hm : σ[m]? = some (.row g cs)) (hd : ds = (cs.drop off).take size) (hl : ds.length = size) (k : K (.agg ds) σ) :
  OpSem P G B ⟨dst, .load t x, type, pos, after, gd⟩ f σ K := fun X ρ hS hσ _ _ hf => by
 subst hσ
 have e1 := hf x (by simp [Op.operands, Call.operands]);rw [hx] at e1
 obtain ⟨b, n, hρ, e2⟩ := e1.ptr_inv hm
 obtain ⟨arr, T, fr, h1, h2, h3, _, h4⟩ := hS.row hm hρ
 have hle : size = 0 \/ off + size <= cs.length := by rw [hd, List.length_take, List.length_drop] at hl;omega
 have hc : ∀ j, j < size -> X.w.cell? ⟨b, off + j, none⟩ = some (arr.getD (off + j) undef) := fun j hj => by
  have : off + j < arr.size := by omega
  simp [World.cell?, h1, Array.getD_eq_getD_getElem?, this]
 simp only [execOp, e2, qV ht hc, Sem.run_bind, Sem.run_pure, Result.andThen_ok]
 have hds : ∀ j d, ds[j]? = some d -> cs[off + j]? = some d := fun j d hj => by
  rw [hd, List.getElem?_take] at hj
  split at hj
  ·rwa [List.getElem?_drop] at hj
  ·cases hj
 refine Wn hS (agg_range hl (fun d hdm => ?_) fun j d hj => (h4 _ _ (hds j d hj)).2) k
 obtain ⟨j, hj⟩ := List.mem_iff_getElem?.1 hdm
 exact (h4 _ _ (hds j d hj)).1
theorem s_load_rowa {t : TypeId} {td : TypeDesc} {size : Nat} {x : Operand} {m g off : Nat} {cs ds : List DV} [ht : TyI P t td true size] (hx : f x = .ptr m g off) (hm : σ[m]? = some (.row g cs)) (hd : partD cs off size = some ds) (hl : ds.length = size) (k : K (.agg ds) σ) :
  OpSem P G B ⟨dst, .load t x, type, pos, after, gd⟩ f σ K := s_load_rowa' hx hm (partD_spec hd) hl k
end
/-! Stores into a block of cells. -/
def setArr (arr : Array Value) : Nat -> List Value -> Array Value
 | _, [] => arr
 | o, v :: r => setArr (arr.setIfInBounds o v) (o + 1) r
theorem qn : ∀ (vs : List Value) (arr : Array Value) (o : Nat), (setArr arr o vs).size = arr.size
 | [], _, _ => rfl
 | v :: r, arr, o => by simp [setArr, qn r]
theorem qR : ∀ (vs : List Value) (arr : Array Value) (o j : Nat), o + vs.length <= arr.size -> (setArr arr o vs).getD j undef = if o <= j /\ j < o + vs.length then vs.getD (j - o) undef else arr.getD j undef
 | [], arr, o, j, _ => by simp only [setArr, List.length_nil];rw [if_neg (by omega)]
 | v :: r, arr, o, j, h => by
  simp only [List.length_cons] at h ⊢
  simp only [setArr]
  rw [qR r _ _ _ (by simp;omega)]
  by_cases h1 : j = o
  ·subst h1
   rw [if_neg (by omega), if_pos (by omega)]
   simp [Array.getD_eq_getD_getElem?, show j < arr.size by omega]
  ·by_cases h2 : o + 1 <= j /\ j < o + 1 + r.length
   ·rw [if_pos h2, if_pos (by omega)]
    obtain ⟨i, rfl⟩ : ∃ i, j = o + 1 + i := ⟨j - (o + 1), by omega⟩
    rw [show o + 1 + i - (o + 1) = i by omega, show o + 1 + i - o = i + 1 by omega]
    rfl
   ·rw [if_neg h2, if_neg (by omega)]
    simp [Array.getD_eq_getD_getElem?, Array.getElem?_setIfInBounds_ne (Ne.symm h1)]
theorem heap_setCell_row {w : World} {b o : Nat} {arr : Array Value} {T : TypeId} {fr : Nat × Nat} {v : Value} (h : w.heap[b]? = some (.cells arr T fr)) :
  (w.setCell ⟨b, o, none⟩ v).heap[b]? = some (.cells (arr.setIfInBounds o v) T fr) := by
 simp only [World.setCell, Array.getElem?_modify, if_true, h]
 rfl
theorem qH : ∀ (vs : List Value) (w : World) (b o : Nat) (arr : Array Value) (T : TypeId) (fr : Nat × Nat), w.heap[b]? = some (.cells arr T fr) ->
  (w.setCells b o vs).heap[b]? = some (.cells (setArr arr o vs) T fr)
 | [], _, _, _, _, _, _, h => h
 | v :: r, w, b, o, arr, T, fr, h => by
  simp only [World.setCells, setArr]
  exact qH r _ b (o + 1) _ T fr (heap_setCell_row h)
theorem Zs : ∀ (vs : List Value) (w : World) (b o k : Nat), k ≠ b -> (w.setCells b o vs).heap[k]? = w.heap[k]?
 | [], _, _, _, _, _ => rfl
 | v :: r, w, b, o, k, h => by
  simp only [World.setCells]
  rw [Zs r _ b (o + 1) k h]
  exact heap_setCell_other w ⟨b, o, none⟩ k v h
theorem setCells_rest : ∀ (vs : List Value) (w : World) (b o : Nat), (w.setCells b o vs).os = w.os /\ (w.setCells b o vs).tape = w.tape /\ (w.setCells b o vs).output = w.output /\ (w.setCells b o vs).heap.size = w.heap.size
 | [], _, _, _ => ⟨rfl, rfl, rfl, rfl⟩
 | v :: r, w, b, o => by
  simp only [World.setCells]
  obtain ⟨h1, h2, h3, h4⟩ := setCells_rest r (w.setCell ⟨b, o, none⟩ v) b (o + 1)
  exact ⟨h1, h2, h3, by rw [h4];simp⟩
theorem run_storeRow {P : Program} {w : World} {b o : Nat} {arr : Array Value} {T : TypeId} {fr : Nat × Nat} {vs : List Value} (h : w.heap[b]? = some (.cells arr T fr)) (hfr : ∀ j, j < arr.size -> ¬ (fr.1 <= j /\ j < fr.2))
  (hl : o + vs.length <= arr.size) (h1 : ∀ v ∈ vs, v.oneCell' = true) : (storeCells ⟨b, o, none⟩ vs).run P w = .ok () (w.setCells b o vs) := by
 have := run_storeCells_cells (P := P) b o vs 0 w (fun j hj => by
   have : o + 0 + j < arr.size := by omega
   simp [World.cell?, h];omega)
  (fun j hj => by
   have := hfr (o + 0 + j) (by omega)
   simp only [World.frozen?, h]
   simpa using this) h1
 simpa using this
/-! The cells of a value. -/
def dcells : DV -> Option (List DV)
 | .agg cs => some cs
 | .any => none
 | .tup _ => none
 | .sc v => match v.oneCell' with|true => some [.sc v]|false => none
 | .sl es cs => some [.sl es cs]
 | .ep cs => some [.ep cs]
 | .ref k g o l e => some [.ref k g o l e]
 | .ptr k g o => some [.ptr k g o]
 | .fn f a b => some [.fn f a b]
 | .mp k g => some [.mp k g]
 | .bld T k g => some [.bld T k g]
 | .bref T k g l => some [.bref T k g l]
theorem cells_of_one {v : Value} (h : v.oneCell' = true) : v.cells = #[v] := by cases v <;> first|rfl|cases h
theorem dcells_spec {L : Lay} {d : DV} {v : Value} {ds : List DV} (h : dcells d = some ds) (r : VRep L d v) :
  v.cells.size = ds.length /\ (∀ u ∈ v.cells.toList, u.oneCell' = true) /\ ∀ j e, ds[j]? = some e -> e.one = true /\ VRep L e (v.cells.getD j undef) := by
 have one : ∀ (d : DV) (v : Value), d.one = true -> VRep L d v -> v.cells.size = [d].length /\ (∀ u ∈ v.cells.toList, u.oneCell' = true) /\ ∀ j e, [d][j]? = some e -> e.one = true /\ VRep L e (v.cells.getD j undef) := by
  intro d v h1 r
  have hc := r.oneCell h1
  rw [cells_of_one hc]
  refine ⟨rfl, fun u hu => by simp at hu;rw [hu];exact hc, fun j e hj => ?_⟩
  cases j with
  | zero => simp at hj;subst hj;exact ⟨h1, r⟩
  | succ j => simp at hj
 cases d with
 | agg cs =>
  simp [dcells] at h;subst h
  cases r with|agg _ vs h1 h2 h3 =>
  refine ⟨h1, fun u hu => ?_, fun j e hj => ⟨h2 e (List.mem_of_getElem? hj), h3 j e hj⟩⟩
  obtain ⟨j, hj⟩ := List.mem_iff_getElem?.1 hu
  have hlt : j < vs.size := by have := (List.getElem?_eq_some_iff.1 hj).1;simpa [Value.cells] using this
  have hd : cs[j]? = some cs[j] := List.getElem?_eq_getElem (by omega)
  have := (h3 j _ hd).oneCell (h2 _ (List.getElem_mem _))
  have e1 : vs.getD j undef = u := by
   simp only [Value.cells, Array.getElem?_toList] at hj
   simp [Array.getD_eq_getD_getElem?, hj]
  rwa [e1] at this
 | any => cases h
 | tup _ => cases h
 | sc u =>
  simp only [dcells] at h
  split at h
  ·rename_i hu;cases h;exact one _ _ hu r
  ·cases h
 | sl _ _ => cases h;exact one _ _ rfl r
 | ep _ => cases h;exact one _ _ rfl r
 | ref _ _ _ _ _ => cases h;exact one _ _ rfl r
 | ptr _ _ _ => cases h;exact one _ _ rfl r
 | fn _ _ _ => cases h;exact one _ _ rfl r
 | mp _ _ => cases h;exact one _ _ rfl r
 | bld _ _ _ => cases h;exact one _ _ rfl r
 | bref _ _ _ _ => cases h;exact one _ _ rfl r
def Zq : List DV -> Nat -> List DV -> Option (List DV)
 | cs, _, [] => forceD cs
 | [], _, _ :: _ => none
 | _ :: r, 0, d :: ds => match Zq r 0 ds with|some r' => some (d :: r')|none => none
 | c :: r, o + 1, d :: ds => match Zq r o (d :: ds) with|some r' => some (c :: r')|none => none
theorem spliceD_eq : ∀ {cs : List DV} {o : Nat} {ds m : List DV}, Zq cs o ds = some m -> m.length = cs.length /\ (ds = [] \/ o + ds.length <= cs.length) /\ ∀ j, m[j]? = if o <= j /\ j < o + ds.length then ds[j - o]? else cs[j]?
 | cs, o, [], m, h => by
  simp only [Zq] at h
  rw [forceD_eq h]
  exact ⟨rfl, .inl rfl, fun j => by rw [if_neg (by simp <;> omega)]⟩
 | [], o, d :: ds, m, h => by simp [Zq] at h
 | c :: r, 0, d :: ds, m, h => by
  simp only [Zq] at h
  split at h
  ·rename_i r' hr
   cases h
   obtain ⟨h1, h2, h3⟩ := spliceD_eq hr
   refine ⟨by simp [h1], .inr ?_, fun j => ?_⟩
   ·rcases h2 with h2|h2
    ·subst h2;simp
    ·simp at h2 ⊢;omega
   ·cases j with
    | zero => simp
    | succ j =>
     have := h3 j
     simp only [List.getElem?_cons_succ, Nat.zero_le, true_and, Nat.zero_add, List.length_cons, Nat.add_lt_add_iff_right, Nat.sub_zero] at this ⊢
     exact this
  ·cases h
 | c :: r, o + 1, d :: ds, m, h => by
  simp only [Zq] at h
  split at h
  ·rename_i r' hr
   cases h
   obtain ⟨h1, h2, h3⟩ := spliceD_eq hr
   refine ⟨by simp [h1], .inr ?_, fun j => ?_⟩
   ·rcases h2 with h2|h2
    ·cases h2
    ·simp at h2 ⊢;omega
   ·cases j with
    | zero => rw [if_neg (by omega)];rfl
    | succ j =>
     have := h3 j
     simp only [List.getElem?_cons_succ]
     rw [this]
     by_cases hh : o <= j /\ j < o + (d :: ds).length
     ·rw [if_pos hh, if_pos (by omega), show j + 1 - (o + 1) = j - o by omega]
     ·rw [if_neg hh, if_neg (by omega)]
  ·cases h
def setA : List ABlk -> Nat -> ABlk -> Option (List ABlk)
 | [], _, _ => none
 | _ :: r, 0, b => some (b :: r)
 | a :: r, n + 1, b => match setA r n b with|some r' => some (a :: r')|none => none
theorem qB : ∀ {σ : List ABlk} {k : Nat} {b : ABlk} {σ' : List ABlk}, setA σ k b = some σ' -> σ' = σ.set k b
 | [], _, _, _, h => by cases h
 | _ :: r, 0, b, _, h => by cases h;rfl
 | a :: r, n + 1, b, _, h => by
  simp only [setA] at h
  split at h
  ·rename_i r' hr;cases h;rw [qB hr];rfl
  ·cases h
section
variable {P : Program} {G : Nat -> DV} {B : Nat} {f : Operand -> DV} {σ : List ABlk} {K : DV -> List ABlk -> Prop} {dst : Option Tmp} {type : TypeId} {pos : String} {after : Array Edge} {gd : Option (Nat × Bool)}
variable {α : Type} [Enc α]
theorem post_new {X : AX} (hS : Sto X) (hB : B <= X.N) {ds : List DV} {arr : Array Value} {T : TypeId} {w' : World} (hk : Keep X.w w') {v : Nat -> Value} {d : Nat -> DV} {b : Nat} (hb : X.w.heap.size <= b) (hw : w'.heap[b]? = some (.cells arr T (0, 0)))
  (hl : ds.length <= arr.size) (hd : ∀ j e, ds[j]? = some e -> e.one = true /\ VRep X.lay e (arr.getD j undef))
  (hv : ∀ L : Lay, X.N + 1 <= L.top -> L.row X.σ.length (X.N + 1) = some (some (b, arr.size)) -> VRep L (d (X.N + 1)) (v b))
  (k : ∀ g, B < g -> K (d g) (X.σ ++ [.row g ds])) : APost X K (v b) w' := by
 have hob : ∀ b' n, some (b, arr.size) = some (b', n) -> X.w.heap.size <= b' := fun b' n h => by cases h;exact hb
 have hh : (ABlk.row (X.N + 1) ds).holds X.lay w' (some (b, arr.size)) := ⟨arr, T, (0, 0), hw, rfl, hl, fun j _ h => by simp at h, hd⟩
 have hS' := hS.push hk (B := .row (X.N + 1) ds) rfl hob hh
 refine ⟨_, rfl, hS', WExt.push hS hk rfl hob, d (X.N + 1), hv _ (Nat.le_refl _) ?_, k (X.N + 1) (by omega)⟩
 rw [AX.row_mk (AX.push_live.2 (.inr ⟨rfl, rfl⟩))]
 simp [AX.push]
theorem QU {t : TypeId} {zs : List Value} [hz : TyZ P t zs] (k : ∀ g, B < g -> K (.ptr σ.length g 0) (σ ++ [.row g (zs.map .sc)])) : OpSem P G B ⟨dst, .alloc t, type, pos, after, gd⟩ f σ K := fun X ρ hS hσ hB _ hf => by
 subst hσ
 obtain ⟨z, h1, h2⟩ := run_zero hz X.w
 simp only [execOp, Instr.alloc, h1, newVar, newRow, h2, run_newObj, Sem.run_bind, Sem.run_pure, Result.andThen_ok, World.alloc_eq]
 refine post_new (v := fun b => .pointer (some ⟨b, 0, none⟩)) (d := fun g => .ptr X.σ.length g 0) hS hB (Keep.alloc _ _) (Nat.le_refl _) (heap_alloc_new _ _) (by simp) (fun j e hj => ?_) (fun L h1 h2 => ?_) k
 ·rw [List.getElem?_map] at hj
  cases hzj : zs[j]? with
  | none => simp [hzj] at hj
  | some u =>
   simp [hzj] at hj;subst hj
   refine ⟨List.all_eq_true.1 hz.one u (List.mem_of_getElem? hzj), ?_⟩
   have : zs.toArray.getD j undef = u := by simp [Array.getD_eq_getD_getElem?, hzj]
   rw [this];exact .sc u
 ·exact .ptr _ _ _ _ h1 fun ob hob => ⟨_, _, (Option.some.inj (h2.symm.trans hob)).symm, rfl⟩
theorem ZC {t : TypeId} {x : Operand} {d : DV} {ds : List DV} (hx : f x = d) (hd : dcells d = some ds) (k : ∀ g, B < g -> K (.ptr σ.length g 0) (σ ++ [.row g ds])) : OpSem P G B ⟨dst, .box t x, type, pos, after, gd⟩ f σ K := fun X ρ hS hσ hB _ hf => by
 subst hσ
 have e1 := hf x (by simp [Op.operands, Call.operands]);rw [hx] at e1
 obtain ⟨h1, h2, h3⟩ := dcells_spec hd e1
 simp only [execOp, Instr.box, newVar, newRow, run_newObj, Sem.run_bind, Sem.run_pure, Result.andThen_ok, World.alloc_eq]
 refine post_new (v := fun b => .pointer (some ⟨b, 0, none⟩)) (d := fun g => .ptr X.σ.length g 0) hS hB (Keep.alloc _ _) (Nat.le_refl _) (heap_alloc_new _ _) (by omega) h3 (fun L h1 h2 => ?_) k
 exact .ptr _ _ _ _ h1 fun ob hob => ⟨_, _, (Option.some.inj (h2.symm.trans hob)).symm, rfl⟩
theorem setCells_shp {w : World} {b : Nat} {arr : Array Value} {T : TypeId} {fr : Nat × Nat} (h : w.heap[b]? = some (.cells arr T fr)) (vs : List Value) (o : Nat) : ∀ b' s, w.shape? b' = some s -> (w.setCells b o vs).shape? b' = some s := fun b' s hs => by
 by_cases e : b' = b
 ·subst e
  have h2 := qH vs w b' o arr T fr h
  simp only [World.shape?, h] at hs
  simp only [World.shape?, h2, qn];exact hs
 ·rw [shape_of_heap (Zs vs w b o b' e)];exact hs
theorem post_store {X : AX} (hS : Sto X) {k g b n o : Nat} {cs cs' ds : List DV} {vs : List Value} (hσ : X.σ[k]? = some (.row g cs)) (hρ : X.ρ k = some (b, n)) (hl : vs.length = ds.length) (h1 : ∀ u ∈ vs, u.oneCell' = true)
  (hd : ∀ j e, ds[j]? = some e -> e.one = true /\ VRep X.lay e (vs.getD j undef)) (hn : o + ds.length <= n) (hcl : cs'.length <= n) (hcs : ∀ j, cs'[j]? = if o <= j /\ j < o + ds.length then ds[j - o]? else cs[j]?) {v : Value} {d : DV}
  (hv : ∀ L : Lay, X.lay.le L -> VRep L d v) (hK : K d (X.σ.set k (.row g cs'))) :
  (storeCells ⟨b, o, none⟩ vs).run P X.w = .ok () (X.w.setCells b o vs) /\ APost X K v (X.w.setCells b o vs) := by
 obtain ⟨arr, T, fr, g1, g2, g3, g4, g5⟩ := hS.row hσ hρ
 refine ⟨run_storeRow g1 (fun j hj => g4 j (by omega)) (by omega) h1, ?_⟩
 obtain ⟨r1, r2, r3, r4⟩ := setCells_rest vs X.w b o
 have hok : ReplOk X k g (X.w.setCells b o vs) (X.ρ k) (.row g cs') X.N := {
  live := Wt hσ, os := r1, tape := r2, output := r3, size := Nat.le_of_eq r4.symm
  block := fun b' _ hb' => Zs vs X.w b o b' (fun e => hb' n (by rw [hρ, e]))
  gen := .inr ⟨rfl, Nat.le_refl _, rfl⟩
  lies := fun b' n' h => .inr ⟨n', h⟩
  shp := setCells_shp g1 vs o }
 have hh : (ABlk.row g cs').holds X.lay (X.w.setCells b o vs) (X.ρ k) := by
  rw [hρ]
  refine ⟨_, T, fr, qH vs X.w b o arr T fr g1, by rw [qn, g2], hcl, g4, fun j e hj => ?_⟩
  rw [qR _ _ _ _ (by omega)]
  rw [hcs] at hj
  by_cases hh : o <= j /\ j < o + ds.length
  ·rw [if_pos hh] at hj
   rw [if_pos (by omega)]
   exact hd _ _ hj
  ·rw [if_neg hh] at hj
   rw [if_neg (by omega)]
   exact g5 j e hj
 exact ⟨_, rfl, hS.repl hok hh, WExt.repl hS hok, d, hv _ (WExt.repl hS hok).le, hK⟩
theorem run_storeAt {t : TypeId} {td : TypeDesc} {agg : Bool} {size : Nat} (ht : TyI P t td agg size) {b o : Nat} {v : Value} {w w' : World} (hs : v.cells.size = size) (h : (storeCells ⟨b, o, none⟩ v.cells.toList).run P w = .ok () w') :
  (Instr.storeAt t (.pointer (some ⟨b, o, none⟩)) v).run P w = .ok () w' := by
 simp [Instr.storeAt, Instr.sureAddr, storeVar, Zv ht, hs, h]
theorem s_store' {t : TypeId} {td : TypeDesc} {agg : Bool} {size : Nat} {x y : Operand} {m g off : Nat} {cs cs' ds : List DV} {d : DV} [ht : TyI P t td agg size] (hx : f x = .ptr m g off) (hm : σ[m]? = some (.row g cs)) (hy : f y = d) (hd : dcells d = some ds)
  (hl : ds.length = size) (hoff : off + ds.length <= cs.length) (hcl : cs'.length = cs.length) (hcs : ∀ j, cs'[j]? = if off <= j /\ j < off + ds.length then ds[j - off]? else cs[j]?) (k : K (.sc undef) (σ.set m (.row g cs'))) :
  OpSem P G B ⟨dst, .store t x y, type, pos, after, gd⟩ f σ K := fun X ρ hS hσ hB _ hf => by
 subst hσ
 have e1 := hf x (by simp [Op.operands, Call.operands]);rw [hx] at e1
 have e2 := hf y (by simp [Op.operands, Call.operands]);rw [hy] at e2
 obtain ⟨b, n, hρ, e3⟩ := e1.ptr_inv hm
 obtain ⟨h1, h2, h3⟩ := dcells_spec hd e2
 obtain ⟨_, _, _, _, _, g3, _⟩ := hS.row hm hρ
 have := post_store (P := P) (K := K) (v := undef) (d := .sc undef) (vs := (ρ y).cells.toList) hS hm hρ (by simpa using h1) h2 (fun j e hj => by simpa [Array.getD_eq_getD_getElem?] using h3 j e hj) (o := off) (by omega) (by omega) hcs (fun L _ => .sc _) k
 have hst := run_storeAt ht (b := b) (o := off) (v := ρ y) (by omega) this.1
 simp only [execOp, e3, hst, Sem.run_bind, Sem.run_pure, Result.andThen_ok]
 exact this.2
theorem Wg {t : TypeId} {td : TypeDesc} {agg : Bool} {size : Nat} {x y : Operand} {m g off : Nat} {cs cs' ds : List DV} {d : DV} {σ' : List ABlk} [ht : TyI P t td agg size] (hx : f x = .ptr m g off) (hm : σ[m]? = some (.row g cs)) (hy : f y = d) (hd : dcells d = some ds)
  (hl : ds.length = size) (hcs : Zq cs off ds = some cs') (hσ' : setA σ m (.row g cs') = some σ') (k : K (.sc undef) σ') (h0 : size ≠ 0 := by first|decide|simp) :
  OpSem P G B ⟨dst, .store t x y, type, pos, after, gd⟩ f σ K := by
 obtain ⟨h1, h2, h3⟩ := spliceD_eq hcs
 have h2' : off + ds.length <= cs.length := by
  rcases h2 with rfl|h2
  ·simp at hl;omega
  ·exact h2
 exact s_store' hx hm hy hd hl h2' h1 h3 (by rw [<- qB hσ'];exact k)
theorem s_store_e {t : TypeId} {td : TypeDesc} {agg : Bool} {size : Nat} {x y : Operand} {m g off i : Nat} {l : List α} {z : α} {d : DV} {σ' : List ABlk} [ht : TyI P t td agg size] (hx : f x = .ptr m g off) (hm : σ[m]? = some (.row g (Wf l))) (hy : f y = d) (hd : dcells d = some (Enc.enc z))
  (hl : Enc.es α = size) (hoff : off = i * Enc.es α) (hi : i < l.length) (hσ' : setA σ m (.row g (Wf (l.set i z))) = some σ') (k : K (.sc undef) σ') : OpSem P G B ⟨dst, .store t x y, type, pos, after, gd⟩ f σ K := by
 have hle : off + Enc.es α <= (Wf l).length := by
  rw [hoff, Qx, <- Nat.add_one_mul];exact Nat.mul_le_mul_right _ hi
 refine s_store' (cs' := Wf (l.set i z)) hx hm hy hd (by rw [Enc.len, hl]) (by rw [Enc.len];exact hle) (by rw [Qx, Qx, List.length_set]) (fun j => ?_) (by rw [<- qB hσ'];exact k)
 rw [Enc.len]
 have hset : l.set i z = l.take i ++ z :: l.drop (i + 1) := List.set_eq_take_append_cons_drop ▸ by rw [if_pos hi]
 have hl' : l = l.take i ++ l[i] :: l.drop (i + 1) := by rw [List.getElem_cons_drop, List.take_append_drop]
 have ht : (Wf (l.take i)).length = off := by rw [Qx, List.length_take, hoff];congr 1;omega
 rw [hset, encs_append, encs_cons, List.getElem?_append, ht]
 have h2 : (Wf l)[j]? = (Wf (l.take i) ++ (Enc.enc l[i] ++ Wf (l.drop (i + 1))))[j]? := by rw [<- encs_cons, <- encs_append, <- hl']
 by_cases h1 : j < off
 ·rw [if_pos h1, if_neg (by omega), h2, List.getElem?_append, ht, if_pos h1]
 ·rw [if_neg h1, List.getElem?_append, Enc.len]
  by_cases h3 : j - off < Enc.es α
  ·rw [if_pos h3, if_pos (by omega)]
  ·rw [if_neg h3, if_neg (by omega), h2, List.getElem?_append, ht, if_neg h1, List.getElem?_append, Enc.len, if_neg h3]
end
def reD : DV -> Option DV
 | .any => some .any
 | .sc v => some (.sc v)
 | .sl es cs => some (.sl es cs)
 | .ep cs => some (.ep cs)
 | .ref k g o l e => some (.ref k g o l e)
 | .ptr k g o => some (.ptr k g o)
 | .agg cs => some (.agg cs)
 | .tup cs => some (.tup cs)
 | .fn f a b => some (.fn f a b)
 | .mp k g => some (.mp k g)
 | .bld T k g => some (.bld T k g)
 | .bref T k g l => some (.bref T k g l)
theorem reD_eq {d e : DV} (h : reD d = some e) : e = d := by cases d <;> (simp only [reD, Option.some.injEq] at h;exact h.symm)
def reL : List DV -> Option (List DV)
 | [] => some []
 | d :: r => match reD d, reL r with|some d', some r' => some (d' :: r')|_, _ => none
theorem reL_eq : ∀ {l m : List DV}, reL l = some m -> m = l
 | [], m, h => by simp [reL] at h;exact h
 | d :: r, m, h => by
  simp only [reL] at h
  split at h
  ·rename_i d' r' h1 h2;cases h;rw [reD_eq h1, reL_eq h2]
  ·cases h
class FnOk (P : Program) (f : FuncId) : Prop where
 h : ((P.funcs[f]?).map fun fn => (fn.name == "runtime.NumGoroutine") || fn.body.isNone) = some false
section
variable {P : Program} {G : Nat -> DV} {B : Nat} {f : Operand -> DV} {σ : List ABlk} {K : DV -> List ABlk -> Prop} {dst : Option Tmp} {type : TypeId} {pos : String} {after : Array Edge} {gd : Option (Nat × Bool)}
variable {α : Type} [Enc α]
theorem Ws {x : Operand} {d : DV} (h : reD (f x) = some d) (k : K d σ) : OpSem P G B ⟨dst, .move x, type, pos, after, gd⟩ f σ K := s_move (by rw [<- reD_eq h];exact k)
theorem WM {x : Operand} {d : DV} (h : reD (f x) = some d) (k : K d σ) : OpSem P G B ⟨dst, .assign x, type, pos, after, gd⟩ f σ K := s_assign (by rw [<- reD_eq h];exact k)
theorem ZO {c x y : Operand} {d : DV} (hc : f c = .sc (.bool true)) (h : reD (f x) = some d) (k : K d σ) : OpSem P G B ⟨dst, .pick c x y, type, pos, after, gd⟩ f σ K := s_pick_t hc (reD_eq h).symm k
theorem W9 {c x y : Operand} {d : DV} (hc : f c = .sc (.bool false)) (h : reD (f y) = some d) (k : K d σ) : OpSem P G B ⟨dst, .pick c x y, type, pos, after, gd⟩ f σ K := s_pick_f hc (reD_eq h).symm k
theorem run_callFunc {fid : FuncId} (h : FnOk P fid) (args : Array Value) (w : World) : (callFunc fid args).run P w = .ok (.enter fid args) w := by
 have h := h.h
 cases hf : P.funcs[fid]? with
 | none => simp [hf] at h
 | some fn =>
  simp [hf] at h
  obtain ⟨h1, h2⟩ := h
  unfold callFunc
  simp only [Sem.run_bind, run_program, Result.andThen_ok, hf]
  have h1' : (fn.name == "runtime.NumGoroutine") = false := by simpa using h1
  have h2' : fn.body.isNone = false := by cases hb : fn.body with|none => simp [hb] at h2|some _ => rfl
  simp only [h1', h2', Bool.false_eq_true, if_false, Sem.run_pure]
theorem map_reps {L : Lay} {ρ : Operand -> Value} (xs : Array Operand) (hf : ∀ x ∈ xs, VRep L (f x) (ρ x)) : VReps L (xs.toList.map f) (xs.map ρ) := by
 refine ⟨by simp, fun j d hj => ?_⟩
 rw [List.getElem?_map] at hj
 cases hx : xs.toList[j]? with
 | none => simp [hx] at hj
 | some x =>
  simp [hx] at hj;subst hj
  have : (xs.map ρ).getD j undef = ρ x := by
   simp only [Array.getElem?_toList] at hx
   simp [Array.getD_eq_getD_getElem?, hx]
  rw [this];exact hf x (by have := List.mem_of_getElem? hx;simpa using this)
theorem VReps.append {L : Lay} {ds es : List DV} {vs us : Array Value} (h : VReps L ds vs) (k : VReps L es us) : VReps L (ds ++ es) (vs ++ us) := by
 refine ⟨by simp [h.1, k.1], fun j d hj => ?_⟩
 rw [List.getElem?_append] at hj
 have h1 := h.1
 split at hj
 ·rename_i hlt
  have := h.2 j d hj
  simpa [Array.getD_eq_getD_getElem?, Array.getElem?_append, h1, hlt] using this
 ·rename_i hge
  have := k.2 _ d hj
  simpa [Array.getD_eq_getD_getElem?, Array.getElem?_append, h1, hge] using this
theorem s_callv {x : Operand} {args : Array Operand} {ts : Array TypeId} {fid : FuncId} {first cap ds : List DV} [hfn : FnOk P fid] (hx : f x = .fn (.func fid) first cap) (hds : reL (first ++ args.toList.map f ++ cap) = some ds)
  (h : ACalls P G B fid ds σ K) : OpSem P G B ⟨dst, .call ⟨.value x, args, ts⟩, type, pos, after, gd⟩ f σ K := fun X ρ hS hσ hB hG hf => by
 have e1 := hf x (by simp [Op.operands, Call.operands]);rw [hx] at e1
 cases hv : ρ x with
 | func fn fs cs =>
  rw [hv] at e1
  cases e1 with|fn _ _ _ _ _ h1 h2 h3 h4 =>
  simp only [execOp, resolve, hv, Deferred.ofValue, Sem.run_bind, Sem.run_pure, Result.andThen_ok, invoke, run_callFunc hfn]
  refine ⟨rfl, h X _ hS hσ hB hG ?_⟩
  rw [reL_eq hds]
  exact VReps.append (VReps.append ⟨h1, h3⟩ (map_reps args fun x hx => hf x (by simp [Op.operands, Call.operands, hx]))) ⟨h2, h4⟩
 | _ => rw [hv] at e1;cases e1
theorem s_call {args : Array Operand} {ts : Array TypeId} {fid : FuncId} {ds : List DV} [hfn : FnOk P fid] (hx : f (.func fid) = .fn (.func fid) [] []) (hds : reL (args.toList.map f) = some ds)
  (h : ACalls P G B fid ds σ K) : OpSem P G B ⟨dst, .call ⟨.value (.func fid), args, ts⟩, type, pos, after, gd⟩ f σ K := s_callv hx (by simpa using hds) h
theorem Zm {x : Operand} {i : Nat} {vs : List DV} {d e : DV} (hx : f x = .tup vs) (hi : vs[i]? = some e) (hd : reD e = some d) (k : K d σ) : OpSem P G B ⟨dst, .extract x i, type, pos, after, gd⟩ f σ K := fun X ρ hS hσ _ _ hf => by
 subst hσ
 have e1 := hf x (by simp [Op.operands, Call.operands]);rw [hx] at e1
 cases hv : ρ x with
 | tuple us =>
  rw [hv] at e1
  cases e1 with|tup _ _ h1 h2 =>
  have hlt : i < us.size := by rw [h1];exact (List.getElem?_eq_some_iff.1 hi).1
  have h3 := h2 i e hi
  have h4 : us[i]? = some (us.getD i undef) := by simp [Array.getD_eq_getD_getElem?, hlt]
  simp only [execOp, hv, Instr.extract, h4, Sem.run_bind, Sem.run_pure, Result.andThen_ok]
  rw [reD_eq hd] at k
  exact Wn hS h3 k
 | _ => rw [hv] at e1;cases e1
theorem Zu {fn : Fn} {first cap : Array Operand} {ds es : List DV} (h1 : reL (first.toList.map f) = some ds) (h2 : reL (cap.toList.map f) = some es) (k : K (.fn fn ds es) σ) : OpSem P G B ⟨dst, .makeFunc fn first cap, type, pos, after, gd⟩ f σ K := fun X ρ hS hσ _ _ hf => by
 subst hσ
 simp only [execOp, Instr.makeFunc, Sem.run_bind, Sem.run_pure, Result.andThen_ok]
 have r1 := map_reps first fun x hx => hf x (by simp [Op.operands, hx])
 have r2 := map_reps cap fun x hx => hf x (by simp [Op.operands, hx])
 rw [<- reL_eq h1] at r1
 rw [<- reL_eq h2] at r2
 exact Wn hS (.fn _ _ _ _ _ r1.1 r2.1 r1.2 r2.2) k
theorem Qj {x : Operand} {m g off : Nat} {cs : List DV} (hx : f x = .ptr m g off) (hm : σ[m]? = some (.row g cs)) (k : K (.ptr m g off) σ) : OpSem P G B ⟨dst, .nilCheck x, type, pos, after, gd⟩ f σ K := fun X ρ hS hσ _ _ hf => by
 subst hσ
 have e1 := hf x (by simp [Op.operands, Call.operands]);rw [hx] at e1
 obtain ⟨b, n, _, h⟩ := e1.ptr_inv hm
 simp only [execOp, h, Sem.run_pure]
 rw [h] at e1
 exact Wn hS e1 k
/-! Results. -/
def rvSem (tmps : Array Value) (r : ResultVar) : Sem Value := match r with|.tmp t => pure (tmps.getD t undef)|.cell a t => do loadVar t (<- asAddr (tmps.getD a undef))
theorem results_eq {fn : Func} {tmps : Array Value} : results fn tmps = (do let vs <- fn.results.mapM (rvSem tmps);pure (if h : vs.size = 1 then vs[0] else .tuple vs)) := by
 unfold results
 congr 1
def RV (P : Program) (st : ASt) (r : ResultVar) (d : DV) : Prop := ∀ (X : AX) (tmps : Array Value), Sto X -> X.σ = st.σ -> (∀ i, VRep X.lay (look st.t i) (tmps.getD i undef)) ->
 ∃ v, (rvSem tmps r).run P X.w = .ok v X.w /\ VRep X.lay d v
theorem Qb {st : ASt} {t : Tmp} {d : DV} (h : reD (look st.t t) = some d) : RV P st (.tmp t) d := fun X tmps _ _ hf => ⟨_, rfl, by rw [reD_eq h];exact hf t⟩
theorem Qg {st : ASt} {a : Tmp} {t : TypeId} {td : TypeDesc} {size m g off : Nat} {cs ds : List DV} [ht : TyI P t td true size] (h : look st.t a = .ptr m g off) (hm : st.σ[m]? = some (.row g cs)) (hd : partD cs off size = some ds) (hl : ds.length = size) : RV P st (.cell a t) (.agg ds) := fun X tmps hS hσ hf => by
 rw [<- hσ] at hm
 have e1 := hf a;rw [h] at e1
 obtain ⟨b, n, hρ, e2⟩ := e1.ptr_inv hm
 obtain ⟨arr, T, fr, h1, h2, h3, _, h4⟩ := hS.row hm hρ
 have hd := partD_spec hd
 have hle : size = 0 \/ off + size <= cs.length := by rw [hd, List.length_take, List.length_drop] at hl;omega
 have hc : ∀ j, j < size -> X.w.cell? ⟨b, off + j, none⟩ = some (arr.getD (off + j) undef) := fun j hj => by
  have : off + j < arr.size := by omega
  simp [World.cell?, h1, Array.getD_eq_getD_getElem?, this]
 have hll := qV ht hc
 simp only [Instr.loadAt, Instr.sureAddr, Sem.run_bind, Sem.run_pure, Result.andThen_ok] at hll
 have hds : ∀ j d, ds[j]? = some d -> cs[off + j]? = some d := fun j d hj => by
  rw [hd, List.getElem?_take] at hj
  split at hj
  ·rwa [List.getElem?_drop] at hj
  ·cases hj
 refine ⟨_, by simp only [rvSem, e2, asAddr, Sem.run_bind, Sem.run_pure, Result.andThen_ok, hll], agg_range hl (fun d hdm => ?_) fun j d hj => (h4 _ _ (hds j d hj)).2⟩
 obtain ⟨j, hj⟩ := List.mem_iff_getElem?.1 hdm
 exact (h4 _ _ (hds j d hj)).1
def AClose (E : AX) (R : DV -> List ABlk -> Prop) (d : DV) (σ : List ABlk) : Prop := ∀ (X : AX) (v : Value), X.σ = σ -> Sto X -> WExt E X -> VRep X.lay d v -> APost E R v X.w
variable {E : AX} {n : Nat} {R : DV -> List ABlk -> Prop} {st : ASt} {fn : Func}
theorem e_0 (hr : fn.results = #[]) (k : AClose E R (.tup []) st.σ) : ZS P fn G E n R st := fun a w hrel => by
 obtain ⟨X, h1, h2, h3, h4, h5, h6, h7, h8⟩ := hrel
 subst h1
 exact ⟨.tuple #[], by simp [results_eq, hr], k X _ h2 h3 h4 (.tup _ _ rfl fun j d hj => by simp at hj)⟩
theorem e_1 {r : ResultVar} {d : DV} (hr : fn.results = #[r]) (h : RV P st r d) (k : AClose E R d st.σ) : ZS P fn G E n R st := fun a w hrel => by
 obtain ⟨X, h1, h2, h3, h4, h5, h6, h7, h8⟩ := hrel
 subst h1
 obtain ⟨v, g1, g2⟩ := h X a.tmps h3 h2 h8
 refine ⟨v, ?_, k X v h2 h3 h4 g2⟩
 simp [results_eq, hr, g1]
theorem e_2 {r1 r2 : ResultVar} {d1 d2 : DV} (hr : fn.results = #[r1, r2]) (h1 : RV P st r1 d1) (h2 : RV P st r2 d2) (k : AClose E R (.tup [d1, d2]) st.σ) : ZS P fn G E n R st := fun a w hrel => by
 obtain ⟨X, e1, e2, e3, e4, e5, e6, e7, e8⟩ := hrel
 subst e1
 obtain ⟨v1, g1, g1'⟩ := h1 X a.tmps e3 e2 e8
 obtain ⟨v2, g2, g2'⟩ := h2 X a.tmps e3 e2 e8
 refine ⟨.tuple #[v1, v2], ?_, k X _ e2 e3 e4 (.tup _ _ rfl fun j d hj => ?_)⟩
 ·simp [results_eq, hr, g1, g2]
 ·match j, hj with
  | 0, hj => simp at hj;subst hj;exact g1'
  | 1, hj => simp at hj;subst hj;exact g2'
theorem WV {d : DV} {σ r : List ABlk} (h : R d σ) : AClose E R d (σ ++ r) := fun X v hσ hS hE hv => by
 have hget : ∀ (k : Nat) (B : ABlk), σ[k]? = some B -> X.σ[k]? = some B := fun k B hB => by
  rw [hσ, List.getElem?_append_left]
  ·exact hB
  ·exact (List.getElem?_eq_some_iff.1 hB).1
 have hW : WExt X { X with σ := σ } := WExt.shrink fun k g hg => by
  cases hB : σ[k]? with
  | none => simp [hB] at hg
  | some B => simpa [AX.live, hget k B hB, hB] using hg
 exact ⟨{ X with σ := σ }, rfl, hS.shrink fun k B hB => .inr (hget k B hB), hE.trans hW, d, hv.ext hW, h⟩
theorem c_same {d : DV} {σ : List ABlk} (h : R d σ) : AClose E R d σ := by simpa using WV (r := []) (E := E) h
theorem c_nil {d : DV} {σ : List ABlk} (h : R d []) : AClose E R d σ := WV (σ := []) (r := σ) h
theorem pub_rep {X : AX} (hS : Sto X) {k g len es : Nat} {cs : List DV} {v : Value} (hσ : X.σ[k]? = some (.row g cs)) (hl : len * es = cs.length) (h : VRep X.lay (.ref k g 0 len es) v) : VRep { X with σ := X.σ.set k .gone }.lay (.sl es cs) v := by
 have hW : WExt X { X with σ := X.σ.set k .gone } := WExt.shrink fun i g' hg => by
  rw [List.getElem?_set] at hg
  split at hg
  ·split at hg <;> simp [ABlk.gen?] at hg
  ·exact hg
 obtain ⟨a, cap, rfl, h1, h2⟩ := h.ref_slice hσ
 by_cases h0 : len = 0
 ·subst h0
  have : cs = [] := List.eq_nil_of_length_eq_zero (by omega)
  subst this
  exact .sl _ _ _ _ _ (fun _ => undef) (by simp) h1 (fun d hd => by simp at hd) (.inl rfl) (fun j d hj => by simp at hj)
 ·obtain ⟨b, n, hρ, rfl, h3⟩ := h2 (by omega)
  obtain ⟨arr, T, fr, g1, g2, g3, g4, g5⟩ := hS.row hσ hρ
  refine .sl _ _ _ _ _ (fun j => arr.getD j undef) hl h1 (fun d hd => ?_) (.inr ⟨b, 0, rfl, fun j hj => ?_⟩) (fun j d hj => (g5 j d hj).2.ext hW)
  ·obtain ⟨j, hj⟩ := List.mem_iff_getElem?.1 hd
   exact (g5 j d hj).1
  ·refine AX.imm_mk (fun ⟨i, g', n', hl', hr'⟩ => ?_) (fun hh => hS.hid b ⟨k, g, n, Wt hσ, hρ⟩ hh) ?_
   ·have hli : X.live i g' /\ i ≠ k := by
     have hl' : ((X.σ.set k .gone)[i]?).bind ABlk.gen? = some g' := hl'
     rw [List.getElem?_set] at hl'
     split at hl'
     ·split at hl' <;> simp [ABlk.gen?] at hl'
     ·rename_i hne;exact ⟨hl', Ne.symm hne⟩
    exact hli.2 (hS.inj i k g' g b n' n hli.1 (Wt hσ) hr' hρ)
   ·have : 0 + j < arr.size := by omega
    simp only [Nat.zero_add] at this ⊢
    simp [World.cell?, g1, Array.getD_eq_getD_getElem?, this]
theorem qo {X : AX} (k : Nat) : WExt X { X with σ := X.σ.set k .gone } := WExt.shrink fun i g' hg => by
 rw [List.getElem?_set] at hg
 split at hg
 ·split at hg <;> simp [ABlk.gen?] at hg
 ·exact hg
theorem sto_gone {X : AX} (hS : Sto X) (k : Nat) : Sto { X with σ := X.σ.set k .gone } := hS.shrink fun i B hB => by
 rw [List.getElem?_set] at hB
 split at hB
 ·split at hB
  ·exact .inl (Option.some.inj hB).symm
  ·cases hB
 ·exact .inr hB
theorem c_pub {σ : List ABlk} {k g len es : Nat} {cs : List DV} (hk : σ[k]? = some (.row g cs)) (hl : len * es = cs.length) (h : AClose E R (.sl es cs) (σ.set k .gone)) : AClose E R (.ref k g 0 len es) σ := fun X v hσ hS hE hv => by
 subst hσ
 exact h { X with σ := X.σ.set k .gone } v rfl (sto_gone hS k) (hE.trans (qo k)) (pub_rep hS hk hl hv)
theorem c_own {σ : List ABlk} {m k g off len es : Nat} {cs : List DV} (hm : m <= k) (hk : σ[k]? = some (.row g cs)) (h : ∀ g', E.N < g' -> R (.ref m g' off len es) (σ.take m ++ [.row g' cs])) : AClose E R (.ref k g off len es) σ := fun X v hσ hS hE hv => by
 subst hσ
 have hmk : m < X.σ.length := Nat.lt_of_le_of_lt hm (List.getElem?_eq_some_iff.1 hk).1
 have hlen : (X.σ.take m).length = m := by rw [List.length_take];omega
 let X' : AX := { w := X.w, ρ := fun i => if i = m then X.ρ k else X.ρ i, σ := X.σ.take m ++ [.row (X.N + 1) cs], N := X.N + 1, hid := X.hid }
 have hlive : ∀ i g', X'.live i g' ↔ (i < m /\ X.live i g') \/ (i = m /\ g' = X.N + 1) := fun i g' => by
  simp only [AX.live, X', List.getElem?_append, hlen]
  by_cases h1 : i < m
  ·rw [if_pos h1, List.getElem?_take, if_pos h1];simp [h1];omega
  ·rw [if_neg h1]
   by_cases h2 : i = m
   ·subst h2;simp [ABlk.gen?];exact eq_comm
   ·rw [List.getElem?_eq_none (by simp;omega)];simp [h1, h2]
 have hρ' : ∀ i, i < m -> X'.ρ i = X.ρ i := fun i hi => by simp only [X'];rw [if_neg (by omega)]
 have hρm : X'.ρ m = X.ρ k := by simp only [X', if_true]
 have hmut : ∀ b, X'.mut b -> X.mut b := fun b ⟨i, g', n', hl, hr⟩ => by
  rcases (hlive i g').1 hl with ⟨h1, h2⟩|⟨h1, _⟩
  ·rw [hρ' i h1] at hr;exact ⟨i, g', n', h2, hr⟩
  ·rw [h1, hρm] at hr;exact ⟨k, g, n', Wt hk, hr⟩
 have hle : X.lay.le X'.lay := {
  imm := fun b o u hu => by
   obtain ⟨_, h2, h3, h4⟩ := AX.imm_lt hu
   exact AX.imm_mk (fun hh => h2 (hmut b hh)) h3 h4
  top := Nat.le_succ _
  row := fun i g' ob hg hr => by
   obtain ⟨h1, h2⟩ := AX.row_of hr
   rcases (hlive i g').1 h1 with ⟨h3, h4⟩|⟨_, h4⟩
   ·rw [AX.row_mk h4, <- hρ' i h3, h2]
   ·have hg : g' <= X.N := hg
    omega
  shp := fun _ _ h => h }
 have hS' : Sto X' := {
  inj := fun i i' g1 g1' b n n' hl hl' hr hr' => by
   rcases (hlive i g1).1 hl with ⟨h1, h2⟩|⟨h1, h2⟩ <;> rcases (hlive i' g1').1 hl' with ⟨h1', h2'⟩|⟨h1', h2'⟩
   ·rw [hρ' i h1] at hr;rw [hρ' i' h1'] at hr';exact hS.inj i i' g1 g1' b n n' h2 h2' hr hr'
   ·rw [hρ' i h1] at hr;rw [h1', hρm] at hr';have := hS.inj i k g1 g b n n' h2 (Wt hk) hr hr';omega
   ·rw [hρ' i' h1'] at hr';rw [h1, hρm] at hr;have := hS.inj i' k g1' g b n' n h2' (Wt hk) hr' hr;omega
   ·rw [h1, h1']
  gen := fun i g' hl => by
   rcases (hlive i g').1 hl with ⟨h1, h2⟩|⟨h1, h2⟩
   ·exact Nat.le_trans (hS.gen i g' h2) (Nat.le_succ _)
   ·rw [h2];exact Nat.le_refl _
  hid := fun b hb => hS.hid b (hmut b hb)
  hidlt := hS.hidlt
  holds := fun i B hB => by
   simp only [X', List.getElem?_append, hlen] at hB
   split at hB
   ·rename_i h1
    rw [hρ' i h1]
    rw [List.getElem?_take, if_pos h1] at hB
    exact (hS.holds i B hB).mono hle fun _ _ _ => rfl
   ·rename_i h1
    have h2 : i = m := by
     rcases Nat.lt_or_ge (i - m) 1 with h'|h'
     ·omega
     ·rw [List.getElem?_eq_none (by simpa using h')] at hB;cases hB
    subst h2
    simp at hB;subst hB
    rw [hρm]
    have := (hS.holds k _ hk).mono hle (w' := X.w) fun _ _ _ => rfl
    exact this }
 have hE' : WExt E X' := {
  hid := hE.hid
  top := Nat.le_trans hE.top (Nat.le_succ _)
  os := hE.os
  tape := hE.tape
  output := hE.output
  size := hE.size
  old := fun b hb hnm => ⟨(hE.old b hb hnm).1, fun hh => (hE.old b hb hnm).2 (hmut b hh)⟩
  rows := fun i g' hg hl => by
   rcases (hlive i g').1 hl with ⟨h1, h2⟩|⟨h1, h2⟩
   ·rw [hρ' i h1];exact hE.rows i g' hg h2
   ·have := hE.top;omega
  shp := hE.shp }
 refine ⟨X', rfl, hS', hE', _, ?_, h (X.N + 1) (by have := hE.top;omega)⟩
 have hinv := hv.ref_inv hk
 cases hv with|ref _ _ _ _ _ a l c _ _ =>
 refine .ref _ _ _ _ _ _ _ _ (Nat.le_refl _) fun ob hob => ?_
 have hl : X'.live m (X.N + 1) := (hlive _ _).2 (.inr ⟨rfl, rfl⟩)
 rw [AX.row_mk hl, hρm] at hob
 rw [<- Option.some.inj hob]
 exact hinv
end
section
variable {P : Program} {G : Nat -> DV} {B : Nat} {f : Operand -> DV} {σ : List ABlk} {K : DV -> List ABlk -> Prop} {dst : Option Tmp} {type : TypeId} {pos : String} {after : Array Edge} {gd : Option (Nat × Bool)}
variable {α : Type} [Enc α]
structure Src (P : Program) (X : AX) (v : Value) (size n : Nat) (ms : List DV) (vs : List Value) : Prop where
 len : ∀ w, (Builtin.lenOf v).run P w = .ok n w
 cells : ∀ w', (∀ a, w'.cell? a = X.w.cell? a) -> (Builtin.firstCells size n v).run P w' = .ok vs.toArray w'
 hv : vs.length = n * size
 hm : ms.length = n * size
 one : ∀ u ∈ vs, u.oneCell' = true
 rep : ∀ j e, ms[j]? = some e -> e.one = true /\ VRep X.lay e (vs.getD j undef)
theorem Src.empty {X : AX} {a : Option Addr} {cap size : Nat} : Src P X (.slice a 0 cap) size 0 [] [] where
 len := fun _ => rfl
 cells := fun w' _ => by cases a <;> simp [Builtin.firstCells, loadCells, loadCellsFrom]
 hv := by simp
 hm := by simp
 one := fun u hu => by simp at hu
 rep := fun j e hj => by simp at hj
theorem Src.of_cells {X : AX} {b o n cap size : Nat} {ms : List DV} {fv : Nat -> Value} (hm : ms.length = n * size) (h1 : ∀ d ∈ ms, d.one = true) (h2 : ∀ j, j < ms.length -> X.w.cell? ⟨b, o + j, none⟩ = some (fv j))
  (h3 : ∀ j d, ms[j]? = some d -> VRep X.lay d (fv j)) : Src P X (.slice (some ⟨b, o, none⟩) n cap) size n ms ((List.range (n * size)).map fv) where
 len := fun _ => rfl
 cells := fun w' hw => run_firstCells_some (P := P) w' size n ⟨b, o, none⟩ n cap _ (by simp) fun j u hj => by
  rw [List.getElem?_map] at hj
  cases hr : (List.range (n * size))[j]? with
  | none => simp [hr] at hj
  | some i =>
   simp [hr] at hj;subst hj
   have hlt := (List.getElem?_eq_some_iff.1 hr).1
   have : i = j := by rw [List.getElem?_eq_getElem hlt] at hr;simp at hr;exact hr.symm
   subst this
   simp at hlt
   rw [qb, hw]
   exact h2 i (by omega)
 hv := by simp
 hm := hm
 one := fun u hu => by
  obtain ⟨j, hj, rfl⟩ := List.mem_map.1 hu
  simp at hj
  have hd : ms[j]? = some ms[j] := List.getElem?_eq_getElem (by omega)
  exact (h3 j _ hd).oneCell (h1 _ (List.getElem_mem _))
 rep := fun j e hj => by
  have hlt : j < n * size := by have := (List.getElem?_eq_some_iff.1 hj).1;omega
  refine ⟨h1 e (List.mem_of_getElem? hj), ?_⟩
  have : ((List.range (n * size)).map fv).getD j undef = fv j := by simp [List.getD, hlt]
  rw [this];exact h3 j e hj
theorem Src.sl {X : AX} {size : Nat} {ms : List DV} {v : Value} (h : VRep X.lay (.sl size ms) v) : ∃ a n cap vs, v = .slice a n cap /\ n * size = ms.length /\ Src P X v size n ms vs := by
 obtain ⟨a, len, cap, fv, rfl, h1, h2, h3, h4, h5⟩ := h.sl_inv
 rcases h4 with h4|⟨b, o, rfl, h6⟩
 ·subst h4
  refine ⟨a, len, cap, [], rfl, h1, fun _ => rfl, fun w' _ => ?_, by simp [h1], by simp [h1], fun u hu => by simp at hu, fun j e hj => by simp at hj⟩
  simp only [List.length_nil] at h1
  cases a with
  | none => simp [Builtin.firstCells]
  | some a => simp [Builtin.firstCells, h1, loadCells, loadCellsFrom]
 ·exact ⟨_, len, cap, _, rfl, h1, Src.of_cells h1.symm h3 (fun j hj => (AX.imm_lt (h6 j hj)).2.2.2) h5⟩
theorem Src.ref {X : AX} (hS : Sto X) {k g off len size : Nat} {cs : List DV} {v : Value} (hσ : X.σ[k]? = some (.row g cs)) (h : VRep X.lay (.ref k g off len size) v) (hle : off + len * size <= cs.length) :
  ∃ vs, Src P X v size len ((cs.drop off).take (len * size)) vs := by
 obtain ⟨a, cap, rfl, h1, h2⟩ := h.ref_slice hσ
 by_cases h0 : len = 0
 ·subst h0;simp only [Nat.zero_mul, List.take_zero];exact ⟨[], Src.empty⟩
 ·obtain ⟨b, n, hρ, rfl, h3⟩ := h2 (by omega)
  obtain ⟨arr, T, fr, g1, g2, g3, g4, g5⟩ := hS.row hσ hρ
  have hg : ∀ j d, ((cs.drop off).take (len * size))[j]? = some d -> cs[off + j]? = some d := fun j d hj => by
   rw [List.getElem?_take] at hj
   split at hj
   ·rwa [List.getElem?_drop] at hj
   ·cases hj
  refine ⟨_, Src.of_cells (fv := fun j => arr.getD (off + j) undef) (by simp;omega) (fun d hd => ?_) (fun j hj => ?_) fun j d hj => (g5 _ d (hg j d hj)).2⟩
  ·obtain ⟨j, hj⟩ := List.mem_iff_getElem?.1 hd
   exact (g5 _ d (hg j d hj)).1
  ·rw [List.length_take, List.length_drop] at hj
   have : off + j < arr.size := by omega
   simp [World.cell?, g1, Array.getD_eq_getD_getElem?, this]
def q8 (s : ByteArray) : List DV := s.data.toList.map fun b => .sc (.int .u8 b.toNat)
theorem Src.str {X : AX} {s : ByteArray} : Src P X (.string s) 1 s.size (q8 s) (s.data.toList.map fun b => .int .u8 b.toNat) where
 len := fun _ => rfl
 cells := fun w' _ => by
  have hx : (s.extract 0 s.size).data = s.data := by simp
  simp only [Builtin.firstCells, hx]
  show Result.ok _ w' = _
  congr 1
  apply Array.ext'
  simp
 hv := by rw [List.length_map, Nat.mul_one];rfl
 hm := by rw [q8, List.length_map, Nat.mul_one];rfl
 one := fun u hu => by obtain ⟨b, _, rfl⟩ := List.mem_map.1 hu;rfl
 rep := fun j e hj => by
  simp only [q8, List.getElem?_map] at hj
  cases hb : s.data.toList[j]? with
  | none => simp [hb] at hj
  | some b =>
   simp only [hb, Option.map_some, Option.some.injEq] at hj;subst hj
   refine ⟨rfl, ?_⟩
   have : (s.data.toList.map fun b => Value.int .u8 b.toNat).getD j undef = .int .u8 b.toNat := by simp only [List.getD, List.getElem?_map, hb];rfl
   rw [this];exact .sc _
class SrcTy (P : Program) (t : TypeId) : Prop where
 h : (∃ e, P.underlying t = some (.slice e)) \/ P.underlying t = some .string
theorem run_append {t t' ty e : TypeId} {d : TypeDesc} {g1 g2 : Bool} {z1 size bytes : Nat} {zs : List Value} (ht : TyI P t (.slice e) g1 z1) (ht' : SrcTy P t') (he : TyI P e d g2 size) (hb : TyB P e bytes) (hz : TyZ P e zs)
  {X : AX} {base : Option Addr} {len cap n : Nat} {x : Value} {cs ms : List DV} {us vs : List Value} (hs : Src P X (.slice base len cap) size len cs us) (hx : Src P X x size n ms vs)
  (hby : (len + n) * bytes <= 140737488355328) (hsm : len + n <= 9223372036854775807) :
  (len + n <= cap /\ (Builtin.append_ #[t, t'] ty #[.slice base len cap, x]).run P X.w = (match base with|some a => (storeCells (a.add (len * size)) vs).run P X.w|none => .ok () X.w).andThen fun _ w' => .ok (.slice base (len + n) cap) w') \/
  (cap < len + n /\ ∃ nc, len + n <= nc /\ (Builtin.append_ #[t, t'] ty #[.slice base len cap, x]).run P X.w = .ok (.slice (some ⟨X.w.heap.size, 0, none⟩) (len + n) nc) (X.w.drew.alloc (.cells (us.toArray ++ vs.toArray ++ Builtin.zeroCells zs.toArray (nc - (len + n))) e))) := by
 obtain ⟨i, hi⟩ : ∃ i, P.info? e = some i := by have := he.s;cases h : P.info? e with|none => simp [h] at this|some i => exact ⟨i, rfl⟩
 have hsz : i.size = size := by have := he.s;simpa [hi] using this
 have hbb : i.bytes = bytes := by have := hb.b;simpa [hi] using this
 obtain ⟨z, hz1, hz2⟩ : ∃ z, i.zero = some z /\ z.cells = zs.toArray := by
  have := hz.z
  cases h : i.zero with
  | none => simp [hi, h] at this
  | some z => simp [hi, h] at this;exact ⟨z, rfl, by rw [<- this]⟩
 by_cases hfit : len + n <= cap
 ·refine .inl ⟨hfit, ?_⟩
  have hc := hx.cells X.w fun _ => rfl
  rcases ht'.h with ⟨_, hu⟩|hu <;> (simp [Builtin.append_, run_underlying ht.u, run_underlying hu, sizeOf, typeInfo, hi, hsz, hx.len, hfit, hc];cases base <;> simp)
 ·refine .inr ⟨by omega, grownCap X.w (len + n) cap e, grownCap_ge _ _ _ _, ?_⟩
  have hc := hx.cells X.w.drew fun _ => rfl
  have hc' := hs.cells X.w.drew fun _ => rfl
  have h63 : ¬ ((9223372036854775807 : Int) < (len : Int) + (n : Int)) := by omega
  have h48 : ¬ (281474976710656 < Builtin.nextslicecap (len + n) cap * bytes) := by have := growslice_fits (need := len + n) (old := cap) (bytes := bytes) (by omega) hby;omega
  rcases ht'.h with ⟨_, hu⟩|hu <;> (simp [Builtin.append_, run_underlying ht.u, run_underlying hu, sizeOf, typeInfo, zeroValue, hi, hz1, hz2, hsz, hbb, hx.len, hfit, h63, h48, Question.forced, hc, hc', newRow, grownCap];congr 2;apply Array.ext';simp)
end
def SrcOf (P : Program) (σ : List ABlk) (d : DV) (es n : Nat) (ms : List DV) : Prop := ∀ (X : AX) (v : Value), Sto X -> X.σ = σ -> VRep X.lay d v -> ∃ vs, Src P X v es n ms vs
section
variable {P : Program} {G : Nat -> DV} {B : Nat} {f : Operand -> DV} {σ : List ABlk} {K : DV -> List ABlk -> Prop} {dst : Option Tmp} {type : TypeId} {pos : String} {after : Array Edge} {gd : Option (Nat × Bool)}
variable {α : Type} [Enc α]
theorem srcOf_sl {es n : Nat} {ms : List DV} (h : n * es = ms.length) (h0 : 0 < es) : SrcOf P σ (.sl es ms) es n ms := fun X v _ _ hv => by
 obtain ⟨a, m, cap, vs, rfl, h1, h2⟩ := Src.sl (P := P) hv
 have : m = n := Nat.eq_of_mul_eq_mul_right h0 (by omega)
 subst this
 exact ⟨vs, h2⟩
theorem srcOf_ref {k g off len es : Nat} {cs : List DV} (hk : σ[k]? = some (.row g cs)) (hle : off + len * es <= cs.length) : SrcOf P σ (.ref k g off len es) es len ((cs.drop off).take (len * es)) := fun X v hS hσ hv => by
 subst hσ;exact Src.ref hS hk hv hle
theorem srcOf_str {s : ByteArray} : SrcOf P σ (.sc (.string s)) 1 s.size (q8 s) := fun X v _ _ hv => by
 rw [VRep.sc_eq hv];exact ⟨_, Src.str⟩
theorem zeroCells_size {zs : List Value} {n : Nat} : (Builtin.zeroCells zs.toArray n).size = n * zs.length := by simp [Builtin.zeroCells]
theorem grown_rep {X : AX} {size len n : Nat} {x y : Value} {cs ms : List DV} {us vs : List Value} (hs : Src P X y size len cs us) (hx : Src P X x size n ms vs) (rest : Array Value) (j : Nat) (e : DV) (hj : (cs ++ ms)[j]? = some e) :
  e.one = true /\ VRep X.lay e ((us.toArray ++ vs.toArray ++ rest).getD j undef) := by
 rw [List.getElem?_append, hs.hm] at hj
 have hl := hs.hv
 have hl' := hx.hv
 split at hj
 ·rename_i hlt
  have := hs.rep j e hj
  have he : (us.toArray ++ vs.toArray ++ rest).getD j undef = us.getD j undef := by
   simp only [Array.getD_eq_getD_getElem?, Array.getElem?_append, Array.size_append, List.size_toArray, List.getElem?_toArray, List.getD]
   rw [if_pos (by omega), if_pos (by omega)]
  rw [he];exact this
 ·rename_i hge
  have := hx.rep _ e hj
  have hlt : j - len * size < n * size := by have := (List.getElem?_eq_some_iff.1 hj).1;rw [hx.hm] at this;exact this
  have he : (us.toArray ++ vs.toArray ++ rest).getD j undef = vs.getD (j - len * size) undef := by
   simp only [Array.getD_eq_getD_getElem?, Array.getElem?_append, Array.size_append, List.size_toArray, List.getElem?_toArray, List.getD]
   rw [if_pos (by omega), if_neg (by omega), hl]
  rw [he];exact this
theorem s_append {t t' e : TypeId} {d : TypeDesc} {g1 g2 : Bool} {z1 size bytes : Nat} {zs : List Value} {x y : Operand} {m g len n : Nat} {cs ms : List DV} {dy : DV} [ht : TyI P t (.slice e) g1 z1] [ht' : SrcTy P t'] [he : TyI P e d g2 size] [hb : TyB P e bytes] [hz : TyZ P e zs]
  (hzl : zs.length = size) (hx : f x = .ref m g 0 len size) (hm : σ[m]? = some (.row g cs)) (hle : len * size <= cs.length) (hy : f y = dy) (hsrc : SrcOf P σ dy size n ms) (hby : (len + n) * bytes <= 140737488355328) (hsm : len + n <= 9223372036854775807)
  (k : ∀ g', B < g' -> K (.ref m g' 0 (len + n) size) (σ.set m (.row g' (cs.take (len * size) ++ ms)))) : OpSem P G B ⟨dst, .call ⟨.builtin .append, #[x, y], #[t, t']⟩, type, pos, after, gd⟩ f σ K := fun X ρ hS hσ hB _ hf => by
 subst hσ
 have e1 := hf x (by simp [Op.operands, Call.operands]);rw [hx] at e1
 have e2 := hf y (by simp [Op.operands, Call.operands]);rw [hy] at e2
 obtain ⟨vs, hsx⟩ := hsrc X _ hS rfl e2
 obtain ⟨us, hss⟩ := Src.ref (P := P) hS hm e1 (by omega)
 rw [List.drop_zero] at hss
 have href := e1.ref_inv hm
 obtain ⟨base, cap, hv, hlc, hcase⟩ : ∃ base cap, ρ x = .slice base len cap /\ len <= cap /\ ((X.ρ m = none /\ base = none /\ cap = 0) \/ ∃ b nn, X.ρ m = some (b, nn) /\ (cap = 0 \/ (base = some ⟨b, 0, none⟩ /\ cap * size <= nn))) := by
  unfold RefOk at href
  cases hρ : X.ρ m with
  | none => rw [hρ] at href;obtain ⟨h1, _, rfl⟩ := href;exact ⟨none, 0, h1, Nat.le_refl _, .inl ⟨rfl, rfl, rfl⟩⟩
  | some z =>
   obtain ⟨b, nn⟩ := z
   rw [hρ] at href
   obtain ⟨a, cap, h1, h2, h3⟩ := href
   exact ⟨a, cap, h1, h2, .inr ⟨b, nn, rfl, by rcases h3 with h3|⟨h3, h4⟩;exact .inl h3;exact .inr ⟨h3, by omega⟩⟩⟩
 rw [hv] at hss
 have hlen : (cs.take (len * size) ++ ms).length = (len + n) * size := by rw [List.length_append, hss.hm, hsx.hm, Nat.add_mul]
 have fin : ∀ (w' : World) (ob : Option (Nat × Nat)) (v' : Value), w'.os = X.w.os -> w'.tape = X.w.tape -> w'.output = X.w.output -> X.w.heap.size <= w'.heap.size ->
   (∀ b, b < X.w.heap.size -> (∀ nn, X.ρ m ≠ some (b, nn)) -> w'.heap[b]? = X.w.heap[b]?) -> (∀ b nn, ob = some (b, nn) -> X.w.heap.size <= b \/ ∃ n0, X.ρ m = some (b, n0)) -> (∀ b s, X.w.shape? b = some s -> w'.shape? b = some s) ->
   (ABlk.row (X.N + 1) (cs.take (len * size) ++ ms)).holds X.lay w' ob -> RefOk ob 0 (len + n) size v' -> (∃ a c, v' = .slice a (len + n) c) -> APost X K v' w' := by
  intro w' ob v' h1 h2 h3 h4 h5 h6 hshp h7 h8 h9
  obtain ⟨a, c, rfl⟩ := h9
  have hok : ReplOk X m g w' ob (.row (X.N + 1) (cs.take (len * size) ++ ms)) (X.N + 1) := { live := Wt hm, os := h1, tape := h2, output := h3, size := h4, block := h5, gen := .inl ⟨_, rfl, Nat.lt_succ_self _, Nat.le_refl _⟩, lies := h6, shp := hshp }
  refine ⟨_, rfl, hS.repl hok h7, WExt.repl hS hok, _, ?_, k (X.N + 1) (by omega)⟩
  refine .ref _ _ _ _ _ _ _ _ (Nat.le_refl _) fun ob' hob => ?_
  rw [AX.row_mk ((AX.repl_live (AX.live_lt (Wt hm))).2 (.inr ⟨rfl, rfl⟩))] at hob
  simp only [AX.repl, if_true, Option.some.injEq] at hob
  subst hob
  exact h8
 have hcall : ∀ r, (Builtin.append_ #[t, t'] type #[.slice base len cap, ρ y]).run P X.w = r -> (match r with|.ok v w' => APost X K v w'|_ => False) -> OPost P X K ((execOp ρ ⟨dst, .call ⟨.builtin .append, #[x, y], #[t, t']⟩, type, pos, after, gd⟩).run P X.w) := by
  intro r hr hp
  simp only [execOp, resolve, invoke, builtin, List.map_toArray, List.map_cons, List.map_nil, Sem.run_bind, Sem.run_pure, Result.andThen_ok, hv, hr]
  cases r with
  | ok v w' => exact hp
  | halt _ _ => exact hp.elim
 rcases run_append (ty := type) ht ht' he hb hz hss hsx hby hsm with ⟨hfit, hrun⟩|⟨hgrow, nc, hnc, hrun⟩
 ·refine hcall _ hrun ?_
  rcases hcase with ⟨hρ, rfl, rfl⟩|⟨b, nn, hρ, hcap⟩
  ·obtain ⟨rfl, rfl⟩ : len = 0 /\ n = 0 := by omega
   have hnil : cs.take (0 * size) ++ ms = [] := List.eq_nil_of_length_eq_zero (by rw [hlen];simp)
   exact fin X.w none _ rfl rfl rfl (Nat.le_refl _) (fun _ _ _ => rfl) (fun _ _ h => by cases h) (fun _ _ h => h) hnil ⟨rfl, rfl, rfl⟩ ⟨_, _, rfl⟩
  ·obtain ⟨arr, T, fr, q1, q2, q3, q4, q5⟩ := hS.row hm hρ
   rcases hcap with rfl|⟨rfl, hcap⟩
   ·obtain ⟨rfl, rfl⟩ : len = 0 /\ n = 0 := by omega
    have hvs : vs = [] := List.eq_nil_of_length_eq_zero (by rw [hsx.hv];simp)
    have hnil : cs.take (0 * size) ++ ms = [] := List.eq_nil_of_length_eq_zero (by rw [hlen];simp)
    suffices hfin : APost X K (.slice base (0 + 0) 0) X.w by subst hvs;cases base <;> exact hfin
    refine fin X.w (some (b, nn)) _ rfl rfl rfl (Nat.le_refl _) (fun _ _ _ => rfl) (fun b' n' h => .inr ⟨nn, by rw [hρ];cases h;rfl⟩) (fun _ _ h => h) ?_ ⟨_, _, rfl, Nat.le_refl _, .inl rfl⟩ ⟨_, _, rfl⟩
    rw [hnil]
    exact ⟨arr, T, fr, q1, q2, Nat.zero_le _, q4, fun j e hj => by simp at hj⟩
   ·have hfit' : (len + n) * size <= cap * size := Nat.mul_le_mul_right _ hfit
    rw [Nat.add_mul] at hfit'
    have hst : (storeCells ⟨b, 0 + len * size, none⟩ vs).run P X.w = .ok () (X.w.setCells b (0 + len * size) vs) := run_storeRow q1 (fun j hj => q4 j (by omega)) (by rw [hsx.hv];omega) hsx.one
    simp only [qb, hst, Result.andThen_ok]
    obtain ⟨r1, r2, r3, r4⟩ := setCells_rest vs X.w b (0 + len * size)
    refine fin _ (some (b, nn)) _ r1 r2 r3 (Nat.le_of_eq r4.symm) (fun b' _ hb' => Zs vs X.w b _ b' (fun e => hb' nn (by rw [hρ, e]))) (fun b' n' h => .inr ⟨nn, by rw [hρ];cases h;rfl⟩) (setCells_shp q1 _ _) ?_ ⟨_, cap, rfl, hfit, .inr ⟨rfl, by omega⟩⟩ ⟨_, _, rfl⟩
    refine ⟨_, T, fr, qH vs X.w b _ arr T fr q1, by rw [qn, q2], by rw [hlen, Nat.add_mul];omega, q4, fun j e hj => ?_⟩
    rw [qR _ _ _ _ (by rw [hsx.hv];omega)]
    rw [List.getElem?_append, hss.hm] at hj
    split at hj
    ·rename_i hlt
     rw [if_neg (by omega)]
     rw [List.getElem?_take, if_pos hlt] at hj
     exact q5 j e hj
    ·rename_i hge
     have hlt : j - len * size < n * size := by have := (List.getElem?_eq_some_iff.1 hj).1;rw [hsx.hm] at this;exact this
     rw [if_pos (by rw [hsx.hv];omega), Nat.zero_add]
     exact hsx.rep _ e hj
 ·refine hcall _ hrun ?_
  have hwk : Keep X.w (X.w.drew.alloc (.cells (us.toArray ++ vs.toArray ++ Builtin.zeroCells zs.toArray (nc - (len + n))) e)) := (Keep.drew X.w).trans (Keep.alloc _ _)
  have hasz : (us.toArray ++ vs.toArray ++ Builtin.zeroCells zs.toArray (nc - (len + n))).size = nc * size := by
   rw [Array.size_append, Array.size_append, zeroCells_size, hzl]
   simp only [List.size_toArray, hss.hv, hsx.hv, <- Nat.add_mul]
   congr 1;omega
  have hncs : (len + n) * size <= nc * size := Nat.mul_le_mul_right _ hnc
  refine fin _ (some (X.w.heap.size, nc * size)) _ rfl rfl rfl hwk.size (fun b hb _ => hwk.block b hb) (fun b nn h => .inl (by cases h;exact Nat.le_refl _)) hwk.shp ?_ ⟨_, nc, rfl, hnc, .inr ⟨rfl, by omega⟩⟩ ⟨_, _, rfl⟩
  exact ⟨_, e, (0, 0), heap_alloc_new X.w.drew _, hasz, by rw [hlen];exact hncs, fun j _ h => by simp at h, fun j e' hj => grown_rep hss hsx _ j e' hj⟩
/-! The same, typed. -/
theorem s_app {t t' e : TypeId} {d : TypeDesc} {g1 g2 : Bool} {z1 bytes : Nat} {zs : List Value} {x y : Operand} {m g len : Nat} {l xs : List α} {dy : DV} [ht : TyI P t (.slice e) g1 z1] [ht' : SrcTy P t'] [he : TyI P e d g2 (Enc.es α)] [hb : TyB P e bytes] [hz : TyZ P e zs]
  {σ' : Nat -> List ABlk} (hzl : zs.length = Enc.es α) (hx : f x = .ref m g 0 len (Enc.es α)) (hm : σ[m]? = some (.row g (Wf l))) (hlen : len = l.length) (hy : f y = dy) (hsrc : SrcOf P σ dy (Enc.es α) xs.length (Wf xs)) (hby : (l.length + xs.length) * bytes <= 140737488355328) (hsm : l.length + xs.length <= 9223372036854775807)
  (hσ' : ∀ g', setA σ m (.row g' (Wf (l ++ xs))) = some (σ' g')) (k : ∀ g', B < g' -> K (.ref m g' 0 (l ++ xs).length (Enc.es α)) (σ' g')) : OpSem P G B ⟨dst, .call ⟨.builtin .append, #[x, y], #[t, t']⟩, type, pos, after, gd⟩ f σ K := by
 subst hlen
 refine s_append hzl hx hm (by rw [Qx];exact Nat.le_refl _) hy hsrc hby hsm fun g' hg' => ?_
 rw [<- Qx, List.take_length, <- encs_append, <- qB (hσ' g'), <- List.length_append]
 exact k g' hg'
theorem srcOf_slOf {xs : List α} : SrcOf P σ (Qo xs) (Enc.es α) xs.length (Wf xs) := srcOf_sl (by rw [Qx]) Enc.pos
theorem srcOf_one {z : α} : SrcOf P σ (.sl (Enc.es α) (Enc.enc z)) (Enc.es α) [z].length (Wf [z]) := by
 have : Wf [z] = Enc.enc z := by simp [Wf]
 rw [this]
 exact srcOf_sl (by simp [Enc.len]) Enc.pos
theorem srcOf_refOf {m g len : Nat} {l : List α} (hm : σ[m]? = some (.row g (Wf l))) (hlen : len = l.length) : SrcOf P σ (.ref m g 0 len (Enc.es α)) (Enc.es α) l.length (Wf l) := by
 subst hlen
 have := srcOf_ref (P := P) (off := 0) (len := l.length) (es := Enc.es α) hm (by rw [Qx];omega)
 rwa [List.drop_zero, <- Qx, List.take_length] at this
/-! Turns of what is known, with nothing carried out. -/
variable {E : AX} {n : Nat} {st : ASt}
theorem Rel.own {a : Act} {w : World} (hr : Rel G E n st a w) {i es : Nat} (h : look st.t i = .sc (.slice none 0 0)) : ∃ g, E.N < g /\ Rel G E n ⟨(i, .ref st.σ.length g 0 0 es) :: st.t, st.σ ++ [.row g []]⟩ a w := by
 obtain ⟨X, h1, h2, h3, h4, h5, h6, h7, h8⟩ := hr
 have hob : ∀ b nn, (none : Option (Nat × Nat)) = some (b, nn) -> X.w.heap.size <= b := fun _ _ h => by cases h
 have hE := WExt.push h3 (Keep.refl X.w) (B := .row (X.N + 1) []) rfl hob
 refine ⟨X.N + 1, by have := h4.top;omega, X.push X.w none (.row (X.N + 1) []), h1, by simp only [AX.push, h2], h3.push (Keep.refl X.w) rfl hob rfl, h4.trans hE, h5.ext hE, h6, h7, fun j => ?_⟩
 simp only [look]
 cases hb : Nat.beq i j with
 | true =>
  have := Nat.eq_of_beq_eq_true hb
  subst this
  have hv := h8 i
  rw [h] at hv
  rw [VRep.sc_eq hv, <- h2]
  refine .ref _ _ _ _ _ _ _ _ (Nat.le_refl _) fun ob hobb => ?_
  rw [AX.row_mk (AX.push_live.2 (.inr ⟨rfl, rfl⟩))] at hobb
  simp only [AX.push, if_true, Option.some.injEq] at hobb
  subst hobb
  exact ⟨rfl, rfl, rfl⟩
 | false => exact (h8 j).ext hE
theorem r_own {t : Fr} {σ : List ABlk} {c : Code} {N : ASt -> Prop} {xs : List (Nat × (ASt -> Prop))} {R : ASt -> Prop} (i es : Nat) (h : look t i = .sc (.slice none 0 0)) (k : ∀ g, E.N < g -> WR P G E n c N xs R ⟨(i, .ref σ.length g 0 0 es) :: t, σ ++ [.row g []]⟩) : WR P G E n c N xs R ⟨t, σ⟩ := fun a w hr => by
 obtain ⟨g, hg, hr'⟩ := hr.own (es := es) h
 exact k g hg a w hr'
theorem Rel.pub {a : Act} {w : World} (hr : Rel G E n st a w) {i k g len es : Nat} {cs : List DV} (h : look st.t i = .ref k g 0 len es) (hk : st.σ[k]? = some (.row g cs)) (hl : len * es = cs.length) : Rel G E n ⟨(i, .sl es cs) :: st.t, st.σ.set k .gone⟩ a w := by
 obtain ⟨X, h1, h2, h3, h4, h5, h6, h7, h8⟩ := hr
 have hE := qo (X := X) k
 refine ⟨{ X with σ := X.σ.set k .gone }, h1, by rw [<- h2], sto_gone h3 k, h4.trans hE, h5.ext hE, h6, h7, fun j => ?_⟩
 simp only [look]
 cases hb : Nat.beq i j with
 | true =>
  have := Nat.eq_of_beq_eq_true hb
  subst this
  have hv := h8 i
  rw [h] at hv
  rw [<- h2] at hk
  exact pub_rep h3 hk hl hv
 | false => exact (h8 j).ext hE
theorem r_pub {t : Fr} {σ : List ABlk} {c : Code} {N : ASt -> Prop} {xs : List (Nat × (ASt -> Prop))} {R : ASt -> Prop} {σ' : List ABlk} {k g len es : Nat} {cs : List DV} (i : Nat) (h : look t i = .ref k g 0 len es) (hk : σ[k]? = some (.row g cs)) (hl : len * es = cs.length) (hσ' : setA σ k .gone = some σ')
  (kk : WR P G E n c N xs R ⟨(i, .sl es cs) :: t, σ'⟩) : WR P G E n c N xs R ⟨t, σ⟩ := fun a w hr => by
 rw [qB hσ'] at kk
 exact kk a w (hr.pub h hk hl)
end
def Cells (L : Lay) (cs : List DV) (arr : Array Value) : Prop := arr.size = cs.length /\ (∀ u ∈ arr.toList, u.oneCell' = true) /\ ∀ j e, cs[j]? = some e -> e.one = true /\ VRep L e (arr.getD j undef)
theorem Cells.zero {L : Lay} {zs : List Value} (h : (zs.all (·.oneCell')) = true) : Cells L (zs.map .sc) zs.toArray := by
 refine ⟨by simp, fun u hu => List.all_eq_true.1 h u (by simpa using hu), fun j e hj => ?_⟩
 rw [List.getElem?_map] at hj
 cases hz : zs[j]? with
 | none => simp [hz] at hj
 | some u =>
  simp [hz] at hj;subst hj
  refine ⟨List.all_eq_true.1 h u (List.mem_of_getElem? hz), ?_⟩
  have : zs.toArray.getD j undef = u := by simp [Array.getD_eq_getD_getElem?, hz]
  rw [this];exact .sc u
theorem foldl_setArr (off : Nat) : ∀ (l : List Value) (k : Nat) (arr : Array Value), (l.zipIdx k).foldl (fun cs (c, j) => cs.setIfInBounds (off + j) c) arr = setArr arr (off + k) l
 | [], _, _ => rfl
 | v :: r, k, arr => by simp only [List.zipIdx_cons, List.foldl_cons, setArr];rw [foldl_setArr off r (k + 1), Nat.add_assoc]
theorem Cells.put {L : Lay} {cs cs' ds : List DV} {arr : Array Value} {off : Nat} {v : Value} (h : Cells L cs arr) (h1 : v.cells.size = ds.length) (h2 : ∀ u ∈ v.cells.toList, u.oneCell' = true) (h3 : ∀ j e, ds[j]? = some e -> e.one = true /\ VRep L e (v.cells.getD j undef))
  (hcs : Zq cs off ds = some cs') (h0 : ds ≠ []) : Cells L cs' (setArr arr off v.cells.toList) /\ off + v.cells.size <= arr.size := by
 obtain ⟨g1, g2, g3⟩ := spliceD_eq hcs
 have g2 := g2.resolve_left h0
 obtain ⟨k1, k2, k3⟩ := h
 have hl : v.cells.toList.length = ds.length := by simpa using h1
 have hle : off + v.cells.toList.length <= arr.size := by omega
 refine ⟨⟨by rw [qn, g1, k1], fun u hu => ?_, fun j e hj => ?_⟩, by omega⟩
 ·obtain ⟨j, hj⟩ := List.mem_iff_getElem?.1 hu
  have hlt : j < arr.size := by have := (List.getElem?_eq_some_iff.1 hj).1;rw [Array.length_toList, qn] at this;exact this
  have hgd := qR v.cells.toList arr off j hle
  have he : (setArr arr off v.cells.toList).getD j undef = u := by rw [Array.getElem?_toList] at hj;simp [Array.getD_eq_getD_getElem?, hj]
  rw [he] at hgd
  by_cases hh : off <= j /\ j < off + v.cells.toList.length
  ·rw [if_pos hh] at hgd
   rw [hgd]
   have : j - off < v.cells.toList.length := by omega
   simp only [List.getD, List.getElem?_eq_getElem this, Option.getD_some]
   exact h2 _ (List.getElem_mem _)
  ·rw [if_neg hh] at hgd
   rw [hgd]
   have : arr.getD j undef = arr[j] := by simp [Array.getD_eq_getD_getElem?, hlt]
   have h5 := k2 arr[j] (by simp)
   rw [<- this] at h5
   exact h5
 ·rw [qR _ _ _ _ hle]
  rw [g3] at hj
  by_cases hh : off <= j /\ j < off + ds.length
  ·rw [if_pos hh] at hj
   rw [if_pos (by omega)]
   have := h3 _ e hj
   simpa [Array.getD_eq_getD_getElem?, List.getD] using this
  ·rw [if_neg hh] at hj
   rw [if_neg (by omega)]
   exact k3 j e hj
def fillD (place : Nat -> Option (Nat × Nat)) (cs : List DV) : List (Nat × DV) -> Option (List DV)
 | [] => forceD cs
 | (i, d) :: rest => match place i with
  | none => none
  | some (off, size) => match dcells d with
   | none => none
   | some ds => match Nat.beq ds.length size with
    | false => none
    | true => match ds with
     | [] => none
     | e :: r => match Zq cs off (e :: r) with
      | none => none
      | some cs' => fillD place cs' rest
theorem fill_rep {L : Lay} {place : Nat -> Option (Nat × Nat)} : ∀ (parts : List (Nat × DV)) (vals : List (Nat × Value)) (cs cs' : List DV) (arr : Array Value), vals.length = parts.length -> (∀ (j i : Nat) (d : DV) (u : Nat × Value), parts[j]? = some (i, d) -> vals[j]? = some u -> u.1 = i /\ VRep L d u.2) -> Cells L cs arr -> fillD place cs parts = some cs' ->
  ∃ arr', Instr.fill place arr vals = some arr' /\ Cells L cs' arr'
 | [], vals, cs, cs', arr, hl, _, hc, hf => by
  have : vals = [] := List.eq_nil_of_length_eq_zero (by simpa using hl)
  subst this
  simp only [fillD] at hf
  rw [forceD_eq hf]
  exact ⟨arr, rfl, hc⟩
 | (i, d) :: rest, vals, cs, cs', arr, hl, hv, hc, hf => by
  cases vals with
  | nil => simp at hl
  | cons u us =>
   obtain ⟨i', v⟩ := u
   obtain ⟨hi, hr⟩ := hv 0 i d (i', v) rfl rfl
   simp only at hi hr
   subst hi
   simp only [fillD] at hf
   split at hf
   ·cases hf
   ·rename_i off size hp
    split at hf
    ·cases hf
    ·rename_i ds hds
     split at hf
     ·cases hf
     ·rename_i hb
      have hsz := Nat.eq_of_beq_eq_true hb
      split at hf
      ·cases hf
      ·rename_i e r
       split at hf
       ·cases hf
       ·rename_i cs1 hsp
        obtain ⟨g1, g2, g3⟩ := dcells_spec hds hr
        obtain ⟨k1, k2⟩ := hc.put g1 g2 g3 hsp (by simp)
        obtain ⟨arr', k3, k4⟩ := fill_rep rest us cs1 cs' _ (by simpa using hl) (fun j i d u hj hu => hv (j + 1) i d u (by simpa using hj) (by simpa using hu)) k1 hf
        refine ⟨arr', ?_, k4⟩
        simp only [Instr.fill, hp]
        rw [if_neg (by simp;omega)]
        rw [<- k3]
        congr 1
        rw [<- Array.foldl_toList, Array.toList_zipIdx]
        exact foldl_setArr off _ 0 arr
section
variable {P : Program} {G : Nat -> DV} {B : Nat} {f : Operand -> DV} {σ : List ABlk} {K : DV -> List ABlk -> Prop} {dst : Option Tmp} {type : TypeId} {pos : String} {after : Array Edge} {gd : Option (Nat × Bool)}
variable {α : Type} [Enc α]
def partsD (f : Operand -> DV) : List (Nat × Operand) -> Option (List (Nat × DV))
 | [] => some []
 | (i, x) :: r => match reD (f x), partsD f r with|some d, some r' => some ((i, d) :: r')|_, _ => none
theorem partsD_eq : ∀ {l : List (Nat × Operand)} {m : List (Nat × DV)}, partsD f l = some m -> m = l.map fun p => (p.1, f p.2)
 | [], m, h => by simp [partsD] at h;exact h
 | (i, x) :: r, m, h => by
  simp only [partsD] at h
  split at h
  ·rename_i d r' h1 h2;cases h;rw [partsD_eq h2, reD_eq h1];rfl
  ·cases h
theorem parts_rep {L : Lay} {ρ : Operand -> Value} {ps : List (Nat × Operand)} (hf : ∀ p ∈ ps, VRep L (f p.2) (ρ p.2)) {m : List (Nat × DV)} (h : partsD f ps = some m) :
  (ps.map fun (i, x) => (i, ρ x)).length = m.length /\ ∀ (j i : Nat) (d : DV) (u : Nat × Value), m[j]? = some (i, d) -> (ps.map fun (i, x) => (i, ρ x))[j]? = some u -> u.1 = i /\ VRep L d u.2 := by
 rw [partsD_eq h]
 refine ⟨by simp, fun j i d u hj hu => ?_⟩
 rw [List.getElem?_map] at hj hu
 cases hp : ps[j]? with
 | none => simp [hp] at hj
 | some p =>
  simp only [hp, Option.map_some, Option.some.injEq, Prod.mk.injEq] at hj hu
  obtain ⟨rfl, rfl⟩ := hj
  rw [<- hu]
  exact ⟨rfl, hf _ (List.mem_of_getElem? hp)⟩
class TyS (P : Program) (t : TypeId) (pl : outParam (List (Nat × Nat))) : Prop where
 h : ∃ fields : Array Field, P.underlying t = some (.struct fields) /\ fields.toList.mapM (fun f => (P.info? f.type).map fun i => (f.offset, i.size)) = some pl
theorem run_mapM_places {w : World} : ∀ (fields : List Field) (pl : List (Nat × Nat)), fields.mapM (fun f => (P.info? f.type).map fun i => (f.offset, i.size)) = some pl ->
  (fields.mapM fun f => do pure (f.offset, <- sizeOf f.type) : Sem (List (Nat × Nat))).run P w = .ok pl w
 | [], pl, h => by simp at h;subst h;rfl
 | f :: r, pl, h => by
  simp only [List.mapM_cons] at h ⊢
  cases hi : P.info? f.type with
  | none => simp [hi] at h
  | some i =>
   cases hr : r.mapM (fun f => (P.info? f.type).map fun i => (f.offset, i.size)) with
   | none => simp [hi, hr] at h
   | some pl' =>
    simp [hi, hr] at h
    have := run_mapM_places (w := w) r pl' hr
    simp only [Sem.run_bind, Result.andThen_ok, sizeOf, typeInfo, hi, run_program, Sem.run_pure] at this ⊢
    simp only [this, Result.andThen_ok, h]
theorem QB {t : TypeId} {pl : List (Nat × Nat)} {zs : List Value} {ps : List (Nat × Operand)} {m : List (Nat × DV)} {cs : List DV} [ht : TyS P t pl] [hz : TyZ P t zs] (hp : partsD f ps = some m) (hc : fillD (pl[·]?) (zs.map .sc) m = some cs) (k : K (.agg cs) σ) :
  OpSem P G B ⟨dst, .build t ps.toArray, type, pos, after, gd⟩ f σ K := fun X ρ hS hσ _ _ hf => by
 subst hσ
 obtain ⟨fields, h1, h2⟩ := ht.h
 obtain ⟨z, h3, h4⟩ := run_zero hz X.w
 obtain ⟨g1, g2⟩ := parts_rep (fun p hpp => hf p.2 (by simp only [Op.operands];simpa using ⟨p.1, hpp⟩)) hp
 obtain ⟨arr, k1, k2⟩ := fill_rep m _ _ cs zs.toArray g1 g2 (Cells.zero (L := X.lay) hz.one) hc
 have hm : (fields.mapM fun f => do pure (f.offset, <- sizeOf f.type) : Sem (Array (Nat × Nat))).run P X.w = .ok pl.toArray X.w := by
  have := run_mapM_places (P := P) (w := X.w) fields.toList pl h2
  rw [Array.mapM_eq_mapM_toList]
  rw [Sem.run_map, this];rfl
 have hpl : (fun i => pl.toArray[i]?) = (fun (i : Nat) => pl[i]?) := by funext i;simp
 have hrun : (Instr.build t ((ps.toArray).map fun (i, x) => (i, ρ x))).run P X.w = .ok (.agg arr) X.w := by
  unfold Instr.build
  simp only [Sem.run_bind, h3, Result.andThen_ok, run_underlying h1, hm, h4, hpl, List.map_toArray]
  simp only [k1, Sem.run_pure]
 simp only [execOp, hrun, Sem.run_bind, Sem.run_pure, Result.andThen_ok]
 exact Wn hS (.agg _ _ k2.1 (fun d hd => by obtain ⟨j, hj⟩ := List.mem_iff_getElem?.1 hd;exact (k2.2.2 j d hj).1) fun j d hj => (k2.2.2 j d hj).2) k
def WE (zs : List Value) : Nat -> List DV
 | 0 => []
 | n + 1 => zs.map .sc ++ WE zs n
theorem Z8 (zs : List Value) : ∀ n, (WE zs n).length = n * zs.length
 | 0 => by simp [WE]
 | n + 1 => by simp [WE, Z8 zs n, Nat.add_one_mul];omega
theorem zerosD_get (zs : List Value) : ∀ (n j : Nat), j < n * zs.length -> (WE zs n)[j]? = some (.sc (zs.getD (j % zs.length) undef))
 | 0, j, h => by simp at h
 | n + 1, j, h => by
  rw [Nat.add_one_mul] at h
  simp only [WE, List.getElem?_append, List.length_map]
  split
  ·rename_i hlt
   rw [Nat.mod_eq_of_lt hlt]
   simp [List.getD, hlt]
  ·rename_i hge
   rw [zerosD_get zs n (j - zs.length) (by omega)]
   rw [<- Nat.mod_eq_sub_mod (by omega)]
theorem madeRow {L : Lay} {zs : List Value} {n : Nat} (h1 : (zs.all (·.oneCell')) = true) : Cells L (WE zs n) ((Array.range (n * zs.length)).map (zs.toArray[· % zs.toArray.size]!)) := by
 have hget : ∀ j, j < n * zs.length -> ((Array.range (n * zs.length)).map (zs.toArray[· % zs.toArray.size]!)).getD j undef = zs.getD (j % zs.length) undef := fun j hj => by
  have hz : 0 < zs.length := by
   rcases Nat.eq_zero_or_pos zs.length with h|h
   ·rw [h] at hj;simp at hj
   ·exact h
  have hm := Nat.mod_lt j hz
  simp [Array.getD_eq_getD_getElem?, hj, List.getD, hm]
 refine ⟨by simp [Z8], fun u hu => ?_, fun j e hj => ?_⟩
 ·simp only [Array.toList_map, List.mem_map] at hu
  obtain ⟨j, hj, rfl⟩ := hu
  simp at hj
  have hz : 0 < zs.length := by
   rcases Nat.eq_zero_or_pos zs.length with h|h
   ·rw [h] at hj;simp at hj
   ·exact h
  have hm := Nat.mod_lt j hz
  rw [getElem!_pos zs.toArray (j % zs.toArray.size) (by simpa using hm)]
  exact List.all_eq_true.1 h1 _ (by simp)
 ·have hlt : j < n * zs.length := by have := (List.getElem?_eq_some_iff.1 hj).1;rwa [Z8] at this
  rw [zerosD_get zs n j hlt] at hj
  cases hj
  rw [hget j hlt]
  refine ⟨?_, .sc _⟩
  have hz : 0 < zs.length := by
   rcases Nat.eq_zero_or_pos zs.length with h|h
   ·rw [h] at hlt;simp at hlt
   ·exact h
  have hm := Nat.mod_lt j hz
  have : zs.getD (j % zs.length) undef = zs[j % zs.length] := by simp [List.getD, hm]
  simp only [DV.one, this]
  exact List.all_eq_true.1 h1 _ (List.getElem_mem _)
theorem run_buildSlice {t e n size : Nat} {g1 g2 : Bool} {z1 : Nat} {td : TypeDesc} {zs : List Value} {X : AX} {ρ : Operand -> Value} {ps : List (Nat × Operand)} {m : List (Nat × DV)} {cs : List DV} (ht : TyI P t (.slice e) g1 z1) (he : TyI P e td g2 size) (hz : TyZ P e zs) (hzl : zs.length = size)
  (hf : ∀ p ∈ ps, VRep X.lay (f p.2) (ρ p.2)) (hp : partsD f ps = some m) (hn : n * size <= 16777216) (hc : fillD (fun i => some (i * size, size)) (WE zs n) m = some cs) :
  ∃ arr, (Instr.buildSlice t n ((ps.toArray).map fun (i, x) => (i, ρ x))).run P X.w = .ok (.slice (some ⟨X.w.heap.size, 0, none⟩) n n) (X.w.alloc (.cells arr e)) /\ Cells X.lay cs arr := by
 obtain ⟨z, h3, h4⟩ := run_zero hz X.w
 obtain ⟨g1, g2⟩ := parts_rep hf hp
 obtain ⟨arr, k1, k2⟩ := fill_rep m _ _ cs _ g1 g2 (madeRow (L := X.lay) (n := n) hz.one) hc
 refine ⟨arr, ?_, k2⟩
 have hn' : ¬ (n * size > 2 ^ 24) := by omega
 unfold Instr.buildSlice
 simp only [Sem.run_bind, run_underlying ht.u, Zv he, Result.andThen_ok, hn', if_false, Sem.run_pure]
 by_cases h0 : n * size = 0
 ·have hr : (Array.range (n * zs.length)).map (zs.toArray[· % zs.toArray.size]!) = #[] := by rw [hzl, h0];simp
  rw [hr] at k1
  simp only [h0, if_true, Sem.run_pure, Result.andThen_ok, Sem.run_bind, List.map_toArray]
  have hr' : ((Array.range 0).map ((#[] : Array Value)[· % (#[] : Array Value).size]!)) = #[] := by simp
  simp only [hr', k1, newRow, Sem.run_bind, run_newObj, Result.andThen_ok, Sem.run_pure, World.alloc_eq]
 ·simp only [h0, if_false, Sem.run_bind, h3, Result.andThen_ok, Sem.run_pure, h4, List.map_toArray]
  rw [<- hzl]
  rw [hzl] at k1 ⊢
  simp only [k1, newRow, Sem.run_bind, run_newObj, Result.andThen_ok, Sem.run_pure, World.alloc_eq]
theorem W5 {t e n size : Nat} {g1 g2 : Bool} {z1 : Nat} {td : TypeDesc} {zs : List Value} {ps : List (Nat × Operand)} {m : List (Nat × DV)} {cs : List DV} [ht : TyI P t (.slice e) g1 z1] [he : TyI P e td g2 size] [hz : TyZ P e zs] (hzl : zs.length = size) (hp : partsD f ps = some m) (hn : n * size <= 16777216)
  (hc : fillD (fun i => some (i * size, size)) (WE zs n) m = some cs) (k : K (.sl size cs) σ) : OpSem P G B ⟨dst, .buildSlice t n ps.toArray, type, pos, after, gd⟩ f σ K := fun X ρ hS hσ _ _ hf => by
 subst hσ
 obtain ⟨arr, h1, h2, h3, h4⟩ := run_buildSlice ht he hz hzl (fun p hpp => hf p.2 (by simp only [Op.operands];simpa using ⟨p.1, hpp⟩)) hp hn hc
 simp only [execOp, h1, Sem.run_bind, Sem.run_pure, Result.andThen_ok]
 have hk := Keep.alloc X.w (.cells arr e)
 have hE := WExt.inW hk
 have hlen : n * size = cs.length := by
  have : ∀ (m : List (Nat × DV)) (l r : List DV), fillD (fun i => some (i * size, size)) l m = some r -> r.length = l.length := by
   intro m
   induction m with
   | nil => intro l r h;simp only [fillD] at h;rw [forceD_eq h]
   | cons p m ih =>
    intro l r h
    obtain ⟨i, d⟩ := p
    simp only [fillD] at h
    split at h
    ·cases h
    ·split at h
     ·cases h
     ·split at h
      ·cases h
      ·split at h
       ·cases h
       ·rename_i l' hl'
        rw [ih _ _ h, (spliceD_eq hl').1]
  rw [this m _ _ hc, Z8, hzl]
 refine ⟨X.inW (X.w.alloc (.cells arr e)), rfl, hS.inW hk, hE, _, ?_, k⟩
 refine .sl _ _ _ _ _ (fun j => arr.getD j undef) hlen (Nat.le_refl _) (fun d hd => by obtain ⟨j, hj⟩ := List.mem_iff_getElem?.1 hd;exact (h4 j d hj).1) (.inr ⟨_, 0, rfl, fun j hj => ?_⟩) fun j d hj => (h4 j d hj).2.ext hE
 refine AX.imm_mk (fun hm => ?_) (fun hh => ?_) ?_
 ·have : X.w.heap.size < X.w.heap.size := hS.mut_lt hm
  omega
 ·have : X.w.heap.size < X.w.heap.size := hS.hidlt _ hh
  omega
 ·have : 0 + j < arr.size := by omega
  simp only [Nat.zero_add] at this ⊢
  show (X.w.alloc (.cells arr e)).cell? ⟨X.w.heap.size, j, none⟩ = _
  rw [cell_of_row _ _ _ _ _ _ (heap_alloc_new _ _)]
  simp [Array.getD_eq_getD_getElem?, this]
theorem s_bslice_own {t e n size : Nat} {g1 g2 : Bool} {z1 : Nat} {td : TypeDesc} {zs : List Value} {ps : List (Nat × Operand)} {m : List (Nat × DV)} {cs : List DV} [ht : TyI P t (.slice e) g1 z1] [he : TyI P e td g2 size] [hz : TyZ P e zs] (hzl : zs.length = size) (hp : partsD f ps = some m) (hn : n * size <= 16777216)
  (hc : fillD (fun i => some (i * size, size)) (WE zs n) m = some cs) (hlen : cs.length = n * size) (k : ∀ g, B < g -> K (.ref σ.length g 0 n size) (σ ++ [.row g cs])) : OpSem P G B ⟨dst, .buildSlice t n ps.toArray, type, pos, after, gd⟩ f σ K := fun X ρ hS hσ hB _ hf => by
 subst hσ
 obtain ⟨arr, h1, h2, h3, h4⟩ := run_buildSlice ht he hz hzl (fun p hpp => hf p.2 (by simp only [Op.operands];simpa using ⟨p.1, hpp⟩)) hp hn hc
 simp only [execOp, h1, Sem.run_bind, Sem.run_pure, Result.andThen_ok]
 refine post_new (v := fun b => .slice (some ⟨b, 0, none⟩) n n) (d := fun g => .ref X.σ.length g 0 n size) hS hB (Keep.alloc _ _) (Nat.le_refl _) (heap_alloc_new _ _) (by omega) h4 (fun L h1 h2' => ?_) k
 refine .ref _ _ _ _ _ _ _ _ h1 fun ob hob => ?_
 rw [h2'] at hob
 rw [<- Option.some.inj hob]
 exact ⟨_, n, rfl, Nat.le_refl _, .inr ⟨rfl, by omega⟩⟩
theorem s_make {t e size bytes : Nat} {g1 g2 : Bool} {z1 : Nat} {td : TypeDesc} {zs : List Value} {x y : Operand} {n c : Int} {k1 k2 : IntKind} [ht : TyI P t (.slice e) g1 z1] [he : TyI P e td g2 size] [hb : TyB P e bytes] [hz : TyZ P e zs] (hzl : zs.length = size) (hx : f x = .sc (.int k1 n)) (hy : f y = .sc (.int k2 c))
  (h0 : 0 <= n) (hnc : n <= c) (hcb : bytes * c <= 281474976710656) (hcm : c <= 9223372036854775807) (k : ∀ g, B < g -> K (.ref σ.length g 0 n.toNat size) (σ ++ [.row g (WE zs n.toNat)])) : OpSem P G B ⟨dst, .makeSlice t x y, type, pos, after, gd⟩ f σ K := fun X ρ hS hσ hB _ hf => by
 subst hσ
 have e1 := hf x (by simp [Op.operands, Call.operands]);rw [hx] at e1
 have e2 := hf y (by simp [Op.operands, Call.operands]);rw [hy] at e2
 obtain ⟨i, hi⟩ : ∃ i, P.info? e = some i := by have := he.s;cases h : P.info? e with|none => simp [h] at this|some i => exact ⟨i, rfl⟩
 have hbb : i.bytes = bytes := by have := hb.b;simpa [hi] using this
 obtain ⟨z, h3, h4⟩ := run_zero hz X.w
 have hrow := madeRow (L := X.lay) (zs := zs) (n := c.toNat) hz.one
 have hw1 : IntKind.i64.wrap n = n := wrap_i64 (by omega)
 have hw2 : IntKind.i64.wrap c = c := wrap_i64 (by omega)
 have hrun : (Instr.makeSlice t (.int k1 n) (.int k2 c)).run P X.w = .ok (.slice (some ⟨X.w.heap.size, 0, none⟩) n.toNat c.toNat) (X.w.alloc (.cells ((Array.range (c.toNat * zs.length)).map (zs.toArray[· % zs.toArray.size]!)) e)) := by
  have hc1 : ¬ c < 0 := by omega
  have hc2 : ¬ (281474976710656 < (bytes : Int) * c) := by omega
  have hn1 : ¬ n < 0 := by omega
  have hn2 : ¬ c < n := by omega
  by_cases h00 : c.toNat * size = 0
  ·have hr : (Array.range (c.toNat * zs.length)).map (zs.toArray[· % zs.toArray.size]!) = #[] := by rw [hzl, h00];simp
   rw [hr]
   simp [Instr.makeSlice, run_underlying ht.u, asInt, asIntOf, typeInfo, hi, hbb, hw1, hw2, hc1, hc2, hn1, hn2, run_askRoom, Zv he, h00, newRow]
   congr 2
   exact Array.map_eq_empty_iff.2 (by simp)
  ·simp [Instr.makeSlice, run_underlying ht.u, asInt, asIntOf, typeInfo, hi, hbb, hw1, hw2, hc1, hc2, hn1, hn2, run_askRoom, Zv he, h00, newRow, h3, h4, hzl]
 simp only [execOp, VRep.sc_eq e1, VRep.sc_eq e2, hrun, Sem.run_bind, Sem.run_pure, Result.andThen_ok]
 have hasz : ((Array.range (c.toNat * zs.length)).map (zs.toArray[· % zs.toArray.size]!)).size = c.toNat * size := by simp [hzl]
 have hle : (WE zs n.toNat).length <= c.toNat * size := by rw [Z8, hzl];exact Nat.mul_le_mul_right _ (by omega)
 refine post_new (v := fun b => .slice (some ⟨b, 0, none⟩) n.toNat c.toNat) (d := fun g => .ref X.σ.length g 0 n.toNat size) hS hB (Keep.alloc _ _) (Nat.le_refl _) (heap_alloc_new _ _) (by rw [hasz];exact hle) (fun j d hj => hrow.2.2 j d ?_) (fun L h1 h2' => ?_) k
 ·have hlt : j < n.toNat * zs.length := by have := (List.getElem?_eq_some_iff.1 hj).1;rwa [Z8] at this
  have hlt' : j < c.toNat * zs.length := Nat.lt_of_lt_of_le hlt (Nat.mul_le_mul_right _ (by omega))
  rw [zerosD_get zs _ j hlt] at hj
  rw [zerosD_get zs _ j hlt'];exact hj
 ·refine .ref _ _ _ _ _ _ _ _ h1 fun ob hob => ?_
  rw [h2', hasz] at hob
  rw [<- Option.some.inj hob]
  exact ⟨_, c.toNat, rfl, by omega, .inr ⟨rfl, by omega⟩⟩
end
section
variable {P : Program} {G : Nat -> DV}
theorem ACalls.mono {B : Nat} {f : FuncId} {args : List DV} {σ : List ABlk} {R R' : DV -> List ABlk -> Prop} (h : ACalls P G B f args σ R) (hr : ∀ d σ, R d σ -> R' d σ) : ACalls P G B f args σ R' := fun X vs hS hσ hB hG hv =>
 (h X vs hS hσ hB hG hv).mono fun _ _ ⟨v, he, X', h1, h2, h3, d, h4, h5⟩ => ⟨v, he, X', h1, h2, h3, d, h4, hr _ _ h5⟩
def AX.aside (X : AX) (view : Prop) : AX := { w := X.w, ρ := fun _ => none, σ := [], N := X.N, hid := fun b => X.hid b \/ (¬ view /\ X.mut b) }
theorem aside_live {X : AX} {v : Prop} {k g : Nat} : ¬ (X.aside v).live k g := by simp [AX.live, AX.aside]
theorem Z7 {X : AX} {v : Prop} {b : Nat} : ¬ (X.aside v).mut b := fun ⟨_, _, _, h, _⟩ => aside_live h
theorem Sto.aside {X : AX} (hS : Sto X) (v : Prop) : Sto (X.aside v) where
 inj := fun _ _ _ _ _ _ _ h => absurd h aside_live
 gen := fun _ _ h => absurd h aside_live
 hid := fun _ h => absurd h Z7
 hidlt := fun b h => by
  rcases h with h|⟨_, h⟩
  ·exact hS.hidlt b h
  ·exact hS.mut_lt h
 holds := fun k B h => by simp [AX.aside] at h
theorem aside_le {X : AX} (v : Prop) : X.lay.le (X.aside v).lay where
 imm := fun b o u h => by
  obtain ⟨_, h2, h3, h4⟩ := AX.imm_lt h
  exact AX.imm_mk Z7 (fun h => h.elim h3 (fun h => h2 h.2)) h4
 top := Nat.le_refl _
 row := fun k g ob _ h => absurd (AX.row_of h).1 aside_live
 shp := fun _ _ h => h
def AX.back (X Y : AX) : AX := { w := Y.w, ρ := X.ρ, σ := X.σ, N := Y.N, hid := X.hid }
theorem WExt.back {X Y : AX} {v : Prop} (hS : Sto X) (h : WExt (X.aside v) Y) : WExt X (X.back Y) where
 hid := rfl
 top := h.top
 os := h.os
 tape := h.tape
 output := h.output
 size := h.size
 old := fun b hb hm => ⟨(h.old b hb Z7).1, hm⟩
 rows := fun _ _ _ h => ⟨h, rfl⟩
 shp := h.shp
theorem Sto.back {X Y : AX} {v : Prop} (hS : Sto X) (h : WExt (X.aside v) Y) : Sto (X.back Y) where
 inj := hS.inj
 gen := fun k g hl => Nat.le_trans (hS.gen k g hl) h.top
 hid := hS.hid
 hidlt := fun b hb => Nat.lt_of_lt_of_le (hS.hidlt b hb) h.size
 holds := fun k B hB => by
  have hB' : X.σ[k]? = some B := hB
  cases hg : B.gen? with
  | none => cases B <;> first|trivial|cases hg
  | some g =>
   exact (hS.holds k B hB).mono (WExt.back hS h).le fun b n hb => (h.old b (hS.ρ_lt ((AX.live_get hB').2 hg) hb) Z7).1
theorem back_imm {X Y : AX} {v : Prop} (h : WExt (X.aside v) Y) (hv : ¬ v) (b o : Nat) (u : Value) (hi : Y.lay.imm b o = some u) : (X.back Y).lay.imm b o = some u := by
 obtain ⟨_, h2, h3, h4⟩ := AX.imm_lt hi
 rw [h.hid] at h3
 exact AX.imm_mk (fun hm => h3 (.inr ⟨hv, hm⟩)) (fun hh => h3 (.inl hh)) h4
def Pure (P : Program) (G : Nat -> DV) (f : FuncId) (args : List DV) (d : DV) : Prop := ∀ B, ACalls P G B f args [] (fun d' σ' => d' = d /\ σ' = [])
def Own (P : Program) (G : Nat -> DV) (f : FuncId) (args : List DV) (len es : Nat) (cs : List DV) : Prop := ∀ B, ACalls P G B f args [] (fun d' σ' => ∃ g, B < g /\ d' = .ref 0 g 0 len es /\ σ' = [.row g cs])
theorem Pure.lift {f : FuncId} {args : List DV} {d : DV} (h : Pure P G f args d) (hc : d.clo = true) {B : Nat} {σ : List ABlk} : ACalls P G B f args σ (fun d' σ' => d' = d /\ σ' = σ) := fun X vs hS hσ hB hG hv => by
 refine (h X.N (X.aside False) vs (hS.aside _) rfl (Nat.le_refl _) (fun g => ⟨(hG g).1, (hG g).2.mono (aside_le _)⟩) ⟨hv.1, fun j d hj => (hv.2 j d hj).mono (aside_le _)⟩).mono ?_
 rintro e w' ⟨v, he, Y, hw, hY, hE, d', hr, rfl, hσ'⟩
 subst hw
 exact ⟨v, he, X.back Y, rfl, hS.back hE, WExt.back hS hE, _, hr.mono_clo (back_imm hE id) hc, rfl, hσ⟩
theorem Own.lift {f : FuncId} {args : List DV} {len es : Nat} {cs : List DV} (h : Own P G f args len es cs) (hc : ∀ d ∈ cs, d.clo = true) {B : Nat} {σ : List ABlk} : ACalls P G B f args σ (fun d' σ' => ∃ g, B < g /\ d' = .ref σ.length g 0 len es /\ σ' = σ ++ [.row g cs]) := fun X vs hS hσ hB hG hv => by
 refine (h X.N (X.aside False) vs (hS.aside _) rfl (Nat.le_refl _) (fun g => ⟨(hG g).1, (hG g).2.mono (aside_le _)⟩) ⟨hv.1, fun j d hj => (hv.2 j d hj).mono (aside_le _)⟩).mono ?_
 rintro e w' ⟨v, he, Y, hw, hY, hE, d', hr, g, hg, rfl, hσ'⟩
 subst hw
 have hback := hS.back hE
 have hEb := WExt.back hS hE
 have hY0 : Y.σ[0]? = some (.row g cs) := by rw [hσ'];rfl
 have hlY : Y.live 0 g := Wt hY0
 have hgN : g <= Y.N := hY.gen 0 g hlY
 have hnew : ∀ b n, Y.ρ 0 = some (b, n) -> X.w.heap.size <= b := fun b n hb => by
  rcases Nat.lt_or_ge b X.w.heap.size with hlt|hge
  ·exact absurd ⟨0, g, n, hlY, hb⟩ (hE.old b hlt Z7).2
  ·exact hge
 let Z : AX := { w := Y.w, ρ := fun i => if i = X.σ.length then Y.ρ 0 else X.ρ i, σ := X.σ ++ [.row g cs], N := Y.N, hid := X.hid }
 have hlive : ∀ k g', Z.live k g' ↔ (k < X.σ.length /\ X.live k g') \/ (k = X.σ.length /\ g' = g) := fun k g' => by
  have := AX.push_live (X := X) (w' := Y.w) (ob := Y.ρ 0) (B := .row g cs) (k := k) (g := g')
  simp only [ABlk.gen?, Option.some.injEq] at this
  rw [show Z.live k g' ↔ (X.push Y.w (Y.ρ 0) (.row g cs)).live k g' from Iff.rfl, this]
  constructor <;> (rintro (h|⟨h1, h2⟩);exact .inl h;exact .inr ⟨h1, h2.symm⟩)
 have hρ1 : ∀ k, k < X.σ.length -> Z.ρ k = X.ρ k := fun k hk => by simp only [Z];rw [if_neg (by omega)]
 have hρ2 : Z.ρ X.σ.length = Y.ρ 0 := by simp only [Z, if_true]
 have hmut : ∀ b, Z.mut b -> X.mut b \/ X.w.heap.size <= b := fun b ⟨k, g', n, hl, hr⟩ => by
  rcases (hlive k g').1 hl with ⟨h1, h2⟩|⟨h1, _⟩
  ·rw [hρ1 k h1] at hr;exact .inl ⟨k, g', n, h2, hr⟩
  ·rw [h1, hρ2] at hr;exact .inr (hnew b n hr)
 have hEZ : WExt X Z := {
  hid := rfl, top := hE.top, os := hE.os, tape := hE.tape, output := hE.output, size := hE.size
  old := fun b hb hm => ⟨(hE.old b hb Z7).1, fun hz => by rcases hmut b hz with h|h;exact hm h;omega⟩
  rows := fun k g' hg' hl => by
   rcases (hlive k g').1 hl with ⟨h1, h2⟩|⟨h1, h2⟩
   ·exact ⟨h2, hρ1 k h1⟩
   ·omega
  shp := hE.shp }
 have himm : ∀ b o u, Y.lay.imm b o = some u -> Z.lay.imm b o = some u := fun b o u hi => by
  obtain ⟨_, h2, h3, h4⟩ := AX.imm_lt hi
  rw [hE.hid] at h3
  refine AX.imm_mk (fun hm => ?_) (fun hh => h3 (.inl hh)) h4
  obtain ⟨k, g', n, hl, hr⟩ := hm
  rcases (hlive k g').1 hl with ⟨h1, h5⟩|⟨h1, _⟩
  ·rw [hρ1 k h1] at hr;exact h3 (.inr ⟨id, k, g', n, h5, hr⟩)
  ·rw [h1, hρ2] at hr;exact h2 ⟨0, g, n, hlY, hr⟩
 have hSZ : Sto Z := {
  inj := fun k k' g1 g1' b n n' hl hl' hr hr' => by
   rcases (hlive k g1).1 hl with ⟨h1, h2⟩|⟨h1, h2⟩ <;> rcases (hlive k' g1').1 hl' with ⟨h1', h2'⟩|⟨h1', h2'⟩
   ·rw [hρ1 k h1] at hr;rw [hρ1 k' h1'] at hr';exact hS.inj k k' g1 g1' b n n' h2 h2' hr hr'
   ·rw [hρ1 k h1] at hr;rw [h1', hρ2] at hr';have := hS.ρ_lt h2 hr;have := hnew b n' hr';omega
   ·rw [hρ1 k' h1'] at hr';rw [h1, hρ2] at hr;have := hS.ρ_lt h2' hr';have := hnew b n hr;omega
   ·rw [h1, h1']
  gen := fun k g' hl => by
   rcases (hlive k g').1 hl with ⟨h1, h2⟩|⟨h1, h2⟩
   ·exact Nat.le_trans (hS.gen k g' h2) hE.top
   ·rw [h2];exact hgN
  hid := fun b ⟨k, g', n, hl, hr⟩ hh => by
   rcases (hlive k g').1 hl with ⟨h1, h2⟩|⟨h1, h2⟩
   ·rw [hρ1 k h1] at hr;exact hS.hid b ⟨k, g', n, h2, hr⟩ hh
   ·rw [h1, hρ2] at hr;have := hnew b n hr;have := hS.hidlt b hh;omega
  hidlt := fun b hb => Nat.lt_of_lt_of_le (hS.hidlt b hb) hE.size
  holds := fun k B' hB' => by
   simp only [Z, List.getElem?_append] at hB'
   split at hB'
   ·rename_i hlt
    rw [hρ1 k hlt]
    cases hg' : B'.gen? with
    | none => cases B' <;> first|trivial|cases hg'
    | some g' => exact (hS.holds k B' hB').mono hEZ.le fun b n hb => (hE.old b (hS.ρ_lt ((AX.live_get hB').2 hg') hb) Z7).1
   ·rename_i hge
    have hkl : k = X.σ.length := by
     rcases Nat.lt_or_ge (k - X.σ.length) 1 with h'|h'
     ·omega
     ·rw [List.getElem?_eq_none (by simpa using h')] at hB';cases hB'
    subst hkl
    simp at hB'
    subst hB'
    rw [hρ2]
    have hh := hY.holds 0 _ hY0
    cases hρ0 : Y.ρ 0 with
    | none => rw [hρ0] at hh;exact hh
    | some x =>
     obtain ⟨b, n⟩ := x
     rw [hρ0] at hh
     obtain ⟨arr, T, fr, q1, q2, q3, q4, q5⟩ := hh
     exact ⟨arr, T, fr, q1, q2, q3, q4, fun j d hj => ⟨(q5 j d hj).1, (q5 j d hj).2.mono_clo himm (hc d (List.mem_of_getElem? hj))⟩⟩ }
 have hinv := hr.ref_inv hY0
 refine ⟨v, he, Z, rfl, hSZ, hEZ, .ref X.σ.length g 0 len es, ?_, g, by omega, by rw [hσ], by rw [<- hσ]⟩
 cases hr with|ref _ _ _ _ _ a l c _ _ =>
 refine .ref _ _ _ _ _ _ _ _ hgN fun ob hob => ?_
 rw [AX.row_mk ((hlive _ _).2 (.inr ⟨rfl, rfl⟩)), hρ2] at hob
 rw [<- Option.some.inj hob]
 exact hinv
inductive View (σ : List ABlk) : List DV -> List DV -> Prop
 | nil : View σ [] []
 | same {d : DV} {r r' : List DV} : View σ r r' -> View σ (d :: r) (d :: r')
 | ref {k g len es : Nat} {cs : List DV} {r r' : List DV} : σ[k]? = some (.row g cs) -> len * es = cs.length -> (∀ d ∈ cs, d.clo = true) -> View σ r r' -> View σ (.ref k g 0 len es :: r) (.sl es cs :: r')
theorem view_sl {X : AX} (hS : Sto X) {k g len es : Nat} {cs : List DV} {v : Value} (hσ : X.σ[k]? = some (.row g cs)) (hl : len * es = cs.length) (h : VRep X.lay (.ref k g 0 len es) v) : VRep (X.aside True).lay (.sl es cs) v := by
 obtain ⟨a, cap, rfl, h1, h2⟩ := h.ref_slice hσ
 by_cases h0 : len = 0
 ·subst h0
  have : cs = [] := List.eq_nil_of_length_eq_zero (by omega)
  subst this
  exact .sl _ _ _ _ _ (fun _ => undef) (by simp) h1 (fun d hd => by simp at hd) (.inl rfl) (fun j d hj => by simp at hj)
 ·obtain ⟨b, n, hρ, rfl, h3⟩ := h2 (by omega)
  obtain ⟨arr, T, fr, g1, g2, g3, g4, g5⟩ := hS.row hσ hρ
  refine .sl _ _ _ _ _ (fun j => arr.getD j undef) hl h1 (fun d hd => ?_) (.inr ⟨b, 0, rfl, fun j hj => ?_⟩) (fun j d hj => (g5 j d hj).2.mono (aside_le _))
  ·obtain ⟨j, hj⟩ := List.mem_iff_getElem?.1 hd
   exact (g5 j d hj).1
  ·refine AX.imm_mk Z7 (fun hh => hh.elim (fun hh => hS.hid b ⟨k, g, n, Wt hσ, hρ⟩ hh) (fun hh => hh.1 trivial)) ?_
   have : 0 + j < arr.size := by omega
   simp only [Nat.zero_add] at this ⊢
   show X.w.cell? ⟨b, j, none⟩ = _
   rw [cell_of_row _ _ _ _ _ _ g1]
   simp [Array.getD_eq_getD_getElem?, this]
theorem View.get {X : AX} (hS : Sto X) {ds es : List DV} (h : View X.σ ds es) : ds.length = es.length /\ ∀ (j : Nat) (d e : DV) (v : Value), ds[j]? = some d -> es[j]? = some e -> VRep X.lay d v -> VRep (X.aside True).lay e v := by
 induction h with
 | nil => exact ⟨rfl, fun j d e v hd => by simp at hd⟩
 | same _ ih =>
  refine ⟨by simp [ih.1], fun j d e v hd he hv => ?_⟩
  cases j with
  | zero => simp at hd he;subst hd;subst he;exact hv.mono (aside_le _)
  | succ j => exact ih.2 j d e v (by simpa using hd) (by simpa using he) hv
 | ref h1 h2 _ _ ih =>
  refine ⟨by simp [ih.1], fun j d e v hd he hv => ?_⟩
  cases j with
  | zero => simp at hd he;subst hd;subst he;exact view_sl hS h1 h2 hv
  | succ j => exact ih.2 j d e v (by simpa using hd) (by simpa using he) hv
def DV.flat : DV -> Bool
 | .sc _ => true
 | .any => true
 | .tup vs => vs.all fun|.sc _ => true|.any => true|_ => false
 | .agg vs => vs.all fun|.sc _ => true|.any => true|_ => false
 | _ => false
theorem VRep.flat {L L' : Lay} {d : DV} {v : Value} (h : VRep L d v) (hf : d.flat = true) : VRep L' d v := by
 have one : ∀ e u, (match e with|DV.sc _ => true|DV.any => true|_ => false) = true -> VRep L e u -> VRep L' e u := fun e u he hu => by
  cases hu <;> first|exact .sc _|exact .any _|simp at he
 cases h with
 | any v => exact .any v
 | sc v => exact .sc v
 | tup cs vs h1 h2 => exact .tup _ _ h1 fun j e hj => one e _ (List.all_eq_true.1 hf e (List.mem_of_getElem? hj)) (h2 j e hj)
 | agg cs vs h1 h2 h3 => exact .agg _ _ h1 h2 fun j e hj => one e _ (List.all_eq_true.1 hf e (List.mem_of_getElem? hj)) (h3 j e hj)
 | _ => simp [DV.flat] at hf
theorem Pure.view {f : FuncId} {args args' : List DV} {d : DV} (h : Pure P G f args' d) (hf : d.flat = true) {B : Nat} {σ : List ABlk} (hv : View σ args args') : ACalls P G B f args σ (fun d' σ' => d' = d /\ σ' = σ) := fun X vs hS hσ hB hG hvs => by
 subst hσ
 obtain ⟨g1, g2⟩ := hv.get hS
 refine (h X.N (X.aside True) vs (hS.aside _) rfl (Nat.le_refl _) (fun g => ⟨(hG g).1, (hG g).2.mono (aside_le _)⟩) ⟨by rw [hvs.1, g1], fun j e hj => ?_⟩).mono ?_
 ·have hlt : j < args.length := by rw [g1];exact (List.getElem?_eq_some_iff.1 hj).1
  exact g2 j _ e _ (List.getElem?_eq_getElem hlt) hj (hvs.2 j _ (List.getElem?_eq_getElem hlt))
 ·rintro e w' ⟨v, he, Y, hw, hY, hE, d', hr, rfl, hσ'⟩
  subst hw
  exact ⟨v, he, X.back Y, rfl, hS.back hE, WExt.back hS hE, _, hr.flat hf, rfl, rfl⟩
variable {B : Nat} {f : Operand -> DV} {σ : List ABlk} {K : DV -> List ABlk -> Prop} {dst : Option Tmp} {type : TypeId} {pos : String} {after : Array Edge} {gd : Option (Nat × Bool)}
theorem qk {args : Array Operand} {ts : Array TypeId} {fid : FuncId} {ds : List DV} {d : DV} [FnOk P fid] (hx : f (.func fid) = .fn (.func fid) [] []) (hds : reL (args.toList.map f) = some ds) (h : Pure P G fid ds d) (hc : d.clo = true) (k : K d σ) :
  OpSem P G B ⟨dst, .call ⟨.value (.func fid), args, ts⟩, type, pos, after, gd⟩ f σ K := s_call hx hds ((h.lift hc).mono fun _ _ ⟨h1, h2⟩ => by rw [h1, h2];exact k)
theorem s_call_o {args : Array Operand} {ts : Array TypeId} {fid : FuncId} {ds cs : List DV} {len es : Nat} [FnOk P fid] (hx : f (.func fid) = .fn (.func fid) [] []) (hds : reL (args.toList.map f) = some ds) (h : Own P G fid ds len es cs) (hc : ∀ d ∈ cs, d.clo = true) (k : ∀ g, B < g -> K (.ref σ.length g 0 len es) (σ ++ [.row g cs])) :
  OpSem P G B ⟨dst, .call ⟨.value (.func fid), args, ts⟩, type, pos, after, gd⟩ f σ K := s_call hx hds ((h.lift hc).mono fun _ _ ⟨g, hg, h1, h2⟩ => by rw [h1, h2];exact k g hg)
theorem s_call_v {args : Array Operand} {ts : Array TypeId} {fid : FuncId} {ds ds' : List DV} {d : DV} [FnOk P fid] (hx : f (.func fid) = .fn (.func fid) [] []) (hds : reL (args.toList.map f) = some ds) (hv : View σ ds ds') (h : Pure P G fid ds' d) (hf : d.flat = true) (k : K d σ) :
  OpSem P G B ⟨dst, .call ⟨.value (.func fid), args, ts⟩, type, pos, after, gd⟩ f σ K := s_call hx hds ((h.view hf hv).mono fun _ _ ⟨h1, h2⟩ => by rw [h1, h2];exact k)
theorem Own.pure {f : FuncId} {args : List DV} {len es : Nat} {cs : List DV} (h : Own P G f args len es cs) (hl : len * es = cs.length) : Pure P G f args (.sl es cs) := fun B X vs hS hσ hB hG hv => by
 refine (h B X vs hS hσ hB hG hv).mono ?_
 rintro e w' ⟨v, he, Y, hw, hY, hE, d', hr, g, hg, rfl, hσ'⟩
 subst hw
 have hY0 : Y.σ[0]? = some (.row g cs) := by rw [hσ'];rfl
 have h1 := pub_rep hY hY0 hl hr
 have h2 := sto_gone hY 0
 have h3 := qo (X := Y) 0
 have h4 : WExt { Y with σ := Y.σ.set 0 .gone } { Y with σ := [] } := WExt.shrink fun k g hg => by simp at hg
 exact ⟨v, he, { Y with σ := [] }, rfl, h2.shrink fun k B hB => by simp at hB, hE.trans (h3.trans h4), _, h1.ext h4, rfl, rfl⟩
/-! The ends of such calls. -/
variable {E : AX} {n : Nat} {st : ASt}
theorem Qd {d d' : DV} {σ : List ABlk} (h : d' = d) : AClose E (fun d' σ' => d' = d /\ σ' = []) d' σ := c_nil ⟨h, rfl⟩
end
end Go.Av
end
