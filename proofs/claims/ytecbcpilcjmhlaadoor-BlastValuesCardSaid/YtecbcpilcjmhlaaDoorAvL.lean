/-
  Maps whose keys are integers: made, written, asked, handed back.
-/
import Derived.Test.YtecbcpilcjmhlaaDoorAvK
namespace Go.Av
open Classical
set_option linter.unusedSimpArgs false
set_option linter.unusedVariables false

/-! What a map with integers for keys holds. -/
def imap (l : List (Int × DV)) : List (Value × DV) := l.map fun p => (.int .i64 p.1, p.2)
def ifind (l : List (Int × DV)) (x : Int) : Option Nat := l.findIdx? fun p => decide (p.1 = x)
def iput (l : List (Int × DV)) (x : Int) (d : DV) : List (Int × DV) := match ifind l x with
  | some j => l.set j (x, d)
  | none => l ++ [(x, d)]
/-- A map from integers to true: a set. -/
def sset (S : List Int) : List (Int × DV) := S.map fun x => (x, .sc (.bool true))
def sput (S : List Int) (x : Int) : List Int := if x ∈ S then S else S ++ [x]
theorem ifind_some {l : List (Int × DV)} {x : Int} {j : Nat} (h : ifind l x = some j) : ∃ hj : j < l.length, l[j].1 = x ∧ ∀ i (hi : i < j), (l[i]'(by omega)).1 ≠ x := by
  obtain ⟨h1, h2, h3⟩ := List.findIdx?_eq_some_iff_getElem.1 h
  exact ⟨h1, of_decide_eq_true h2, fun i hi e => h3 i hi (decide_eq_true e)⟩
theorem ifind_none {l : List (Int × DV)} {x : Int} (h : ifind l x = none) : ∀ p ∈ l, p.1 ≠ x := fun p hp e => by
  have := List.findIdx?_eq_none_iff.1 h p hp
  exact of_decide_eq_false this e
theorem sset_put (S : List Int) (x : Int) : iput (sset S) x (.sc (.bool true)) = sset (sput S x) := by
  unfold iput sput
  cases h : ifind (sset S) x with
  | none =>
    have : x ∉ S := fun hx => ifind_none h (x, .sc (.bool true)) (List.mem_map.2 ⟨x, hx, rfl⟩) rfl
    rw [if_neg this]; simp [sset]
  | some j =>
    obtain ⟨hj, h1, h2⟩ := ifind_some h
    have hj' : j < S.length := by simpa [sset] using hj
    have e : S[j] = x := by simpa [sset] using h1
    rw [if_pos (e ▸ List.getElem_mem hj')]
    refine List.ext_getElem (by simp) fun i hi1 hi2 => ?_
    rw [List.getElem_set]
    split
    · rename_i hij; subst hij; simp [sset, e]
    · rfl

theorem findNow_none {K : IntKind} {x : Int} : ∀ (es : List MapEntry) (i0 : Nat), (∀ e ∈ es, ∃ y, y ≠ x ∧ e.key = .int .i64 y) → Instr.findNow (.int K) (.int .i64 x) es i0 = some none
  | [], _, _ => rfl
  | e :: r, i0, h => by
    obtain ⟨y, hy, hk⟩ := h e (by simp)
    have : (x == y) = false := by simpa using fun e => hy e.symm
    simp only [Instr.findNow, hk, Instr.sameNow, if_true, this]
    exact findNow_none r _ fun e he => h e (by simp [he])
theorem findNow_some {K : IntKind} {x : Int} : ∀ (es : List MapEntry) (i0 j : Nat) (hj : j < es.length), es[j].key = .int .i64 x → (∀ i (hi : i < j), ∃ y, y ≠ x ∧ (es[i]'(by omega)).key = .int .i64 y) → Instr.findNow (.int K) (.int .i64 x) es i0 = some (some (i0 + j, es[j].val))
  | [], _, _, hj, _, _ => by simp at hj
  | e :: r, i0, 0, _, hk, _ => by
    have hk : e.key = .int .i64 x := hk
    simp only [Instr.findNow, hk, Instr.sameNow, if_true, beq_self_eq_true]
    rfl
  | e :: r, i0, j + 1, hj, hk, hno => by
    obtain ⟨y, hy, hke⟩ := hno 0 (by omega)
    have hke : e.key = .int .i64 y := hke
    have : (x == y) = false := by simpa using fun e => hy e.symm
    simp only [Instr.findNow, hke, Instr.sameNow, if_true, this]
    have := findNow_some (K := K) r (i0 + 1) j (by simpa using hj) (by simpa using hk) (fun i hi => by have := hno (i + 1) (by omega); simpa using this)
    rw [this]
    simp; omega

section
variable {P : Program} {G : Nat → DV} {B : Nat} {f : Operand → DV} {σ : List ABlk} {K : DV → List ABlk → Prop} {dst : Option Tmp} {type : TypeId} {pos : String} {after : Array Edge} {gd : Option (Nat × Bool)}

theorem live_map {X : AX} {k g : Nat} {m : List (Value × DV)} (h : X.σ[k]? = some (.mapb g m)) : X.live k g := by unfold AX.live; rw [h]; rfl
theorem Sto.map {X : AX} (hS : Sto X) {k g : Nat} {m : List (Value × DV)} (h : X.σ[k]? = some (.mapb g m)) : ∃ b n es clock, X.ρ k = some (b, n) ∧ X.w.heap[b]? = some (.map es clock) ∧ es.size = m.length ∧ (∀ e ∈ es, e.born < clock) ∧
    ∀ (j : Nat) (k : Value) (d : DV), m[j]? = some (k, d) → (es.getD j default).key = k ∧ VRep X.lay d (es.getD j default).val := hS.holds k _ h
theorem VRep.mp_inv {X : AX} {k g : Nat} {m : List (Value × DV)} {v : Value} (hm : X.σ[k]? = some (.mapb g m)) (h : VRep X.lay (.mp k g) v) {b n : Nat} (hρ : X.ρ k = some (b, n)) : v = .map (some b) := by
  cases h with | mp _ _ r h1 h2 =>
  obtain ⟨b', n', e1, e2⟩ := h2 _ (AX.row_mk (live_map hm))
  rw [hρ] at e1; cases e1
  rw [e2]

/-- A new map. -/
theorem s_mkmap {t : TypeId} (k : ∀ g, B < g → K (.mp σ.length g) (σ ++ [.mapb g (imap [])])) : OpSem P G B ⟨dst, .makeMap t none, type, pos, after, gd⟩ f σ K := fun X ρ hS hσ hB _ hf => by
  subst hσ
  simp only [execOp, Instr.makeMap, Option.map_none, run_newObj, Sem.run_bind, Sem.run_pure, Result.andThen_ok, World.alloc_eq]
  have hob : ∀ b' n, some (X.w.heap.size, 0) = some (b', n) → X.w.heap.size ≤ b' := fun b' n h => by cases h; exact Nat.le_refl _
  have hk := Keep.alloc X.w (.map #[] 0)
  have hh : (ABlk.mapb (X.N + 1) (imap [])).holds X.lay (X.w.alloc (.map #[] 0)) (some (X.w.heap.size, 0)) :=
    ⟨_, _, #[], 0, rfl, heap_alloc_new _ _, rfl, fun e he => by simp at he, fun j k d h => by simp [imap] at h⟩
  have hS' := hS.push hk (B := .mapb (X.N + 1) (imap [])) rfl hob hh
  refine ⟨_, rfl, hS', WExt.push hS hk rfl hob, .mp X.σ.length (X.N + 1), ?_, k (X.N + 1) (by omega)⟩
  refine .mp _ _ _ (Nat.le_refl _) fun ob hob => ?_
  rw [AX.row_mk (AX.push_live.2 (.inr ⟨rfl, rfl⟩))] at hob
  simp only [AX.push, if_true, Option.some.injEq] at hob
  subst hob
  exact ⟨_, _, rfl, rfl⟩

theorem map_keys {X : AX} {l : List (Int × DV)} {es : Array MapEntry} (hl : es.size = (imap l).length) (h : ∀ (j : Nat) (k : Value) (d : DV), (imap l)[j]? = some (k, d) → (es.getD j default).key = k ∧ VRep X.lay d (es.getD j default).val) :
    es.size = l.length ∧ ∀ j (hj : j < l.length) (hj' : j < es.toList.length), es.toList[j].key = .int .i64 l[j].1 ∧ VRep X.lay l[j].2 es.toList[j].val := by
  have hl' : es.size = l.length := by simpa [imap] using hl
  refine ⟨hl', fun j hj hj' => ?_⟩
  have := h j (.int .i64 l[j].1) l[j].2 (by simp [imap, hj])
  have e : es.getD j default = es.toList[j] := by simp [Array.getD_eq_getD_getElem?, show j < es.size by omega]
  rwa [e] at this

theorem run_lookup_some {m kt et : TypeId} {KK : IntKind} {td : TypeDesc} {w : World} {b clock j : Nat} {es : Array MapEntry} {x : Int} (hm : P.underlying m = some (.map kt et)) (hk : P.underlying kt = some (.int .i64)) (hb : w.heap[b]? = some (.map es clock)) {v : Value} (hf : Instr.findNow (.int .i64) (.int .i64 x) es.toList 0 = some (some (j, v))) :
    (Instr.lookup m (.map (some b)) (.int .i64 x) false).run P w = .ok v w := by
  simp [Instr.lookup, run_underlying hm, MapKept.run_getObj_map hb, MapKept.run_checkKey hk (k := .int .i64 x) rfl, MapKept.run_findKey hk hf, Result.andThen]

/-- A set is asked. -/
theorem s_lookup_set {t kt et : TypeId} {agg a1 : Bool} {size s1 : Nat} {m ix : Operand} {k g : Nat} {S : List Int} {x : Int} [ht : TyI P t (.map kt et) agg size] [hkt : TyI P kt (.int .i64) a1 s1] (hm : f m = .mp k g) (hσk : σ[k]? = some (.mapb g (imap (sset S)))) (hx : f ix = .sc (.int .i64 x)) (hz : (P.info? et).bind (·.zero) = some (.bool false))
    (kk : K (.sc (.bool (S.contains x))) σ) : OpSem P G B ⟨dst, .lookup t m ix false, type, pos, after, gd⟩ f σ K := fun X ρ hS hσ hB _ hf => by
  subst hσ
  have e1 := hf m (by simp [Op.operands]); rw [hm] at e1
  have e2 := hf ix (by simp [Op.operands]); rw [hx] at e2
  have e2 := VRep.sc_eq e2
  obtain ⟨b, n, es, clock, hρ, hb, hl, _, hes⟩ := hS.map hσk
  have e1 := VRep.mp_inv hσk e1 hρ
  obtain ⟨hl', hkey⟩ := map_keys hl hes
  have hls : es.toList.length = S.length := by simpa [sset] using hl'
  have hke : ∀ j (hj : j < es.toList.length), es.toList[j].key = .int .i64 (S[j]'(by omega)) ∧ es.toList[j].val = .bool true := fun j hj => by
    obtain ⟨h1, h2⟩ := hkey j (by simp [sset]; omega) hj
    refine ⟨by rw [h1]; simp [sset], ?_⟩
    have e : ((sset S)[j]'(by simp [sset]; omega)).2 = .sc (.bool true) := by simp [sset]
    rw [e] at h2
    exact VRep.sc_eq h2
  have hrun : (Instr.lookup t (ρ m) (ρ ix) false).run P X.w = .ok (.bool (S.contains x)) X.w := by
    rw [e1, e2]
    cases hfi : S.findIdx? (fun y => decide (y = x)) with
    | none =>
      have hno := List.findIdx?_eq_none_iff.1 hfi
      have hc : S.contains x = false := by
        cases hc : S.contains x
        · rfl
        · exact absurd rfl (of_decide_eq_false (hno x (List.contains_iff_mem.1 hc)))
      have hf := findNow_none (K := .i64) (x := x) es.toList 0 fun e he => by
        obtain ⟨j, hj, rfl⟩ := List.getElem_of_mem he
        exact ⟨_, of_decide_eq_false (hno _ (List.getElem_mem (show j < S.length by omega))), (hke j hj).1⟩
      have h1 : (zeroValue et).run P X.w = .ok (.bool false) X.w := by
        cases hi : P.info? et with
        | none => simp [hi] at hz
        | some i =>
          simp [hi] at hz
          simp [zeroValue, typeInfo, hi, hz, Result.andThen]
      rw [hc]
      simp [Instr.lookup, run_underlying ht.u, MapKept.run_getObj_map hb, MapKept.run_checkKey hkt.u (k := .int .i64 x) rfl, MapKept.run_findKey hkt.u hf, Result.andThen, h1]
    | some j =>
      obtain ⟨h1, h2, h3⟩ := List.findIdx?_eq_some_iff_getElem.1 hfi
      have hj : j < es.toList.length := by omega
      have e : S[j] = x := of_decide_eq_true h2
      have hc : S.contains x = true := List.contains_iff_mem.2 (e ▸ List.getElem_mem h1)
      have hf := findNow_some (K := .i64) (x := x) es.toList 0 j hj (by rw [(hke j hj).1, e]) fun i hi => ⟨_, fun e => h3 i hi (decide_eq_true e), (hke i (by omega)).1⟩
      rw [hc, ← (hke j hj).2]
      exact run_lookup_some (KK := .i64) (td := .bool) ht.u hkt.u hb hf
  simp only [execOp, hrun, Sem.run_bind, Sem.run_pure, Result.andThen_ok]
  exact ⟨X, rfl, hS, WExt.refl X, _, .sc _, kk⟩

theorem run_mapUpdate_new {m kt et : TypeId} {w : World} {b clock : Nat} {es : Array MapEntry} {x : Int} {v : Value} (hm : P.underlying m = some (.map kt et)) (hk : P.underlying kt = some (.int .i64)) (hb : w.heap[b]? = some (.map es clock)) (hf : Instr.findNow (.int .i64) (.int .i64 x) es.toList 0 = some none) :
    (Instr.mapUpdate m (.map (some b)) (.int .i64 x) v).run P w = .ok () { w with heap := w.heap.setIfInBounds b (.map (es.push { key := .int .i64 x, val := v, born := clock }) (clock + 1)) } := by
  simp [Instr.mapUpdate, run_underlying hm, MapKept.run_getObj_map hb, MapKept.run_checkKey hk (k := .int .i64 x) rfl, MapKept.run_findKey hk hf, MapKept.run_setObj_map _ hb, Result.andThen]
theorem run_mapUpdate_old {m kt et : TypeId} {w : World} {b clock j : Nat} {es : Array MapEntry} {x : Int} {v u : Value} (hm : P.underlying m = some (.map kt et)) (hk : P.underlying kt = some (.int .i64)) (hb : w.heap[b]? = some (.map es clock)) (hf : Instr.findNow (.int .i64) (.int .i64 x) es.toList 0 = some (some (j, u))) (hj : j < es.size) (hkey : es[j].key = .int .i64 x) :
    (Instr.mapUpdate m (.map (some b)) (.int .i64 x) v).run P w = .ok () { w with heap := w.heap.setIfInBounds b (.map (es.modify j fun e => { e with key := .int .i64 x, val := v }) clock) } := by
  have e : ((es[j]?.map (·.key)).getD (.int .i64 x)) = .int .i64 x := by simp [hj, hkey]
  have hks : (Instr.keyThatStays (.int .i64 x) (.int .i64 x)).run P w = .ok (.int .i64 x) w := by simp [Instr.keyThatStays, Instr.sameBits]
  simp [Instr.mapUpdate, run_underlying hm, MapKept.run_getObj_map hb, MapKept.run_checkKey hk (k := .int .i64 x) rfl, MapKept.run_findKey hk hf, MapKept.run_setObj_map _ hb, Result.andThen, e, hks, hj, hkey]

theorem post_map {X : AX} (hS : Sto X) {k g b n clock : Nat} {m m' : List (Value × DV)} {es : Array MapEntry} (hσ : X.σ[k]? = some (.mapb g m)) (hρ : X.ρ k = some (b, n)) (hb : b < X.w.heap.size) (hl : es.size = m'.length) (hc : ∀ e ∈ es, e.born < clock)
    (hm : ∀ (j : Nat) (k : Value) (d : DV), m'[j]? = some (k, d) → (es.getD j default).key = k ∧ VRep X.lay d (es.getD j default).val) (hK : K (.sc undef) (X.σ.set k (.mapb g m'))) : APost X K undef { X.w with heap := X.w.heap.setIfInBounds b (.map es clock) } := by
  have hok : ReplOk X k g { X.w with heap := X.w.heap.setIfInBounds b (.map es clock) } (X.ρ k) (.mapb g m') X.N := {
    live := live_map hσ, os := rfl, tape := rfl, output := rfl, size := by simp
    block := fun b' _ hb' => by
      have : b ≠ b' := fun e => hb' n (by rw [hρ, e])
      simp [Array.getElem?_setIfInBounds_ne this]
    gen := .inr ⟨rfl, Nat.le_refl _, rfl⟩
    lies := fun b' n' h => .inr ⟨n', h⟩ }
  have hh : (ABlk.mapb g m').holds X.lay { X.w with heap := X.w.heap.setIfInBounds b (.map es clock) } (X.ρ k) := ⟨b, n, es, clock, hρ, by simp [hb], hl, hc, hm⟩
  exact ⟨_, rfl, hS.repl hok hh, WExt.repl hS hok, .sc undef, .sc _, hK⟩

theorem map_put {t kt et : TypeId} {agg a1 : Bool} {size s1 : Nat} {k g : Nat} {l : List (Int × DV)} {x : Int} {d : DV} {σ' : List ABlk} (ht : TyI P t (.map kt et) agg size) (hkt : TyI P kt (.int .i64) a1 s1) {X : AX} (hS : Sto X) {vm vk v : Value} (e1 : VRep X.lay (.mp k g) vm) (hσk : X.σ[k]? = some (.mapb g (imap l))) (e2 : vk = .int .i64 x) (e3 : VRep X.lay d v)
    (hσ' : setA X.σ k (.mapb g (imap (iput l x d))) = some σ') (kk : K (.sc undef) σ') : ∃ w', (Instr.mapUpdate t vm vk v).run P X.w = .ok () w' ∧ APost X K undef w' := by
  subst e2
  obtain ⟨b, n, es, clock, hρ, hb, hl, hc, hes⟩ := hS.map hσk
  have e1 := VRep.mp_inv hσk e1 hρ
  subst e1
  obtain ⟨hl', hkey⟩ := map_keys hl hes
  have hlt : es.toList.length = l.length := by simpa using hl'
  have hbl := lt_of_heap hb
  rw [setA_eq hσ'] at kk
  cases hfi : ifind l x with
  | none =>
    have hno := ifind_none hfi
    have hf := findNow_none (K := .i64) (x := x) es.toList 0 fun e he => by
      obtain ⟨j, hj, rfl⟩ := List.getElem_of_mem he
      exact ⟨_, hno _ (List.getElem_mem (show j < l.length by omega)), (hkey j (by omega) hj).1⟩
    refine ⟨_, run_mapUpdate_new ht.u hkt.u hb hf, ?_⟩
    have hp : iput l x d = l ++ [(x, d)] := by unfold iput; rw [hfi]
    rw [hp] at kk
    refine post_map hS hσk hρ hbl (by simp [imap, hl']) (fun e he => ?_) (fun j kv dd hj => ?_) kk
    · rcases Array.mem_push.1 he with he | rfl
      · exact Nat.lt_succ_of_lt (hc e he)
      · exact Nat.lt_succ_self _
    · have hjl : j < l.length + 1 := by have := (List.getElem?_eq_some_iff.1 hj).1; simpa [imap] using this
      by_cases h : j < l.length
      · have hj' : (imap l)[j]? = some (kv, dd) := by
          rw [← hj]; simp [imap, List.getElem?_append, h]
        have := hes j kv dd hj'
        have e : (es.push { key := .int .i64 x, val := v, born := clock }).getD j default = es.getD j default := by
          simp [Array.getD_eq_getD_getElem?, Array.getElem?_push, show j ≠ es.size by omega]
        rw [e]; exact this
      · have hjj : j = l.length := by omega
        subst hjj
        simp [imap] at hj
        obtain ⟨rfl, rfl⟩ := hj
        have e : (es.push { key := .int .i64 x, val := v, born := clock }).getD l.length default = { key := .int .i64 x, val := v, born := clock } := by
          rw [← hl']; simp [Array.getD_eq_getD_getElem?]
        rw [e]; exact ⟨rfl, e3⟩
  | some j0 =>
    obtain ⟨h1, h2, h3⟩ := ifind_some hfi
    have hj : j0 < es.toList.length := by omega
    have hk0 := (hkey j0 h1 hj).1
    rw [h2] at hk0
    have hf := findNow_some (K := .i64) (x := x) es.toList 0 j0 hj hk0 fun i hi => ⟨_, h3 i hi, (hkey i (by omega) (by omega)).1⟩
    refine ⟨_, run_mapUpdate_old ht.u hkt.u hb (by simpa using hf) (by omega) (by simpa using hk0), ?_⟩
    have hp : iput l x d = l.set j0 (x, d) := by unfold iput; rw [hfi]
    rw [hp] at kk
    refine post_map hS hσk hρ hbl (by simp [imap, hl']) (fun e he => ?_) (fun j kv dd hj' => ?_) kk
    · obtain ⟨i, hi, rfl⟩ := Array.getElem_of_mem he
      rw [Array.getElem_modify]
      have hi' : i < es.size := by simpa using hi
      split
      · exact hc es[i] (Array.getElem_mem hi')
      · exact hc _ (Array.getElem_mem hi')
    · have hjl : j < l.length := by have := (List.getElem?_eq_some_iff.1 hj').1; simpa [imap] using this
      by_cases h : j = j0
      · subst h
        simp [imap, hjl] at hj'
        obtain ⟨rfl, rfl⟩ := hj'
        have e : ((es.modify j fun e => { e with key := .int .i64 x, val := v }).getD j default).key = .int .i64 x ∧ ((es.modify j fun e => { e with key := .int .i64 x, val := v }).getD j default).val = v := by
          rw [Array.getD_eq_getD_getElem?, Array.getElem?_modify, if_pos rfl, Array.getElem?_eq_getElem (show j < es.size by omega)]
          exact ⟨rfl, rfl⟩
        rw [e.1, e.2]; exact ⟨rfl, e3⟩
      · have hj2 : (imap l)[j]? = some (kv, dd) := by
          rw [← hj']; simp [imap, List.getElem?_set, show ¬ j0 = j from fun e => h e.symm]
        have := hes j kv dd hj2
        have e : (es.modify j0 fun e => { e with key := .int .i64 x, val := v }).getD j default = es.getD j default := by
          simp [Array.getD_eq_getD_getElem?, Array.getElem?_modify, show ¬ j0 = j from fun e => h e.symm]
        rw [e]; exact this

/-- A map is written. -/
theorem s_mapupd {t kt et : TypeId} {agg a1 : Bool} {size s1 : Nat} {m ix y : Operand} {k g : Nat} {l : List (Int × DV)} {x : Int} {d : DV} {σ' : List ABlk} [ht : TyI P t (.map kt et) agg size] [hkt : TyI P kt (.int .i64) a1 s1] (hm : f m = .mp k g) (hσk : σ[k]? = some (.mapb g (imap l))) (hx : f ix = .sc (.int .i64 x)) (hy : f y = d)
    (hσ' : setA σ k (.mapb g (imap (iput l x d))) = some σ') (kk : K (.sc undef) σ') : OpSem P G B ⟨dst, .mapUpdate t m ix y, type, pos, after, gd⟩ f σ K := fun X ρ hS hσ hB _ hf => by
  subst hσ
  have e1 := hf m (by simp [Op.operands]); rw [hm] at e1
  have e2 := hf ix (by simp [Op.operands]); rw [hx] at e2
  have e3 := hf y (by simp [Op.operands]); rw [hy] at e3
  obtain ⟨w', h1, h2⟩ := map_put (K := K) ht hkt hS e1 hσk (VRep.sc_eq e2) e3 hσ' kk
  simp only [execOp, h1, Sem.run_bind, Sem.run_pure, Result.andThen_ok]
  exact h2
theorem s_insert {t kt et : TypeId} {agg a1 : Bool} {size s1 : Nat} {m ix y : Operand} {k g : Nat} {l : List (Int × DV)} {x : Int} {d : DV} {σ' : List ABlk} [ht : TyI P t (.map kt et) agg size] [hkt : TyI P kt (.int .i64) a1 s1] (hm : f m = .mp k g) (hσk : σ[k]? = some (.mapb g (imap l))) (hx : f ix = .sc (.int .i64 x)) (hy : f y = d)
    (hσ' : setA σ k (.mapb g (imap (iput l x d))) = some σ') (kk : K (.sc undef) σ') : OpSem P G B ⟨dst, .insert t m ix y, type, pos, after, gd⟩ f σ K := fun X ρ hS hσ hB _ hf => by
  subst hσ
  have e1 := hf m (by simp [Op.operands]); rw [hm] at e1
  have e2 := hf ix (by simp [Op.operands]); rw [hx] at e2
  have e3 := hf y (by simp [Op.operands]); rw [hy] at e3
  obtain ⟨w', h1, h2⟩ := map_put (K := K) ht hkt hS e1 hσk (VRep.sc_eq e2) e3 hσ' kk
  simp only [execOp, h1, Sem.run_bind, Sem.run_pure, Result.andThen_ok]
  exact h2

theorem s_mkmap_set {t : TypeId} (k : ∀ g, B < g → K (.mp σ.length g) (σ ++ [.mapb g (imap (sset []))])) : OpSem P G B ⟨dst, .makeMap t none, type, pos, after, gd⟩ f σ K := s_mkmap k
theorem s_mapupd_set {t kt et : TypeId} {agg a1 : Bool} {size s1 : Nat} {m ix y : Operand} {k g : Nat} {S : List Int} {x : Int} {σ' : List ABlk} [ht : TyI P t (.map kt et) agg size] [hkt : TyI P kt (.int .i64) a1 s1] (hm : f m = .mp k g) (hσk : σ[k]? = some (.mapb g (imap (sset S)))) (hx : f ix = .sc (.int .i64 x)) (hy : f y = .sc (.bool true))
    (hσ' : setA σ k (.mapb g (imap (sset (sput S x)))) = some σ') (kk : K (.sc undef) σ') : OpSem P G B ⟨dst, .mapUpdate t m ix y, type, pos, after, gd⟩ f σ K := s_mapupd hm hσk hx hy (by rw [sset_put]; exact hσ') kk
theorem s_insert_set {t kt et : TypeId} {agg a1 : Bool} {size s1 : Nat} {m ix y : Operand} {k g : Nat} {S : List Int} {x : Int} {σ' : List ABlk} [ht : TyI P t (.map kt et) agg size] [hkt : TyI P kt (.int .i64) a1 s1] (hm : f m = .mp k g) (hσk : σ[k]? = some (.mapb g (imap (sset S)))) (hx : f ix = .sc (.int .i64 x)) (hy : f y = .sc (.bool true))
    (hσ' : setA σ k (.mapb g (imap (sset (sput S x)))) = some σ') (kk : K (.sc undef) σ') : OpSem P G B ⟨dst, .insert t m ix y, type, pos, after, gd⟩ f σ K := s_insert hm hσk hx hy (by rw [sset_put]; exact hσ') kk

/-- A call that hands back a map that nobody else has. -/
def OwnM (P : Program) (G : Nat → DV) (f : FuncId) (args : List DV) (m : List (Value × DV)) : Prop := ∀ B, ACalls P G B f args [] (fun d' σ' => ∃ g, B < g ∧ d' = .mp 0 g ∧ σ' = [.mapb g m])
theorem OwnM.lift {f : FuncId} {args : List DV} {m : List (Value × DV)} (h : OwnM P G f args m) (hc : ∀ p ∈ m, p.2.clo = true) {B : Nat} {σ : List ABlk} : ACalls P G B f args σ (fun d' σ' => ∃ g, B < g ∧ d' = .mp σ.length g ∧ σ' = σ ++ [.mapb g m]) := fun X vs hS hσ hB hG hv => by
  refine (h X.N (X.aside False) vs (hS.aside _) rfl (Nat.le_refl _) (fun g => ⟨(hG g).1, (hG g).2.mono (aside_le _)⟩) ⟨hv.1, fun j d hj => (hv.2 j d hj).mono (aside_le _)⟩).mono ?_
  rintro e w' ⟨v, he, Y, hw, hY, hE, d', hr, g, hg, rfl, hσ'⟩
  subst hw
  have hback := hS.back hE
  have hEb := WExt.back hS hE
  have hY0 : Y.σ[0]? = some (.mapb g m) := by rw [hσ']; rfl
  have hlY : Y.live 0 g := live_map hY0
  have hgN : g ≤ Y.N := hY.gen 0 g hlY
  have hnew : ∀ b n, Y.ρ 0 = some (b, n) → X.w.heap.size ≤ b := fun b n hb => by
    rcases Nat.lt_or_ge b X.w.heap.size with hlt | hge
    · exact absurd ⟨0, g, n, hlY, hb⟩ (hE.old b hlt aside_mut).2
    · exact hge
  let Z : AX := { w := Y.w, ρ := fun i => if i = X.σ.length then Y.ρ 0 else X.ρ i, σ := X.σ ++ [.mapb g m], N := Y.N, hid := X.hid }
  have hlive : ∀ k g', Z.live k g' ↔ (k < X.σ.length ∧ X.live k g') ∨ (k = X.σ.length ∧ g' = g) := fun k g' => by
    have := AX.push_live (X := X) (w' := Y.w) (ob := Y.ρ 0) (B := .mapb g m) (k := k) (g := g')
    simp only [ABlk.gen?, Option.some.injEq] at this
    rw [show Z.live k g' ↔ (X.push Y.w (Y.ρ 0) (.mapb g m)).live k g' from Iff.rfl, this]
    constructor <;> (rintro (h | ⟨h1, h2⟩); exact .inl h; exact .inr ⟨h1, h2.symm⟩)
  have hρ1 : ∀ k, k < X.σ.length → Z.ρ k = X.ρ k := fun k hk => by simp only [Z]; rw [if_neg (by omega)]
  have hρ2 : Z.ρ X.σ.length = Y.ρ 0 := by simp only [Z, if_true]
  have hmut : ∀ b, Z.mut b → X.mut b ∨ X.w.heap.size ≤ b := fun b ⟨k, g', n, hl, hr⟩ => by
    rcases (hlive k g').1 hl with ⟨h1, h2⟩ | ⟨h1, _⟩
    · rw [hρ1 k h1] at hr; exact .inl ⟨k, g', n, h2, hr⟩
    · rw [h1, hρ2] at hr; exact .inr (hnew b n hr)
  have hEZ : WExt X Z := {
    hid := rfl, top := hE.top, os := hE.os, tape := hE.tape, output := hE.output, size := hE.size
    old := fun b hb hm => ⟨(hE.old b hb aside_mut).1, fun hz => by rcases hmut b hz with h | h; exact hm h; omega⟩
    rows := fun k g' hg' hl => by
      rcases (hlive k g').1 hl with ⟨h1, h2⟩ | ⟨h1, h2⟩
      · exact ⟨h2, hρ1 k h1⟩
      · omega }
  have himm : ∀ b o u, Y.lay.imm b o = some u → Z.lay.imm b o = some u := fun b o u hi => by
    obtain ⟨_, h2, h3, h4⟩ := AX.imm_lt hi
    rw [hE.hid] at h3
    refine AX.imm_mk (fun hm => ?_) (fun hh => h3 (.inl hh)) h4
    obtain ⟨k, g', n, hl, hr⟩ := hm
    rcases (hlive k g').1 hl with ⟨h1, h5⟩ | ⟨h1, _⟩
    · rw [hρ1 k h1] at hr; exact h3 (.inr ⟨id, k, g', n, h5, hr⟩)
    · rw [h1, hρ2] at hr; exact h2 ⟨0, g, n, hlY, hr⟩
  have hSZ : Sto Z := {
    inj := fun k k' g1 g1' b n n' hl hl' hr hr' => by
      rcases (hlive k g1).1 hl with ⟨h1, h2⟩ | ⟨h1, h2⟩ <;> rcases (hlive k' g1').1 hl' with ⟨h1', h2'⟩ | ⟨h1', h2'⟩
      · rw [hρ1 k h1] at hr; rw [hρ1 k' h1'] at hr'; exact hS.inj k k' g1 g1' b n n' h2 h2' hr hr'
      · rw [hρ1 k h1] at hr; rw [h1', hρ2] at hr'; have := hS.ρ_lt h2 hr; have := hnew b n' hr'; omega
      · rw [hρ1 k' h1'] at hr'; rw [h1, hρ2] at hr; have := hS.ρ_lt h2' hr'; have := hnew b n hr; omega
      · rw [h1, h1']
    gen := fun k g' hl => by
      rcases (hlive k g').1 hl with ⟨h1, h2⟩ | ⟨h1, h2⟩
      · exact Nat.le_trans (hS.gen k g' h2) hE.top
      · rw [h2]; exact hgN
    hid := fun b ⟨k, g', n, hl, hr⟩ hh => by
      rcases (hlive k g').1 hl with ⟨h1, h2⟩ | ⟨h1, h2⟩
      · rw [hρ1 k h1] at hr; exact hS.hid b ⟨k, g', n, h2, hr⟩ hh
      · rw [h1, hρ2] at hr; have := hnew b n hr; have := hS.hidlt b hh; omega
    hidlt := fun b hb => Nat.lt_of_lt_of_le (hS.hidlt b hb) hE.size
    holds := fun k B' hB' => by
      simp only [Z, List.getElem?_append] at hB'
      split at hB'
      · rename_i hlt
        rw [hρ1 k hlt]
        cases hg' : B'.gen? with
        | none => cases B' <;> first | trivial | cases hg'
        | some g' => exact (hS.holds k B' hB').mono hEZ.le fun b n hb => (hE.old b (hS.ρ_lt ((AX.live_get hB').2 hg') hb) aside_mut).1
      · rename_i hge
        have hkl : k = X.σ.length := by
          rcases Nat.lt_or_ge (k - X.σ.length) 1 with h' | h'
          · omega
          · rw [List.getElem?_eq_none (by simpa using h')] at hB'; cases hB'
        subst hkl
        simp at hB'
        subst hB'
        rw [hρ2]
        obtain ⟨b, n, es, clock, q0, q1, q2, q3, q4⟩ := hY.holds 0 _ hY0
        exact ⟨b, n, es, clock, q0, q1, q2, q3, fun j k d hj => ⟨(q4 j k d hj).1, (q4 j k d hj).2.mono_clo himm (hc (k, d) (List.mem_of_getElem? hj))⟩⟩ }
  refine ⟨v, he, Z, rfl, hSZ, hEZ, .mp X.σ.length g, ?_, g, by omega, by rw [hσ], by rw [← hσ]⟩
  cases hr with | mp _ _ r h1 h2 =>
  obtain ⟨b, n, e1, e2⟩ := h2 _ (AX.row_mk hlY)
  refine .mp _ _ _ hgN fun ob hob => ?_
  rw [AX.row_mk ((hlive _ _).2 (.inr ⟨rfl, rfl⟩)), hρ2] at hob
  exact ⟨b, n, by rw [← Option.some.inj hob, e1], e2⟩

theorem imap_clo {S : List Int} : ∀ p ∈ imap (sset S), p.2.clo = true := fun p hp => by
  simp only [imap, sset, List.map_map, List.mem_map] at hp
  obtain ⟨x, _, rfl⟩ := hp
  simp [DV.clo]
theorem s_call_mp {args : Array Operand} {ts : Array TypeId} {fid : FuncId} {ds : List DV} {S : List Int} [FnOk P fid] (hx : f (.func fid) = .fn (.func fid) [] []) (hds : reL (args.toList.map f) = some ds) (h : OwnM P G fid ds (imap (sset S))) (k : ∀ g, B < g → K (.mp σ.length g) (σ ++ [.mapb g (imap (sset S))])) :
    OpSem P G B ⟨dst, .call ⟨.value (.func fid), args, ts⟩, type, pos, after, gd⟩ f σ K := s_call hx hds ((h.lift imap_clo).mono fun _ _ ⟨g, hg, h1, h2⟩ => by rw [h1, h2]; exact k g hg)
end
end Go.Av
