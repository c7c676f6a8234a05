/-
  The operations over abstract values: third part (stores, new variables, values built, calls, results).
-/
import Derived.Test.YtecbcpilcjmhlaaDoorAv4
namespace Go.Av
open Classical
set_option linter.unusedSimpArgs false
set_option linter.unusedVariables false

/-! Stores into a block of cells. -/
def setArr (arr : Array Value) : Nat → List Value → Array Value
  | _, [] => arr
  | o, v :: r => setArr (arr.setIfInBounds o v) (o + 1) r

theorem size_setArr : ∀ (vs : List Value) (arr : Array Value) (o : Nat), (setArr arr o vs).size = arr.size
  | [], _, _ => rfl
  | v :: r, arr, o => by simp [setArr, size_setArr r]

theorem getD_setArr : ∀ (vs : List Value) (arr : Array Value) (o j : Nat), o + vs.length ≤ arr.size → (setArr arr o vs).getD j undef = if o ≤ j ∧ j < o + vs.length then vs.getD (j - o) undef else arr.getD j undef
  | [], arr, o, j, _ => by simp only [setArr, List.length_nil]; rw [if_neg (by omega)]
  | v :: r, arr, o, j, h => by
    simp only [List.length_cons] at h ⊢
    simp only [setArr]
    rw [getD_setArr r _ _ _ (by simp; omega)]
    by_cases h1 : j = o
    · subst h1
      rw [if_neg (by omega), if_pos (by omega)]
      simp [Array.getD_eq_getD_getElem?, show j < arr.size by omega]
    · by_cases h2 : o + 1 ≤ j ∧ j < o + 1 + r.length
      · rw [if_pos h2, if_pos (by omega)]
        obtain ⟨i, rfl⟩ : ∃ i, j = o + 1 + i := ⟨j - (o + 1), by omega⟩
        rw [show o + 1 + i - (o + 1) = i by omega, show o + 1 + i - o = i + 1 by omega]
        rfl
      · rw [if_neg h2, if_neg (by omega)]
        simp [Array.getD_eq_getD_getElem?, Array.getElem?_setIfInBounds_ne (Ne.symm h1)]

theorem heap_setCell_row {w : World} {b o : Nat} {arr : Array Value} {T : TypeId} {fr : Nat × Nat} {v : Value} (h : w.heap[b]? = some (.cells arr T fr)) :
    (w.setCell ⟨b, o, none⟩ v).heap[b]? = some (.cells (arr.setIfInBounds o v) T fr) := by
  simp only [World.setCell, Array.getElem?_modify, if_true, h]
  rfl

theorem heap_setCells : ∀ (vs : List Value) (w : World) (b o : Nat) (arr : Array Value) (T : TypeId) (fr : Nat × Nat), w.heap[b]? = some (.cells arr T fr) →
    (w.setCells b o vs).heap[b]? = some (.cells (setArr arr o vs) T fr)
  | [], _, _, _, _, _, _, h => h
  | v :: r, w, b, o, arr, T, fr, h => by
    simp only [World.setCells, setArr]
    exact heap_setCells r _ b (o + 1) _ T fr (heap_setCell_row h)
theorem heap_setCells_other : ∀ (vs : List Value) (w : World) (b o k : Nat), k ≠ b → (w.setCells b o vs).heap[k]? = w.heap[k]?
  | [], _, _, _, _, _ => rfl
  | v :: r, w, b, o, k, h => by
    simp only [World.setCells]
    rw [heap_setCells_other r _ b (o + 1) k h]
    exact heap_setCell_other w ⟨b, o, none⟩ k v h
theorem setCells_rest : ∀ (vs : List Value) (w : World) (b o : Nat), (w.setCells b o vs).os = w.os ∧ (w.setCells b o vs).tape = w.tape ∧ (w.setCells b o vs).output = w.output ∧ (w.setCells b o vs).heap.size = w.heap.size
  | [], _, _, _ => ⟨rfl, rfl, rfl, rfl⟩
  | v :: r, w, b, o => by
    simp only [World.setCells]
    obtain ⟨h1, h2, h3, h4⟩ := setCells_rest r (w.setCell ⟨b, o, none⟩ v) b (o + 1)
    exact ⟨h1, h2, h3, by rw [h4]; simp⟩

theorem run_storeRow {P : Program} {w : World} {b o : Nat} {arr : Array Value} {T : TypeId} {fr : Nat × Nat} {vs : List Value} (h : w.heap[b]? = some (.cells arr T fr)) (hfr : ∀ j, j < arr.size → ¬ (fr.1 ≤ j ∧ j < fr.2))
    (hl : o + vs.length ≤ arr.size) (h1 : ∀ v ∈ vs, v.oneCell' = true) : (storeCells ⟨b, o, none⟩ vs).run P w = .ok () (w.setCells b o vs) := by
  have := run_storeCells_cells (P := P) b o vs 0 w (fun j hj => by
      have : o + 0 + j < arr.size := by omega
      simp [World.cell?, h]; omega)
    (fun j hj => by
      have := hfr (o + 0 + j) (by omega)
      simp only [World.frozen?, h]
      simpa using this) h1
  simpa using this

/-! The cells of a value. -/
def dcells : DV → Option (List DV)
  | .agg cs => some cs
  | .any => none
  | .tup _ => none
  | .sc v => match v.oneCell' with | true => some [.sc v] | false => none
  | .sl es cs => some [.sl es cs]
  | .ep cs => some [.ep cs]
  | .ref k g o l e => some [.ref k g o l e]
  | .ptr k g o => some [.ptr k g o]
  | .fn f a b => some [.fn f a b]
  | .mp k g => some [.mp k g]

theorem cells_of_one {v : Value} (h : v.oneCell' = true) : v.cells = #[v] := by cases v <;> first | rfl | cases h

theorem dcells_spec {L : Lay} {d : DV} {v : Value} {ds : List DV} (h : dcells d = some ds) (r : VRep L d v) :
    v.cells.size = ds.length ∧ (∀ u ∈ v.cells.toList, u.oneCell' = true) ∧ ∀ j e, ds[j]? = some e → e.one = true ∧ VRep L e (v.cells.getD j undef) := by
  have one : ∀ (d : DV) (v : Value), d.one = true → VRep L d v → v.cells.size = [d].length ∧ (∀ u ∈ v.cells.toList, u.oneCell' = true) ∧ ∀ j e, [d][j]? = some e → e.one = true ∧ VRep L e (v.cells.getD j undef) := by
    intro d v h1 r
    have hc := r.oneCell h1
    rw [cells_of_one hc]
    refine ⟨rfl, fun u hu => by simp at hu; rw [hu]; exact hc, fun j e hj => ?_⟩
    cases j with
    | zero => simp at hj; subst hj; exact ⟨h1, r⟩
    | succ j => simp at hj
  cases d with
  | agg cs =>
    simp [dcells] at h; subst h
    cases r with | agg _ vs h1 h2 h3 =>
    refine ⟨h1, fun u hu => ?_, fun j e hj => ⟨h2 e (List.mem_of_getElem? hj), h3 j e hj⟩⟩
    obtain ⟨j, hj⟩ := List.mem_iff_getElem?.1 hu
    have hlt : j < vs.size := by have := (List.getElem?_eq_some_iff.1 hj).1; simpa [Value.cells] using this
    have hd : cs[j]? = some cs[j] := List.getElem?_eq_getElem (by omega)
    have := (h3 j _ hd).oneCell (h2 _ (List.getElem_mem _))
    have e1 : vs.getD j undef = u := by
      simp only [Value.cells, Array.getElem?_toList] at hj
      simp [Array.getD_eq_getD_getElem?, hj]
    rwa [e1] at this
  | any => cases h
  | tup _ => cases h
  | sc u =>
    simp only [dcells] at h
    split at h
    · rename_i hu; cases h; exact one _ _ hu r
    · cases h
  | sl _ _ => cases h; exact one _ _ rfl r
  | ep _ => cases h; exact one _ _ rfl r
  | ref _ _ _ _ _ => cases h; exact one _ _ rfl r
  | ptr _ _ _ => cases h; exact one _ _ rfl r
  | fn _ _ _ => cases h; exact one _ _ rfl r
  | mp _ _ => cases h; exact one _ _ rfl r

/-- A list with cells put in from a place on. -/
def spliceD : List DV → Nat → List DV → Option (List DV)
  | cs, _, [] => forceD cs
  | [], _, _ :: _ => none
  | _ :: r, 0, d :: ds => match spliceD r 0 ds with | some r' => some (d :: r') | none => none
  | c :: r, o + 1, d :: ds => match spliceD r o (d :: ds) with | some r' => some (c :: r') | none => none
theorem spliceD_eq : ∀ {cs : List DV} {o : Nat} {ds m : List DV}, spliceD cs o ds = some m → m.length = cs.length ∧ (ds = [] ∨ o + ds.length ≤ cs.length) ∧ ∀ j, m[j]? = if o ≤ j ∧ j < o + ds.length then ds[j - o]? else cs[j]?
  | cs, o, [], m, h => by
    simp only [spliceD] at h
    rw [forceD_eq h]
    exact ⟨rfl, .inl rfl, fun j => by rw [if_neg (by simp <;> omega)]⟩
  | [], o, d :: ds, m, h => by simp [spliceD] at h
  | c :: r, 0, d :: ds, m, h => by
    simp only [spliceD] at h
    split at h
    · rename_i r' hr
      cases h
      obtain ⟨h1, h2, h3⟩ := spliceD_eq hr
      refine ⟨by simp [h1], .inr ?_, fun j => ?_⟩
      · rcases h2 with h2 | h2
        · subst h2; simp
        · simp at h2 ⊢; omega
      · cases j with
        | zero => simp
        | succ j =>
          have := h3 j
          simp only [List.getElem?_cons_succ, Nat.zero_le, true_and, Nat.zero_add, List.length_cons, Nat.add_lt_add_iff_right, Nat.sub_zero] at this ⊢
          exact this
    · cases h
  | c :: r, o + 1, d :: ds, m, h => by
    simp only [spliceD] at h
    split at h
    · rename_i r' hr
      cases h
      obtain ⟨h1, h2, h3⟩ := spliceD_eq hr
      refine ⟨by simp [h1], .inr ?_, fun j => ?_⟩
      · rcases h2 with h2 | h2
        · cases h2
        · simp at h2 ⊢; omega
      · cases j with
        | zero => rw [if_neg (by omega)]; rfl
        | succ j =>
          have := h3 j
          simp only [List.getElem?_cons_succ]
          rw [this]
          by_cases hh : o ≤ j ∧ j < o + (d :: ds).length
          · rw [if_pos hh, if_pos (by omega), show j + 1 - (o + 1) = j - o by omega]
          · rw [if_neg hh, if_neg (by omega)]
    · cases h

/-- The store with another block in the place k. -/
def setA : List ABlk → Nat → ABlk → Option (List ABlk)
  | [], _, _ => none
  | _ :: r, 0, b => some (b :: r)
  | a :: r, n + 1, b => match setA r n b with | some r' => some (a :: r') | none => none
theorem setA_eq : ∀ {σ : List ABlk} {k : Nat} {b : ABlk} {σ' : List ABlk}, setA σ k b = some σ' → σ' = σ.set k b
  | [], _, _, _, h => by cases h
  | _ :: r, 0, b, _, h => by cases h; rfl
  | a :: r, n + 1, b, _, h => by
    simp only [setA] at h
    split at h
    · rename_i r' hr; cases h; rw [setA_eq hr]; rfl
    · cases h

section
variable {P : Program} {G : Nat → DV} {B : Nat} {f : Operand → DV} {σ : List ABlk} {K : DV → List ABlk → Prop} {dst : Option Tmp} {type : TypeId} {pos : String} {after : Array Edge} {gd : Option (Nat × Bool)}
variable {α : Type} [Enc α]

/-- A new block for cells. -/
theorem post_new {X : AX} (hS : Sto X) (hB : B ≤ X.N) {ds : List DV} {arr : Array Value} {T : TypeId} {w' : World} (hk : Keep X.w w') {v : Nat → Value} {d : Nat → DV} {b : Nat} (hb : X.w.heap.size ≤ b) (hw : w'.heap[b]? = some (.cells arr T (0, 0)))
    (hl : ds.length ≤ arr.size) (hd : ∀ j e, ds[j]? = some e → e.one = true ∧ VRep X.lay e (arr.getD j undef))
    (hv : ∀ L : Lay, X.N + 1 ≤ L.top → L.row X.σ.length (X.N + 1) = some (some (b, arr.size)) → VRep L (d (X.N + 1)) (v b))
    (k : ∀ g, B < g → K (d g) (X.σ ++ [.row g ds])) : APost X K (v b) w' := by
  have hob : ∀ b' n, some (b, arr.size) = some (b', n) → X.w.heap.size ≤ b' := fun b' n h => by cases h; exact hb
  have hh : (ABlk.row (X.N + 1) ds).holds X.lay w' (some (b, arr.size)) := ⟨arr, T, (0, 0), hw, rfl, hl, fun j _ h => by simp at h, hd⟩
  have hS' := hS.push hk (B := .row (X.N + 1) ds) rfl hob hh
  refine ⟨_, rfl, hS', WExt.push hS hk rfl hob, d (X.N + 1), hv _ (Nat.le_refl _) ?_, k (X.N + 1) (by omega)⟩
  rw [AX.row_mk (AX.push_live.2 (.inr ⟨rfl, rfl⟩))]
  simp [AX.push]

theorem s_alloc {t : TypeId} {zs : List Value} [hz : TyZ P t zs] (k : ∀ g, B < g → K (.ptr σ.length g 0) (σ ++ [.row g (zs.map .sc)])) : OpSem P G B ⟨dst, .alloc t, type, pos, after, gd⟩ f σ K := fun X ρ hS hσ hB _ hf => by
  subst hσ
  obtain ⟨z, h1, h2⟩ := run_zero hz X.w
  simp only [execOp, Instr.alloc, h1, newVar, newRow, h2, run_newObj, Sem.run_bind, Sem.run_pure, Result.andThen_ok, World.alloc_eq]
  refine post_new (v := fun b => .pointer (some ⟨b, 0, none⟩)) (d := fun g => .ptr X.σ.length g 0) hS hB (Keep.alloc _ _) (Nat.le_refl _) (heap_alloc_new _ _) (by simp) (fun j e hj => ?_) (fun L h1 h2 => ?_) k
  · rw [List.getElem?_map] at hj
    cases hzj : zs[j]? with
    | none => simp [hzj] at hj
    | some u =>
      simp [hzj] at hj; subst hj
      refine ⟨List.all_eq_true.1 hz.one u (List.mem_of_getElem? hzj), ?_⟩
      have : zs.toArray.getD j undef = u := by simp [Array.getD_eq_getD_getElem?, hzj]
      rw [this]; exact .sc u
  · exact .ptr _ _ _ _ h1 fun ob hob => ⟨_, _, (Option.some.inj (h2.symm.trans hob)).symm, rfl⟩

theorem s_box {t : TypeId} {x : Operand} {d : DV} {ds : List DV} (hx : f x = d) (hd : dcells d = some ds) (k : ∀ g, B < g → K (.ptr σ.length g 0) (σ ++ [.row g ds])) : OpSem P G B ⟨dst, .box t x, type, pos, after, gd⟩ f σ K := fun X ρ hS hσ hB _ hf => by
  subst hσ
  have e1 := hf x (by simp [Op.operands, Call.operands]); rw [hx] at e1
  obtain ⟨h1, h2, h3⟩ := dcells_spec hd e1
  simp only [execOp, Instr.box, newVar, newRow, run_newObj, Sem.run_bind, Sem.run_pure, Result.andThen_ok, World.alloc_eq]
  refine post_new (v := fun b => .pointer (some ⟨b, 0, none⟩)) (d := fun g => .ptr X.σ.length g 0) hS hB (Keep.alloc _ _) (Nat.le_refl _) (heap_alloc_new _ _) (by omega) h3 (fun L h1 h2 => ?_) k
  exact .ptr _ _ _ _ h1 fun ob hob => ⟨_, _, (Option.some.inj (h2.symm.trans hob)).symm, rfl⟩

/-- A store into a block of the store. -/
theorem post_store {X : AX} (hS : Sto X) {k g b n o : Nat} {cs cs' ds : List DV} {vs : List Value} (hσ : X.σ[k]? = some (.row g cs)) (hρ : X.ρ k = some (b, n)) (hl : vs.length = ds.length) (h1 : ∀ u ∈ vs, u.oneCell' = true)
    (hd : ∀ j e, ds[j]? = some e → e.one = true ∧ VRep X.lay e (vs.getD j undef)) (hn : o + ds.length ≤ n) (hcl : cs'.length ≤ n) (hcs : ∀ j, cs'[j]? = if o ≤ j ∧ j < o + ds.length then ds[j - o]? else cs[j]?) {v : Value} {d : DV}
    (hv : ∀ L : Lay, X.lay.le L → VRep L d v) (hK : K d (X.σ.set k (.row g cs'))) :
    (storeCells ⟨b, o, none⟩ vs).run P X.w = .ok () (X.w.setCells b o vs) ∧ APost X K v (X.w.setCells b o vs) := by
  obtain ⟨arr, T, fr, g1, g2, g3, g4, g5⟩ := hS.row hσ hρ
  refine ⟨run_storeRow g1 (fun j hj => g4 j (by omega)) (by omega) h1, ?_⟩
  obtain ⟨r1, r2, r3, r4⟩ := setCells_rest vs X.w b o
  have hok : ReplOk X k g (X.w.setCells b o vs) (X.ρ k) (.row g cs') X.N := {
    live := live_row hσ, os := r1, tape := r2, output := r3, size := Nat.le_of_eq r4.symm
    block := fun b' _ hb' => heap_setCells_other vs X.w b o b' (fun e => hb' n (by rw [hρ, e]))
    gen := .inr ⟨rfl, Nat.le_refl _, rfl⟩
    lies := fun b' n' h => .inr ⟨n', h⟩ }
  have hh : (ABlk.row g cs').holds X.lay (X.w.setCells b o vs) (X.ρ k) := by
    rw [hρ]
    refine ⟨_, T, fr, heap_setCells vs X.w b o arr T fr g1, by rw [size_setArr, g2], hcl, g4, fun j e hj => ?_⟩
    rw [getD_setArr _ _ _ _ (by omega)]
    rw [hcs] at hj
    by_cases hh : o ≤ j ∧ j < o + ds.length
    · rw [if_pos hh] at hj
      rw [if_pos (by omega)]
      exact hd _ _ hj
    · rw [if_neg hh] at hj
      rw [if_neg (by omega)]
      exact g5 j e hj
  exact ⟨_, rfl, hS.repl hok hh, WExt.repl hS hok, d, hv _ (WExt.repl hS hok).le, hK⟩

theorem run_storeAt {t : TypeId} {td : TypeDesc} {agg : Bool} {size : Nat} (ht : TyI P t td agg size) {b o : Nat} {v : Value} {w w' : World} (hs : v.cells.size = size) (h : (storeCells ⟨b, o, none⟩ v.cells.toList).run P w = .ok () w') :
    (Instr.storeAt t (.pointer (some ⟨b, o, none⟩)) v).run P w = .ok () w' := by
  simp [Instr.storeAt, Instr.sureAddr, storeVar, run_sizeOf ht, hs, h]

theorem s_store' {t : TypeId} {td : TypeDesc} {agg : Bool} {size : Nat} {x y : Operand} {m g off : Nat} {cs cs' ds : List DV} {d : DV} [ht : TyI P t td agg size] (hx : f x = .ptr m g off) (hm : σ[m]? = some (.row g cs)) (hy : f y = d) (hd : dcells d = some ds)
    (hl : ds.length = size) (hoff : off + ds.length ≤ cs.length) (hcl : cs'.length = cs.length) (hcs : ∀ j, cs'[j]? = if off ≤ j ∧ j < off + ds.length then ds[j - off]? else cs[j]?) (k : K (.sc undef) (σ.set m (.row g cs'))) :
    OpSem P G B ⟨dst, .store t x y, type, pos, after, gd⟩ f σ K := fun X ρ hS hσ hB _ hf => by
  subst hσ
  have e1 := hf x (by simp [Op.operands, Call.operands]); rw [hx] at e1
  have e2 := hf y (by simp [Op.operands, Call.operands]); rw [hy] at e2
  obtain ⟨b, n, hρ, e3⟩ := e1.ptr_inv hm
  obtain ⟨h1, h2, h3⟩ := dcells_spec hd e2
  obtain ⟨_, _, _, _, _, g3, _⟩ := hS.row hm hρ
  have := post_store (P := P) (K := K) (v := undef) (d := .sc undef) (vs := (ρ y).cells.toList) hS hm hρ (by simpa using h1) h2 (fun j e hj => by simpa [Array.getD_eq_getD_getElem?] using h3 j e hj) (o := off) (by omega) (by omega) hcs (fun L _ => .sc _) k
  have hst := run_storeAt ht (b := b) (o := off) (v := ρ y) (by omega) this.1
  simp only [execOp, e3, hst, Sem.run_bind, Sem.run_pure, Result.andThen_ok]
  exact this.2

/-- Into a block that is known cell by cell. -/
theorem s_store {t : TypeId} {td : TypeDesc} {agg : Bool} {size : Nat} {x y : Operand} {m g off : Nat} {cs cs' ds : List DV} {d : DV} {σ' : List ABlk} [ht : TyI P t td agg size] (hx : f x = .ptr m g off) (hm : σ[m]? = some (.row g cs)) (hy : f y = d) (hd : dcells d = some ds)
    (hl : ds.length = size) (hcs : spliceD cs off ds = some cs') (hσ' : setA σ m (.row g cs') = some σ') (k : K (.sc undef) σ') (h0 : size ≠ 0 := by first | decide | simp) :
    OpSem P G B ⟨dst, .store t x y, type, pos, after, gd⟩ f σ K := by
  obtain ⟨h1, h2, h3⟩ := spliceD_eq hcs
  have h2' : off + ds.length ≤ cs.length := by
    rcases h2 with rfl | h2
    · simp at hl; omega
    · exact h2
  exact s_store' hx hm hy hd hl h2' h1 h3 (by rw [← setA_eq hσ']; exact k)

/-- Into a typed row. -/
theorem s_store_e {t : TypeId} {td : TypeDesc} {agg : Bool} {size : Nat} {x y : Operand} {m g off i : Nat} {l : List α} {z : α} {d : DV} {σ' : List ABlk} [ht : TyI P t td agg size] (hx : f x = .ptr m g off) (hm : σ[m]? = some (.row g (encs l))) (hy : f y = d) (hd : dcells d = some (Enc.enc z))
    (hl : Enc.es α = size) (hoff : off = i * Enc.es α) (hi : i < l.length) (hσ' : setA σ m (.row g (encs (l.set i z))) = some σ') (k : K (.sc undef) σ') : OpSem P G B ⟨dst, .store t x y, type, pos, after, gd⟩ f σ K := by
  have hle : off + Enc.es α ≤ (encs l).length := by
    rw [hoff, encs_len, ← Nat.add_one_mul]; exact Nat.mul_le_mul_right _ hi
  refine s_store' (cs' := encs (l.set i z)) hx hm hy hd (by rw [Enc.len, hl]) (by rw [Enc.len]; exact hle) (by rw [encs_len, encs_len, List.length_set]) (fun j => ?_) (by rw [← setA_eq hσ']; exact k)
  rw [Enc.len]
  have hset : l.set i z = l.take i ++ z :: l.drop (i + 1) := List.set_eq_take_append_cons_drop ▸ by rw [if_pos hi]
  have hl' : l = l.take i ++ l[i] :: l.drop (i + 1) := by rw [List.getElem_cons_drop, List.take_append_drop]
  have ht : (encs (l.take i)).length = off := by rw [encs_len, List.length_take, hoff]; congr 1; omega
  rw [hset, encs_append, encs_cons, List.getElem?_append, ht]
  have h2 : (encs l)[j]? = (encs (l.take i) ++ (Enc.enc l[i] ++ encs (l.drop (i + 1))))[j]? := by rw [← encs_cons, ← encs_append, ← hl']
  by_cases h1 : j < off
  · rw [if_pos h1, if_neg (by omega), h2, List.getElem?_append, ht, if_pos h1]
  · rw [if_neg h1, List.getElem?_append, Enc.len]
    by_cases h3 : j - off < Enc.es α
    · rw [if_pos h3, if_pos (by omega)]
    · rw [if_neg h3, if_neg (by omega), h2, List.getElem?_append, ht, if_neg h1, List.getElem?_append, Enc.len, if_neg h3]

end
end Go.Av
