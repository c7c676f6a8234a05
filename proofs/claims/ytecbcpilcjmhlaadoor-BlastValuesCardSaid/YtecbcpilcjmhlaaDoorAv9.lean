/-
  The operations over abstract values: seventh part (values built of parts; make; slicing; values indexed).
-/
import Derived.Test.YtecbcpilcjmhlaaDoorAv8
namespace Go.Av
open Classical
set_option linter.unusedSimpArgs false
set_option linter.unusedVariables false

/-- Cells and what is known of them. -/
def Cells (L : Lay) (cs : List DV) (arr : Array Value) : Prop := arr.size = cs.length ∧ (∀ u ∈ arr.toList, u.oneCell' = true) ∧ ∀ j e, cs[j]? = some e → e.one = true ∧ VRep L e (arr.getD j undef)

theorem Cells.zero {L : Lay} {zs : List Value} (h : (zs.all (·.oneCell')) = true) : Cells L (zs.map .sc) zs.toArray := by
  refine ⟨by simp, fun u hu => List.all_eq_true.1 h u (by simpa using hu), fun j e hj => ?_⟩
  rw [List.getElem?_map] at hj
  cases hz : zs[j]? with
  | none => simp [hz] at hj
  | some u =>
    simp [hz] at hj; subst hj
    refine ⟨List.all_eq_true.1 h u (List.mem_of_getElem? hz), ?_⟩
    have : zs.toArray.getD j undef = u := by simp [Array.getD_eq_getD_getElem?, hz]
    rw [this]; exact .sc u

theorem foldl_setArr (off : Nat) : ∀ (l : List Value) (k : Nat) (arr : Array Value), (l.zipIdx k).foldl (fun cs (c, j) => cs.setIfInBounds (off + j) c) arr = setArr arr (off + k) l
  | [], _, _ => rfl
  | v :: r, k, arr => by simp only [List.zipIdx_cons, List.foldl_cons, setArr]; rw [foldl_setArr off r (k + 1), Nat.add_assoc]

theorem Cells.put {L : Lay} {cs cs' ds : List DV} {arr : Array Value} {off : Nat} {v : Value} (h : Cells L cs arr) (h1 : v.cells.size = ds.length) (h2 : ∀ u ∈ v.cells.toList, u.oneCell' = true) (h3 : ∀ j e, ds[j]? = some e → e.one = true ∧ VRep L e (v.cells.getD j undef))
    (hcs : spliceD cs off ds = some cs') (h0 : ds ≠ []) : Cells L cs' (setArr arr off v.cells.toList) ∧ off + v.cells.size ≤ arr.size := by
  obtain ⟨g1, g2, g3⟩ := spliceD_eq hcs
  have g2 := g2.resolve_left h0
  obtain ⟨k1, k2, k3⟩ := h
  have hl : v.cells.toList.length = ds.length := by simpa using h1
  have hle : off + v.cells.toList.length ≤ arr.size := by omega
  refine ⟨⟨by rw [size_setArr, g1, k1], fun u hu => ?_, fun j e hj => ?_⟩, by omega⟩
  · obtain ⟨j, hj⟩ := List.mem_iff_getElem?.1 hu
    have hlt : j < arr.size := by have := (List.getElem?_eq_some_iff.1 hj).1; rw [Array.length_toList, size_setArr] at this; exact this
    have hgd := getD_setArr v.cells.toList arr off j hle
    have he : (setArr arr off v.cells.toList).getD j undef = u := by rw [Array.getElem?_toList] at hj; simp [Array.getD_eq_getD_getElem?, hj]
    rw [he] at hgd
    by_cases hh : off ≤ j ∧ j < off + v.cells.toList.length
    · rw [if_pos hh] at hgd
      rw [hgd]
      have : j - off < v.cells.toList.length := by omega
      simp only [List.getD, List.getElem?_eq_getElem this, Option.getD_some]
      exact h2 _ (List.getElem_mem _)
    · rw [if_neg hh] at hgd
      rw [hgd]
      have : arr.getD j undef = arr[j] := by simp [Array.getD_eq_getD_getElem?, hlt]
      have h5 := k2 arr[j] (by simp)
      rw [← this] at h5
      exact h5
  · rw [getD_setArr _ _ _ _ hle]
    rw [g3] at hj
    by_cases hh : off ≤ j ∧ j < off + ds.length
    · rw [if_pos hh] at hj
      rw [if_pos (by omega)]
      have := h3 _ e hj
      simpa [Array.getD_eq_getD_getElem?, List.getD] using this
    · rw [if_neg hh] at hj
      rw [if_neg (by omega)]
      exact k3 j e hj

/-- The cells of a composite, part by part. -/
def fillD (place : Nat → Option (Nat × Nat)) (cs : List DV) : List (Nat × DV) → Option (List DV)
  | [] => forceD cs
  | (i, d) :: rest => match place i with
    | none => none
    | some (off, size) => match dcells d with
      | none => none
      | some ds => match Nat.beq ds.length size with
        | false => none
        | true => match ds with
          | [] => none
          | e :: r => match spliceD cs off (e :: r) with
            | none => none
            | some cs' => fillD place cs' rest

theorem fill_rep {L : Lay} {place : Nat → Option (Nat × Nat)} : ∀ (parts : List (Nat × DV)) (vals : List (Nat × Value)) (cs cs' : List DV) (arr : Array Value), vals.length = parts.length → (∀ (j i : Nat) (d : DV) (u : Nat × Value), parts[j]? = some (i, d) → vals[j]? = some u → u.1 = i ∧ VRep L d u.2) → Cells L cs arr → fillD place cs parts = some cs' →
    ∃ arr', Instr.fill place arr vals = some arr' ∧ Cells L cs' arr'
  | [], vals, cs, cs', arr, hl, _, hc, hf => by
    have : vals = [] := List.eq_nil_of_length_eq_zero (by simpa using hl)
    subst this
    simp only [fillD] at hf
    rw [forceD_eq hf]
    exact ⟨arr, rfl, hc⟩
  | (i, d) :: rest, vals, cs, cs', arr, hl, hv, hc, hf => by
    cases vals with
    | nil => simp at hl
    | cons u us =>
      obtain ⟨i', v⟩ := u
      obtain ⟨hi, hr⟩ := hv 0 i d (i', v) rfl rfl
      simp only at hi hr
      subst hi
      simp only [fillD] at hf
      split at hf
      · cases hf
      · rename_i off size hp
        split at hf
        · cases hf
        · rename_i ds hds
          split at hf
          · cases hf
          · rename_i hb
            have hsz := Nat.eq_of_beq_eq_true hb
            split at hf
            · cases hf
            · rename_i e r
              split at hf
              · cases hf
              · rename_i cs1 hsp
                obtain ⟨g1, g2, g3⟩ := dcells_spec hds hr
                obtain ⟨k1, k2⟩ := hc.put g1 g2 g3 hsp (by simp)
                obtain ⟨arr', k3, k4⟩ := fill_rep rest us cs1 cs' _ (by simpa using hl) (fun j i d u hj hu => hv (j + 1) i d u (by simpa using hj) (by simpa using hu)) k1 hf
                refine ⟨arr', ?_, k4⟩
                simp only [Instr.fill, hp]
                rw [if_neg (by simp; omega)]
                rw [← k3]
                congr 1
                rw [← Array.foldl_toList, Array.toList_zipIdx]
                exact foldl_setArr off _ 0 arr

section
variable {P : Program} {G : Nat → DV} {B : Nat} {f : Operand → DV} {σ : List ABlk} {K : DV → List ABlk → Prop} {dst : Option Tmp} {type : TypeId} {pos : String} {after : Array Edge} {gd : Option (Nat × Bool)}
variable {α : Type} [Enc α]

/-- The parts of a composite. -/
def partsD (f : Operand → DV) : List (Nat × Operand) → Option (List (Nat × DV))
  | [] => some []
  | (i, x) :: r => match reD (f x), partsD f r with | some d, some r' => some ((i, d) :: r') | _, _ => none
theorem partsD_eq : ∀ {l : List (Nat × Operand)} {m : List (Nat × DV)}, partsD f l = some m → m = l.map fun p => (p.1, f p.2)
  | [], m, h => by simp [partsD] at h; exact h
  | (i, x) :: r, m, h => by
    simp only [partsD] at h
    split at h
    · rename_i d r' h1 h2; cases h; rw [partsD_eq h2, reD_eq h1]; rfl
    · cases h

theorem parts_rep {L : Lay} {ρ : Operand → Value} {ps : List (Nat × Operand)} (hf : ∀ p ∈ ps, VRep L (f p.2) (ρ p.2)) {m : List (Nat × DV)} (h : partsD f ps = some m) :
    (ps.map fun (i, x) => (i, ρ x)).length = m.length ∧ ∀ (j i : Nat) (d : DV) (u : Nat × Value), m[j]? = some (i, d) → (ps.map fun (i, x) => (i, ρ x))[j]? = some u → u.1 = i ∧ VRep L d u.2 := by
  rw [partsD_eq h]
  refine ⟨by simp, fun j i d u hj hu => ?_⟩
  rw [List.getElem?_map] at hj hu
  cases hp : ps[j]? with
  | none => simp [hp] at hj
  | some p =>
    simp only [hp, Option.map_some, Option.some.injEq, Prod.mk.injEq] at hj hu
    obtain ⟨rfl, rfl⟩ := hj
    rw [← hu]
    exact ⟨rfl, hf _ (List.mem_of_getElem? hp)⟩

/-- Where a struct's fields lie. -/
class TyS (P : Program) (t : TypeId) (pl : outParam (List (Nat × Nat))) : Prop where
  h : ∃ fields : Array Field, P.underlying t = some (.struct fields) ∧ fields.toList.mapM (fun f => (P.info? f.type).map fun i => (f.offset, i.size)) = some pl

theorem run_mapM_places {w : World} : ∀ (fields : List Field) (pl : List (Nat × Nat)), fields.mapM (fun f => (P.info? f.type).map fun i => (f.offset, i.size)) = some pl →
    (fields.mapM fun f => do pure (f.offset, ← sizeOf f.type) : Sem (List (Nat × Nat))).run P w = .ok pl w
  | [], pl, h => by simp at h; subst h; rfl
  | f :: r, pl, h => by
    simp only [List.mapM_cons] at h ⊢
    cases hi : P.info? f.type with
    | none => simp [hi] at h
    | some i =>
      cases hr : r.mapM (fun f => (P.info? f.type).map fun i => (f.offset, i.size)) with
      | none => simp [hi, hr] at h
      | some pl' =>
        simp [hi, hr] at h
        have := run_mapM_places (w := w) r pl' hr
        simp only [Sem.run_bind, Result.andThen_ok, sizeOf, typeInfo, hi, run_program, Sem.run_pure] at this ⊢
        simp only [this, Result.andThen_ok, h]

theorem s_build_s {t : TypeId} {pl : List (Nat × Nat)} {zs : List Value} {ps : List (Nat × Operand)} {m : List (Nat × DV)} {cs : List DV} [ht : TyS P t pl] [hz : TyZ P t zs] (hp : partsD f ps = some m) (hc : fillD (pl[·]?) (zs.map .sc) m = some cs) (k : K (.agg cs) σ) :
    OpSem P G B ⟨dst, .build t ps.toArray, type, pos, after, gd⟩ f σ K := fun X ρ hS hσ _ _ hf => by
  subst hσ
  obtain ⟨fields, h1, h2⟩ := ht.h
  obtain ⟨z, h3, h4⟩ := run_zero hz X.w
  obtain ⟨g1, g2⟩ := parts_rep (fun p hpp => hf p.2 (by simp only [Op.operands]; simpa using ⟨p.1, hpp⟩)) hp
  obtain ⟨arr, k1, k2⟩ := fill_rep m _ _ cs zs.toArray g1 g2 (Cells.zero (L := X.lay) hz.one) hc
  have hm : (fields.mapM fun f => do pure (f.offset, ← sizeOf f.type) : Sem (Array (Nat × Nat))).run P X.w = .ok pl.toArray X.w := by
    have := run_mapM_places (P := P) (w := X.w) fields.toList pl h2
    rw [Array.mapM_eq_mapM_toList]
    rw [Sem.run_map, this]; rfl
  have hpl : (fun i => pl.toArray[i]?) = (fun (i : Nat) => pl[i]?) := by funext i; simp
  have hrun : (Instr.build t ((ps.toArray).map fun (i, x) => (i, ρ x))).run P X.w = .ok (.agg arr) X.w := by
    unfold Instr.build
    simp only [Sem.run_bind, h3, Result.andThen_ok, run_underlying h1, hm, h4, hpl, List.map_toArray]
    simp only [k1, Sem.run_pure]
  simp only [execOp, hrun, Sem.run_bind, Sem.run_pure, Result.andThen_ok]
  exact post_same hS (.agg _ _ k2.1 (fun d hd => by obtain ⟨j, hj⟩ := List.mem_iff_getElem?.1 hd; exact (k2.2.2 j d hj).1) fun j d hj => (k2.2.2 j d hj).2) k

theorem s_build_a {t e n size : Nat} {g1 g2 : Bool} {z1 : Nat} {td : TypeDesc} {zs : List Value} {ps : List (Nat × Operand)} {m : List (Nat × DV)} {cs : List DV} [ht : TyI P t (.array n e) g1 z1] [he : TyI P e td g2 size] [hz : TyZ P t zs] (hp : partsD f ps = some m) (hc : fillD (fun i => some (i * size, size)) (zs.map .sc) m = some cs) (k : K (.agg cs) σ) :
    OpSem P G B ⟨dst, .build t ps.toArray, type, pos, after, gd⟩ f σ K := fun X ρ hS hσ _ _ hf => by
  subst hσ
  obtain ⟨z, h3, h4⟩ := run_zero hz X.w
  obtain ⟨g1, g2⟩ := parts_rep (fun p hpp => hf p.2 (by simp only [Op.operands]; simpa using ⟨p.1, hpp⟩)) hp
  obtain ⟨arr, k1, k2⟩ := fill_rep m _ _ cs zs.toArray g1 g2 (Cells.zero (L := X.lay) hz.one) hc
  have hrun : (Instr.build t ((ps.toArray).map fun (i, x) => (i, ρ x))).run P X.w = .ok (.agg arr) X.w := by
    unfold Instr.build
    simp only [Sem.run_bind, h3, Result.andThen_ok, run_underlying ht.u, run_sizeOf he, h4, List.map_toArray]
    simp only [k1, Sem.run_pure]
  simp only [execOp, hrun, Sem.run_bind, Sem.run_pure, Result.andThen_ok]
  exact post_same hS (.agg _ _ k2.1 (fun d hd => by obtain ⟨j, hj⟩ := List.mem_iff_getElem?.1 hd; exact (k2.2.2 j d hj).1) fun j d hj => (k2.2.2 j d hj).2) k

/-- So many zero elements. -/
def zerosD (zs : List Value) : Nat → List DV
  | 0 => []
  | n + 1 => zs.map .sc ++ zerosD zs n
theorem zerosD_len (zs : List Value) : ∀ n, (zerosD zs n).length = n * zs.length
  | 0 => by simp [zerosD]
  | n + 1 => by simp [zerosD, zerosD_len zs n, Nat.add_one_mul]; omega
theorem zerosD_get (zs : List Value) : ∀ (n j : Nat), j < n * zs.length → (zerosD zs n)[j]? = some (.sc (zs.getD (j % zs.length) undef))
  | 0, j, h => by simp at h
  | n + 1, j, h => by
    rw [Nat.add_one_mul] at h
    simp only [zerosD, List.getElem?_append, List.length_map]
    split
    · rename_i hlt
      rw [Nat.mod_eq_of_lt hlt]
      simp [List.getD, hlt]
    · rename_i hge
      rw [zerosD_get zs n (j - zs.length) (by omega)]
      rw [← Nat.mod_eq_sub_mod (by omega)]

theorem madeRow {L : Lay} {zs : List Value} {n : Nat} (h1 : (zs.all (·.oneCell')) = true) : Cells L (zerosD zs n) ((Array.range (n * zs.length)).map (zs.toArray[· % zs.toArray.size]!)) := by
  have hget : ∀ j, j < n * zs.length → ((Array.range (n * zs.length)).map (zs.toArray[· % zs.toArray.size]!)).getD j undef = zs.getD (j % zs.length) undef := fun j hj => by
    have hz : 0 < zs.length := by
      rcases Nat.eq_zero_or_pos zs.length with h | h
      · rw [h] at hj; simp at hj
      · exact h
    have hm := Nat.mod_lt j hz
    simp [Array.getD_eq_getD_getElem?, hj, List.getD, hm]
  refine ⟨by simp [zerosD_len], fun u hu => ?_, fun j e hj => ?_⟩
  · simp only [Array.toList_map, List.mem_map] at hu
    obtain ⟨j, hj, rfl⟩ := hu
    simp at hj
    have hz : 0 < zs.length := by
      rcases Nat.eq_zero_or_pos zs.length with h | h
      · rw [h] at hj; simp at hj
      · exact h
    have hm := Nat.mod_lt j hz
    rw [getElem!_pos zs.toArray (j % zs.toArray.size) (by simpa using hm)]
    exact List.all_eq_true.1 h1 _ (by simp)
  · have hlt : j < n * zs.length := by have := (List.getElem?_eq_some_iff.1 hj).1; rwa [zerosD_len] at this
    rw [zerosD_get zs n j hlt] at hj
    cases hj
    rw [hget j hlt]
    refine ⟨?_, .sc _⟩
    have hz : 0 < zs.length := by
      rcases Nat.eq_zero_or_pos zs.length with h | h
      · rw [h] at hlt; simp at hlt
      · exact h
    have hm := Nat.mod_lt j hz
    have : zs.getD (j % zs.length) undef = zs[j % zs.length] := by simp [List.getD, hm]
    simp only [DV.one, this]
    exact List.all_eq_true.1 h1 _ (List.getElem_mem _)

theorem run_buildSlice {t e n size : Nat} {g1 g2 : Bool} {z1 : Nat} {td : TypeDesc} {zs : List Value} {X : AX} {ρ : Operand → Value} {ps : List (Nat × Operand)} {m : List (Nat × DV)} {cs : List DV} (ht : TyI P t (.slice e) g1 z1) (he : TyI P e td g2 size) (hz : TyZ P e zs) (hzl : zs.length = size)
    (hf : ∀ p ∈ ps, VRep X.lay (f p.2) (ρ p.2)) (hp : partsD f ps = some m) (hn : n * size ≤ 16777216) (hc : fillD (fun i => some (i * size, size)) (zerosD zs n) m = some cs) :
    ∃ arr, (Instr.buildSlice t n ((ps.toArray).map fun (i, x) => (i, ρ x))).run P X.w = .ok (.slice (some ⟨X.w.heap.size, 0, none⟩) n n) (X.w.alloc (.cells arr e)) ∧ Cells X.lay cs arr := by
  obtain ⟨z, h3, h4⟩ := run_zero hz X.w
  obtain ⟨g1, g2⟩ := parts_rep hf hp
  obtain ⟨arr, k1, k2⟩ := fill_rep m _ _ cs _ g1 g2 (madeRow (L := X.lay) (n := n) hz.one) hc
  refine ⟨arr, ?_, k2⟩
  have hn' : ¬ (n * size > 2 ^ 24) := by omega
  unfold Instr.buildSlice
  simp only [Sem.run_bind, run_underlying ht.u, run_sizeOf he, Result.andThen_ok, hn', if_false, Sem.run_pure]
  by_cases h0 : n * size = 0
  · have hr : (Array.range (n * zs.length)).map (zs.toArray[· % zs.toArray.size]!) = #[] := by rw [hzl, h0]; simp
    rw [hr] at k1
    simp only [h0, if_true, Sem.run_pure, Result.andThen_ok, Sem.run_bind, List.map_toArray]
    have hr' : ((Array.range 0).map ((#[] : Array Value)[· % (#[] : Array Value).size]!)) = #[] := by simp
    simp only [hr', k1, newRow, Sem.run_bind, run_newObj, Result.andThen_ok, Sem.run_pure, World.alloc_eq]
  · simp only [h0, if_false, Sem.run_bind, h3, Result.andThen_ok, Sem.run_pure, h4, List.map_toArray]
    rw [← hzl]
    rw [hzl] at k1 ⊢
    simp only [k1, newRow, Sem.run_bind, run_newObj, Result.andThen_ok, Sem.run_pure, World.alloc_eq]

/-- A slice that is built and read alone. -/
theorem s_bslice {t e n size : Nat} {g1 g2 : Bool} {z1 : Nat} {td : TypeDesc} {zs : List Value} {ps : List (Nat × Operand)} {m : List (Nat × DV)} {cs : List DV} [ht : TyI P t (.slice e) g1 z1] [he : TyI P e td g2 size] [hz : TyZ P e zs] (hzl : zs.length = size) (hp : partsD f ps = some m) (hn : n * size ≤ 16777216)
    (hc : fillD (fun i => some (i * size, size)) (zerosD zs n) m = some cs) (k : K (.sl size cs) σ) : OpSem P G B ⟨dst, .buildSlice t n ps.toArray, type, pos, after, gd⟩ f σ K := fun X ρ hS hσ _ _ hf => by
  subst hσ
  obtain ⟨arr, h1, h2, h3, h4⟩ := run_buildSlice ht he hz hzl (fun p hpp => hf p.2 (by simp only [Op.operands]; simpa using ⟨p.1, hpp⟩)) hp hn hc
  simp only [execOp, h1, Sem.run_bind, Sem.run_pure, Result.andThen_ok]
  have hk := Keep.alloc X.w (.cells arr e)
  have hE := WExt.inW hk
  have hlen : n * size = cs.length := by
    have : ∀ (m : List (Nat × DV)) (l r : List DV), fillD (fun i => some (i * size, size)) l m = some r → r.length = l.length := by
      intro m
      induction m with
      | nil => intro l r h; simp only [fillD] at h; rw [forceD_eq h]
      | cons p m ih =>
        intro l r h
        obtain ⟨i, d⟩ := p
        simp only [fillD] at h
        split at h
        · cases h
        · split at h
          · cases h
          · split at h
            · cases h
            · split at h
              · cases h
              · rename_i l' hl'
                rw [ih _ _ h, (spliceD_eq hl').1]
    rw [this m _ _ hc, zerosD_len, hzl]
  refine ⟨X.inW (X.w.alloc (.cells arr e)), rfl, hS.inW hk, hE, _, ?_, k⟩
  refine .sl _ _ _ _ _ (fun j => arr.getD j undef) hlen (Nat.le_refl _) (fun d hd => by obtain ⟨j, hj⟩ := List.mem_iff_getElem?.1 hd; exact (h4 j d hj).1) (.inr ⟨_, 0, rfl, fun j hj => ?_⟩) fun j d hj => (h4 j d hj).2.ext hE
  refine AX.imm_mk (fun hm => ?_) (fun hh => ?_) ?_
  · have : X.w.heap.size < X.w.heap.size := hS.mut_lt hm
    omega
  · have : X.w.heap.size < X.w.heap.size := hS.hidlt _ hh
    omega
  · have : 0 + j < arr.size := by omega
    simp only [Nat.zero_add] at this ⊢
    show (X.w.alloc (.cells arr e)).cell? ⟨X.w.heap.size, j, none⟩ = _
    rw [cell_of_row _ _ _ _ _ _ (heap_alloc_new _ _)]
    simp [Array.getD_eq_getD_getElem?, this]

/-- A slice that is built and owned. -/
theorem s_bslice_own {t e n size : Nat} {g1 g2 : Bool} {z1 : Nat} {td : TypeDesc} {zs : List Value} {ps : List (Nat × Operand)} {m : List (Nat × DV)} {cs : List DV} [ht : TyI P t (.slice e) g1 z1] [he : TyI P e td g2 size] [hz : TyZ P e zs] (hzl : zs.length = size) (hp : partsD f ps = some m) (hn : n * size ≤ 16777216)
    (hc : fillD (fun i => some (i * size, size)) (zerosD zs n) m = some cs) (hlen : cs.length = n * size) (k : ∀ g, B < g → K (.ref σ.length g 0 n size) (σ ++ [.row g cs])) : OpSem P G B ⟨dst, .buildSlice t n ps.toArray, type, pos, after, gd⟩ f σ K := fun X ρ hS hσ hB _ hf => by
  subst hσ
  obtain ⟨arr, h1, h2, h3, h4⟩ := run_buildSlice ht he hz hzl (fun p hpp => hf p.2 (by simp only [Op.operands]; simpa using ⟨p.1, hpp⟩)) hp hn hc
  simp only [execOp, h1, Sem.run_bind, Sem.run_pure, Result.andThen_ok]
  refine post_new (v := fun b => .slice (some ⟨b, 0, none⟩) n n) (d := fun g => .ref X.σ.length g 0 n size) hS hB (Keep.alloc _ _) (Nat.le_refl _) (heap_alloc_new _ _) (by omega) h4 (fun L h1 h2' => ?_) k
  refine .ref _ _ _ _ _ _ _ _ h1 fun ob hob => ?_
  rw [h2'] at hob
  rw [← Option.some.inj hob]
  exact ⟨_, n, rfl, Nat.le_refl _, .inr ⟨rfl, by omega⟩⟩

/-- make of a slice. -/
theorem s_make {t e size bytes : Nat} {g1 g2 : Bool} {z1 : Nat} {td : TypeDesc} {zs : List Value} {x y : Operand} {n c : Int} {k1 k2 : IntKind} [ht : TyI P t (.slice e) g1 z1] [he : TyI P e td g2 size] [hb : TyB P e bytes] [hz : TyZ P e zs] (hzl : zs.length = size) (hx : f x = .sc (.int k1 n)) (hy : f y = .sc (.int k2 c))
    (h0 : 0 ≤ n) (hnc : n ≤ c) (hcb : bytes * c ≤ 281474976710656) (hcm : c ≤ 9223372036854775807) (k : ∀ g, B < g → K (.ref σ.length g 0 n.toNat size) (σ ++ [.row g (zerosD zs n.toNat)])) : OpSem P G B ⟨dst, .makeSlice t x y, type, pos, after, gd⟩ f σ K := fun X ρ hS hσ hB _ hf => by
  subst hσ
  have e1 := hf x (by simp [Op.operands, Call.operands]); rw [hx] at e1
  have e2 := hf y (by simp [Op.operands, Call.operands]); rw [hy] at e2
  obtain ⟨i, hi⟩ : ∃ i, P.info? e = some i := by have := he.s; cases h : P.info? e with | none => simp [h] at this | some i => exact ⟨i, rfl⟩
  have hbb : i.bytes = bytes := by have := hb.b; simpa [hi] using this
  obtain ⟨z, h3, h4⟩ := run_zero hz X.w
  have hrow := madeRow (L := X.lay) (zs := zs) (n := c.toNat) hz.one
  have hw1 : IntKind.i64.wrap n = n := wrap_i64 (by omega)
  have hw2 : IntKind.i64.wrap c = c := wrap_i64 (by omega)
  have hrun : (Instr.makeSlice t (.int k1 n) (.int k2 c)).run P X.w = .ok (.slice (some ⟨X.w.heap.size, 0, none⟩) n.toNat c.toNat) (X.w.alloc (.cells ((Array.range (c.toNat * zs.length)).map (zs.toArray[· % zs.toArray.size]!)) e)) := by
    have hc1 : ¬ c < 0 := by omega
    have hc2 : ¬ (281474976710656 < (bytes : Int) * c) := by omega
    have hn1 : ¬ n < 0 := by omega
    have hn2 : ¬ c < n := by omega
    by_cases h00 : c.toNat * size = 0
    · have hr : (Array.range (c.toNat * zs.length)).map (zs.toArray[· % zs.toArray.size]!) = #[] := by rw [hzl, h00]; simp
      rw [hr]
      simp [Instr.makeSlice, run_underlying ht.u, asInt, asIntOf, typeInfo, hi, hbb, hw1, hw2, hc1, hc2, hn1, hn2, run_askRoom, run_sizeOf he, h00, newRow]
      congr 2
      exact Array.map_eq_empty_iff.2 (by simp)
    · simp [Instr.makeSlice, run_underlying ht.u, asInt, asIntOf, typeInfo, hi, hbb, hw1, hw2, hc1, hc2, hn1, hn2, run_askRoom, run_sizeOf he, h00, newRow, h3, h4, hzl]
  simp only [execOp, VRep.sc_eq e1, VRep.sc_eq e2, hrun, Sem.run_bind, Sem.run_pure, Result.andThen_ok]
  have hasz : ((Array.range (c.toNat * zs.length)).map (zs.toArray[· % zs.toArray.size]!)).size = c.toNat * size := by simp [hzl]
  have hle : (zerosD zs n.toNat).length ≤ c.toNat * size := by rw [zerosD_len, hzl]; exact Nat.mul_le_mul_right _ (by omega)
  refine post_new (v := fun b => .slice (some ⟨b, 0, none⟩) n.toNat c.toNat) (d := fun g => .ref X.σ.length g 0 n.toNat size) hS hB (Keep.alloc _ _) (Nat.le_refl _) (heap_alloc_new _ _) (by rw [hasz]; exact hle) (fun j d hj => hrow.2.2 j d ?_) (fun L h1 h2' => ?_) k
  · have hlt : j < n.toNat * zs.length := by have := (List.getElem?_eq_some_iff.1 hj).1; rwa [zerosD_len] at this
    have hlt' : j < c.toNat * zs.length := Nat.lt_of_lt_of_le hlt (Nat.mul_le_mul_right _ (by omega))
    rw [zerosD_get zs _ j hlt] at hj
    rw [zerosD_get zs _ j hlt']; exact hj
  · refine .ref _ _ _ _ _ _ _ _ h1 fun ob hob => ?_
    rw [h2', hasz] at hob
    rw [← Option.some.inj hob]
    exact ⟨_, c.toNat, rfl, by omega, .inr ⟨rfl, by omega⟩⟩

theorem zerosD_enc {zs : List Value} {z : α} (h : zs.map .sc = Enc.enc z) : ∀ n, zerosD zs n = encs (List.replicate n z)
  | 0 => rfl
  | n + 1 => by rw [zerosD, zerosD_enc h n, h, List.replicate_succ, encs_cons]

end
end Go.Av
