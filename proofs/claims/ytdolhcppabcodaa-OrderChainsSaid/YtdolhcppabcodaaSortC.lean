/-
  slices.Sort over whole numbers, as a call that writes one row: out of the library's contract.
-/
import Derived.Shelf.Slices.In.SortNone
import Derived.Test.YtdolhcppabcodaaAvI
namespace Go.Av
open Go.Shelf Go.RowKit Go.Sort Go.Proofs
open Classical
set_option linter.unusedSimpArgs false
set_option linter.unusedVariables false
variable {P : Program} {ρ : Go.Shelf.Ren} {G : Nat → DV}

theorem sort_calls (L : Lays.n189 P ρ) (blk off cap : Nat) (zs : List Int) (w : World) (hH : Holds (Value.int .i64) w blk off zs.toArray) (hblk : blk < w.heap.size) (hsz : zs.length < 4611686018427387904) :
    Calls P (ρ.f 189) #[.slice (some ⟨blk, off, none⟩) zs.length cap] w fun e w' => e = .returned (.tuple #[]) ∧ ∃ n os, w' = grow (putRow (Value.int .i64) (Sort.ahead w n) blk off (zs.mergeSort fun x y => decide (x ≤ y)).toArray) os :=
  calls_of_every_depth fun D => AnyS.slices_Sort_int_alone L D blk off cap zs w hH hblk hsz

theorem encs_int (l : List Int) (j : Nat) : (encs l)[j]? = (l[j]?).map fun n => DV.i n := by
  induction l generalizing j with
  | nil => simp [encs]
  | cons x l ih =>
    rw [encs_cons]
    cases j with
    | zero => rfl
    | succ j => exact ih j
theorem encs_int_len (l : List Int) : (encs l).length = l.length := by rw [encs_len]; exact Nat.mul_one _

theorem sort_mut (L : Lays.n189 P ρ) (g : Nat) (l : List Int) (hl : l.length < 4611686018427387904) : Mut1 P G (ρ.f 189) g [.ref 0 g 0 l.length 1] (encs l) (fun _ => .tup []) (encs (l.mergeSort fun x y => decide (x ≤ y))) true := by
  intro B hB X vs hS hσ hBN hG hvs
  obtain ⟨hv1, hv2⟩ := hvs
  obtain ⟨v, rfl⟩ : ∃ v, vs = #[v] := ⟨vs.getD 0 undef, by apply Array.ext_getElem?; intro i; cases i with | zero => simp at hv1; simp [hv1] | succ i => simp at hv1; simp [hv1]⟩
  have hv := hv2 0 _ rfl
  simp at hv
  have hk : X.σ[0]? = some (.row g (encs l)) := by rw [hσ]; rfl
  have hinv := hv.ref_inv hk
  have hlk : X.live 0 g := live_row hk
  have empty : ∀ (a : Option Addr) (cap : Nat), l = [] → v = .slice a 0 cap → Calls P (ρ.f 189) #[v] X.w (CPost X fun d σ' => ∃ g', (g' = g ∨ (true = false ∧ B < g')) ∧ d = DV.tup [] ∧ σ' = [.row g' (encs (l.mergeSort fun x y => decide (x ≤ y)))]) := fun a cap h1 h2 => by
    subst h1; subst h2
    refine (Any.slices_Sort_int_none L a cap X.w).mono ?_
    rintro e w' ⟨rfl, rfl⟩
    exact ⟨_, rfl, X, rfl, hS, WExt.refl X, .tup [], .tup _ _ rfl (fun j d hj => by simp at hj), g, .inl rfl, rfl, by rw [hσ]; simp⟩
  unfold RefOk at hinv
  cases hρ : X.ρ 0 with
  | none =>
    rw [hρ] at hinv
    obtain ⟨h1, _, h2⟩ := hinv
    exact empty none 0 (List.eq_nil_of_length_eq_zero h2) h1
  | some z =>
    obtain ⟨b, n⟩ := z
    rw [hρ] at hinv
    obtain ⟨a, cap, rfl, h1, h2⟩ := hinv
    by_cases h0 : l.length = 0
    · exact empty a cap (List.eq_nil_of_length_eq_zero h0) (by rw [h0])
    · rcases h2 with h2 | ⟨rfl, h2⟩
      · omega
      obtain ⟨arr, T, fr, q1, q2, q3, q4, q5⟩ := hS.row hk hρ
      rw [encs_int_len] at q3
      have hcell : ∀ j (hj : j < l.length), arr[j]? = some (.int .i64 l[j]) := fun j hj => by
        obtain ⟨_, hr⟩ := q5 j (DV.i l[j]) (by rw [encs_int, List.getElem?_eq_getElem hj]; rfl)
        have he := VRep.sc_eq hr
        rw [Array.getD_eq_getD_getElem?, Array.getElem?_eq_getElem (by omega)] at he
        rw [Array.getElem?_eq_getElem (by omega)]
        simpa using he
      have hH : Holds (Value.int .i64) X.w b 0 l.toArray := fun j hj => by
        have hj' : j < l.length := by simpa using hj
        constructor
        · rw [Nat.zero_add, cell_of_row _ _ _ _ _ _ q1, hcell j hj']
          simp [hj']
        · have := q4 j (by omega)
          simp [World.frozen?, q1]
          intro h; have := fun hh => this ⟨h, hh⟩; omega
      refine (sort_calls L b 0 cap l X.w hH (lt_of_heap q1) (by omega)).mono ?_
      rintro e w' ⟨rfl, m, os, rfl⟩
      generalize hs : (l.mergeSort fun x y => decide (x ≤ y)) = s
      have hsl : s.length = l.length := by rw [← hs, List.length_mergeSort]
      let w' := grow (putRow (Value.int .i64) (Sort.ahead X.w m) b 0 s.toArray) os
      have hheap : ∀ i, i < X.w.heap.size → w'.heap[i]? = if b = i then some (.cells (putCells (Value.int .i64) 0 s.toArray arr) T fr) else X.w.heap[i]? := fun i hi => by
        show ((putRow (Value.int .i64) (Sort.ahead X.w m) b 0 s.toArray).heap ++ os)[i]? = _
        rw [Array.getElem?_append_left (by rw [size_putRow]; exact hi)]
        simp only [putRow, mapBlock, Sort.ahead, Array.getElem?_modify]
        split
        · rename_i hbi; subst hbi
          rw [q1]; rfl
        · rfl
      have hok : ReplOk X 0 g w' (X.ρ 0) (.row g (encs s)) X.N := {
        live := hlk, os := rfl, tape := rfl, output := rfl
        size := by show X.w.heap.size ≤ ((putRow (Value.int .i64) (Sort.ahead X.w m) b 0 s.toArray).heap ++ os).size; rw [Array.size_append, size_putRow]; exact Nat.le_add_right _ _
        block := fun i hi hn => by
          rw [hheap i hi, if_neg (fun e => hn n (by rw [hρ, e]))]
        gen := .inr ⟨rfl, Nat.le_refl _, rfl⟩
        lies := fun b n h => .inr ⟨n, h⟩ }
      refine ⟨_, rfl, X.repl 0 w' (X.ρ 0) (.row g (encs s)) X.N, rfl, hS.repl hok ?_, WExt.repl hS hok, .tup [], .tup _ _ rfl (fun j d hj => by simp at hj), g, .inl rfl, rfl, by simp [AX.repl, hσ]⟩
      rw [hρ]
      refine ⟨_, T, fr, by rw [hheap b (lt_of_heap q1), if_pos rfl], by simp [putCells, q2], by rw [encs_int_len, hsl]; omega, q4, fun j d hj => ?_⟩
      have hjs : j < s.length := by
        have := (List.getElem?_eq_some_iff.1 hj).1
        rwa [encs_int_len] at this
      rw [encs_int, List.getElem?_eq_getElem hjs] at hj
      cases hj
      refine ⟨rfl, ?_⟩
      have : (putCells (Value.int .i64) 0 s.toArray arr).getD j undef = .int .i64 s[j] := by
        simp only [putCells, Array.getD_eq_getD_getElem?, Array.getElem?_mapIdx]
        rw [Array.getElem?_eq_getElem (by omega)]
        simp [hjs]
      rw [this]
      exact .sc _
end Go.Av
