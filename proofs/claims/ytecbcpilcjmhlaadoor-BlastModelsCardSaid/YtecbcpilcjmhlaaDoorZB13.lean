/-
  Part 13 of the proof: S6 P4 P5 P6 VL P8 P7.
-/
import Derived.Test.YtecbcpilcjmhlaaDoorZB1
import Derived.Test.YtecbcpilcjmhlaaDoorZB2
import Derived.Test.YtecbcpilcjmhlaaDoorZB3
import Derived.Test.YtecbcpilcjmhlaaDoorZB5
import Derived.Test.YtecbcpilcjmhlaaDoorZB10
import Derived.Test.YtecbcpilcjmhlaaDoorZB12
set_option linter.unusedSimpArgs false
set_option linter.unusedVariables false
set_option maxRecDepth 100000
set_option maxHeartbeats 4000000
section
namespace Go.Proofs
open Go.Av
variable {G : Nat -> DV}
attribute [local irreducible] OpSem WE WY W0 ACalls ZE QV RV
open Go.Bl
def finE (vals : List Int) (k n m : Int) (l : List Int) : Int :=
 if k = 6 then (if m = 1 then (if decide (WM vals n ≠ 0) = true then 1 else 0) else WM vals n)
 else if k = 9 then (opM n (l.getD 0 0) (l.getD 1 0)).1
 else if k = 10 then 1 - l.getD 0 0
 else if k = 29 then (if l.getD 0 0 = 1 then l.getD 1 0 else l.getD 2 0)
 else n
mutual
def evN (vals : List Int) : Nd -> Int
 | .mk k n m ks => finE vals k n m (evL vals ks)
def evL (vals : List Int) : List Nd -> List Int
 | [] => []
 | x :: r => evN vals x :: evL vals r
end
def Vok (vals : List Int) : Prop := vals.length <= 1000 /\ ∀ x ∈ vals, -8 <= x /\ x <= 7
theorem val_bd {vals : List Int} (h : Vok vals) (n : Int) : -8 <= WM vals n /\ WM vals n <= 7 := by
 unfold WM
 split
 ·rw [List.getD_eq_getElem?_getD]
  cases e : vals[n.toNat]? with
  | none => exact ⟨by decide, by decide⟩
  | some x => exact h.2 x (List.mem_of_getElem? e)
 ·exact ⟨by decide, by decide⟩
theorem opM_bd (op a b : Int) : -8 <= (opM op a b).1 /\ (opM op a b).1 <= 7 := by
 unfold opM
 split
 ·exact ⟨by decide, by decide⟩
 ·exact wrapI_bd _
def chk01 : Bool := (List.range 4).all fun op => (List.range 16).all fun a => (List.range 16).all fun b =>
 let op : Int := (op : Int) + 10; let a : Int := (a : Int) - 8; let b : Int := (b : Int) - 8
 decide ((opM op a b).1 = 0 \/ (opM op a b).1 = 1)
theorem chk01_ok : chk01 = true := by kernel_rfl
theorem op_01 {op a b : Int} (hop : 10 <= op /\ op < 14) (ha : -8 <= a /\ a <= 7) (hb : -8 <= b /\ b <= 7) : (opM op a b).1 = 0 \/ (opM op a b).1 = 1 := by
 have h := chk01_ok
 unfold chk01 at h
 have h1 := List.all_eq_true.1 h (op - 10).toNat (List.mem_range.2 (by omega))
 have h2 := List.all_eq_true.1 h1 (a + 8).toNat (List.mem_range.2 (by omega))
 have h3 := List.all_eq_true.1 h2 (b + 8).toNat (List.mem_range.2 (by omega))
 have h3 := of_decide_eq_true h3
 have e1 : ((op - 10).toNat : Int) + 10 = op := by omega
 have e2 : ((a + 8).toNat : Int) - 8 = a := by omega
 have e3 : ((b + 8).toNat : Int) - 8 = b := by omega
 rw [e1, e2, e3] at h3
 exact h3
def chkW : Bool := (List.range 16).all fun a => decide (wrapI ((a : Int) - 8) = (a : Int) - 8)
theorem chkW_ok : chkW = true := by kernel_rfl
theorem wrapI_self {v : Int} (hv : -8 <= v /\ v <= 7) : wrapI v = v := by
 have h := chkW_ok
 unfold chkW at h
 have h1 := of_decide_eq_true (List.all_eq_true.1 h (v + 8).toNat (List.mem_range.2 (by omega)))
 have e2 : ((v + 8).toNat : Int) - 8 = v := by omega
 rw [e2] at h1
 exact h1
theorem truth10 {n : Int} (hn : 0 <= n /\ n < 12) : truthM n = true ↔ 10 <= n := by
 have : n = 0 \/ n = 1 \/ n = 2 \/ n = 3 \/ n = 4 \/ n = 5 \/ n = 6 \/ n = 7 \/ n = 8 \/ n = 9 \/ n = 10 \/ n = 11 := by omega
 rcases this with rfl | rfl | rfl | rfl | rfl | rfl | rfl | rfl | rfl | rfl | rfl | rfl <;> decide
theorem ev_ok {vals : List Int} (hv : Vok vals) {t : Nd} {k : Int} (h : Tt t k) : -8 <= evN vals t /\ evN vals t <= 7 /\ (k = 1 -> evN vals t = 0 \/ evN vals t = 1) := by
 induction h with
 | num h => exact ⟨h.1, h.2, fun h => absurd h (by decide)⟩
 | @tru n h => 
  have e : evN vals (.mk 5 n 0 []) = n := rfl
  rw [e]
  exact ⟨by omega, by omega, fun _ => h⟩
 | @var n m h1 h2 =>
  have hb := val_bd hv n
  have e : evN vals (.mk 6 n m []) = if m = 1 then (if decide (WM vals n ≠ 0) = true then 1 else 0) else WM vals n := rfl
  rw [e]
  split
  ·split
   ·exact ⟨by decide, by decide, fun _ => .inr rfl⟩
   ·exact ⟨by decide, by decide, fun _ => .inl rfl⟩
  ·rename_i hm; exact ⟨hb.1, hb.2, fun h => absurd h hm⟩
 | @bin n a b hn _ _ iha ihb =>
  have hb := opM_bd n (evN vals a) (evN vals b)
  refine ⟨hb.1, hb.2, fun h1 => ?_⟩
  have ht : 10 <= n := by
   refine (truth10 hn).1 ?_
   split at h1
   ·assumption
   ·exact absurd h1 (by decide)
  exact op_01 ⟨ht, by omega⟩ ⟨iha.1, iha.2.1⟩ ⟨ihb.1, ihb.2.1⟩
 | @log n a b hn _ _ iha ihb =>
  have hb := opM_bd n (evN vals a) (evN vals b)
  exact ⟨hb.1, hb.2, fun h1 => op_01 (by omega) ⟨iha.1, iha.2.1⟩ ⟨ihb.1, ihb.2.1⟩⟩
 | @not a _ iha =>
  have e : evN vals (.mk 10 0 0 [a]) = 1 - evN vals a := rfl
  rw [e]
  rcases iha.2.2 rfl with h | h <;> rw [h] <;> exact ⟨by decide, by decide, by decide⟩
 | @cond c a b k hc ha hb ihc iha ihb =>
  have e : evN vals (.mk 29 0 0 [c, a, b]) = if evN vals c = 1 then evN vals a else evN vals b := rfl
  rw [e]
  split
  ·exact iha
  ·exact ihb
theorem r20Eval_c {vals : List Int} (hv : Vok vals) {t : Nd} {k : Int} (h : Tt t k) : Go.Av.Pure Tryd.prog G 54 [.agg (Enc.enc t), Qy vals] (.i (evN vals t)) := by
 have hvl := hv.1
 induction h with
 | @num n hn =>
  intro B
  rw [We, show evN vals (.mk 4 n 0 []) = n from rfl]
  refine Qb Tryd.func54 rfl Tryd.ntmps54 rfl (t := [(0, .agg [.i 4, .i n, .i 0, Qy []]), (1, Qy vals)]) rfl fun E hE => ?_
  (repeat' first | refine Qv rfl ?_ | refine Qc rfl rfl rfl ?_ | refine QH rfl rfl ?_ | refine Qd rfl rfl ?_ | refine Q5 rfl rfl (fun _ _ => ?_) | refine Qe ?_ | refine Qp rfl ?_ | refine Qf ?_ | refine Qa ?_ | refine Qg ?_ | refine Qj ?_ | refine Qi rfl ?_ | refine Qm ?_ | fail)
  exact e_1 (Tryd.results54) (Qh rfl) (QC (σ := []) (r := [_]) ⟨rfl, rfl⟩)
 | @tru n hn =>
  intro B
  rw [We, show evN vals (.mk 5 n 0 []) = n from rfl]
  refine Qb Tryd.func54 rfl Tryd.ntmps54 rfl (t := [(0, .agg [.i 5, .i n, .i 0, Qy []]), (1, Qy vals)]) rfl fun E hE => ?_
  (repeat' first | refine Qv rfl ?_ | refine Qc rfl rfl rfl ?_ | refine QH rfl rfl ?_ | refine Qd rfl rfl ?_ | refine Q5 rfl rfl (fun _ _ => ?_) | refine Qe ?_ | refine Qp rfl ?_ | refine Qf ?_ | refine Qa ?_ | refine Qg ?_ | refine Qj ?_ | refine Qi rfl ?_ | refine Qm ?_ | fail)
  exact e_1 (Tryd.results54) (Qh rfl) (QC (σ := []) (r := [_]) ⟨rfl, rfl⟩)
 | @var n m h1 h2 =>
  intro B
  have hb := val_bd hv n
  have hva : WM vals n = if n < vals.length then vals.getD n.toNat 0 else 0 := rfl
  rw [We, show evN vals (.mk 6 n m []) = if m = 1 then (if decide (WM vals n ≠ 0) = true then 1 else 0) else WM vals n from rfl]
  by_cases hlt : n < vals.length
  all_goals by_cases hm : m = 1
  ·rw [if_pos hm]
   have hix : n.toNat < vals.length := by clear hva hb; omega
   have hva : WM vals n = vals[n.toNat] := by rw [hva, if_pos hlt, List.getD_eq_getElem?_getD, List.getElem?_eq_getElem hix]; rfl
   rw [hva]
   rw [hva] at hb
   have hnum := qc (G := G) (decide (vals[n.toNat] ≠ 0))
   refine Qb Tryd.func54 rfl Tryd.ntmps54 rfl (t := [(0, .agg [.i 6, .i n, .i m, Qy []]), (1, Qy vals)]) rfl fun E hE => ?_
   (repeat' first | refine Qt rfl ?_ | refine Qv rfl ?_ | refine QF rfl ?_ | refine Qc rfl rfl rfl ?_ | refine s_idx_sl rfl rfl (by omega) (by first | assumption | omega | (simp; done) | (simp; omega)) ?_ | refine QG rfl rfl ?_ | refine QH rfl rfl ?_ | refine W6 rfl rfl ?_ | refine Qn rfl ?_ | refine QZ rfl rfl (hnum) ?_ | refine Qd rfl rfl ?_ | refine Q5 rfl rfl (fun _ _ => ?_) | refine Qe ?_ | refine Qp rfl ?_ | refine Qf ?_ | refine Qa ?_ | refine Qg ?_ | refine Qs rfl ?_ | refine Qx rfl (by omega) ?_ | refine Qm ?_ | fail)
   exact e_1 (Tryd.results54) (Qh rfl) (QC (σ := []) (r := [_]) ⟨rfl, rfl⟩)
  ·rw [if_neg hm]
   have hix : n.toNat < vals.length := by clear hva hb; omega
   have hva : WM vals n = vals[n.toNat] := by rw [hva, if_pos hlt, List.getD_eq_getElem?_getD, List.getElem?_eq_getElem hix]; rfl
   rw [hva]
   rw [hva] at hb
   have hwr := (show Go.Av.Pure Tryd.prog G 58 [.i (vals[n.toNat])] (.i (vals[n.toNat])) by have := W8 (G := G) (vals[n.toNat]) (by omega); rwa [wW_self hb] at this)
   refine Qb Tryd.func54 rfl Tryd.ntmps54 rfl (t := [(0, .agg [.i 6, .i n, .i m, Qy []]), (1, Qy vals)]) rfl fun E hE => ?_
   (repeat' first | refine Qt rfl ?_ | refine Qv rfl ?_ | refine QF rfl ?_ | refine Qc rfl rfl rfl ?_ | refine s_idx_sl rfl rfl (by omega) (by first | assumption | omega | (simp; done) | (simp; omega)) ?_ | refine QG rfl rfl ?_ | refine QH rfl rfl ?_ | refine Qn rfl ?_ | refine QZ rfl rfl (hwr) ?_ | refine Qd rfl rfl ?_ | refine Q5 rfl rfl (fun _ _ => ?_) | refine Qe ?_ | refine Qp rfl ?_ | refine Qf ?_ | refine Qa ?_ | refine Qg ?_ | refine Qj ?_ | refine Qs rfl ?_ | refine Qx rfl (by omega) ?_ | refine QD rfl (by omega) ?_ | refine Qm ?_ | fail)
   exact e_1 (Tryd.results54) (Qh rfl) (QC (σ := []) (r := [_]) ⟨rfl, rfl⟩)
  ·rw [if_pos hm]
   rw [if_neg hlt] at hva
   rw [hva]
   rw [hva] at hb
   have hnum := qc (G := G) (decide (0 ≠ 0))
   refine Qb Tryd.func54 rfl Tryd.ntmps54 rfl (t := [(0, .agg [.i 6, .i n, .i m, Qy []]), (1, Qy vals)]) rfl fun E hE => ?_
   (repeat' first | refine Qt rfl ?_ | refine Qv rfl ?_ | refine Qc rfl rfl rfl ?_ | refine QG rfl rfl ?_ | refine QH rfl rfl ?_ | refine W6 rfl rfl ?_ | refine Qn rfl ?_ | refine QZ rfl rfl (hnum) ?_ | refine Qd rfl rfl ?_ | refine Q5 rfl rfl (fun _ _ => ?_) | refine Qe ?_ | refine Qp rfl ?_ | refine Qf ?_ | refine Qa ?_ | refine Qg ?_ | refine Qj ?_ | refine Qs rfl ?_ | refine Qx rfl (by omega) ?_ | refine QD rfl (by omega) ?_ | refine Qm ?_ | fail)
   exact e_1 (Tryd.results54) (Qh rfl) (QC (σ := []) (r := [_]) ⟨rfl, rfl⟩)
  ·rw [if_neg hm]
   rw [if_neg hlt] at hva
   rw [hva]
   rw [hva] at hb
   have hwr := (show Go.Av.Pure Tryd.prog G 58 [.i (0)] (.i (0)) by have := W8 (G := G) (0) (by omega); rwa [wW_self hb] at this)
   refine Qb Tryd.func54 rfl Tryd.ntmps54 rfl (t := [(0, .agg [.i 6, .i n, .i m, Qy []]), (1, Qy vals)]) rfl fun E hE => ?_
   (repeat' first | refine Qt rfl ?_ | refine Qv rfl ?_ | refine Qc rfl rfl rfl ?_ | refine QG rfl rfl ?_ | refine QH rfl rfl ?_ | refine Qn rfl ?_ | refine QZ rfl rfl (hwr) ?_ | refine Qd rfl rfl ?_ | refine Q5 rfl rfl (fun _ _ => ?_) | refine Qe ?_ | refine Qp rfl ?_ | refine Qf ?_ | refine Qa ?_ | refine Qg ?_ | refine Qj ?_ | refine Qs rfl ?_ | refine QD rfl (by omega) ?_ | refine Qm ?_ | fail)
   exact e_1 (Tryd.results54) (Qh rfl) (QC (σ := []) (r := [_]) ⟨rfl, rfl⟩)
 | @bin n a b hn ha hb iha ihb =>
  intro B
  have hra := ev_ok hv ha
  have hrb := ev_ok hv hb
  have hwa : (Enc.enc a : List DV).length = 4 := Enc.len a
  have hwb : (Enc.enc b : List DV).length = 4 := Enc.len b
  have hop := r04Op_c (G := G) n (evN vals a) (evN vals b) (by omega) ⟨hra.1, hra.2.1⟩ ⟨hrb.1, hrb.2.1⟩
  rw [We, show evN vals (.mk 9 n 0 [a, b]) = (opM n (evN vals a) (evN vals b)).1 from rfl]
  have hz : (n = 3 \/ n = 4) /\ evN vals b = 0 -> (opM n (evN vals a) (evN vals b)).1 = 0 := fun h => by
   rw [ref_op (by omega) ⟨hra.1, hra.2.1⟩ ⟨hrb.1, hrb.2.1⟩, if_pos h]
  generalize opM n (evN vals a) (evN vals b) = o at *
  generalize evN vals a = va at *
  generalize evN vals b = vb at *
  by_cases h0 : vb = 0
  ·by_cases h3 : n = 3
   ·rw [hz ⟨.inl h3, h0⟩]
    refine Qb Tryd.func54 rfl Tryd.ntmps54 rfl (t := [(0, .agg [.i 9, .i n, .i 0, Qy [a, b]]), (1, Qy vals)]) rfl fun E hE => ?_
    (repeat' first | refine Qt rfl ?_ | refine Qv rfl ?_ | refine QM rfl ?_ | refine Qc rfl rfl rfl ?_ | refine Qo rfl rfl (by first | assumption | omega | (simp; done) | (simp; omega)) ?_ | refine QH rfl rfl ?_ | refine QZ rfl rfl (iha) ?_ | refine QZ rfl rfl (ihb) ?_ | refine WR rfl rfl ?_ | refine Qd rfl rfl ?_ | refine Q5 rfl rfl (fun _ _ => ?_) | refine Qe ?_ | refine Qp rfl ?_ | refine WC rfl rfl rfl rfl ?_ | refine WO rfl rfl rfl rfl ?_ | refine Wm rfl rfl (by omega) ?_ | refine Qf ?_ | refine Qa ?_ | refine Qg ?_ | refine Qs rfl ?_ | refine Qi rfl ?_ | refine Qm ?_ | fail)
    exact e_1 (Tryd.results54) (Qh rfl) (QC (σ := []) (r := [_]) ⟨rfl, rfl⟩)
   ·by_cases h4 : n = 4
    ·rw [hz ⟨.inr h4, h0⟩]
     refine Qb Tryd.func54 rfl Tryd.ntmps54 rfl (t := [(0, .agg [.i 9, .i n, .i 0, Qy [a, b]]), (1, Qy vals)]) rfl fun E hE => ?_
     (repeat' first | refine Qt rfl ?_ | refine Qv rfl ?_ | refine QM rfl ?_ | refine Qc rfl rfl rfl ?_ | refine Qo rfl rfl (by first | assumption | omega | (simp; done) | (simp; omega)) ?_ | refine QH rfl rfl ?_ | refine QZ rfl rfl (iha) ?_ | refine QZ rfl rfl (ihb) ?_ | refine WR rfl rfl ?_ | refine Wk rfl rfl ?_ | refine Qd rfl rfl ?_ | refine Q5 rfl rfl (fun _ _ => ?_) | refine Qe ?_ | refine Qp rfl ?_ | refine WC rfl rfl rfl rfl ?_ | refine Wm rfl rfl (by omega) ?_ | refine Wn rfl rfl (by omega) ?_ | refine Qf ?_ | refine Qa ?_ | refine Qg ?_ | refine Qs rfl ?_ | refine Qi rfl ?_ | refine Qx rfl (by omega) ?_ | refine Qm ?_ | fail)
     exact e_1 (Tryd.results54) (Qh rfl) (QC (σ := []) (r := [_]) ⟨rfl, rfl⟩)
    ·clear hz
     refine Qb Tryd.func54 rfl Tryd.ntmps54 rfl (t := [(0, .agg [.i 9, .i n, .i 0, Qy [a, b]]), (1, Qy vals)]) rfl fun E hE => ?_
     (repeat' first | refine Qt rfl ?_ | refine Qv rfl ?_ | refine QM rfl ?_ | refine Qc rfl rfl rfl ?_ | refine Qo rfl rfl (by first | assumption | omega | (simp; done) | (simp; omega)) ?_ | refine QH rfl rfl ?_ | refine QZ rfl rfl (iha) ?_ | refine QZ rfl rfl (ihb) ?_ | refine QZ rfl rfl (hop) ?_ | refine WR rfl rfl ?_ | refine Wk rfl rfl ?_ | refine Qd rfl rfl ?_ | refine Wh rfl rfl rfl ?_ | refine Q5 rfl rfl (fun _ _ => ?_) | refine Qe ?_ | refine Qp rfl ?_ | refine WC rfl rfl rfl rfl ?_ | refine Wm rfl rfl (by omega) ?_ | refine Wn rfl rfl (by omega) ?_ | refine Qf ?_ | refine Qa ?_ | refine Qg ?_ | refine Qj ?_ | refine Qs rfl ?_ | refine Qi rfl ?_ | refine QD rfl (by omega) ?_ | refine Qm ?_ | fail)
     exact e_1 (Tryd.results54) (Qh rfl) (QC (σ := []) (r := [_]) ⟨rfl, rfl⟩)
  ·clear hz
   refine Qb Tryd.func54 rfl Tryd.ntmps54 rfl (t := [(0, .agg [.i 9, .i n, .i 0, Qy [a, b]]), (1, Qy vals)]) rfl fun E hE => ?_
   (repeat' first | refine Qt rfl ?_ | refine Qv rfl ?_ | refine QM rfl ?_ | refine Qc rfl rfl rfl ?_ | refine Qo rfl rfl (by first | assumption | omega | (simp; done) | (simp; omega)) ?_ | refine QH rfl rfl ?_ | refine QZ rfl rfl (iha) ?_ | refine QZ rfl rfl (ihb) ?_ | refine QZ rfl rfl (hop) ?_ | refine Wk rfl rfl ?_ | refine Qd rfl rfl ?_ | refine Wh rfl rfl rfl ?_ | refine Q5 rfl rfl (fun _ _ => ?_) | refine Qe ?_ | refine Qp rfl ?_ | refine WO rfl rfl rfl rfl ?_ | refine o_gu rfl rfl rfl rfl rfl ?_ | refine Wn rfl rfl (by omega) ?_ | refine Qf ?_ | refine Qa ?_ | refine Qg ?_ | refine Qj ?_ | refine Qs rfl ?_ | refine Qi rfl ?_ | refine Qm ?_ | fail)
   exact e_1 (Tryd.results54) (Qh rfl) (QC (σ := []) (r := [_]) ⟨rfl, rfl⟩)
 | @log n a b hn ha hb iha ihb =>
  intro B
  have hra := ev_ok hv ha
  have hrb := ev_ok hv hb
  have hwa : (Enc.enc a : List DV).length = 4 := Enc.len a
  have hwb : (Enc.enc b : List DV).length = 4 := Enc.len b
  have hop := r04Op_c (G := G) n (evN vals a) (evN vals b) (by omega) ⟨hra.1, hra.2.1⟩ ⟨hrb.1, hrb.2.1⟩
  rw [We, show evN vals (.mk 9 n 0 [a, b]) = (opM n (evN vals a) (evN vals b)).1 from rfl]
  have hz : (n = 3 \/ n = 4) /\ evN vals b = 0 -> (opM n (evN vals a) (evN vals b)).1 = 0 := fun h => by
   rw [ref_op (by omega) ⟨hra.1, hra.2.1⟩ ⟨hrb.1, hrb.2.1⟩, if_pos h]
  generalize opM n (evN vals a) (evN vals b) = o at *
  generalize evN vals a = va at *
  generalize evN vals b = vb at *
  by_cases h0 : vb = 0
  ·by_cases h3 : n = 3
   ·rw [hz ⟨.inl h3, h0⟩]
    refine Qb Tryd.func54 rfl Tryd.ntmps54 rfl (t := [(0, .agg [.i 9, .i n, .i 0, Qy [a, b]]), (1, Qy vals)]) rfl fun E hE => ?_
    (repeat' first | refine Qt rfl ?_ | refine Qv rfl ?_ | refine QM rfl ?_ | refine Qc rfl rfl rfl ?_ | refine Qo rfl rfl (by first | assumption | omega | (simp; done) | (simp; omega)) ?_ | refine QH rfl rfl ?_ | refine QZ rfl rfl (iha) ?_ | refine QZ rfl rfl (ihb) ?_ | refine WR rfl rfl ?_ | refine Qd rfl rfl ?_ | refine Q5 rfl rfl (fun _ _ => ?_) | refine Qe ?_ | refine Qp rfl ?_ | refine WC rfl rfl rfl rfl ?_ | refine WO rfl rfl rfl rfl ?_ | refine Wm rfl rfl (by omega) ?_ | refine Qf ?_ | refine Qa ?_ | refine Qg ?_ | refine Qs rfl ?_ | refine Qi rfl ?_ | refine Qm ?_ | fail)
    exact e_1 (Tryd.results54) (Qh rfl) (QC (σ := []) (r := [_]) ⟨rfl, rfl⟩)
   ·by_cases h4 : n = 4
    ·rw [hz ⟨.inr h4, h0⟩]
     refine Qb Tryd.func54 rfl Tryd.ntmps54 rfl (t := [(0, .agg [.i 9, .i n, .i 0, Qy [a, b]]), (1, Qy vals)]) rfl fun E hE => ?_
     (repeat' first | refine Qt rfl ?_ | refine Qv rfl ?_ | refine QM rfl ?_ | refine Qc rfl rfl rfl ?_ | refine Qo rfl rfl (by first | assumption | omega | (simp; done) | (simp; omega)) ?_ | refine QH rfl rfl ?_ | refine QZ rfl rfl (iha) ?_ | refine QZ rfl rfl (ihb) ?_ | refine WR rfl rfl ?_ | refine Qd rfl rfl ?_ | refine Q5 rfl rfl (fun _ _ => ?_) | refine Qe ?_ | refine Qp rfl ?_ | refine WC rfl rfl rfl rfl ?_ | refine WO rfl rfl rfl rfl ?_ | refine Wm rfl rfl (by omega) ?_ | refine Qf ?_ | refine Qa ?_ | refine Qg ?_ | refine Qs rfl ?_ | refine Qi rfl ?_ | refine Qm ?_ | fail)
     exact e_1 (Tryd.results54) (Qh rfl) (QC (σ := []) (r := [_]) ⟨rfl, rfl⟩)
    ·clear hz
     refine Qb Tryd.func54 rfl Tryd.ntmps54 rfl (t := [(0, .agg [.i 9, .i n, .i 0, Qy [a, b]]), (1, Qy vals)]) rfl fun E hE => ?_
     (repeat' first | refine Qt rfl ?_ | refine Qv rfl ?_ | refine QM rfl ?_ | refine Qc rfl rfl rfl ?_ | refine Qo rfl rfl (by first | assumption | omega | (simp; done) | (simp; omega)) ?_ | refine QH rfl rfl ?_ | refine QZ rfl rfl (iha) ?_ | refine QZ rfl rfl (ihb) ?_ | refine QZ rfl rfl (hop) ?_ | refine WR rfl rfl ?_ | refine Wk rfl rfl ?_ | refine Qd rfl rfl ?_ | refine Wh rfl rfl rfl ?_ | refine Q5 rfl rfl (fun _ _ => ?_) | refine Qe ?_ | refine Qp rfl ?_ | refine WC rfl rfl rfl rfl ?_ | refine Wm rfl rfl (by omega) ?_ | refine Wn rfl rfl (by omega) ?_ | refine Qf ?_ | refine Qa ?_ | refine Qg ?_ | refine Qj ?_ | refine Qs rfl ?_ | refine Qi rfl ?_ | refine QD rfl (by omega) ?_ | refine Qm ?_ | fail)
     exact e_1 (Tryd.results54) (Qh rfl) (QC (σ := []) (r := [_]) ⟨rfl, rfl⟩)
  ·clear hz
   refine Qb Tryd.func54 rfl Tryd.ntmps54 rfl (t := [(0, .agg [.i 9, .i n, .i 0, Qy [a, b]]), (1, Qy vals)]) rfl fun E hE => ?_
   (repeat' first | refine Qt rfl ?_ | refine Qv rfl ?_ | refine QM rfl ?_ | refine Qc rfl rfl rfl ?_ | refine Qo rfl rfl (by first | assumption | omega | (simp; done) | (simp; omega)) ?_ | refine QH rfl rfl ?_ | refine QZ rfl rfl (iha) ?_ | refine QZ rfl rfl (ihb) ?_ | refine QZ rfl rfl (hop) ?_ | refine Wk rfl rfl ?_ | refine Qd rfl rfl ?_ | refine Wh rfl rfl rfl ?_ | refine Q5 rfl rfl (fun _ _ => ?_) | refine Qe ?_ | refine Qp rfl ?_ | refine WO rfl rfl rfl rfl ?_ | refine o_gu rfl rfl rfl rfl rfl ?_ | refine Wn rfl rfl (by omega) ?_ | refine Qf ?_ | refine Qa ?_ | refine Qg ?_ | refine Qj ?_ | refine Qs rfl ?_ | refine Qi rfl ?_ | refine Qm ?_ | fail)
   exact e_1 (Tryd.results54) (Qh rfl) (QC (σ := []) (r := [_]) ⟨rfl, rfl⟩)
 | @not a ha iha =>
  intro B
  have hra := (ev_ok hv ha).2.2 rfl
  have hwa : (Enc.enc a : List DV).length = 4 := Enc.len a
  rw [We, show evN vals (.mk 10 0 0 [a]) = 1 - evN vals a from rfl]
  generalize evN vals a = va at *
  rcases hra with rfl | rfl
  all_goals
   refine Qb Tryd.func54 rfl Tryd.ntmps54 rfl (t := [(0, .agg [.i 10, .i 0, .i 0, Qy [a]]), (1, Qy vals)]) rfl fun E hE => ?_
   (repeat' first | refine Qt rfl ?_ | refine Qv rfl ?_ | refine QM rfl ?_ | refine Qc rfl rfl rfl ?_ | refine Qo rfl rfl (by first | assumption | omega | (simp; done) | (simp; omega)) ?_ | refine QH rfl rfl ?_ | refine QZ rfl rfl (iha) ?_ | refine Qd rfl rfl ?_ | refine Q5 rfl rfl (fun _ _ => ?_) | refine Qe ?_ | refine Qp rfl ?_ | refine Qf ?_ | refine Qa ?_ | refine Qg ?_ | refine Qj ?_ | refine Qs rfl ?_ | refine Qi rfl ?_ | refine Qm ?_ | fail)
   exact e_1 (Tryd.results54) (Qh rfl) (QC (σ := []) (r := [_]) ⟨rfl, rfl⟩)
 | @cond c a b k hc ha hb ihc iha ihb =>
  intro B
  have hra := (ev_ok hv hc).2.2 rfl
  have hwa : (Enc.enc a : List DV).length = 4 := Enc.len a
  have hwb : (Enc.enc b : List DV).length = 4 := Enc.len b
  have hwc : (Enc.enc c : List DV).length = 4 := Enc.len c
  rw [We, show evN vals (.mk 29 0 0 [c, a, b]) = if evN vals c = 1 then evN vals a else evN vals b from rfl]
  generalize evN vals a = va at *
  generalize evN vals b = vb at *
  generalize evN vals c = vc at *
  rcases hra with rfl | rfl
  ·rw [if_neg (by decide)]
   refine Qb Tryd.func54 rfl Tryd.ntmps54 rfl (t := [(0, .agg [.i 29, .i 0, .i 0, Qy [c, a, b]]), (1, Qy vals)]) rfl fun E hE => ?_
   (repeat' first | refine Qt rfl ?_ | refine Qv rfl ?_ | refine QM rfl ?_ | refine Qc rfl rfl rfl ?_ | refine Qo rfl rfl (by first | assumption | omega | (simp; done) | (simp; omega)) ?_ | refine QH rfl rfl ?_ | refine QZ rfl rfl (ihb) ?_ | refine QZ rfl rfl (ihc) ?_ | refine Qd rfl rfl ?_ | refine Q5 rfl rfl (fun _ _ => ?_) | refine Qe ?_ | refine Qp rfl ?_ | refine Qf ?_ | refine Qa ?_ | refine Qg ?_ | refine Qj ?_ | refine Qs rfl ?_ | refine Qi rfl ?_ | refine Qm ?_ | fail)
   exact e_1 (Tryd.results54) (Qh rfl) (QC (σ := []) (r := [_]) ⟨rfl, rfl⟩)
  ·rw [if_pos rfl]
   refine Qb Tryd.func54 rfl Tryd.ntmps54 rfl (t := [(0, .agg [.i 29, .i 0, .i 0, Qy [c, a, b]]), (1, Qy vals)]) rfl fun E hE => ?_
   (repeat' first | refine Qt rfl ?_ | refine Qv rfl ?_ | refine QM rfl ?_ | refine Qc rfl rfl rfl ?_ | refine Qo rfl rfl (by first | assumption | omega | (simp; done) | (simp; omega)) ?_ | refine QH rfl rfl ?_ | refine QZ rfl rfl (iha) ?_ | refine QZ rfl rfl (ihc) ?_ | refine Qd rfl rfl ?_ | refine Q5 rfl rfl (fun _ _ => ?_) | refine Qe ?_ | refine Qp rfl ?_ | refine Qf ?_ | refine Qa ?_ | refine Qg ?_ | refine Qs rfl ?_ | refine Qi rfl ?_ | refine Qm ?_ | fail)
   exact e_1 (Tryd.results54) (Qh rfl) (QC (σ := []) (r := [_]) ⟨rfl, rfl⟩)
end Go.Proofs
end
section
namespace Go.Proofs
open Go.Bl
def decN : List UInt8 -> Int
 | [a] => (a.toNat : Int) - 48
 | [a, b] => if a = 45 then 48 - (b.toNat : Int) else ((a.toNat : Int) - 48) * 10 + ((b.toNat : Int) - 48)
 | _ => 1000
def chkI : Bool := (List.range 108).all fun a => decide (decN (itoaL ((a : Int) - 8)) = (a : Int) - 8) && (itoaL ((a : Int) - 8)).all (fun x => !decide (x = 44) && !decide (x = 40) && !decide (x = 41))
theorem chkI_ok : chkI = true := by kernel_rfl
theorem itoa_at {a : Int} (h : -8 <= a /\ a < 100) : decN (itoaL a) = a /\ ∀ x ∈ itoaL a, x ≠ 44 /\ x ≠ 40 /\ x ≠ 41 := by
 have h1 := chkI_ok
 unfold chkI at h1
 have h2 := List.all_eq_true.1 h1 (a + 8).toNat (List.mem_range.2 (by omega))
 have e : ((a + 8).toNat : Int) - 8 = a := by omega
 rw [e, Bool.and_eq_true] at h2
 refine ⟨of_decide_eq_true h2.1, fun x hx => ?_⟩
 have h3 := List.all_eq_true.1 h2.2 x hx
 simp only [Bool.and_eq_true, Bool.not_eq_true', decide_eq_false_iff_not] at h3
 exact ⟨h3.1.1, h3.1.2, h3.2⟩
theorem split_inj {c : UInt8} {r r' : List UInt8} : ∀ {u v : List UInt8}, (∀ x ∈ u, x ≠ c) -> (∀ x ∈ v, x ≠ c) -> u ++ c :: r = v ++ c :: r' -> u = v /\ r = r'
 | [], [], _, _, h => ⟨rfl, (List.cons.inj h).2⟩
 | [], y :: v, _, hv, h => absurd (List.cons.inj h).1.symm (hv y (by simp))
 | x :: u, [], hu, _, h => absurd (List.cons.inj h).1 (hu x (by simp))
 | x :: u, y :: v, hu, hv, h => by
  obtain ⟨h1, h2⟩ := List.cons.inj h
  obtain ⟨h3, h4⟩ := split_inj (fun z hz => hu z (by simp [hz])) (fun z hz => hv z (by simp [hz])) h2
  exact ⟨by rw [h1, h3], h4⟩
mutual
def er : Nd -> Nd
 | .mk k n _ ks => .mk k n 0 (erL ks)
def erL : List Nd -> List Nd
 | [] => []
 | x :: r => er x :: erL r
end
theorem key_eq (k n m : Int) (ks : List Nd) (r : List UInt8) : keyS (.mk k n m ks) ++ r = itoaL k ++ 44 :: (itoaL n ++ 40 :: (qq ks ++ 41 :: r)) := by
 rw [keyS]; simp
theorem itoa_ne {a : Int} (h : -8 <= a /\ a < 100) : itoaL a ≠ [] := fun e => by
 have := (itoa_at h).1
 rw [e] at this
 have : (1000 : Int) = a := this
 omega
theorem key_inj (t : Nd) : ∀ (t' : Nd) (r r' : List UInt8), Tin t -> Tin t' -> keyS t ++ r = keyS t' ++ r' -> er t = er t' /\ r = r' := by
 induction t using Nd.ind with
 | h k n m ks ih =>
 rintro ⟨k', n', m', ks'⟩ r r' (⟨hk, hn, hl, hx⟩) (⟨hk', hn', hl', hx'⟩) h
 rw [key_eq, key_eq] at h
 have ik := itoa_at (a := k) (by omega)
 have ik' := itoa_at (a := k') (by omega)
 have iN := itoa_at hn
 have iN' := itoa_at hn'
 obtain ⟨e1, h⟩ := split_inj (fun x hx => (ik.2 x hx).1) (fun x hx => (ik'.2 x hx).1) h
 obtain ⟨e2, h⟩ := split_inj (fun x hx => (iN.2 x hx).2.1) (fun x hx => (iN'.2 x hx).2.1) h
 have e1 : k = k' := by rw [<- ik.1, e1, ik'.1]
 have e2 : n = n' := by rw [<- iN.1, e2, iN'.1]
 have hks : ∀ (ks ks' : List Nd), (∀ x ∈ ks, ∀ (t' : Nd) (r r' : List UInt8), Tin x -> Tin t' -> keyS x ++ r = keyS t' ++ r' -> er x = er t' /\ r = r') -> (∀ x ∈ ks, Tin x) -> (∀ x ∈ ks', Tin x) -> qq ks ++ 41 :: r = qq ks' ++ 41 :: r' -> erL ks = erL ks' /\ r = r' := by
  have start : ∀ (x : Nd) (q q' : List UInt8), Tin x -> 41 :: q ≠ keyS x ++ q' := fun x q q' hx e => by
   cases hx with
   | @mk k n m ks hk _ _ _ =>
   rw [key_eq] at e
   have := itoa_ne (a := k) (by omega)
   have h2 := (itoa_at (a := k) (by omega)).2
   cases hi : itoaL k with
   | nil => exact this hi
   | cons b u =>
    rw [hi] at e h2
    exact (h2 b (by simp)).2.2 (List.cons.inj e).1.symm
  intro ks
  induction ks with
  | nil =>
   intro ks' _ _ hx' h
   cases ks' with
   | nil => exact ⟨rfl, (List.cons.inj h).2⟩
   | cons y v =>
    rw [qq, qq, List.append_assoc] at h
    exact absurd h (start y _ _ (hx' y (by simp)))
  | cons x u ihu =>
   intro ks' ih hx hx' h
   cases ks' with
   | nil =>
    rw [qq, qq, List.append_assoc] at h
    exact absurd h.symm (start x _ _ (hx x (by simp)))
   | cons y v =>
    rw [qq, qq, List.append_assoc, List.append_assoc] at h
    obtain ⟨q1, q2⟩ := ih x (by simp) y _ _ (hx x (by simp)) (hx' y (by simp)) h
    obtain ⟨q3, q4⟩ := ihu v (fun z hz => ih z (by simp [hz])) (fun z hz => hx z (by simp [hz])) (fun z hz => hx' z (by simp [hz])) q2
    exact ⟨by rw [erL, erL, q1, q3], q4⟩
 obtain ⟨q1, q2⟩ := hks ks ks' ih hx hx' h
 exact ⟨by rw [er, er, e1, e2, q1], q2⟩
theorem er_inj {F : Int -> Int} {t : Nd} {k : Int} (h : Tt t k) : ∀ {t' : Nd} {k' : Int}, Tt t' k' -> Con F t -> Con F t' -> er t = er t' -> t = t' := by
 induction h with
 | num h => intro t' k' h' _ _ e; cases h' <;> simp [er, erL] at e ⊢ <;> exact e
 | tru h => intro t' k' h' _ _ e; cases h' <;> simp [er, erL] at e ⊢ <;> exact e
 | @var n m h1 h2 =>
  intro t' k' h' hc hc' e
  cases h' with
  | @var n' m' h1' h2' =>
   simp [er, erL] at e
   have q1 : m = F n := hc (n, m) (by simp [QL])
   have q2 : k' = F n' := hc' (n', k') (by simp [QL])
   rw [q1, q2, e]
  | _ => simp [er, erL] at e
 | @bin n a b hn _ _ iha ihb =>
  intro t' k' h' hc hc' e
  cases h' with
  | @bin n' a' b' hn' ha' hb' =>
   simp only [er, erL, Nd.mk.injEq, List.cons.injEq, and_true, true_and] at e
   rw [e.1, iha ha' (fun p hp => hc p (by simp [QL, QP]; simp [hp])) (fun p hp => hc' p (by simp [QL, QP]; simp [hp])) e.2.1, ihb hb' (fun p hp => hc p (by simp [QL, QP]; simp [hp])) (fun p hp => hc' p (by simp [QL, QP]; simp [hp])) e.2.2]
  | @log n' a' b' hn' ha' hb' => simp [er, erL] at e; omega
  | _ => simp [er, erL] at e
 | @log n a b hn _ _ iha ihb =>
  intro t' k' h' hc hc' e
  cases h' with
  | @log n' a' b' hn' ha' hb' =>
   simp only [er, erL, Nd.mk.injEq, List.cons.injEq, and_true, true_and] at e
   rw [e.1, iha ha' (fun p hp => hc p (by simp [QL, QP]; simp [hp])) (fun p hp => hc' p (by simp [QL, QP]; simp [hp])) e.2.1, ihb hb' (fun p hp => hc p (by simp [QL, QP]; simp [hp])) (fun p hp => hc' p (by simp [QL, QP]; simp [hp])) e.2.2]
  | @bin n' a' b' hn' ha' hb' => simp [er, erL] at e; omega
  | _ => simp [er, erL] at e
 | @not a _ iha =>
  intro t' k' h' hc hc' e
  cases h' with
  | @not a' ha' =>
   simp only [er, erL, Nd.mk.injEq, List.cons.injEq, and_true, true_and] at e
   rw [iha ha' (fun p hp => hc p (by simp [QL, QP]; simp [hp])) (fun p hp => hc' p (by simp [QL, QP]; simp [hp])) e]
  | _ => simp [er, erL] at e
 | @cond c a b k _ _ _ ihc iha ihb =>
  intro t' k' h' hc hc' e
  cases h' with
  | @cond c' a' b' k' hc2 ha' hb' =>
   simp only [er, erL, Nd.mk.injEq, List.cons.injEq, and_true, true_and] at e
   rw [ihc hc2 (fun p hp => hc p (by simp [QL, QP]; simp [hp])) (fun p hp => hc' p (by simp [QL, QP]; simp [hp])) e.1, iha ha' (fun p hp => hc p (by simp [QL, QP]; simp [hp])) (fun p hp => hc' p (by simp [QL, QP]; simp [hp])) e.2.1, ihb hb' (fun p hp => hc p (by simp [QL, QP]; simp [hp])) (fun p hp => hc' p (by simp [QL, QP]; simp [hp])) e.2.2]
  | _ => simp [er, erL] at e
theorem key_tt {F : Int -> Int} {t t' : Nd} {k k' : Int} (h : Tt t k) (h' : Tt t' k') (hc : Con F t) (hc' : Con F t') (e : keyS t = keyS t') : t = t' := by
 have := (key_inj t t' [] [] h.tin h'.tin (by rw [e])).1
 exact er_inj h h' hc hc' this
/-! The operations' bits. -/
def opB (op : Int) (f h : Nat -> Bool) (i : Nat) : Bool :=
 if op = 0 then sumB f h false i else if op = 1 then sumB f (fun i => !h i) true i else if op = 2 then proB f h 4 i else
 if op = 5 then f i && h i else if op = 6 then f i || h i else if op = 7 then f i != h i else
 if op = 8 then shiB (shiB f (h 0) 1) (h 1) 2 i else if op = 9 then shiB (shiB f (h 0) (-1)) (h 1) (-2) i else tabB op f h i
def chkO (op : Int) : Bool := (List.range 16).all fun a => (List.range 16).all fun b => (List.range 4).all fun i =>
 decide (opB op (ZD (wN ((a : Int) - 8))) (ZD (wN ((b : Int) - 8))) i = ZD (wN (opM op ((a : Int) - 8) ((b : Int) - 8)).1) i)
theorem chkO2 : chkO 2 = true := by kernel_rfl
theorem chkO0 : chkO 0 = true := by kernel_rfl
theorem chkO1 : chkO 1 = true := by kernel_rfl
theorem chkO3 : chkO 3 = true := by kernel_rfl
theorem chkO4 : chkO 4 = true := by kernel_rfl
theorem chkO5 : chkO 5 = true := by kernel_rfl
theorem chkO6 : chkO 6 = true := by kernel_rfl
theorem chkO7 : chkO 7 = true := by kernel_rfl
theorem chkO8 : chkO 8 = true := by kernel_rfl
theorem chkO9 : chkO 9 = true := by kernel_rfl
theorem opB_ok {op u v : Int} (hop : 0 <= op /\ op < 10) (hu : -8 <= u /\ u <= 7) (hv : -8 <= v /\ v <= 7) (i : Nat) (hi : i < 4) : opB op (ZD (wN u)) (ZD (wN v)) i = ZD (wN (opM op u v).1) i := by
 have h : chkO op = true := by
  have : op = 0 \/ op = 1 \/ op = 2 \/ op = 3 \/ op = 4 \/ op = 5 \/ op = 6 \/ op = 7 \/ op = 8 \/ op = 9 := by omega
  rcases this with rfl | rfl | rfl | rfl | rfl | rfl | rfl | rfl | rfl | rfl
  ·exact chkO0
  ·exact chkO1
  ·exact chkO2
  ·exact chkO3
  ·exact chkO4
  ·exact chkO5
  ·exact chkO6
  ·exact chkO7
  ·exact chkO8
  ·exact chkO9
 unfold chkO at h
 have h1 := List.all_eq_true.1 h (u + 8).toNat (List.mem_range.2 (by omega))
 have h2 := List.all_eq_true.1 h1 (v + 8).toNat (List.mem_range.2 (by omega))
 have h3 := of_decide_eq_true (List.all_eq_true.1 h2 i (List.mem_range.2 hi))
 have e1 : ((u + 8).toNat : Int) - 8 = u := by omega
 have e2 : ((v + 8).toNat : Int) - 8 = v := by omega
 rw [e1, e2] at h3
 exact h3
def chkL : Bool := (List.range 16).all fun a => (List.range 16).all fun b =>
 decide (lesB (swpB (ZD (wN ((a : Int) - 8))) (ZD (wN ((b : Int) - 8)))) (swpB (ZD (wN ((b : Int) - 8))) (ZD (wN ((a : Int) - 8)))) 4 = decide ((opM 10 ((a : Int) - 8) ((b : Int) - 8)).1 = 1)) &&
 decide (samB (ZD (wN ((a : Int) - 8))) (ZD (wN ((b : Int) - 8))) 4 = decide ((opM 11 ((a : Int) - 8) ((b : Int) - 8)).1 = 1))
theorem chkL_ok : chkL = true := by kernel_rfl
theorem cmp_ok {u v : Int} (hu : -8 <= u /\ u <= 7) (hv : -8 <= v /\ v <= 7) : lesB (swpB (ZD (wN u)) (ZD (wN v))) (swpB (ZD (wN v)) (ZD (wN u))) 4 = decide ((opM 10 u v).1 = 1) /\ samB (ZD (wN u)) (ZD (wN v)) 4 = decide ((opM 11 u v).1 = 1) := by
 have h := chkL_ok
 unfold chkL at h
 have h1 := List.all_eq_true.1 h (u + 8).toNat (List.mem_range.2 (by omega))
 have h2 := List.all_eq_true.1 h1 (v + 8).toNat (List.mem_range.2 (by omega))
 have e1 : ((u + 8).toNat : Int) - 8 = u := by omega
 have e2 : ((v + 8).toNat : Int) - 8 = v := by omega
 rw [e1, e2, Bool.and_eq_true] at h2
 exact ⟨of_decide_eq_true h2.1, of_decide_eq_true h2.2⟩
theorem log_ok {u v : Int} (hu : u = 0 \/ u = 1) (hv : v = 0 \/ v = 1) : (decide (u = 1) && decide (v = 1)) = decide ((opM 12 u v).1 = 1) /\ (decide (u = 1) || decide (v = 1)) = decide ((opM 13 u v).1 = 1) := by
 rcases hu with rfl | rfl <;> rcases hv with rfl | rfl <;> decide +kernel
def chkN : Bool := (List.range 16).all fun a => (List.range 4).all fun i => decide (bitAt ((a : Int) - 8) i) == ZD (wN ((a : Int) - 8)) i
theorem chkN_ok : chkN = true := by kernel_rfl
theorem num_ok {n : Int} (hn : -8 <= n /\ n <= 7) (i : Nat) (hi : i < 4) : decide (bitAt n i) = ZD (wN n) i := by
 have h := chkN_ok
 unfold chkN at h
 have h1 := List.all_eq_true.1 h (n + 8).toNat (List.mem_range.2 (by omega))
 have h2 := eq_of_beq (List.all_eq_true.1 h1 i (List.mem_range.2 hi))
 have e1 : ((n + 8).toNat : Int) - 8 = n := by omega
 rw [e1] at h2
 exact h2
end Go.Proofs
end
section
namespace Go.Proofs
open Go.Bl Go.Av
/-! How many clauses. -/
structure Le2 (c : Nat) (s s' : St) : Prop where
 le : Le s s'
 hi : s'.cl.length <= s.cl.length + c
 sub : ∀ x ∈ s.cl, x ∈ s'.cl
 len : (∀ x ∈ s.cl, x.length <= 9) -> ∀ x ∈ s'.cl, x.length <= 9
theorem Le2.refl (s : St) : Le2 0 s s := ⟨.refl s, Nat.le_refl _, fun _ h => h, fun h => h⟩
theorem Le2.trans {c d : Nat} {s t u : St} (h : Le2 c s t) (k : Le2 d t u) : Le2 (c + d) s u := ⟨h.le.trans k.le, by have := h.hi; have := k.hi; omega, fun x hx => k.sub x (h.sub x hx), fun hl => k.len (h.len hl)⟩
theorem Le2.mono {c d : Nat} {s t : St} (h : Le2 c s t) (hd : c <= d) : Le2 d s t := ⟨h.le, by have := h.hi; omega, h.sub, h.len⟩
theorem add_le2 (s : St) (l : List Int) (hl : l.length <= 9 := by exact Nat.le_of_ble_eq_true rfl) : Le2 1 s (add s l) := ⟨Z9 s l, by unfold add; split <;> simp, Z8 s l, fun h x hx => by
 unfold add at hx
 split at hx
 ·exact h x hx
 ·rcases List.mem_append.1 hx with hx | hx
  ·exact h x hx
  ·rw [List.mem_singleton.1 hx]
   exact Nat.le_trans (List.length_filter_le _ _) hl⟩
theorem fresh_le2 (s : St) : Le2 0 s (fresh s) := ⟨fresh_le s, Nat.le_refl _, fun _ h => h, fun h => h⟩
theorem and_le2 (s : St) (x y : Int) : Le2 3 s (and s x y).2 := by
 unfold Bl.and
 split
 ·exact (Le2.refl s).mono (by omega)
 ·split
  ·exact (Le2.refl s).mono (by omega)
  ·split
   ·exact (Le2.refl s).mono (by omega)
   ·exact ((((fresh_le2 s).trans (add_le2 _ _)).trans (add_le2 _ _)).trans (add_le2 _ _)).mono (by omega)
theorem or_le2 (s : St) (x y : Int) : Le2 3 s (or s x y).2 := and_le2 s (-x) (-y)
theorem xor_le2 (s : St) (x y : Int) : Le2 4 s (xor s x y).2 := by
 unfold Bl.xor
 split
 ·exact (Le2.refl s).mono (by omega)
 ·split
  ·exact (Le2.refl s).mono (by omega)
  ·split
   ·exact (Le2.refl s).mono (by omega)
   ·split
    ·exact (Le2.refl s).mono (by omega)
    ·exact (((((fresh_le2 s).trans (add_le2 _ _)).trans (add_le2 _ _)).trans (add_le2 _ _)).trans (add_le2 _ _)).mono (by omega)
theorem mux_le2 (s : St) (c x y : Int) : Le2 9 s (muxM s c x y).2 := (((and_le2 s c x).trans (and_le2 _ _ _)).trans (or_le2 _ _ _)).mono (by omega)
theorem sum_le2 (s : St) (x y : List Int) (c : Int) : ∀ i, Le2 (17 * i) s (Wc s x y c i).2.2
 | 0 => .refl s
 | i + 1 => ((sum_le2 s x y c i).trans (((((xor_le2 _ _ _).trans (xor_le2 _ _ _)).trans (and_le2 _ _ _)).trans (and_le2 _ _ _)).trans (or_le2 _ _ _))).mono (by omega)
theorem shift_le2 (s : St) (x : List Int) (c n : Int) : ∀ i, Le2 (9 * i) s (QO s x c n i).2
 | 0 => .refl s
 | i + 1 => ((shift_le2 s x c n i).trans (mux_le2 _ _ _ _)).mono (by omega)
theorem part_le2 (s : St) (x : List Int) (b : Int) (i : Nat) : ∀ k, Le2 (3 * k) s (Wx s x b i k).2
 | 0 => .refl s
 | k + 1 => ((part_le2 s x b i k).trans (and_le2 _ _ _)).mono (by omega)
theorem prod_le2 (s : St) (x y : List Int) : ∀ i, Le2 (80 * i) s (WI s x y i).2
 | 0 => .refl s
 | i + 1 => (((prod_le2 s x y i).trans ((part_le2 _ _ _ _ _).mono (show 3 * (4 - i) <= 12 by omega))).trans (sum_le2 _ _ _ _ 4)).mono (by omega)
theorem lessTo_le2 (s : St) (x y : List Int) : ∀ i, Le2 (13 * i) s (Zj s x y i).2
 | 0 => .refl s
 | i + 1 => ((lessTo_le2 s x y i).trans ((((and_le2 _ _ _).trans (xor_le2 _ _ _)).trans (and_le2 _ _ _)).trans (or_le2 _ _ _))).mono (by omega)
theorem same_le2 (s : St) (x y : List Int) : ∀ i, Le2 (7 * i) s (W5 s x y i).2
 | 0 => .refl s
 | i + 1 => ((same_le2 s x y i).trans ((xor_le2 _ _ _).trans (and_le2 _ _ _))).mono (by omega)
theorem each_le2 {gm : St -> Int -> Int -> Int × St} {c : Nat} (hg : ∀ s x y, Le2 c s (gm s x y).2) (s : St) (x y : List Int) : ∀ i, Le2 (c * i) s (eachTo gm s x y i).2
 | 0 => .refl s
 | i + 1 => ((each_le2 hg s x y i).trans (hg _ _ _)).mono (by rw [Nat.mul_succ]; omega)
theorem addTo_le2 (s : St) (out other : List Int) (r : Int) (ho : other.length <= 8) : ∀ i, Le2 i s (addTo s out other r i)
 | 0 => .refl s
 | i + 1 => (addTo_le2 s out other r ho i).trans (add_le2 _ _ (by rw [List.length_append, List.length_singleton]; omega))
theorem tableTo_le2 (s : St) (op : Int) (x y out : List Int) : ∀ n, Le2 (4 * n) s (tableTo s op x y out n)
 | 0 => .refl s
 | n + 1 => ((tableTo_le2 s op x y out n).trans (addTo_le2 _ _ _ _ (Nat.le_of_eq (otherTo_len _ _ _ _ 4)) 4)).mono (by omega)
theorem freshTo_le2 (s : St) : ∀ i, Le2 0 s (freshTo s i).2
 | 0 => .refl s
 | i + 1 => ((freshTo_le2 s i).trans (fresh_le2 _)).mono (by omega)
theorem opNM_tab {op : Int} (h : op < 0 \/ op = 3 \/ op = 4 \/ 13 < op) (s : St) (x y : List Int) : Zv op s x y = ((freshTo s 4).1, tableTo (freshTo s 4).2 op x y (freshTo s 4).1 256) := by
 unfold Zv
 rw [if_neg (by omega), if_neg (by omega), if_neg (by omega), if_neg (by omega), if_neg (by omega), if_neg (by omega), if_neg (by omega), if_neg (by omega), if_neg (by omega), if_neg (by omega), if_neg (by omega), if_neg (by omega)]
theorem opNM_le2 (op : Int) (s : St) (x y : List Int) : Le2 1024 s (Zv op s x y).2 := by
 by_cases h : op < 0 \/ op = 3 \/ op = 4 \/ 13 < op
 ·rw [opNM_tab h]
  have h1 := (freshTo_le2 s 4).trans (tableTo_le2 (freshTo s 4).2 op x y (freshTo s 4).1 256)
  generalize tableTo (freshTo s 4).2 op x y (freshTo s 4).1 256 = T at h1 ⊢
  exact h1.mono (by omega)
 have : op = 0 \/ op = 1 \/ op = 2 \/ op = 5 \/ op = 6 \/ op = 7 \/ op = 8 \/ op = 9 \/ op = 10 \/ op = 11 \/ op = 12 \/ op = 13 := by omega
 rcases this with rfl | rfl | rfl | rfl | rfl | rfl | rfl | rfl | rfl | rfl | rfl | rfl
 ·exact (sum_le2 s x y (-1) 4).mono (by omega)
 ·exact (sum_le2 s x (Z0 y 4) 1 4).mono (by omega)
 ·exact (prod_le2 s x y 4).mono (by omega)
 ·exact (each_le2 and_le2 s x y 4).mono (by omega)
 ·exact (each_le2 or_le2 s x y 4).mono (by omega)
 ·exact (each_le2 xor_le2 s x y 4).mono (by omega)
 ·exact ((shift_le2 s x (y.getD 0 0) 1 4).trans (shift_le2 _ _ (y.getD 1 0) 2 4)).mono (by omega)
 ·exact ((shift_le2 s x (y.getD 0 0) (-1) 4).trans (shift_le2 _ _ (y.getD 1 0) (-2) 4)).mono (by omega)
 ·exact (lessTo_le2 s _ _ 4).mono (by omega)
 ·exact (same_le2 s x y 4).mono (by omega)
 ·exact (and_le2 s _ _).mono (by omega)
 ·exact (or_le2 s _ _).mono (by omega)
theorem condM_le2 (ty : Int) (s : St) (c : Int) (x y : List Int) : Le2 1024 s (condM ty s c x y).2 := by
 unfold condM
 split
 ·exact (mux_le2 s _ _ _).mono (by omega)
 ·exact (each_le2 (fun s x y => mux_le2 s c x y) s x y 4).mono (by omega)
theorem le2_of_made {A : List (Int × Int)} {t : Nd} {c : Nat} {s : St} {S : ZP} (h : Le2 c s (Ze A t s S).2.1) : Le2 c s (QK A t s S).2.1 := by
 cases hget : getS S (keyS t) with
 | some x => rw [bitsM_some hget]; exact (Le2.refl s).mono (by omega)
 | none =>
  cases hf : Zy s with
  | true => rw [bitsM_full hget hf]; exact (Le2.refl s).mono (by omega)
  | false => rw [bitsM_new hget hf]; exact h
theorem bits_le2 {A : List (Int × Int)} {t : Nd} {k : Int} (h : Tt t k) : ∀ (s : St) (S : ZP), Le2 (1024 * QR t) s (Ze A t s S).2.1 /\ Le2 (1024 * QR t) s (QK A t s S).2.1 := by
 have fin : ∀ {t : Nd} {s : St} {S : ZP}, Le2 (1024 * QR t) s (Ze A t s S).2.1 -> Le2 (1024 * QR t) s (Ze A t s S).2.1 /\ Le2 (1024 * QR t) s (QK A t s S).2.1 := fun h => ⟨h, le2_of_made h⟩
 induction h with
 | num hn => intro s S; refine fin ?_; rw [Zx, if_pos rfl]; exact (Le2.refl s).mono (by omega)
 | tru hn => intro s S; refine fin ?_; rw [Zx, if_neg (by decide), if_pos rfl]; exact (Le2.refl s).mono (by omega)
 | var h1 h2 => intro s S; refine fin ?_; rw [Zx, if_neg (by decide), if_neg (by decide)]; exact (Le2.refl s).mono (by omega)
 | @bin n a b hn _ _ iha ihb =>
  intro s S; refine fin ?_
  have hsz : QR (.mk 9 n 0 [a, b]) = 1 + (QR a + (QR b + 0)) := by rw [QR, QW, QW, QW]
  rw [madeM_2, hsz]
  exact (((iha _ _).2.trans (ihb _ _).2).trans (opNM_le2 _ _ _ _)).mono (by omega)
 | @log n a b hn _ _ iha ihb =>
  intro s S; refine fin ?_
  have hsz : QR (.mk 9 n 0 [a, b]) = 1 + (QR a + (QR b + 0)) := by rw [QR, QW, QW, QW]
  rw [madeM_2, hsz]
  exact (((iha _ _).2.trans (ihb _ _).2).trans (opNM_le2 _ _ _ _)).mono (by omega)
 | @not a _ iha =>
  intro s S; refine fin ?_
  have hsz : QR (.mk 10 0 0 [a]) = 1 + (QR a + 0) := by rw [QR, QW, QW]
  rw [madeM_1, hsz]
  exact (iha _ _).2.mono (by omega)
 | @cond c a b k _ _ _ ihc iha ihb =>
  intro s S; refine fin ?_
  have hsz : QR (.mk 29 0 0 [c, a, b]) = 1 + (QR c + (QR a + (QR b + 0))) := by rw [QR, QW, QW, QW, QW]
  rw [madeM_3, hsz]
  exact ((((ihc _ _).2.trans (iha _ _).2).trans (ihb _ _).2).trans (condM_le2 _ _ _ _ _)).mono (by omega)
/-! How many variables. -/
def Lv (c : Nat) (s s' : St) : Prop := s'.vars <= s.vars + c
theorem Lv.refl (s : St) : Lv 0 s s := by unfold Lv; omega
theorem Lv.trans {c d : Nat} {s t u : St} (h : Lv c s t) (k : Lv d t u) : Lv (c + d) s u := by unfold Lv at *; omega
theorem Lv.mono {c d : Nat} {s t : St} (h : Lv c s t) (hd : c <= d) : Lv d s t := by unfold Lv at *; omega
theorem and_lv (s : St) (x y : Int) : Lv 1 s (Bl.and s x y).2 := (and_vars s x y).2
theorem or_lv (s : St) (x y : Int) : Lv 1 s (Bl.or s x y).2 := (or_vars s x y).2
theorem xor_lv (s : St) (x y : Int) : Lv 1 s (Bl.xor s x y).2 := (xor_vars s x y).2
theorem mux_lv (s : St) (c x y : Int) : Lv 3 s (muxM s c x y).2 := ((and_lv s c x).trans (and_lv _ _ _)).trans (or_lv _ _ _)
theorem sum_lv (s : St) (x y : List Int) (c : Int) : ∀ i, Lv (5 * i) s (Wc s x y c i).2.2
 | 0 => .refl s
 | i + 1 => (sum_lv s x y c i).trans (((((xor_lv _ _ _).trans (xor_lv _ _ _)).trans (and_lv _ _ _)).trans (and_lv _ _ _)).trans (or_lv _ _ _))
theorem shift_lv (s : St) (x : List Int) (c n : Int) : ∀ i, Lv (3 * i) s (QO s x c n i).2
 | 0 => .refl s
 | i + 1 => (shift_lv s x c n i).trans (mux_lv _ _ _ _)
theorem part_lv (s : St) (x : List Int) (b : Int) (i : Nat) : ∀ k, Lv k s (Wx s x b i k).2
 | 0 => .refl s
 | k + 1 => (part_lv s x b i k).trans (and_lv _ _ _)
theorem prod_lv (s : St) (x y : List Int) : ∀ i, Lv (24 * i) s (WI s x y i).2
 | 0 => .refl s
 | i + 1 => (((prod_lv s x y i).trans ((part_lv _ _ _ _ _).mono (show 4 - i <= 4 by omega))).trans (sum_lv _ _ _ _ 4)).mono (by omega)
theorem lessTo_lv (s : St) (x y : List Int) : ∀ i, Lv (4 * i) s (Zj s x y i).2
 | 0 => .refl s
 | i + 1 => (lessTo_lv s x y i).trans ((((and_lv _ _ _).trans (xor_lv _ _ _)).trans (and_lv _ _ _)).trans (or_lv _ _ _))
theorem same_lv (s : St) (x y : List Int) : ∀ i, Lv (2 * i) s (W5 s x y i).2
 | 0 => .refl s
 | i + 1 => (same_lv s x y i).trans ((xor_lv _ _ _).trans (and_lv _ _ _))
theorem each_lv {gm : St -> Int -> Int -> Int × St} {c : Nat} (hg : ∀ s x y, Lv c s (gm s x y).2) (s : St) (x y : List Int) : ∀ i, Lv (c * i) s (eachTo gm s x y i).2
 | 0 => .refl s
 | i + 1 => ((each_lv hg s x y i).trans (hg _ _ _)).mono (by rw [Nat.mul_succ]; omega)
theorem freshTo_lv (s : St) : ∀ i, Lv i s (freshTo s i).2
 | 0 => .refl s
 | i + 1 => (freshTo_lv s i).trans (show Lv 1 _ (fresh _) from Int.le_refl _)
theorem tableTo_lv (s : St) (op : Int) (x y out : List Int) (n : Nat) : Lv 0 s (tableTo s op x y out n) := by
 unfold Lv
 rw [tableTo_vars]; omega
theorem opNM_lv (op : Int) (s : St) (x y : List Int) : Lv 96 s (Zv op s x y).2 := by
 by_cases h : op < 0 \/ op = 3 \/ op = 4 \/ 13 < op
 ·rw [opNM_tab h]
  have h1 := (freshTo_lv s 4).trans (tableTo_lv (freshTo s 4).2 op x y (freshTo s 4).1 256)
  generalize tableTo (freshTo s 4).2 op x y (freshTo s 4).1 256 = T at h1 ⊢
  exact h1.mono (by omega)
 have : op = 0 \/ op = 1 \/ op = 2 \/ op = 5 \/ op = 6 \/ op = 7 \/ op = 8 \/ op = 9 \/ op = 10 \/ op = 11 \/ op = 12 \/ op = 13 := by omega
 rcases this with rfl | rfl | rfl | rfl | rfl | rfl | rfl | rfl | rfl | rfl | rfl | rfl
 ·exact (sum_lv s x y (-1) 4).mono (by omega)
 ·exact (sum_lv s x (Z0 y 4) 1 4).mono (by omega)
 ·exact (prod_lv s x y 4).mono (by omega)
 ·exact (each_lv and_lv s x y 4).mono (by omega)
 ·exact (each_lv or_lv s x y 4).mono (by omega)
 ·exact (each_lv xor_lv s x y 4).mono (by omega)
 ·exact ((shift_lv s x (y.getD 0 0) 1 4).trans (shift_lv _ _ (y.getD 1 0) 2 4)).mono (by omega)
 ·exact ((shift_lv s x (y.getD 0 0) (-1) 4).trans (shift_lv _ _ (y.getD 1 0) (-2) 4)).mono (by omega)
 ·exact (lessTo_lv s _ _ 4).mono (by omega)
 ·exact (same_lv s x y 4).mono (by omega)
 ·exact (and_lv s _ _).mono (by omega)
 ·exact (or_lv s _ _).mono (by omega)
theorem condM_lv (ty : Int) (s : St) (c : Int) (x y : List Int) : Lv 96 s (condM ty s c x y).2 := by
 unfold condM
 split
 ·exact (mux_lv s _ _ _).mono (by omega)
 ·exact (each_lv (fun s x y => mux_lv s c x y) s x y 4).mono (by omega)
theorem qe {A : List (Int × Int)} {t : Nd} {c : Nat} {s : St} {S : ZP} (h : Lv c s (Ze A t s S).2.1) : Lv c s (QK A t s S).2.1 := by
 cases hget : getS S (keyS t) with
 | some x => rw [bitsM_some hget]; exact (Lv.refl s).mono (by omega)
 | none =>
  cases hf : Zy s with
  | true => rw [bitsM_full hget hf]; exact (Lv.refl s).mono (by omega)
  | false => rw [bitsM_new hget hf]; exact h
theorem bits_lv {A : List (Int × Int)} {t : Nd} {k : Int} (h : Tt t k) : ∃ c : Nat, c + 100 * (QL t).length <= 100 * QR t /\ ∀ (s : St) (S : ZP), Lv c s (Ze A t s S).2.1 /\ Lv c s (QK A t s S).2.1 := by
 induction h with
 | num hn => exact ⟨0, by simp [QL, QP], fun s S => ⟨by rw [Zx, if_pos rfl]; exact .refl s, qe (by rw [Zx, if_pos rfl]; exact .refl s)⟩⟩
 | tru hn => exact ⟨0, by simp [QL, QP], fun s S => ⟨by rw [Zx, if_neg (by decide), if_pos rfl]; exact .refl s, qe (by rw [Zx, if_neg (by decide), if_pos rfl]; exact .refl s)⟩⟩
 | var h1 h2 => exact ⟨0, by simp [QL, QP, QR, QW], fun s S => ⟨by rw [Zx, if_neg (by decide), if_neg (by decide)]; exact .refl s, qe (by rw [Zx, if_neg (by decide), if_neg (by decide)]; exact .refl s)⟩⟩
 | @bin n a b hn _ _ iha ihb =>
  obtain ⟨c1, q1, r1⟩ := iha
  obtain ⟨c2, q2, r2⟩ := ihb
  have hsz : QR (.mk 9 n 0 [a, b]) = 1 + (QR a + (QR b + 0)) := by rw [QR, QW, QW, QW]
  have hvl : (QL (.mk 9 n 0 [a, b])).length = (QL a).length + (QL b).length := by simp [QL, QP]
  have hm : ∀ (s : St) (S : ZP), Lv (c1 + c2 + 96) s (Ze A (.mk 9 n 0 [a, b]) s S).2.1 := fun s S => by
   rw [madeM_2]; exact ((r1 _ _).2.trans (r2 _ _).2).trans (opNM_lv _ _ _ _)
  exact ⟨c1 + c2 + 96, by rw [hsz, hvl]; omega, fun s S => ⟨hm s S, qe (hm s S)⟩⟩
 | @log n a b hn _ _ iha ihb =>
  obtain ⟨c1, q1, r1⟩ := iha
  obtain ⟨c2, q2, r2⟩ := ihb
  have hsz : QR (.mk 9 n 0 [a, b]) = 1 + (QR a + (QR b + 0)) := by rw [QR, QW, QW, QW]
  have hvl : (QL (.mk 9 n 0 [a, b])).length = (QL a).length + (QL b).length := by simp [QL, QP]
  have hm : ∀ (s : St) (S : ZP), Lv (c1 + c2 + 96) s (Ze A (.mk 9 n 0 [a, b]) s S).2.1 := fun s S => by
   rw [madeM_2]; exact ((r1 _ _).2.trans (r2 _ _).2).trans (opNM_lv _ _ _ _)
  exact ⟨c1 + c2 + 96, by rw [hsz, hvl]; omega, fun s S => ⟨hm s S, qe (hm s S)⟩⟩
 | @not a _ iha =>
  obtain ⟨c1, q1, r1⟩ := iha
  have hsz : QR (.mk 10 0 0 [a]) = 1 + (QR a + 0) := by rw [QR, QW, QW]
  have hvl : (QL (.mk 10 0 0 [a])).length = (QL a).length := by simp [QL, QP]
  have hm : ∀ (s : St) (S : ZP), Lv c1 s (Ze A (.mk 10 0 0 [a]) s S).2.1 := fun s S => by
   rw [madeM_1]; exact (r1 _ _).2
  exact ⟨c1, by rw [hsz, hvl]; omega, fun s S => ⟨hm s S, qe (hm s S)⟩⟩
 | @cond c a b k _ _ _ ihc iha ihb =>
  obtain ⟨c0, q0, r0⟩ := ihc
  obtain ⟨c1, q1, r1⟩ := iha
  obtain ⟨c2, q2, r2⟩ := ihb
  have hsz : QR (.mk 29 0 0 [c, a, b]) = 1 + (QR c + (QR a + (QR b + 0))) := by rw [QR, QW, QW, QW, QW]
  have hvl : (QL (.mk 29 0 0 [c, a, b])).length = (QL c).length + ((QL a).length + (QL b).length) := by simp [QL, QP]
  have hm : ∀ (s : St) (S : ZP), Lv (c0 + c1 + c2 + 96) s (Ze A (.mk 29 0 0 [c, a, b]) s S).2.1 := fun s S => by
   rw [madeM_3]; exact (((r0 _ _).2.trans (r1 _ _).2).trans (r2 _ _).2).trans (condM_lv _ _ _ _ _)
  exact ⟨c0 + c1 + c2 + 96, by rw [hsz, hvl]; omega, fun s S => ⟨hm s S, qe (hm s S)⟩⟩
/-! What the literals mean. -/
section
variable {base : Int -> Prop} {p : Prop}
theorem Bits4.congr {a : Nat -> Bool} {n : Int} {x : List Int} {f g : Nat -> Bool} (h : Bits4 a n x f) (e : ∀ i, i < 4 -> f i = g i) : Bits4 a n x g := fun i hi => ⟨(h i hi).1, by rw [<- e i hi]; exact (h i hi).2⟩
theorem each_sem {gm : St -> Int -> Int -> Int × St} {gb : Bool -> Bool -> Bool} (hle : ∀ s x y, Le s (gm s x y).2) (hg : GateSem base p gm gb) {a : Nat -> Bool} {s : St} {x y : List Int} {f h : Nat -> Bool} (hxl : x.length = 4) (g : GoodB base p s.vars a s) (hx : Bits4 a s.vars x f) (hy : Bits4 a s.vars y h) :
  ∀ i, i <= 4 -> Zy (eachTo gm s x y i).2 = false -> ∃ a', Ext base p a s a' (eachTo gm s x y i).2 /\ ∀ j, j < 4 -> Lt (eachTo gm s x y i).2.vars ((eachTo gm s x y i).1.getD j 0) /\ ltv a' ((eachTo gm s x y i).1.getD j 0) = if j < i then gb (f j) (h j) else f j
 | 0, _, nf => ⟨a, .refl g, fun j hj => by rw [if_neg (by omega)]; exact hx j hj⟩
 | i + 1, hi, nf => by
  have hlen := eachTo_len gm s y hxl i
  have n0 : Zy (eachTo gm s x y i).2 = false := (hle _ _ _).nf nf
  obtain ⟨a0, e0, ho⟩ := each_sem hle hg hxl g hx hy i (by omega) n0
  rw [eachTo] at nf ⊢
  generalize eachTo gm s x y i = q at *
  dsimp only at nf ⊢
  obtain ⟨lx, vx⟩ := ho i (by omega)
  rw [if_neg (by omega)] at vx
  obtain ⟨ly, vy⟩ := hy i (by omega)
  obtain ⟨a1, e1, l1, v1⟩ := hg a0 _ _ _ e0.good lx (e0.lt ly) nf
  refine ⟨a1, e0.trans e1, fun j hj => ?_⟩
  rw [getD_set _ _ _ _ (by omega)]
  by_cases hij : i = j
  ·subst hij
   rw [if_pos rfl, if_pos (by omega)]
   exact ⟨l1, by rw [v1, vx, e0.ltv ly, vy]⟩
  ·rw [if_neg hij]
   obtain ⟨lj, vj⟩ := ho j hj
   refine ⟨e1.lt lj, ?_⟩
   rw [e1.ltv lj, vj]
   by_cases h : j < i
   ·rw [if_pos h, if_pos (by omega)]
   ·rw [if_neg h, if_neg (by omega)]
theorem each_sem4 {gm : St -> Int -> Int -> Int × St} {gb : Bool -> Bool -> Bool} (hle : ∀ s x y, Le s (gm s x y).2) (hg : GateSem base p gm gb) {a : Nat -> Bool} {s : St} {x y : List Int} {f h : Nat -> Bool} (hxl : x.length = 4) (g : GoodB base p s.vars a s) (hx : Bits4 a s.vars x f) (hy : Bits4 a s.vars y h) (nf : Zy (eachTo gm s x y 4).2 = false) :
  ∃ a', Ext base p a s a' (eachTo gm s x y 4).2 /\ Bits4 a' (eachTo gm s x y 4).2.vars (eachTo gm s x y 4).1 (fun i => gb (f i) (h i)) := by
 obtain ⟨a', h1, h2⟩ := each_sem hle hg hxl g hx hy 4 (by omega) nf
 exact ⟨a', h1, fun j hj => by have := h2 j hj; rwa [if_pos hj] at this⟩
def Sem (a : Nat -> Bool) (n : Int) (x : List Int) (k v : Int) : Prop := x.length = 4 /\ if k = 1 then Lt n (x.getD 0 0) /\ ltv a (x.getD 0 0) = decide (v = 1) else Bits4 a n x (ZD (wN v))
theorem Sem.ext {a b : Nat -> Bool} {s t : St} {x : List Int} {k v : Int} (h : Sem a s.vars x k v) (e : Ext base p a s b t) : Sem b t.vars x k v := by
 obtain ⟨h1, h2⟩ := h
 refine ⟨h1, ?_⟩
 split
 ·rename_i hk
  rw [if_pos hk] at h2
  exact ⟨e.lt h2.1, by rw [e.ltv h2.1]; exact h2.2⟩
 ·rename_i hk
  rw [if_neg hk] at h2
  exact h2.ext e
theorem Sem.bits {a : Nat -> Bool} {n : Int} {x : List Int} {v : Int} (h : Sem a n x 0 v) : Bits4 a n x (ZD (wN v)) := by have := h.2; rwa [if_neg (by decide)] at this
theorem Sem.one {a : Nat -> Bool} {n : Int} {x : List Int} {v : Int} (h : Sem a n x 1 v) : Lt n (x.getD 0 0) /\ ltv a (x.getD 0 0) = decide (v = 1) := by have := h.2; rwa [if_pos rfl] at this
theorem Sem.mk0 {a : Nat -> Bool} {n : Int} {x : List Int} {v : Int} (hl : x.length = 4) (h : Bits4 a n x (ZD (wN v))) : Sem a n x 0 v := ⟨hl, by rw [if_neg (by decide)]; exact h⟩
theorem Sem.mk1 {a : Nat -> Bool} {n x : Int} {r : List Int} {v : Int} (hl : (x :: r).length = 4) (h : Lt n x /\ ltv a x = decide (v = 1)) : Sem a n (x :: r) 1 v := ⟨hl, by rw [if_pos rfl]; exact h⟩
theorem opN_sem {op : Int} {a : Nat -> Bool} {s : St} {x y : List Int} {u v : Int} (hop : 0 <= op /\ op < 10) (hu : -8 <= u /\ u <= 7) (hv : -8 <= v /\ v <= 7) (g : GoodB base p s.vars a s) (hx : Sem a s.vars x 0 u) (hy : Sem a s.vars y 0 v) (nf : Zy (Zv op s x y).2 = false) :
  ∃ a', Ext base p a s a' (Zv op s x y).2 /\ Sem a' (Zv op s x y).2.vars (Zv op s x y).1 0 (opM op u v).1 := by
 have hxl := hx.1
 have hyl := hy.1
 have bx := hx.bits
 have by' := hy.bits
 suffices ∃ a', Ext base p a s a' (Zv op s x y).2 /\ (Zv op s x y).1.length = 4 /\ Bits4 a' (Zv op s x y).2.vars (Zv op s x y).1 (opB op (ZD (wN u)) (ZD (wN v))) by
  obtain ⟨a', h1, h2, h3⟩ := this
  exact ⟨a', h1, .mk0 h2 (h3.congr fun i hi => opB_ok hop hu hv i hi)⟩
 generalize ZD (wN u) = f at *
 generalize ZD (wN v) = h at *
 have : op = 0 \/ op = 1 \/ op = 2 \/ op = 3 \/ op = 4 \/ op = 5 \/ op = 6 \/ op = 7 \/ op = 8 \/ op = 9 := by omega
 rcases this with rfl | rfl | rfl | rfl | rfl | rfl | rfl | rfl | rfl | rfl
 ·obtain ⟨a', h1, h2⟩ := sum_sem4 g bx by' (lt_one g).neg nf
  rw [ltv_m1 g.t] at h2
  exact ⟨a', h1, ZF _ _ _ _ _, h2⟩
 ·obtain ⟨a', h1, h2⟩ := sum_sem4 g bx (notTo_sem4 hyl by') (lt_one g) nf
  rw [ltv_one g.t] at h2
  exact ⟨a', h1, ZF _ _ _ _ _, h2⟩
 ·obtain ⟨a', h1, h2⟩ := prod_sem g bx by' 4 (by omega) nf
  exact ⟨a', h1, prodTo_len _ _ _ _, h2⟩
 ·rw [opNM_tab (by omega)] at nf ⊢
  have q := table_sem (op := 3) g bx by'
  have ql := freshTo_len s 4
  generalize tableTo (freshTo s 4).2 3 x y (freshTo s 4).1 256 = T at q nf ⊢
  obtain ⟨a', h1, h2⟩ := q nf
  exact ⟨a', h1, ql, h2⟩
 ·rw [opNM_tab (by omega)] at nf ⊢
  have q := table_sem (op := 4) g bx by'
  have ql := freshTo_len s 4
  generalize tableTo (freshTo s 4).2 4 x y (freshTo s 4).1 256 = T at q nf ⊢
  obtain ⟨a', h1, h2⟩ := q nf
  exact ⟨a', h1, ql, h2⟩
 ·obtain ⟨a', h1, h2⟩ := each_sem4 and_le and_sem hxl g bx by' nf
  exact ⟨a', h1, eachTo_len _ _ _ hxl _, h2⟩
 ·obtain ⟨a', h1, h2⟩ := each_sem4 or_le or_sem hxl g bx by' nf
  exact ⟨a', h1, eachTo_len _ _ _ hxl _, h2⟩
 ·obtain ⟨a', h1, h2⟩ := each_sem4 xor_le xor_sem hxl g bx by' nf
  exact ⟨a', h1, eachTo_len _ _ _ hxl _, h2⟩
 ·have n1 : Zy (QO s x (y.getD 0 0) 1 4).2 = false := (shift_le _ _ _ _ _).nf nf
  obtain ⟨a1, h1, h2⟩ := shift_sem4 1 g bx (by' 0 (by omega)).1 n1
  obtain ⟨a2, h3, h4⟩ := shift_sem4 2 h1.good h2 (h1.lt (by' 1 (by omega)).1) nf
  rw [h1.ltv (by' 1 (by omega)).1, (by' 1 (by omega)).2, (by' 0 (by omega)).2] at h4
  exact ⟨a2, h1.trans h3, Zb _ _ _ _ _, h4⟩
 ·have n1 : Zy (QO s x (y.getD 0 0) (-1) 4).2 = false := (shift_le _ _ _ _ _).nf nf
  obtain ⟨a1, h1, h2⟩ := shift_sem4 (-1) g bx (by' 0 (by omega)).1 n1
  obtain ⟨a2, h3, h4⟩ := shift_sem4 (-2) h1.good h2 (h1.lt (by' 1 (by omega)).1) nf
  rw [h1.ltv (by' 1 (by omega)).1, (by' 1 (by omega)).2, (by' 0 (by omega)).2] at h4
  exact ⟨a2, h1.trans h3, Zb _ _ _ _ _, h4⟩
theorem opC_sem {op : Int} {a : Nat -> Bool} {s : St} {x y : List Int} {u v : Int} (hop : op = 10 \/ op = 11) (hu : -8 <= u /\ u <= 7) (hv : -8 <= v /\ v <= 7) (g : GoodB base p s.vars a s) (hx : Sem a s.vars x 0 u) (hy : Sem a s.vars y 0 v) (nf : Zy (Zv op s x y).2 = false) :
  ∃ a', Ext base p a s a' (Zv op s x y).2 /\ Sem a' (Zv op s x y).2.vars (Zv op s x y).1 1 (opM op u v).1 := by
 obtain ⟨c1, c2⟩ := cmp_ok hu hv
 rcases hop with rfl | rfl
 ·obtain ⟨a', h1, h2, h3⟩ := less_sem hx.1 hy.1 g hx.bits hy.bits nf
  exact ⟨a', h1, .mk1 rfl ⟨h2, h3.trans c1⟩⟩
 ·obtain ⟨a', h1, h2, h3⟩ := same_sem g hx.bits hy.bits 4 (by omega) nf
  exact ⟨a', h1, .mk1 rfl ⟨h2, h3.trans c2⟩⟩
theorem opL_sem {op : Int} {a : Nat -> Bool} {s : St} {x y : List Int} {u v : Int} (hop : op = 12 \/ op = 13) (hu : u = 0 \/ u = 1) (hv : v = 0 \/ v = 1) (g : GoodB base p s.vars a s) (hx : Sem a s.vars x 1 u) (hy : Sem a s.vars y 1 v) (nf : Zy (Zv op s x y).2 = false) :
  ∃ a', Ext base p a s a' (Zv op s x y).2 /\ Sem a' (Zv op s x y).2.vars (Zv op s x y).1 1 (opM op u v).1 := by
 obtain ⟨c1, c2⟩ := log_ok hu hv
 obtain ⟨x1, x2⟩ := hx.one
 obtain ⟨y1, y2⟩ := hy.one
 rcases hop with rfl | rfl
 ·obtain ⟨a', h1, h2, h3⟩ := and_sem a s _ _ g x1 y1 nf
  exact ⟨a', h1, .mk1 rfl ⟨h2, by rw [<- c1, <- x2, <- y2]; exact h3⟩⟩
 ·obtain ⟨a', h1, h2, h3⟩ := or_sem a s _ _ g x1 y1 nf
  exact ⟨a', h1, .mk1 rfl ⟨h2, by rw [<- c2, <- x2, <- y2]; exact h3⟩⟩
theorem muxG_sem {a0 : Nat -> Bool} {s0 : St} {c : Int} {b : Bool} (hc : Lt s0.vars c) (hb : ltv a0 c = b) {x y : List Int} {f h : Nat -> Bool} (hxl : x.length = 4) (g : GoodB base p s0.vars a0 s0) (hx : Bits4 a0 s0.vars x f) (hy : Bits4 a0 s0.vars y h) :
  ∀ i, i <= 4 -> Zy (eachTo (muxG c) s0 x y i).2 = false -> ∃ a', Ext base p a0 s0 a' (eachTo (muxG c) s0 x y i).2 /\ ∀ j, j < 4 -> Lt (eachTo (muxG c) s0 x y i).2.vars ((eachTo (muxG c) s0 x y i).1.getD j 0) /\ ltv a' ((eachTo (muxG c) s0 x y i).1.getD j 0) = if j < i then (if b = true then f j else h j) else f j
 | 0, _, nf => ⟨a0, .refl g, fun j hj => by rw [if_neg (by omega)]; exact hx j hj⟩
 | i + 1, hi, nf => by
  have hlen := eachTo_len (muxG c) s0 y hxl i
  have n0 : Zy (eachTo (muxG c) s0 x y i).2 = false := (mux_le _ _ _ _).nf nf
  obtain ⟨a1, e0, ho⟩ := muxG_sem hc hb hxl g hx hy i (by omega) n0
  rw [eachTo] at nf ⊢
  generalize eachTo (muxG c) s0 x y i = q at *
  dsimp only at nf ⊢
  obtain ⟨lx, vx⟩ := ho i (by omega)
  rw [if_neg (by omega)] at vx
  obtain ⟨ly, vy⟩ := hy i (by omega)
  obtain ⟨a2, e1, l1, v1⟩ := mux_sem e0.good (e0.lt hc) lx (e0.lt ly) nf
  refine ⟨a2, e0.trans e1, fun j hj => ?_⟩
  rw [getD_set _ _ _ _ (by omega)]
  by_cases hij : i = j
  ·subst hij
   rw [if_pos rfl, if_pos (show i < i + 1 by omega)]
   refine ⟨l1, v1.trans ?_⟩
   rw [vx, e0.ltv ly, vy, e0.ltv hc, hb]
  ·rw [if_neg hij]
   obtain ⟨lj, vj⟩ := ho j hj
   refine ⟨e1.lt lj, ?_⟩
   rw [e1.ltv lj, vj]
   by_cases h : j < i
   ·rw [if_pos h, if_pos (show j < i + 1 by omega)]
   ·rw [if_neg h, if_neg (show ¬ j < i + 1 by omega)]
theorem cond_sem {k : Int} {a : Nat -> Bool} {s : St} {c x y : List Int} {w u v : Int} (hk : k = 0 \/ k = 1) (g : GoodB base p s.vars a s) (hc : Sem a s.vars c 1 w) (hx : Sem a s.vars x k u) (hy : Sem a s.vars y k v) (nf : Zy (condM k s (c.getD 0 0) x y).2 = false) :
  ∃ a', Ext base p a s a' (condM k s (c.getD 0 0) x y).2 /\ Sem a' (condM k s (c.getD 0 0) x y).2.vars (condM k s (c.getD 0 0) x y).1 k (if w = 1 then u else v) := by
 obtain ⟨c1, c2⟩ := hc.one
 unfold condM at nf ⊢
 rcases hk with rfl | rfl
 ·rw [if_neg (by decide)] at nf ⊢
  obtain ⟨a', h1, h2⟩ := muxG_sem c1 c2 hx.1 g hx.bits hy.bits 4 (by omega) nf
  refine ⟨a', h1, .mk0 (eachTo_len _ _ _ hx.1 _) fun j hj => ?_⟩
  have := h2 j hj
  rw [if_pos hj] at this
  refine ⟨this.1, this.2.trans ?_⟩
  by_cases hw : w = 1
  ·rw [if_pos (decide_eq_true hw), if_pos hw]
  ·rw [if_neg (by simp [hw]), if_neg hw]
 ·rw [if_pos rfl] at nf ⊢
  obtain ⟨x1, x2⟩ := hx.one
  obtain ⟨y1, y2⟩ := hy.one
  obtain ⟨a', h1, h2, h3⟩ := mux_sem g c1 x1 y1 nf
  refine ⟨a', h1, .mk1 rfl ⟨h2, h3.trans ?_⟩⟩
  rw [c2, x2, y2]
  by_cases hw : w = 1
  ·rw [if_pos (decide_eq_true hw), if_pos hw]
  ·rw [if_neg (by simp [hw]), if_neg hw]
end
section
variable {base : Int -> Prop} {p : Prop} {F : Int -> Int} {A : List (Int × Int)} {vals : List Int}
def SeenOk (F : Int -> Int) (vals : List Int) (a : Nat -> Bool) (n : Int) (S : ZP) : Prop := ∀ q ∈ S, ∃ t k, Tt t k /\ Con F t /\ keyS t = q.1 /\ Sem a n q.2 k (evN vals t)
def VarOk (A : List (Int × Int)) (vals : List Int) (a : Nat -> Bool) (n : Int) (t : Nd) : Prop := ∀ q ∈ QL t, if q.2 = 1 then Lt n ((W7 A q.1).getD 0) /\ ltv a ((W7 A q.1).getD 0) = decide (WM vals q.1 ≠ 0) else ∀ i : Nat, i < 4 -> Lt n ((W7 A q.1).getD 0 + (i : Int)) /\ ltv a ((W7 A q.1).getD 0 + (i : Int)) = ZD (wN (WM vals q.1)) i
theorem SeenOk.ext {a b : Nat -> Bool} {s t : St} {S : ZP} (h : SeenOk F vals a s.vars S) (e : Ext base p a s b t) : SeenOk F vals b t.vars S := fun q hq => by
 obtain ⟨u, k, h1, h2, h3, h4⟩ := h q hq
 exact ⟨u, k, h1, h2, h3, h4.ext e⟩
theorem VarOk.ext {a b : Nat -> Bool} {s t : St} {u : Nd} (h : VarOk A vals a s.vars u) (e : Ext base p a s b t) : VarOk A vals b t.vars u := fun q hq => by
 have := h q hq
 split
 ·rename_i h1
  rw [if_pos h1] at this
  exact ⟨e.lt this.1, by rw [e.ltv this.1]; exact this.2⟩
 ·rename_i h1
  rw [if_neg h1] at this
  exact fun i hi => ⟨e.lt (this i hi).1, by rw [e.ltv (this i hi).1]; exact (this i hi).2⟩
def BSem (base : Int -> Prop) (p : Prop) (F : Int -> Int) (vals : List Int) (a : Nat -> Bool) (s : St) (t : Nd) (k : Int) (r : List Int × St × ZP) : Prop :=
 Zy r.2.1 = false -> ∃ a', Ext base p a s a' r.2.1 /\ Sem a' r.2.1.vars r.1 k (evN vals t) /\ SeenOk F vals a' r.2.1.vars r.2.2
theorem bsem_of_made {t : Nd} {k : Int} (ht : Tt t k) (hc : Con F t) {a : Nat -> Bool} {s : St} {S : ZP} (g : GoodB base p s.vars a s) (hS : SeenOk F vals a s.vars S) (h : BSem base p F vals a s t k (Ze A t s S)) : BSem base p F vals a s t k (QK A t s S) := fun nf => by
 cases hget : getS S (keyS t) with
 | some x =>
  rw [bitsM_some hget] at nf ⊢
  obtain ⟨t', k', h1, h2, h3, h4⟩ := hS _ (getS_mem hget)
  have e := key_tt h1 ht h2 hc h3
  subst e
  have ek : k' = k := by rw [<- cty_nil h1 h2, cty_nil ht hc]
  subst ek
  exact ⟨a, .refl g, h4, hS⟩
 | none =>
  cases hf : Zy s with
  | true => rw [bitsM_full hget hf] at nf; exact absurd hf (by rw [nf]; decide)
  | false =>
   rw [bitsM_new hget hf] at nf ⊢
   obtain ⟨a', h1, h2, h3⟩ := h nf
   refine ⟨a', h1, h2, fun q hq => ?_⟩
   rcases mem_putS hq with hq | rfl
   ·exact h3 q hq
   ·exact ⟨t, k, ht, hc, rfl, h2⟩
theorem number_at (n : Int) (i : Nat) (hi : i < 4) : (qo n).getD i 0 = if bitAt n i then 1 else -1 := by
 have h1 : ∀ j, j <= 4 -> ∀ i, i < j -> (W3 n j).getD i 0 = if bitAt n i then 1 else -1 := fun j => by
  induction j with
  | zero => intro _ i h; omega
  | succ j ih =>
   intro hj i hi
   have hlen := ZX n j
   rw [W3, getD_set _ _ _ _ (by omega)]
   by_cases e : j = i
   ·subst e; rw [if_pos rfl]
   ·rw [if_neg e]; exact ih (by omega) i (by omega)
 exact h1 4 (by omega) i hi
theorem varTo_at (b : Int) (m : Nat) : ∀ j, j <= 4 -> ∀ i, i < j -> (varTo b j).getD i 0 = b + (i : Int)
 | 0, _, i, h => absurd h (by omega)
 | j + 1, hj, i, hi => by
  have hlen := qi b j
  rw [varTo, getD_set _ _ _ _ (by omega)]
  by_cases e : j = i
  ·subst e; rw [if_pos rfl]
  ·rw [if_neg e]; exact varTo_at b m j (by omega) i (by omega)
theorem bits_sem (hv : Vok vals) {t : Nd} {k : Int} (h : Tt t k) : Con F t -> ∀ (a : Nat -> Bool) (s : St) (S : ZP), GoodB base p s.vars a s -> SeenOk F vals a s.vars S -> VarOk A vals a s.vars t -> BSem base p F vals a s t k (Ze A t s S) /\ BSem base p F vals a s t k (QK A t s S) := by
 have fin : ∀ {t : Nd} {k : Int} {a : Nat -> Bool} {s : St} {S : ZP}, Tt t k -> Con F t -> GoodB base p s.vars a s -> SeenOk F vals a s.vars S -> BSem base p F vals a s t k (Ze A t s S) -> BSem base p F vals a s t k (Ze A t s S) /\ BSem base p F vals a s t k (QK A t s S) := fun h1 h2 h3 h4 h5 => ⟨h5, bsem_of_made h1 h2 h3 h4 h5⟩
 induction h with
 | @num n hn =>
  intro hc a s S g hS hV
  refine fin (.num hn) hc g hS fun nf => ?_
  rw [Zx, if_pos rfl] at nf ⊢
  refine ⟨a, .refl g, .mk0 (ZX n 4) fun i hi => ?_, hS⟩
  show Lt s.vars ((qo n).getD i 0) /\ ltv a ((qo n).getD i 0) = ZD (wN n) i
  rw [number_at n i hi, <- num_ok hn i hi]
  by_cases hb : bitAt n i
  ·rw [if_pos hb, decide_eq_true hb]; exact ⟨lt_one g, ltv_one g.t⟩
  ·rw [if_neg hb, decide_eq_false hb]; exact ⟨(lt_one g).neg, ltv_m1 g.t⟩
 | @tru n hn =>
  intro hc a s S g hS hV
  refine fin (.tru hn) hc g hS fun nf => ?_
  rw [Zx, if_neg (by decide), if_pos rfl] at nf ⊢
  refine ⟨a, .refl g, .mk1 rfl ?_, hS⟩
  show Lt s.vars (1 * (2 * n - 1)) /\ ltv a (1 * (2 * n - 1)) = decide (n = 1)
  rcases hn with rfl | rfl
  ·exact ⟨(lt_one g).neg, ltv_m1 g.t⟩
  ·exact ⟨lt_one g, ltv_one g.t⟩
 | @var n m h1 h2 =>
  intro hc a s S g hS hV
  refine fin (.var h1 h2) hc g hS fun nf => ?_
  rw [Zx, if_neg (by decide), if_neg (by decide)] at nf ⊢
  have hq := hV (n, m) (by simp [QL])
  have hev : evN vals (.mk 6 n m []) = if m = 1 then (if decide (WM vals n ≠ 0) = true then 1 else 0) else WM vals n := rfl
  refine ⟨a, .refl g, ?_, hS⟩
  rw [hev]
  show Sem a s.vars (varM ((W7 A n).getD 0) m) m _
  unfold varM
  rcases h2 with rfl | rfl
  ·rw [if_neg (by decide), if_neg (by decide)]
   have hq : ∀ i : Nat, i < 4 -> Lt s.vars ((W7 A n).getD 0 + (i : Int)) /\ ltv a ((W7 A n).getD 0 + (i : Int)) = ZD (wN (WM vals n)) i := by
    rwa [if_neg (show ¬ (n, (0 : Int)).2 = 1 from by show ¬ (0 : Int) = 1; decide)] at hq
   refine .mk0 (qi _ _) fun i hi => ?_
   rw [varTo_at _ 0 4 (by omega) i hi]
   exact hq i hi
  ·rw [if_pos rfl, if_pos rfl]
   have hq : Lt s.vars ((W7 A n).getD 0) /\ ltv a ((W7 A n).getD 0) = decide (WM vals n ≠ 0) := by
    rwa [if_pos rfl] at hq
   refine ⟨qi _ _, ?_⟩
   rw [if_pos rfl, varTo_at _ 0 1 (by omega) 0 (by omega), show (W7 A n).getD 0 + ((0 : Nat) : Int) = (W7 A n).getD 0 by omega]
   refine ⟨hq.1, hq.2.trans ?_⟩
   by_cases hz : WM vals n = 0
   ·simp [hz]
   ·simp [hz]
 | @bin n x y hn hx hy ihx ihy =>
  intro hc a s S g hS hV
  refine fin (.bin hn hx hy) hc g hS ?_
  have hcx : Con F x := fun p hp => hc p (by simp [QL, QP]; simp [hp])
  have hcy : Con F y := fun p hp => hc p (by simp [QL, QP]; simp [hp])
  have hVx : VarOk A vals a s.vars x := fun p hp => hV p (by simp [QL, QP]; simp [hp])
  have hVy : VarOk A vals a s.vars y := fun p hp => hV p (by simp [QL, QP]; simp [hp])
  intro nf
  rw [madeM_2] at nf ⊢
  have n2 : Zy (QK A y (QK A x s S).2.1 (QK A x s S).2.2).2.1 = false := (opNM_le2 _ _ _ _).le.nf nf
  have n1 : Zy (QK A x s S).2.1 = false := (bits_le2 hy _ _).2.le.nf n2
  obtain ⟨a1, e1, s1, S1⟩ := (ihx hcx a s S g hS hVx).2 n1
  generalize QK A x s S = q at *
  obtain ⟨a2, e2, s2, S2⟩ := (ihy hcy a1 q.2.1 q.2.2 e1.good S1 (hVy.ext e1)).2 n2
  generalize QK A y q.2.1 q.2.2 = r at *
  have bx := ev_ok hv hx
  have by' := ev_ok hv hy
  have hev : evN vals (.mk 9 n 0 [x, y]) = (opM n (evN vals x) (evN vals y)).1 := rfl
  rw [hev]
  by_cases h10 : 10 <= n
  ·rw [if_pos ((truth10 hn).2 h10)]
   obtain ⟨a3, e3, s3⟩ := opC_sem (op := n) (by omega) ⟨bx.1, bx.2.1⟩ ⟨by'.1, by'.2.1⟩ e2.good (s1.ext e2) s2 nf
   exact ⟨a3, (e1.trans e2).trans e3, s3, S2.ext e3⟩
  ·rw [if_neg fun h => h10 ((truth10 hn).1 h)]
   obtain ⟨a3, e3, s3⟩ := opN_sem (op := n) (by omega) ⟨bx.1, bx.2.1⟩ ⟨by'.1, by'.2.1⟩ e2.good (s1.ext e2) s2 nf
   exact ⟨a3, (e1.trans e2).trans e3, s3, S2.ext e3⟩
 | @log n x y hn hx hy ihx ihy =>
  intro hc a s S g hS hV
  refine fin (.log hn hx hy) hc g hS ?_
  have hcx : Con F x := fun p hp => hc p (by simp [QL, QP]; simp [hp])
  have hcy : Con F y := fun p hp => hc p (by simp [QL, QP]; simp [hp])
  have hVx : VarOk A vals a s.vars x := fun p hp => hV p (by simp [QL, QP]; simp [hp])
  have hVy : VarOk A vals a s.vars y := fun p hp => hV p (by simp [QL, QP]; simp [hp])
  intro nf
  rw [madeM_2] at nf ⊢
  have n2 : Zy (QK A y (QK A x s S).2.1 (QK A x s S).2.2).2.1 = false := (opNM_le2 _ _ _ _).le.nf nf
  have n1 : Zy (QK A x s S).2.1 = false := (bits_le2 hy _ _).2.le.nf n2
  obtain ⟨a1, e1, s1, S1⟩ := (ihx hcx a s S g hS hVx).2 n1
  generalize QK A x s S = q at *
  obtain ⟨a2, e2, s2, S2⟩ := (ihy hcy a1 q.2.1 q.2.2 e1.good S1 (hVy.ext e1)).2 n2
  generalize QK A y q.2.1 q.2.2 = r at *
  have bx := ev_ok hv hx
  have by' := ev_ok hv hy
  have hev : evN vals (.mk 9 n 0 [x, y]) = (opM n (evN vals x) (evN vals y)).1 := rfl
  rw [hev]
  obtain ⟨a3, e3, s3⟩ := opL_sem (op := n) hn (bx.2.2 rfl) (by'.2.2 rfl) e2.good (s1.ext e2) s2 nf
  exact ⟨a3, (e1.trans e2).trans e3, s3, S2.ext e3⟩
 | @not x hx ihx =>
  intro hc a s S g hS hV
  refine fin (.not hx) hc g hS ?_
  have hcx : Con F x := fun p hp => hc p (by simp [QL, QP]; simp [hp])
  have hVx : VarOk A vals a s.vars x := fun p hp => hV p (by simp [QL, QP]; simp [hp])
  intro nf
  rw [madeM_1] at nf ⊢
  obtain ⟨a1, e1, s1, S1⟩ := (ihx hcx a s S g hS hVx).2 nf
  generalize QK A x s S = q at *
  have hev : evN vals (.mk 10 0 0 [x]) = 1 - evN vals x := rfl
  rw [hev]
  obtain ⟨l1, v1⟩ := s1.one
  refine ⟨a1, e1, .mk1 rfl ⟨l1.neg, ?_⟩, S1⟩
  rw [WS l1.1, v1]
  rcases (ev_ok hv hx).2.2 rfl with h | h <;> rw [h] <;> decide
 | @cond c x y k hcc hx hy ihc ihx ihy =>
  intro hc a s S g hS hV
  refine fin (.cond hcc hx hy) hc g hS ?_
  have hty := cty_nil (.cond hcc hx hy) hc
  have hc0 : Con F c := fun p hp => hc p (by simp [QL, QP]; simp [hp])
  have hcx : Con F x := fun p hp => hc p (by simp [QL, QP]; simp [hp])
  have hcy : Con F y := fun p hp => hc p (by simp [QL, QP]; simp [hp])
  have hV0 : VarOk A vals a s.vars c := fun p hp => hV p (by simp [QL, QP]; simp [hp])
  have hVx : VarOk A vals a s.vars x := fun p hp => hV p (by simp [QL, QP]; simp [hp])
  have hVy : VarOk A vals a s.vars y := fun p hp => hV p (by simp [QL, QP]; simp [hp])
  intro nf
  rw [madeM_3, hty] at nf ⊢
  have n3 : Zy (QK A y (QK A x (QK A c s S).2.1 (QK A c s S).2.2).2.1 (QK A x (QK A c s S).2.1 (QK A c s S).2.2).2.2).2.1 = false := (condM_le2 _ _ _ _ _).le.nf nf
  have n2 : Zy (QK A x (QK A c s S).2.1 (QK A c s S).2.2).2.1 = false := (bits_le2 hy _ _).2.le.nf n3
  have n1 : Zy (QK A c s S).2.1 = false := (bits_le2 hx _ _).2.le.nf n2
  obtain ⟨a1, e1, s1, S1⟩ := (ihc hc0 a s S g hS hV0).2 n1
  generalize QK A c s S = q at *
  obtain ⟨a2, e2, s2, S2⟩ := (ihx hcx a1 q.2.1 q.2.2 e1.good S1 (hVx.ext e1)).2 n2
  generalize QK A x q.2.1 q.2.2 = r at *
  obtain ⟨a3, e3, s3, S3⟩ := (ihy hcy a2 r.2.1 r.2.2 e2.good S2 ((hVy.ext e1).ext e2)).2 n3
  generalize QK A y r.2.1 r.2.2 = u at *
  have hev : evN vals (.mk 29 0 0 [c, x, y]) = if evN vals c = 1 then evN vals x else evN vals y := rfl
  rw [hev]
  obtain ⟨a4, e4, s4⟩ := cond_sem hx.ty e3.good ((s1.ext e2).ext e3) (s2.ext e3) s3 nf
  exact ⟨a4, ((e1.trans e2).trans e3).trans e4, s4, S3.ext e4⟩
end
end Go.Proofs
end
section
namespace Go.Fo
theorem roundM_false : ∀ {cls : List (List Int)} {S S' : List Int} {ch : Bool}, ZK cls S ch = some (S', false) -> ch = false /\ S' = S /\ ∀ c ∈ cls, stepM S c = some (S, false)
 | [], S, S', ch, h => by
  rw [ZK] at h
  cases h
  exact ⟨rfl, rfl, fun c hc => by cases hc⟩
 | c :: r, S, S', ch, h => by
  rw [ZK] at h
  split at h
  ·cases h
  ·rename_i S1 b hs
   obtain ⟨h1, h2, h3⟩ := roundM_false h
   have hb : b = false := by cases b <;> simp_all
   have hc : ch = false := by cases ch <;> simp_all
   subst hb
   have hS : S1 = S := by
    rcases stepM_cases hs with ⟨_, h⟩ | ⟨h, _⟩
    ·exact h
    ·cases h
   subst hS
   refine ⟨hc, h2, fun c' hc' => ?_⟩
   rcases List.mem_cons.1 hc' with rfl | hc'
   ·exact hs
   ·exact h3 c' hc'
theorem roundM_keep {P : List Int -> Prop} : ∀ {cls : List (List Int)}, (∀ c ∈ cls, ∀ S S' b, P S -> stepM S c = some (S', b) -> P S') -> ∀ {S S' ch ch'}, P S -> ZK cls S ch = some (S', ch') -> P S'
 | [], _, S, S', ch, ch', hp, h => by rw [ZK] at h; cases h; exact hp
 | c :: r, hk, S, S', ch, ch', hp, h => by
  rw [ZK] at h
  split at h
  ·cases h
  ·rename_i S1 b hs
   exact roundM_keep (fun c hc => hk c (by simp [hc])) (hk c (by simp) _ _ _ hp hs) h
theorem fixM_keep {P : List Int -> Prop} {cls : List (List Int)} (hk : ∀ c ∈ cls, ∀ S S' b, P S -> stepM S c = some (S', b) -> P S') : ∀ {k S S'}, P S -> fixM cls k S = some S' -> P S'
 | 0, S, S', hp, h => by rw [fixM] at h; cases h
 | k + 1, S, S', hp, h => by
  rw [fixM] at h
  split at h
  ·cases h
  ·rename_i S1 hr; cases h; exact roundM_keep hk hp hr
  ·rename_i S1 hr; exact fixM_keep hk (roundM_keep hk hp hr) h
theorem fixM_closed {cls : List (List Int)} : ∀ {k S S'}, fixM cls k S = some S' -> ∀ c ∈ cls, stepM S' c = some (S', false)
 | 0, S, S', h => by rw [fixM] at h; cases h
 | k + 1, S, S', h => by
  rw [fixM] at h
  split at h
  ·cases h
  ·rename_i S1 hr
   cases h
   obtain ⟨_, rfl, h3⟩ := roundM_false hr
   exact h3
  ·exact fixM_closed h
end Go.Fo
end
section
namespace Go.Proofs
open Go.Bl Go.Fo
def alL (a : Nat -> Bool) : Nat -> List Int
 | 0 => []
 | m + 1 => alL a m ++ [al a ((m : Int) + 1)]
theorem alL_len (a : Nat -> Bool) : ∀ m, (alL a m).length = m
 | 0 => rfl
 | m + 1 => by rw [alL, List.length_append, alL_len a m]; rfl
theorem al_cases (a : Nat -> Bool) (v : Int) : al a v = v \/ al a v = -v := by
 unfold al; split
 ·exact .inl rfl
 ·exact .inr rfl
theorem al_true {a : Nat -> Bool} {n x : Int} (hx : Lt n x) (ht : ltv a x = true) : ∃ v, 1 <= v /\ v <= n /\ al a v = x := by
 obtain ⟨h1, h2, h3⟩ := hx
 by_cases h : 0 < x
 ·refine ⟨x, by omega, h3, ?_⟩
  rw [al_of h, if_pos ht]
 ·refine ⟨-x, by omega, by omega, ?_⟩
  rw [al_of (by omega), WS h1, ht, if_neg (by decide)]; omega
theorem roundM_meas : ∀ {cls all : List (List Int)} {S S' : List Int} {ch b : Bool}, (∀ c ∈ cls, c ∈ all) -> ZK cls S ch = some (S', b) -> meas all S' <= meas all S /\ (b = true -> ch = true \/ meas all S' < meas all S)
 | [], all, S, S', ch, b, _, h => by
  rw [ZK] at h
  cases h
  exact ⟨Nat.le_refl _, fun h => .inl h⟩
 | c :: r, all, S, S', ch, b, hall, h => by
  rw [ZK] at h
  split at h
  ·cases h
  ·rename_i S1 b1 hs
   obtain ⟨h1, h2⟩ := roundM_meas (fun c hc => hall c (by simp [hc])) h
   rcases stepM_cases hs with ⟨rfl, rfl⟩ | ⟨rfl, x, hx, hxn, rfl⟩
   ·refine ⟨h1, fun hb => ?_⟩
    rcases h2 hb with h | h
    ·exact .inl (by simpa using h)
    ·exact .inr h
   ·have hlt := meas_lt (hall c (by simp)) hx hxn
    exact ⟨by omega, fun _ => .inr (by omega)⟩
theorem roundM_some {P : List Int -> Prop} : ∀ {cls : List (List Int)}, (∀ c ∈ cls, ∀ S, P S -> ∃ S' b, stepM S c = some (S', b) /\ P S') -> ∀ {S ch}, P S -> ∃ S' b, ZK cls S ch = some (S', b) /\ P S'
 | [], _, S, ch, hp => ⟨S, ch, rfl, hp⟩
 | c :: r, hk, S, ch, hp => by
  obtain ⟨S1, b1, h1, h2⟩ := hk c (by simp) S hp
  rw [ZK, h1]
  exact roundM_some (fun c hc => hk c (by simp [hc])) h2
theorem fixM_some {P : List Int -> Prop} {cls : List (List Int)} (hk : ∀ c ∈ cls, ∀ S, P S -> ∃ S' b, stepM S c = some (S', b) /\ P S') : ∀ k S, P S -> meas cls S < k -> ∃ S', fixM cls k S = some S' /\ P S'
 | 0, S, _, h => absurd h (by omega)
 | k + 1, S, hp, h => by
  obtain ⟨S1, b, h1, h2⟩ := roundM_some hk (ch := false) hp
  rw [fixM, h1]
  cases b with
  | false => exact ⟨S1, rfl, h2⟩
  | true =>
   have := (roundM_meas (fun c hc => hc) h1).2 rfl
   exact fixM_some hk k S1 h2 (by
     rcases this with h | h; · cases h
     ·omega)
section
variable {base : Int -> Prop} {p : Prop} {a : Nat -> Bool} {s : St} {l : List Int}
theorem closed_all (g : GoodB base p s.vars a s) (hb : ∀ v, 1 <= v -> v <= s.vars -> base v -> al a v ∈ l) {T : List Int} (hl : ∀ x ∈ l, x ∈ T) (hT : ∀ c ∈ s.cl, stepM T c = some (T, false)) : ∀ (m : Nat) (v : Int), v <= m -> 1 <= v -> v <= s.vars -> al a v ∈ T
 | 0, v, h1, h2, _ => absurd h1 (by omega)
 | m + 1, v, h1, h2, h3 => by
  rcases g.force v h2 h3 with h | ⟨c, hc, hm, ho⟩
  ·exact hl _ (hb v h2 h3 h)
  ·have hst := hT c hc
   have hop : ∀ y ∈ c, qd T y = true -> y = al a v := fun y hy hyo => by
    rcases ho y hy with h | ⟨hf, hlo, hhi⟩
    ·exact h
    ·exfalso
     have hly := g.lits c hc y hy
     have hny : ltv a (-y) = true := by rw [WS hly.1, hf]; rfl
     obtain ⟨w, w1, w2, w3⟩ := al_true (n := v - 1) (x := -y) ⟨by have := hly.1; omega, by omega, by omega⟩ hny
     have := closed_all g hb hl hT m w (by omega) w1 (by omega)
     rw [w3] at this
     unfold qd at hyo
     rw [decide_eq_true this] at hyo
     cases hyo
   unfold stepM at hst
   split at hst
   ·cases hst
   ·rename_i x r hx
    have hall : ∀ z ∈ c.filter (qd T), z = al a v := fun z hz => by
     obtain ⟨q1, q2⟩ := List.mem_filter.1 hz
     exact hop z q1 q2
    rw [hx] at hall
    have ex : x = al a v := hall x (by simp)
    split at hst
    ·exact absurd (congrArg Prod.snd (Option.some.inj hst)) (by simp)
    ·rename_i hn
     rw [<- ex]
     apply Decidable.byContradiction
     intro hxT
     exact hn ⟨fun y hy => by rw [hall y (by simp [hy]), ex], hxT⟩
theorem follow_none (g : GoodB base p s.vars a s) (hb : ∀ v, 1 <= v -> v <= s.vars -> base v -> al a v ∈ l) {x : Int} (hx : kept [x] ∈ s.cl) (hxl : Lt s.vars x) (hf : ltv a x = false) : followM s.cl l = none := by
 unfold followM
 split
 ·rfl
 ·rename_i T hT
  exfalso
  have hcl := fixM_closed hT
  have hin : ∀ y ∈ l, y ∈ T := fun y hy => fixM_keep (P := fun S => ∀ x ∈ ZG l, x ∈ S) (fun c _ S S' b hp hs => by
   rcases stepM_cases hs with ⟨_, rfl⟩ | ⟨_, x, _, _, rfl⟩
   ·exact hp
   ·exact fun x hx => List.mem_append.2 (.inl (hp x hx))) (fun x hx => hx) hT y (mem_startM.2 hy)
  have hall := closed_all g hb hin hcl
  have hs := hcl _ hx
  have hnx : ltv a (-x) = true := by rw [WS hxl.1, hf]; rfl
  obtain ⟨w, w1, w2, w3⟩ := al_true hxl.neg hnx
  have hm := hall w.toNat w (by omega) w1 w2
  rw [w3] at hm
  have he : (kept [x]).filter (qd T) = [] := List.filter_eq_nil_iff.2 fun z hz => by
   have : z = x := by simpa using (mem_kept.1 hz).1
   subst this
   unfold qd
   rw [decide_eq_true hm]; decide
  unfold stepM at hs
  rw [he] at hs
  cases hs
theorem outM_all {S : List Int} {n : Int} (h1 : ∀ v, 1 <= v -> v <= n -> al a v ∈ S /\ -(al a v) ∉ S) (h2 : ∀ v, n < v -> v ∉ S /\ -v ∉ S) : ∀ m : Nat, outM S m = some (alL a (min m n.toNat))
 | 0 => by rw [Nat.zero_min]; rfl
 | m + 1 => by
  rw [outM, outM_all h1 h2 m]
  dsimp only
  by_cases h : (m : Int) + 1 <= n
  ·obtain ⟨q1, q2⟩ := h1 ((m : Int) + 1) (by omega) h
   have e1 : min m n.toNat = m := by omega
   have e2 : min (m + 1) n.toNat = m + 1 := by omega
   rw [e1, e2, alL]
   rcases al_cases a ((m : Int) + 1) with e | e
   ·rw [e] at q1 q2 ⊢
    rw [if_neg fun h => q2 h.2, if_pos q1]
   ·rw [e, Int.neg_neg] at q2
    rw [e] at q1 ⊢
    rw [if_neg fun h => q2 h.1, if_neg q2, if_pos q1]
  ·obtain ⟨q1, q2⟩ := h2 ((m : Int) + 1) (by omega)
   have e2 : min (m + 1) n.toNat = min m n.toNat := by omega
   rw [e2, if_neg fun h => q1 h.1, if_neg q1, if_neg q2]
theorem follow_all (g : GoodB base p s.vars a s) (hp : p) (hn : s.vars <= 2000) (hl : ∀ x ∈ l, Lt s.vars x /\ ltv a x = true) (hb : ∀ v, 1 <= v -> v <= s.vars -> base v -> al a v ∈ l) : followM s.cl l = some (alL a s.vars.toNat) := by
 have hstep : ∀ c ∈ s.cl, ∀ S, (∀ x ∈ S, Lt s.vars x /\ ltv a x = true) -> ∃ S' b, stepM S c = some (S', b) /\ ∀ x ∈ S', Lt s.vars x /\ ltv a x = true := fun c hc S hS => by
  obtain ⟨y, hy, hyt⟩ := g.sat c hc hp
  have hyl := g.lits c hc y hy
  have hyo : y ∈ c.filter (qd S) := List.mem_filter.2 ⟨hy, by
   unfold qd
   have : -y ∉ S := fun h => by
    have := (hS _ h).2
    rw [WS hyl.1, hyt] at this
    cases this
   simpa using this⟩
  unfold stepM
  split
  ·rename_i h0; rw [h0] at hyo; cases hyo
  ·rename_i x r hx
   split
   ·rename_i hh
    refine ⟨_, _, rfl, fun z hz => ?_⟩
    rcases List.mem_append.1 hz with hz | hz
    ·exact hS z hz
    ·have hxy : y = x := by
      rw [hx] at hyo
      rcases List.mem_cons.1 hyo with h | h
      ·exact h
      ·exact hh.1 y h
     rw [List.mem_singleton.1 hz, <- hxy]
     exact ⟨hyl, hyt⟩
   ·exact ⟨_, _, rfl, hS⟩
 obtain ⟨T, hT, hTt⟩ := fixM_some hstep (meas s.cl (ZG l) + 1) (ZG l) (fun x hx => hl x (mem_startM.1 hx)) (by omega)
 have hin : ∀ y ∈ l, y ∈ T := fun y hy => fixM_keep (P := fun S => ∀ x ∈ ZG l, x ∈ S) (fun c _ S S' b hp hs => by
  rcases stepM_cases hs with ⟨_, rfl⟩ | ⟨_, x, _, _, rfl⟩
  ·exact hp
  ·exact fun x hx => List.mem_append.2 (.inl (hp x hx))) (fun x hx => hx) hT y (mem_startM.2 hy)
 have hall := closed_all g hb hin (fixM_closed hT)
 have h0 := g.v1
 unfold followM
 rw [hT]
 dsimp only
 rw [outM_all (a := a) (n := s.vars) (fun v h1 h2 => ⟨hall v.toNat v (by omega) h1 h2, fun h => by
  have := (hTt _ h).2
  rw [WS (by rcases al_cases a v with e | e <;> rw [e] <;> omega), ltv_al (by omega)] at this
  cases this⟩) (fun v hv => ⟨fun h => by have := (hTt _ h).1.2.2; omega, fun h => by have := (hTt _ h).1.2.1; omega⟩) 2000]
 rw [show min 2000 s.vars.toNat = s.vars.toNat by omega]
end
end Go.Proofs
end
section
namespace Go.Proofs
open Go.Bl Go.Av
def widI (k : Int) : Int := if k = 1 then 1 else 4
theorem wid_eq (k : Int) : Bl.width k = widI k := rfl
structure RB (F : Int -> Int) (i : Nat) (q : BV) : Prop where
 v1 : 1 <= q.v
 v2 : q.v <= 1 + 4 * (q.nm.length : Int)
 l2 : q.ty.length = q.nm.length
 l3 : q.fi.length = q.nm.length
 nm : ∀ j, j < q.nm.length -> 0 <= q.nm.getD j 0 /\ q.nm.getD j 0 < i
 ty : ∀ j, j < q.nm.length -> q.ty.getD j 0 = F (q.nm.getD j 0)
 at' : ∀ j, j < q.nm.length -> W7 q.A (q.nm.getD j 0) = some (q.fi.getD j 0)
 rng : ∀ j, j < q.nm.length -> 2 <= q.fi.getD j 0 /\ q.fi.getD j 0 + widI (q.ty.getD j 0) <= q.v + 1
 mono : ∀ j k, j < k -> k < q.nm.length -> q.fi.getD j 0 + widI (q.ty.getD j 0) <= q.fi.getD k 0
 cov : ∀ x, 2 <= x -> x <= q.v -> ∃ j, j < q.nm.length /\ q.fi.getD j 0 <= x /\ x < q.fi.getD j 0 + widI (q.ty.getD j 0)
theorem W9 {l : List Int} {x : Int} {j : Nat} (h : j < l.length) : (l ++ [x]).getD j 0 = l.getD j 0 := by
 rw [List.getD_eq_getElem?_getD, List.getElem?_append_left h, <- List.getD_eq_getElem?_getD]
theorem ZL {l : List Int} {x : Int} {j : Nat} (h : j = l.length) : (l ++ [x]).getD j 0 = x := by
 subst h
 rw [List.getD_eq_getElem?_getD, List.getElem?_append_right (Nat.le_refl _), Nat.sub_self]; rfl
theorem widI_bd (k : Int) : 1 <= widI k /\ widI k <= 4 := by unfold widI; split <;> omega
theorem varsT_rb {M : List (Int × Int)} {F : Int -> Int} (hM : SubF M F) : ∀ i : Nat, RB F i (WL M i)
 | 0 => ⟨Int.le_refl 1, by show (1 : Int) <= 1 + 4 * ((0 : Nat) : Int); omega, rfl, rfl, fun j h => absurd h (by show ¬ j < 0; omega), fun j h => absurd h (by show ¬ j < 0; omega), fun j h => absurd h (by show ¬ j < 0; omega), fun j h => absurd h (by show ¬ j < 0; omega), fun j k _ h => absurd h (by show ¬ k < 0; omega), fun x h1 h2 => by have h2 : x <= 1 := h2; omega⟩
 | i + 1 => by
  have ih := varsT_rb hM i
  rw [WL]
  generalize WL M i = q at *
  unfold stepV
  cases hg : W7 M (i : Int) with
  | none => exact ⟨ih.v1, ih.v2, ih.l2, ih.l3, fun j h => ⟨(ih.nm j h).1, Int.lt_trans (ih.nm j h).2 (by omega)⟩, ih.ty, ih.at', ih.rng, ih.mono, ih.cov⟩
  | some m =>
   have hF := hM _ _ hg
   have hw := widI_bd m
   have hput : (W7 (putI q.A (i : Int) (q.v + 1)) (i : Int)).getD 0 = q.v + 1 := by rw [getI_put, if_pos rfl]; rfl
   have h1 := ih.v1
   have h2 := ih.v2
   have l2 := ih.l2
   have l3 := ih.l3
   have hcase : ∀ j, j < (q.nm ++ [(i : Int)]).length -> j < q.nm.length \/ j = q.nm.length := fun j h => by rw [List.length_append, List.length_singleton] at h; omega
   dsimp only
   rw [hput]
   refine ⟨by show 1 <= q.v + Bl.width m; rw [wid_eq]; omega, by show q.v + Bl.width m <= 1 + 4 * ((q.nm ++ [(i : Int)]).length : Int); rw [wid_eq, List.length_append, List.length_singleton]; omega, by simp [l2], by simp [l3], ?_, ?_, ?_, ?_, ?_, ?_⟩
   ·intro j h
    show 0 <= (q.nm ++ [(i : Int)]).getD j 0 /\ (q.nm ++ [(i : Int)]).getD j 0 < _
    rcases hcase j h with hj | hj
    ·rw [W9 hj]; have := ih.nm j hj; omega
    ·rw [ZL hj]; omega
   ·intro j h
    show (q.ty ++ [m]).getD j 0 = F ((q.nm ++ [(i : Int)]).getD j 0)
    rcases hcase j h with hj | hj
    ·rw [W9 hj, W9 (by omega)]; exact ih.ty j hj
    ·rw [ZL hj, ZL (by omega)]; exact hF
   ·intro j h
    show W7 (putI q.A (i : Int) (q.v + 1)) ((q.nm ++ [(i : Int)]).getD j 0) = some ((q.fi ++ [q.v + 1]).getD j 0)
    rcases hcase j h with hj | hj
    ·rw [W9 hj, W9 (by omega), getI_put, if_neg (by have := (ih.nm j hj).2; omega)]; exact ih.at' j hj
    ·rw [ZL hj, ZL (by omega), getI_put, if_pos rfl]
   ·intro j h
    show 2 <= (q.fi ++ [q.v + 1]).getD j 0 /\ (q.fi ++ [q.v + 1]).getD j 0 + widI ((q.ty ++ [m]).getD j 0) <= q.v + Bl.width m + 1
    rw [wid_eq]
    rcases hcase j h with hj | hj
    ·rw [W9 (by omega), W9 (by omega)]; have := ih.rng j hj; omega
    ·rw [ZL (by omega), ZL (by omega)]; omega
   ·intro j k hjk h
    show (q.fi ++ [q.v + 1]).getD j 0 + widI ((q.ty ++ [m]).getD j 0) <= (q.fi ++ [q.v + 1]).getD k 0
    have hj : j < q.nm.length := by rcases hcase k h with h | h <;> omega
    rw [W9 (show j < q.fi.length by omega), W9 (show j < q.ty.length by omega)]
    rcases hcase k h with hk | hk
    ·rw [W9 (by omega)]; exact ih.mono j k hjk hk
    ·rw [ZL (by omega)]; exact (ih.rng j hj).2
   ·intro x hx1 hx2
    show ∃ j, j < (q.nm ++ [(i : Int)]).length /\ (q.fi ++ [q.v + 1]).getD j 0 <= x /\ x < (q.fi ++ [q.v + 1]).getD j 0 + widI ((q.ty ++ [m]).getD j 0)
    have hx2 : x <= q.v + Bl.width m := hx2
    rw [wid_eq] at hx2
    by_cases hx : x <= q.v
    ·obtain ⟨j, h1, h2, h3⟩ := ih.cov x hx1 hx
     refine ⟨j, by simp; omega, ?_⟩
     rw [W9 (show j < q.fi.length by omega), W9 (show j < q.ty.length by omega)]
     exact ⟨h2, h3⟩
    ·refine ⟨q.nm.length, by simp, ?_⟩
     rw [ZL (show q.nm.length = q.fi.length by omega), ZL (show q.nm.length = q.ty.length by omega)]
     omega
/-! The literals of the values. -/
theorem mem_litTo {fi : Int} {bs : List Bool} {x : Int} : ∀ {k : Nat}, x ∈ litTo fi bs k ↔ ∃ j : Nat, j < k /\ x = if bs.getD j false = true then fi + (j : Int) else -fi - (j : Int)
 | 0 => ⟨fun h => (by cases h), fun ⟨j, h, _⟩ => absurd h (by omega)⟩
 | k + 1 => by
  rw [litTo, List.mem_append, mem_litTo, List.mem_singleton]
  constructor
  ·rintro (⟨j, h1, h2⟩ | h)
   ·exact ⟨j, by omega, h2⟩
   ·exact ⟨k, by omega, h⟩
  ·rintro ⟨j, h1, h2⟩
   by_cases h : j = k
   ·subst h; exact .inr h2
   ·exact .inl ⟨j, by omega, h2⟩
theorem mem_litsTo {vals nm ty fi : List Int} {x : Int} : ∀ {i : Nat}, x ∈ litsTo vals nm ty fi i ↔ ∃ j : Nat, j < i /\ x ∈ litTo (fi.getD j 0) (bitsV (WM vals (nm.getD j 0)) (ty.getD j 0)) (bitsV (WM vals (nm.getD j 0)) (ty.getD j 0)).length
 | 0 => ⟨fun h => (by cases h), fun ⟨j, h, _⟩ => absurd h (by omega)⟩
 | i + 1 => by
  rw [litsTo, List.mem_append, mem_litsTo]
  constructor
  ·rintro (⟨j, h1, h2⟩ | h)
   ·exact ⟨j, by omega, h2⟩
   ·exact ⟨i, by omega, h⟩
  ·rintro ⟨j, h1, h2⟩
   by_cases h : j = i
   ·subst h; exact .inr h2
   ·exact .inl ⟨j, by omega, h2⟩
theorem bitsV_wid (v k : Int) : ((bitsV v k).length : Int) = widI k := by
 unfold bitsV widI
 split
 ·rfl
 ·rw [bitsTo_len]; rfl
def bitV (vals : List Int) (q : BV) (j k : Nat) : Bool := (bitsV (WM vals (q.nm.getD j 0)) (q.ty.getD j 0)).getD k false
def litsV (vals : List Int) (q : BV) : List Int := litsTo vals q.nm q.ty q.fi q.nm.length
theorem mem_litsV {vals : List Int} {q : BV} {x : Int} : x ∈ litsV vals q ↔ ∃ j k : Nat, j < q.nm.length /\ (k : Int) < widI (q.ty.getD j 0) /\ x = if bitV vals q j k = true then q.fi.getD j 0 + (k : Int) else -(q.fi.getD j 0) - (k : Int) := by
 unfold litsV
 rw [mem_litsTo]
 constructor
 ·rintro ⟨j, h1, h2⟩
  obtain ⟨k, h3, h4⟩ := mem_litTo.1 h2
  exact ⟨j, k, h1, by rw [<- bitsV_wid (WM vals (q.nm.getD j 0))]; omega, h4⟩
 ·rintro ⟨j, k, h1, h2, h3⟩
  exact ⟨j, h1, mem_litTo.2 ⟨k, by rw [<- bitsV_wid (WM vals (q.nm.getD j 0))] at h2; omega, h3⟩⟩
def asg (vals : List Int) (q : BV) (n : Nat) : Bool := decide (n = 1) || decide ((n : Int) ∈ litsV vals q)
section
variable {F : Int -> Int} {i : Nat} {q : BV} {vals : List Int}
theorem RB.uniq (h : RB F i q) {j j' k k' : Nat} (hj : j < q.nm.length) (hj' : j' < q.nm.length) (hk : (k : Int) < widI (q.ty.getD j 0)) (hk' : (k' : Int) < widI (q.ty.getD j' 0)) (e : q.fi.getD j 0 + (k : Int) = q.fi.getD j' 0 + (k' : Int)) : j = j' /\ k = k' := by
 rcases Nat.lt_trichotomy j j' with hlt | rfl | hlt
 ·have := h.mono j j' hlt hj'; omega
 ·exact ⟨rfl, by omega⟩
 ·have := h.mono j' j hlt hj; omega
theorem asg_bit (h : RB F i q) {j k : Nat} (hj : j < q.nm.length) (hk : (k : Int) < widI (q.ty.getD j 0)) : ltv (asg vals q) (q.fi.getD j 0 + (k : Int)) = bitV vals q j k := by
 have hr := h.rng j hj
 unfold ltv
 rw [if_pos (by omega)]
 unfold asg
 have e : ((q.fi.getD j 0 + (k : Int)).toNat : Int) = q.fi.getD j 0 + (k : Int) := by omega
 rw [e, decide_eq_false (show ¬ (q.fi.getD j 0 + (k : Int)).toNat = 1 by omega), Bool.false_or]
 cases hb : bitV vals q j k with
 | true => exact decide_eq_true (mem_litsV.2 ⟨j, k, hj, hk, by rw [hb, if_pos rfl]⟩)
 | false =>
  refine decide_eq_false fun hm => ?_
  obtain ⟨j', k', h1, h2, h3⟩ := mem_litsV.1 hm
  have hr' := h.rng j' h1
  split at h3
  ·rename_i hb'
   obtain ⟨rfl, rfl⟩ := h.uniq hj h1 hk h2 h3
   rw [hb] at hb'; cases hb'
  ·omega
theorem asg_one : asg vals q 1 = true := by unfold asg; simp
theorem lits_true (h : RB F i q) {x : Int} (hx : x ∈ litsV vals q) : Lt q.v x /\ ltv (asg vals q) x = true := by
 obtain ⟨j, k, h1, h2, rfl⟩ := mem_litsV.1 hx
 have hr := h.rng j h1
 have hb := asg_bit (vals := vals) h h1 h2
 have hl : Lt q.v (q.fi.getD j 0 + (k : Int)) := ⟨by omega, by omega, by omega⟩
 split
 ·rename_i hbt
  exact ⟨hl, by rw [hb]; exact hbt⟩
 ·rename_i hbt
  rw [show -(q.fi.getD j 0) - (k : Int) = -(q.fi.getD j 0 + (k : Int)) by omega]
  refine ⟨hl.neg, ?_⟩
  rw [WS hl.1, hb]
  simpa using hbt
theorem lits_al (h : RB F i q) {v : Int} (h1 : 2 <= v) (h2 : v <= q.v) : al (asg vals q) v ∈ litsV vals q := by
 obtain ⟨j, hj, h3, h4⟩ := h.cov v h1 h2
 have e : v = q.fi.getD j 0 + ((v - q.fi.getD j 0).toNat : Int) := by omega
 have hk : ((v - q.fi.getD j 0).toNat : Int) < widI (q.ty.getD j 0) := by omega
 generalize (v - q.fi.getD j 0).toNat = k at *
 have hb := asg_bit (vals := vals) h hj hk
 rw [<- e] at hb
 rw [al_of (by omega), hb, mem_litsV]
 refine ⟨j, k, hj, hk, ?_⟩
 split
 ·exact e
 ·omega
def Vtr (F : Int -> Int) (vals : List Int) : Prop := ∀ n, F n = 1 -> WM vals n = 0 \/ WM vals n = 1
theorem asg_good (h : RB F i q) (p : Prop) : GoodB (fun v => 2 <= v /\ v <= q.v) p q.v (asg vals q) ⟨q.v, [[1]]⟩ := by
 refine ⟨h.v1, asg_one, fun c hc _ => ?_, fun c hc y hy => ?_, fun v h1 h2 => ?_⟩
 ·rw [List.mem_singleton.1 hc]
  exact ⟨1, by simp, (show asg vals q 1 = true from asg_one)⟩
 ·rw [List.mem_singleton.1 hc] at hy
  rw [List.mem_singleton.1 hy]
  exact ⟨by decide, by have := h.v1; show -q.v <= 1; omega, h.v1⟩
 ·by_cases hv : v = 1
  ·subst hv
   have e : al (asg vals q) 1 = 1 := by unfold al; rw [if_pos (show asg vals q (1 : Int).toNat = true from asg_one)]
   exact .inr ⟨[1], List.mem_singleton.2 rfl, by rw [e]; simp, fun y hy => .inl (by rw [e]; exact List.mem_singleton.1 hy)⟩
  ·exact .inl ⟨by omega, h2⟩
theorem asg_var (h : RB F i q) (hv : Vtr F vals) {t : Nd} (hc : Con F t) (ha : ∀ p ∈ QL t, ∃ j, j < q.nm.length /\ q.nm.getD j 0 = p.1) : VarOk q.A vals (asg vals q) q.v t := fun p hp => by
 obtain ⟨j, hj, hjn⟩ := ha p hp
 have hF : p.2 = F p.1 := hc p hp
 have hat := h.at' j hj
 have hty := h.ty j hj
 have hr := h.rng j hj
 rw [hjn] at hat hty
 rw [hat, hF]
 show if F p.1 = 1 then Lt q.v (q.fi.getD j 0) /\ ltv (asg vals q) (q.fi.getD j 0) = decide (WM vals p.1 ≠ 0) else ∀ i : Nat, i < 4 -> Lt q.v (q.fi.getD j 0 + (i : Int)) /\ ltv (asg vals q) (q.fi.getD j 0 + (i : Int)) = ZD (wN (WM vals p.1)) i
 split
 ·rename_i h1
  have hw : widI (q.ty.getD j 0) = 1 := by rw [hty, h1]; rfl
  have hb := asg_bit (vals := vals) (k := 0) h hj (by rw [hw]; decide)
  rw [show q.fi.getD j 0 + ((0 : Nat) : Int) = q.fi.getD j 0 by omega] at hb
  refine ⟨⟨by omega, by omega, by omega⟩, hb.trans ?_⟩
  unfold bitV
  rw [hjn, hty, h1]
  show decide (WM vals p.1 = 1) = _
  rcases hv p.1 h1 with h | h <;> rw [h] <;> decide
 ·rename_i h1
  have hw : widI (q.ty.getD j 0) = 4 := by rw [hty]; unfold widI; rw [if_neg h1]
  intro k hk
  have hb := asg_bit (vals := vals) (k := k) h hj (by rw [hw]; omega)
  refine ⟨⟨by omega, by omega, by omega⟩, hb.trans ?_⟩
  unfold bitV
  rw [hjn, hty]
  unfold bitsV
  rw [if_neg h1]
  have : k = 0 \/ k = 1 \/ k = 2 \/ k = 3 := by omega
  rcases this with rfl | rfl | rfl | rfl <;> rfl
end
/-! The clauses of the terms. -/
section
variable {F : Int -> Int} {vals : List Int} {base : Int -> Prop} {p : Prop} {A : List (Int × Int)}
theorem add_mem {s : St} (nf : Zy s = false) {x : Int} (h1 : x ≠ 1) : kept [x] ∈ (add s [x]).cl := by
 rw [add_nf nf, if_neg (by simp; omega)]
 exact List.mem_append.2 (.inr (List.mem_singleton.2 rfl))
theorem terms_sem (hv : Vok vals) {ts : List Nd} (hty : ∀ t ∈ ts, Tt t 1) (hcon : ∀ t ∈ ts, Con F t) (hp : p -> ∀ t ∈ ts, evN vals t = 1) {a0 : Nat -> Bool} {s0 : St} (g : GoodB base p s0.vars a0 s0) (hV : ∀ t ∈ ts, VarOk A vals a0 s0.vars t) : ∀ i, i <= ts.length -> Zy (WN A s0 (ts.take i)).1 = false ->
  ∃ a, Ext base p a0 s0 a (WN A s0 (ts.take i)).1 /\ SeenOk F vals a (WN A s0 (ts.take i)).1.vars (WN A s0 (ts.take i)).2 /\
   ∀ t ∈ ts.take i, evN vals t ≠ 1 -> ∃ x, kept [x] ∈ (WN A s0 (ts.take i)).1.cl /\ Lt (WN A s0 (ts.take i)).1.vars x /\ ltv a x = false
 | 0, _, nf => ⟨a0, .refl g, fun q hq => (by cases hq), fun t ht => (by cases ht)⟩
 | i + 1, hi, nf => by
  have hti := List.getElem_mem (show i < ts.length by omega)
  rw [termsT_succ A s0 (show i < ts.length by omega)] at nf ⊢
  dsimp only at nf ⊢
  have n1 : Zy (QK A ts[i] (WN A s0 (ts.take i)).1 (WN A s0 (ts.take i)).2).2.1 = false := (Z9 _ _).nf nf
  have n0 : Zy (WN A s0 (ts.take i)).1 = false := (bits_le2 (hty _ hti) _ _).2.le.nf n1
  obtain ⟨a1, e1, S1, k1⟩ := terms_sem hv hty hcon hp g hV i (by omega) n0
  have htake : ts.take (i + 1) = ts.take i ++ [ts[i]] := List.take_succ_eq_append_getElem (by omega)
  rw [htake]
  generalize WN A s0 (ts.take i) = q at *
  obtain ⟨a2, e2, s2, S2⟩ := (bits_sem hv (hty _ hti) (hcon _ hti) a1 q.1 q.2 e1.good S1 ((hV _ hti).ext e1)).2 n1
  have hsub : ∀ c ∈ q.1.cl, c ∈ (QK A ts[i] q.1 q.2).2.1.cl := (bits_le2 (hty _ hti) q.1 q.2).2.sub
  generalize QK A ts[i] q.1 q.2 = r at *
  obtain ⟨l2, v2⟩ := s2.one
  have e3 : Ext base p a2 r.2.1 a2 (add r.2.1 [r.1.getD 0 0]) := by
   refine ⟨?_, .refl _ _, (Z9 _ _).v⟩
   rw [WG]
   exact e2.good.add n1 (fun y hy => by rw [List.mem_singleton.1 hy]; exact l2) fun h => ⟨_, List.mem_singleton.2 rfl, by rw [v2, hp h _ hti]; rfl⟩
  refine ⟨a2, (e1.trans e2).trans e3, S2.ext e3, fun t ht hne => ?_⟩
  rcases List.mem_append.1 ht with ht | ht
  ·obtain ⟨x, x1, x2, x3⟩ := k1 t ht hne
   exact ⟨x, Z8 _ _ _ (hsub _ x1), (e2.trans e3).lt x2, by rw [(e2.trans e3).ltv x2]; exact x3⟩
  ·rw [List.mem_singleton.1 ht] at hne
   have hf : ltv a2 (r.1.getD 0 0) = false := by rw [v2]; exact decide_eq_false hne
   refine ⟨r.1.getD 0 0, add_mem n1 fun e => ?_, e3.lt l2, hf⟩
   rw [e, ltv_one e2.good.t] at hf
   cases hf
end
end Go.Proofs
end
