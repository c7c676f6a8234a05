/-
  Part 2 of the proof: SC PB AvY PM T1 T2 T3 T4 T5 T6 S0 S1 AvX AvZ AvV S2 PR RM R0 R1 RX R2 R3 R4 AvB2 R5.
-/
import Derived.Shelf.Strings.Builder1
import Derived.WalkKit
import Derived.Test.YtnppaoeijmgneaaGreatDoorZF0
import Derived.Test.YtnppaoeijmgneaaGreatDoorZF1
set_option linter.unusedSimpArgs false
set_option linter.unusedVariables false
set_option maxRecDepth 10000
set_option maxHeartbeats 4000000
section
namespace Go.Proofs
open Go.Av Go.Bl
def letB (b : UInt8) : Bool := (decide (97 <= b.toNat) && decide (b.toNat <= 122)) || (decide (65 <= b.toNat) && decide (b.toNat <= 90))
def digB (b : UInt8) : Bool := decide (48 <= b.toNat) && decide (b.toNat <= 57)
def qx (s : List UInt8) : Bool := (decide (1 <= s.length) && decide (s.length <= 3)) && (decide (s.getD 0 0 ≠ 48) || decide (s.length = 1)) && s.all digB
def runB (a0 b : UInt8) : Bool := digB b || (letB a0 && letB b)
def ZE (s : List UInt8) : List UInt8 := s.takeWhile (runB (s.getD 0 0))
def signsT : List (List UInt8) := [[61, 61], [38, 38], [124, 124], [60, 60], [62, 62], [40], [41], [123], [125], [91], [93], [44], [46], [61], [43], [45], [42], [47], [37], [38], [124], [94], [60], [33]]
def signM (s : List UInt8) : List UInt8 := (signsT.find? (fun t => Lib.hasPrefix s t)).getD []
def Wq (s : List UInt8) : List UInt8 :=
 if 0 < (ZE s).length then (if (letB (s.getD 0 0) || qx (ZE s)) = true then ZE s else []) else signM s
def spB (b : UInt8) : Bool := [32, 10].contains b
theorem firstM_le (s : List UInt8) : (Wq s).length <= s.length := by
 have h1 : (ZE s).length <= s.length := (List.takeWhile_sublist _).length_le
 unfold Wq
 split
 ·split
  ·exact h1
  ·simp
 ·unfold signM
  cases h : signsT.find? (fun t => Lib.hasPrefix s t) with
  | none => simp
  | some t =>
   have h2 := List.find?_some h
   have h3 : t <+: s := List.isPrefixOf_iff_prefix.1 h2
   exact h3.length_le
def WL (s : List UInt8) (at_ : Nat) : List (List UInt8 × Nat) × Nat :=
 let r := s.dropWhile spB
 let a := at_ + (s.length - r.length)
 let t := Wq r
 if h : t = [] then ([], a) else
  let q := WL (r.drop t.length) (a + t.length)
  ((t, a) :: q.1, q.2)
termination_by s.length
decreasing_by
 have h1 : (s.dropWhile spB).length <= s.length := (List.dropWhile_sublist _).length_le
 have h2 : 0 < (Wq (s.dropWhile spB)).length := by
  rcases Nat.eq_zero_or_pos (Wq (s.dropWhile spB)).length with h3|h3
  ·exact absurd (List.eq_nil_of_length_eq_zero h3) h
  ·exact h3
 have h3 := firstM_le (s.dropWhile spB)
 rw [List.length_drop];omega
theorem take_pre (p : UInt8 -> Bool) (s : List UInt8) : s.take (s.takeWhile p).length = s.takeWhile p := (List.prefix_iff_eq_take.1 (List.takeWhile_prefix p)).symm
theorem run_in {p : UInt8 -> Bool} : ∀ {s : List UInt8} {n : Nat}, n < (s.takeWhile p).length -> p (s.getD n 0) = true
 | [], n, h => by simp at h
 | b :: r, n, h => by
  by_cases hb : p b = true
  ·rw [List.takeWhile_cons, if_pos hb, List.length_cons] at h
   cases n with
   | zero => exact hb
   | succ n => exact run_in (s := r) (by omega)
  ·rw [List.takeWhile_cons, if_neg hb] at h
   simp at h
theorem run_end {p : UInt8 -> Bool} : ∀ {s : List UInt8} {n : Nat}, n = (s.takeWhile p).length -> n < s.length -> p (s.getD n 0) = false
 | [], n, _, h2 => by simp at h2
 | b :: r, n, h1, h2 => by
  by_cases hb : p b = true
  ·rw [List.takeWhile_cons, if_pos hb, List.length_cons] at h1
   subst h1
   exact run_end (s := r) rfl (by simpa using h2)
  ·rw [List.takeWhile_cons, if_neg hb] at h1
   subst h1
   simpa using hb
end Go.Proofs
end
section
namespace Go.Proofs
open Go.Av Go.Bl Go.RowKit
set_option maxHeartbeats 1000000 in
set_option maxRecDepth 100000 in
theorem copyCheck_used (b : Nat) (w : World) (h0 : w.cell? ⟨b, 0, none⟩ = some (.pointer (some ⟨b, 0, none⟩))) :
  Calls Tryz.prog 86 #[.pointer (some ⟨b, 0, none⟩)] w fun e w' => e = .returned (.tuple #[]) /\ w' = w :=
 Any.Builder_copyCheck_used (ρ := Tryz.lays156_ren) { Tryz.lays156 with } { Tryz.Builder_Extra_156 with } b w h0
set_option maxHeartbeats 1000000 in
set_option maxRecDepth 100000 in
theorem copyCheck_fresh (b : Nat) (w : World) (h0 : w.cell? ⟨b, 0, none⟩ = some (.pointer none)) (hsh : w.shape? b = some (77, 3)) (hfz : w.frozen? ⟨b, 0, none⟩ = false) :
  Calls Tryz.prog 86 #[.pointer (some ⟨b, 0, none⟩)] w fun e w' => e = .returned (.tuple #[]) /\ w' = w.setCell ⟨b, 0, none⟩ (.pointer (some ⟨b, 0, none⟩)) := by
 have hi : ∃ j, Tryz.prog.info? 75 = some j /\ j.size = 2 := Option.map_eq_some_iff.1 (show (Tryz.prog.info? 75).map (·.size) = some 2 by kernel_rfl)
 obtain ⟨j, hj, hjs⟩ := hi
 have hlies : liesAt Tryz.prog Tryz.prog.depth 77 (3 / Tryz.prog.cellsOf 77) 0 75 1 = true := by decide +kernel
 go_enter Tryz.func86, Tryz.ntmps86
 go_wp2
 rw [Lib.run_to_unsafe w ⟨b, 0, none⟩ (by kernel_rfl : Tryz.prog.underlying 73 = some (.pointer 75)) (by kernel_rfl : Tryz.prog.underlying 139 = some .unsafePointer) hj (by rw [hjs];decide) hsh (Nat.zero_lt_succ 2)]
 simp only [Result.andThen]
 rw [Oper.upon_value]
 go_wp2
 rw [run_callFunc_extern Tryz.func135 (by kernel_rfl) (by kernel_rfl) (by kernel_rfl) (e := Extern.AbiNoEscape.same) (by kernel_rfl)]
 rw [Lib.run_noEscape]
 simp only [Result.andThen]
 rw [Oper.upon_value]
 go_wp2
 rw [Lib.run_from_unsafe w ⟨b, 0, none⟩ (by kernel_rfl : Tryz.prog.underlying 139 = some .unsafePointer) (by kernel_rfl : Tryz.prog.underlying 73 = some (.pointer 75)) hj hsh hlies]
 simp only [Result.andThen]
 rw [Oper.upon_value]
 go_wp2
 go_end0
 exact ⟨rfl, rfl⟩
set_option maxHeartbeats 2000000 in
set_option maxRecDepth 100000 in
theorem string_row (b g cap : Nat) (l : List UInt8) (arr : Array Value) (w : World) (hl0 : l ≠ []) (c0 : w.cell? ⟨b, 1, none⟩ = some (.slice (some ⟨g, 0, none⟩) l.length cap)) (hg : w.shape? g = some (5, arr.size)) (hn : l.length <= cap) (hmax : l.length <= 9223372036854775807) (ha : l.length <= arr.size)
  (hb : ∀ (j : Nat) x, l[j]? = some x -> w.cell? ⟨g, j, none⟩ = some (.int .u8 x.toNat)) :
  Calls Tryz.prog 50 #[.pointer (some ⟨b, 0, none⟩)] w fun e w' => e = .returned (.string ⟨l.toArray⟩) /\ w' = w.drew.freeze ⟨g, 0, none⟩ l.length := by
 have hl1 : l.length ≠ 0 := by simpa using hl0
 have mixed : Tryz.prog.follows Departure.mixedOrders = true := by kernel_rfl
 have c1 : w.drew.cell? ⟨b, 1, none⟩ = some (.slice (some ⟨g, 0, none⟩) l.length cap) := c0
 have hSD : (Builtin.unsafeSliceData_ #[43] 118 #[.slice (some ⟨g, 0, none⟩) l.length cap]).run Tryz.prog w.drew = .ok (.pointer (some ⟨g, 0, none⟩)) w.drew :=
  Lib.run_unsafeSliceData_row _ _ _ _ _ _ (by omega)
 have hUS : (Builtin.unsafeString_ #[118, 3] 9 #[.pointer (some ⟨g, 0, none⟩), .int .i64 l.length]).run Tryz.prog w.drew = .ok (.string ⟨l.toArray⟩) (w.drew.freeze ⟨g, 0, none⟩ l.length) := by
  refine Lib.run_unsafeString_row w.drew 118 3 9 5 (by kernel_rfl) (by kernel_rfl) g arr.size hg l hl0 ha hmax ?_
  intro j x hx
  rw [qb, Nat.zero_add]
  exact hb j x hx
 go_enter Tryz.func50, Tryz.ntmps50
 go_wp2
 go_region_o
 all_goals (go_wp2;go_ret;exact ⟨rfl, rfl⟩)
theorem copyCheck_c {G : Nat -> DV} {B k g : Nat} {σ : List ABlk} {rest : List DV} (hk : σ[k]? = some (.row g (.bld 77 k g :: rest))) (hl : rest.length = 2) : ACalls Tryz.prog G B 86 [.ptr k g 0] σ (fun d' σ' => d' = .tup [] /\ σ' = σ) := fun X vs hS hσ hB hG hv => by
 subst hσ
 obtain ⟨h1, h2⟩ := hv
 have e1 := h2 0 _ rfl
 obtain ⟨b, n, hρ, e2⟩ := e1.ptr_inv hk
 have hvs : vs = #[.pointer (some ⟨b, 0, none⟩)] := by
  apply Array.ext
  ·simpa using h1
  ·intro j hj1 hj2
   have hj : j < 1 := by simpa using hj2
   match j, hj with
   | 0, _ => simpa [Array.getD_eq_getD_getElem?, hj1] using e2
 subst hvs
 obtain ⟨arr, T, fr, q1, q2, q3, q4, q5⟩ := hS.row hk hρ
 have q30 : 3 <= n := by simpa [hl] using q3
 have r0 := (q5 0 _ rfl).2
 obtain ⟨a, ha⟩ : ∃ a, arr.getD 0 undef = .pointer a := by
  generalize arr.getD 0 undef = u at r0
  cases r0 with|bld _ _ _ a _ _ => exact ⟨a, rfl⟩
 rw [ha] at r0
 have hb0 : ∃ b' n', some (b, n) = some (b', n') /\ X.lay.shp b' = some (77, 3) /\ (a = none \/ a = some ⟨b', 0, none⟩) := by
  cases r0 with|bld _ _ _ a g1 g2 => exact g2 _ (by rw [AX.row_mk (Wt hk), hρ])
 obtain ⟨b', n', hbn, hsh, hcase⟩ := hb0
 cases hbn
 have hc0 : X.w.cell? ⟨b, 0, none⟩ = some (.pointer a) := by
  have : 0 < arr.size := by omega
  simp only [World.cell?, q1]
  rw [<- ha];simp [Array.getD_eq_getD_getElem?, this]
 have hn3 : n = 3 := by
  have hsh : X.w.shape? b = some (77, 3) := hsh
  simp only [World.shape?, q1, Option.some.injEq, Prod.mk.injEq] at hsh
  omega
 subst hn3
 rcases hcase with rfl|rfl
 ·have hfz : X.w.frozen? ⟨b, 0, none⟩ = false := by
   have := q4 0 (by omega)
   simp only [World.frozen?, q1]
   simpa using this
  refine (copyCheck_fresh b X.w hc0 hsh hfz).mono ?_
  rintro e w' ⟨rfl, rfl⟩
  have hset : X.w.setCell ⟨b, 0, none⟩ (.pointer (some ⟨b, 0, none⟩)) = X.w.setCells b 0 [.pointer (some ⟨b, 0, none⟩)] := rfl
  have := (post_store (P := Tryz.prog) (K := fun d' σ' => d' = .tup [] /\ σ' = X.σ) (v := .tuple #[]) (d := .tup []) (vs := [.pointer (some ⟨b, 0, none⟩)]) (ds := [.bld 77 k g]) (o := 0) (cs' := .bld 77 k g :: rest) hS hk hρ rfl (fun u hu => by simp at hu;subst hu;rfl) (fun j e hj => ?_) (by simp) (by simp [hl]) (fun j => ?_) (fun L _ => .tup _ _ rfl fun j d hj => by simp at hj) ⟨rfl, ?_⟩).2
  ·exact ⟨_, rfl, this⟩
  ·cases j with
   | zero =>
    simp at hj;subst hj
    refine ⟨rfl, .bld _ _ _ _ (by cases r0 with|bld _ _ _ a g1 g2 => exact g1) fun ob hob => ?_⟩
    rw [AX.row_mk (Wt hk), hρ] at hob
    exact ⟨b, 3, (Option.some.inj hob).symm, hsh, .inr rfl⟩
   | succ j => simp at hj
  ·cases j with
   | zero => rfl
   | succ j => simp
  ·apply List.ext_getElem?
   intro i
   rw [List.getElem?_set]
   split
   ·rename_i h;subst h
    split
    ·exact hk.symm
    ·rename_i h;exact absurd (List.getElem?_eq_some_iff.1 hk).1 h
   ·rfl
 ·refine (copyCheck_used b X.w hc0).mono ?_
  rintro e w' ⟨rfl, rfl⟩
  exact ⟨_, rfl, X, rfl, hS, WExt.refl X, .tup [], .tup _ _ rfl fun j d hj => by simp at hj, rfl, rfl⟩
end Go.Proofs
end
section
namespace Go.Av
open Classical
section
variable {P : Program} {G : Nat -> DV} {B : Nat} {f : Operand -> DV} {σ : List ABlk} {K : DV -> List ABlk -> Prop} {dst : Option Tmp} {type : TypeId} {pos : String} {after : Array Edge} {gd : Option (Nat × Bool)}
theorem shape_new (w : World) (a : Array Value) (T : TypeId) : (w.alloc (.cells a T)).shape? w.heap.size = some (T, a.size) := by unfold World.shape?;rw [heap_alloc_new]
theorem s_append_b {t t' e : TypeId} {d : TypeDesc} {g1 g2 : Bool} {z1 bytes : Nat} {zs : List Value} {x y : Operand} {m g len n : Nat} {cs ms : List DV} {dy : DV} [ht : TyI P t (.slice e) g1 z1] [ht' : SrcTy P t'] [he : TyI P e d g2 1] [hb : TyB P e bytes] [hz : TyZ P e zs]
  (hzl : zs.length = 1) (hx : f x = .bref e m g len) (hm : σ[m]? = some (.row g cs)) (hle : len * 1 <= cs.length) (hy : f y = dy) (hsrc : SrcOf P σ dy 1 n ms) (hby : (len + n) * bytes <= 140737488355328) (hsm : len + n <= 9223372036854775807)
  (k : ∀ g', B < g' -> K (.bref e m g' (len + n)) (σ.set m (.row g' (cs.take (len * 1) ++ ms)))) : OpSem P G B ⟨dst, .call ⟨.builtin .append, #[x, y], #[t, t']⟩, type, pos, after, gd⟩ f σ K := fun X ρ hS hσ hB _ hf => by
 subst hσ
 have e0 := hf x (by simp [Op.operands, Call.operands]);rw [hx] at e0
 have e1 : VRep X.lay (.ref m g 0 len 1) (ρ x) := by
  generalize ρ x = u at e0
  cases e0 with|bref _ _ _ _ a l c h1 h2 => exact .ref _ _ _ _ _ _ _ _ h1 fun ob hob => (h2 ob hob).1
 have hsh0 : ∀ b nn, X.ρ m = some (b, nn) -> ∃ mm, X.w.shape? b = some (e, mm) := fun b nn hb => by
  generalize ρ x = u at e0
  cases e0 with|bref _ _ _ _ a l c h1 h2 => exact (h2 _ (AX.row_mk (Wt hm))).2 b nn hb
 have e2 := hf y (by simp [Op.operands, Call.operands]);rw [hy] at e2
 obtain ⟨vs, hsx⟩ := hsrc X _ hS rfl e2
 obtain ⟨us, hss⟩ := Src.ref (P := P) hS hm e1 (by omega)
 rw [List.drop_zero] at hss
 have href := e1.ref_inv hm
 obtain ⟨base, cap, hv, hlc, hcase⟩ : ∃ base cap, ρ x = .slice base len cap /\ len <= cap /\ ((X.ρ m = none /\ base = none /\ cap = 0) \/ ∃ b nn, X.ρ m = some (b, nn) /\ (cap = 0 \/ (base = some ⟨b, 0, none⟩ /\ cap * 1 <= nn))) := by
  unfold RefOk at href
  cases hρ : X.ρ m with
  | none => rw [hρ] at href;obtain ⟨h1, _, rfl⟩ := href;exact ⟨none, 0, h1, Nat.le_refl _, .inl ⟨rfl, rfl, rfl⟩⟩
  | some z =>
   obtain ⟨b, nn⟩ := z
   rw [hρ] at href
   obtain ⟨a, cap, h1, h2, h3⟩ := href
   exact ⟨a, cap, h1, h2, .inr ⟨b, nn, rfl, by rcases h3 with h3|⟨h3, h4⟩;exact .inl h3;exact .inr ⟨h3, by omega⟩⟩⟩
 rw [hv] at hss
 have hlen : (cs.take (len * 1) ++ ms).length = (len + n) * 1 := by rw [List.length_append, hss.hm, hsx.hm, Nat.add_mul]
 have fin : ∀ (w' : World) (ob : Option (Nat × Nat)) (v' : Value), w'.os = X.w.os -> w'.tape = X.w.tape -> w'.output = X.w.output -> X.w.heap.size <= w'.heap.size ->
   (∀ b, b < X.w.heap.size -> (∀ nn, X.ρ m ≠ some (b, nn)) -> w'.heap[b]? = X.w.heap[b]?) -> (∀ b nn, ob = some (b, nn) -> X.w.heap.size <= b \/ ∃ n0, X.ρ m = some (b, n0)) -> (∀ b s, X.w.shape? b = some s -> w'.shape? b = some s) ->
   (ABlk.row (X.N + 1) (cs.take (len * 1) ++ ms)).holds X.lay w' ob -> RefOk ob 0 (len + n) 1 v' -> (∃ a c, v' = .slice a (len + n) c) -> (∀ b nn, ob = some (b, nn) -> X.ρ m = some (b, nn) \/ ∃ mm, w'.shape? b = some (e, mm)) -> APost X K v' w' := by
  intro w' ob v' h1 h2 h3 h4 h5 h6 hshp h7 h8 h9 h10
  obtain ⟨a, c, rfl⟩ := h9
  have hok : ReplOk X m g w' ob (.row (X.N + 1) (cs.take (len * 1) ++ ms)) (X.N + 1) := { live := Wt hm, os := h1, tape := h2, output := h3, size := h4, block := h5, gen := .inl ⟨_, rfl, Nat.lt_succ_self _, Nat.le_refl _⟩, lies := h6, shp := hshp }
  refine ⟨_, rfl, hS.repl hok h7, WExt.repl hS hok, _, ?_, k (X.N + 1) (by omega)⟩
  refine .bref _ _ _ _ _ _ _ (Nat.le_refl _) fun ob' hob => ?_
  rw [AX.row_mk ((AX.repl_live (AX.live_lt (Wt hm))).2 (.inr ⟨rfl, rfl⟩))] at hob
  simp only [AX.repl, if_true, Option.some.injEq] at hob
  subst hob
  refine ⟨h8, fun b nn hb => ?_⟩
  rcases h10 b nn hb with hr|hr
  ·obtain ⟨mm, hmm⟩ := hsh0 b nn hr
   exact ⟨mm, hshp _ _ hmm⟩
  ·exact hr
 have hcall : ∀ r, (Builtin.append_ #[t, t'] type #[.slice base len cap, ρ y]).run P X.w = r -> (match r with|.ok v w' => APost X K v w'|_ => False) -> OPost P X K ((execOp ρ ⟨dst, .call ⟨.builtin .append, #[x, y], #[t, t']⟩, type, pos, after, gd⟩).run P X.w) := by
  intro r hr hp
  simp only [execOp, resolve, invoke, builtin, List.map_toArray, List.map_cons, List.map_nil, Sem.run_bind, Sem.run_pure, Result.andThen_ok, hv, hr]
  cases r with
  | ok v w' => exact hp
  | halt _ _ => exact hp.elim
 rcases run_append (ty := type) ht ht' he hb hz hss hsx hby hsm with ⟨hfit, hrun⟩|⟨hgrow, nc, hnc, hrun⟩
 ·refine hcall _ hrun ?_
  rcases hcase with ⟨hρ, rfl, rfl⟩|⟨b, nn, hρ, hcap⟩
  ·obtain ⟨rfl, rfl⟩ : len = 0 /\ n = 0 := by omega
   have hnil : cs.take (0 * 1) ++ ms = [] := List.eq_nil_of_length_eq_zero (by first|(rw [hlen];done)|(rw [hlen];simp))
   exact fin X.w none _ rfl rfl rfl (Nat.le_refl _) (fun _ _ _ => rfl) (fun _ _ h => by cases h) (fun _ _ h => h) hnil ⟨rfl, rfl, rfl⟩ ⟨_, _, rfl⟩ (fun _ _ h => by cases h)
  ·obtain ⟨arr, T, fr, q1, q2, q3, q4, q5⟩ := hS.row hm hρ
   rcases hcap with rfl|⟨rfl, hcap⟩
   ·obtain ⟨rfl, rfl⟩ : len = 0 /\ n = 0 := by omega
    have hvs : vs = [] := List.eq_nil_of_length_eq_zero (by first|(rw [hsx.hv];done)|(rw [hsx.hv];simp))
    have hnil : cs.take (0 * 1) ++ ms = [] := List.eq_nil_of_length_eq_zero (by first|(rw [hlen];done)|(rw [hlen];simp))
    suffices hfin : APost X K (.slice base (0 + 0) 0) X.w by subst hvs;cases base <;> exact hfin
    refine fin X.w (some (b, nn)) _ rfl rfl rfl (Nat.le_refl _) (fun _ _ _ => rfl) (fun b' n' h => .inr ⟨nn, by rw [hρ];cases h;rfl⟩) (fun _ _ h => h) ?_ ⟨_, _, rfl, Nat.le_refl _, .inl rfl⟩ ⟨_, _, rfl⟩ (fun b' n' h => .inl (by rw [hρ];exact h))
    rw [hnil]
    exact ⟨arr, T, fr, q1, q2, Nat.zero_le _, q4, fun j e hj => by simp at hj⟩
   ·have hfit' : (len + n) * 1 <= cap * 1 := Nat.mul_le_mul_right _ hfit
    rw [Nat.add_mul] at hfit'
    have hst : (storeCells ⟨b, 0 + len * 1, none⟩ vs).run P X.w = .ok () (X.w.setCells b (0 + len * 1) vs) := run_storeRow q1 (fun j hj => q4 j (by omega)) (by rw [hsx.hv];omega) hsx.one
    simp only [qb, hst, Result.andThen_ok]
    obtain ⟨r1, r2, r3, r4⟩ := setCells_rest vs X.w b (0 + len * 1)
    refine fin _ (some (b, nn)) _ r1 r2 r3 (Nat.le_of_eq r4.symm) (fun b' _ hb' => Zs vs X.w b _ b' (fun e => hb' nn (by rw [hρ, e]))) (fun b' n' h => .inr ⟨nn, by rw [hρ];cases h;rfl⟩) (setCells_shp q1 _ _) ?_ ⟨_, cap, rfl, hfit, .inr ⟨rfl, by omega⟩⟩ ⟨_, _, rfl⟩ (fun b' n' h => .inl (by rw [hρ];exact h))
    refine ⟨_, T, fr, qH vs X.w b _ arr T fr q1, by rw [qn, q2], by rw [hlen, Nat.add_mul];omega, q4, fun j e hj => ?_⟩
    rw [qR _ _ _ _ (by rw [hsx.hv];omega)]
    rw [List.getElem?_append, hss.hm] at hj
    split at hj
    ·rename_i hlt
     rw [if_neg (by omega)]
     rw [List.getElem?_take, if_pos hlt] at hj
     exact q5 j e hj
    ·rename_i hge
     have hlt : j - len * 1 < n * 1 := by have := (List.getElem?_eq_some_iff.1 hj).1;rw [hsx.hm] at this;exact this
     rw [if_pos (by rw [hsx.hv];omega), Nat.zero_add]
     exact hsx.rep _ e hj
 ·refine hcall _ hrun ?_
  have hwk : Keep X.w (X.w.drew.alloc (.cells (us.toArray ++ vs.toArray ++ Builtin.zeroCells zs.toArray (nc - (len + n))) e)) := (Keep.drew X.w).trans (Keep.alloc _ _)
  have hasz : (us.toArray ++ vs.toArray ++ Builtin.zeroCells zs.toArray (nc - (len + n))).size = nc * 1 := by
   rw [Array.size_append, Array.size_append, zeroCells_size, hzl]
   simp only [List.size_toArray, hss.hv, hsx.hv, <- Nat.add_mul]
   congr 1;omega
  have hncs : (len + n) * 1 <= nc * 1 := Nat.mul_le_mul_right _ hnc
  refine fin _ (some (X.w.heap.size, nc * 1)) _ rfl rfl rfl hwk.size (fun b hb _ => hwk.block b hb) (fun b nn h => .inl (by cases h;exact Nat.le_refl _)) hwk.shp ?_ ⟨_, nc, rfl, hnc, .inr ⟨rfl, by omega⟩⟩ ⟨_, _, rfl⟩ (fun b' n' h => .inr ⟨_, by cases h;exact shape_new X.w.drew _ _⟩)
  exact ⟨_, e, (0, 0), heap_alloc_new X.w.drew _, hasz, by rw [hlen];exact hncs, fun j _ h => by simp at h, fun j e' hj => grown_rep hss hsx _ j e' hj⟩
end
end Go.Av
end
section
namespace Go.Av
open Go.Bl Go.Proofs
abbrev pRow (k0 k1 g0 g1 n : Nat) (bad : Bool) : ABlk := .row g0 [.bld 77 k0 g0, .bref 5 k1 g1 n, .b bad]
abbrev pfx3 (g0 : Nat) (r : List ABlk) (p : DV × DV × DV × ABlk) : List ABlk := .row g0 [p.1, p.2.1, p.2.2.1] :: p.2.2.2 :: r
section
variable {P : Program} {G : Nat -> DV}
def PM (P : Program) (G : Nat -> DV) (f : FuncId) (aa : Nat -> Nat -> List DV) (o : List UInt8) (bad : Bool) (res : DV) (o' : List UInt8) (bad' : Bool) : Prop :=
 ∀ g0 g1 B, g0 <= B -> g1 <= B -> ACalls P G B f (aa 0 g0) [pRow 0 1 g0 g1 o.length bad, .row g1 (Wf o)]
  (fun d' τ' => d' = res /\ ∃ g1', (g1' = g1 \/ B < g1') /\ τ' = [pRow 0 1 g0 g1' o'.length bad', .row g1' (Wf o')])
variable {B : Nat} {f : Operand -> DV} {σ : List ABlk} {K : DV -> List ABlk -> Prop} {dst : Option Tmp} {type : TypeId} {pos : String} {after : Array Edge} {gd : Option (Nat × Bool)}
theorem PM.lift {fid : FuncId} {aa : Nat -> Nat -> List DV} {o o' : List UInt8} {bad bad' : Bool} {res : DV} {k0 k1 g0 g1 : Nat} {es : List DV} {σ' : Nat -> List ABlk} (h : PM P G fid aa o bad res o' bad') (hes : es = aa k0 g0) (h0 : σ[k0]? = some (pRow k0 k1 g0 g1 o.length bad)) (h1 : σ[k1]? = some (.row g1 (Wf o))) (hne : Nat.beq k0 k1 = false)
  (hargs : RenL (RenD (qf [k0, k1] σ.length)) (aa k0 g0) (aa 0 g0)) (hres : res.clo = true) (hσ' : ∀ g1', qg σ [k0, k1] [pRow k0 k1 g0 g1' o'.length bad', .row g1' (Wf o')] = some (σ' g1')) :
  ACalls P G B fid es σ (fun d τ => ∃ g1', (g1' = g1 \/ B < g1') /\ d = res /\ τ = σ' g1') := by
 subst hes
 have hbs : ∀ {m : Nat} {g : Nat} {l : List UInt8} {b : Bool}, RenBs (qf [k0, k1] m) [pRow k0 k1 g0 g l.length b, .row g (Wf l)] [pRow 0 1 g0 g l.length b, .row g (Wf l)] := fun {m g l b} =>
  .cons (.row (.cons (.bld rfl) (.cons (.bref rfl) (.cons (.clo Wj) .nil)))) (.cons (.rowc (Qy l)) .nil)
 have hnd : [k0, k1].Nodup := by
  have : k0 ≠ k1 := fun e => by subst e;simp at hne
  simp [this]
 have hpick : pickA σ [k0, k1] = some [pRow k0 k1 g0 g1 o.length bad, .row g1 (Wf o)] := by simp only [pickA, h0, h1]
 obtain ⟨hp1, hp2⟩ := pickA_eq hpick
 obtain ⟨h3, h4⟩ := (hbs (m := σ.length) (g := g1) (l := o) (b := bad)).get
 refine ACalls.sub (R := fun B d' τ' => d' = res /\ ∃ g1', (g1' = g1 \/ B < g1') /\ τ' = [pRow 0 1 g0 g1' o'.length bad', .row g1' (Wf o')]) hargs hnd rfl (fun i hi => ?_) (fun B' hB hg => h g0 g1 B' (hg 0 _ _ rfl rfl) (hg 1 _ _ rfl rfl)) ?_
 ·obtain ⟨b, e1, e2⟩ := hp2 i hi
  have hi2 : i < 2 := by simpa using hi
  have e3 := List.getElem?_eq_getElem (show i < [pRow 0 1 g0 g1 o.length bad, .row g1 (Wf o)].length by simpa using hi2)
  exact ⟨b, _, e1, e3, h4 i b _ e2 e3⟩
 ·rintro B' d' τ' hB ⟨rfl, g1', hg, rfl⟩
  refine ⟨d', σ' g1', Out.of (.s (.clo hres)) hnd rfl hbs (hσ' g1'), g1', by omega, rfl, rfl⟩
theorem s_call_pm {args : Array Operand} {ts : Array TypeId} {fid : FuncId} {aa : Nat -> Nat -> List DV} {o o' : List UInt8} {bad bad' : Bool} {res : DV} {k0 k1 g0 g1 : Nat} {es : List DV} {σ' : Nat -> List ABlk} [FnOk P fid] (h : PM P G fid aa o bad res o' bad') (hx : f (.func fid) = .fn (.func fid) [] []) (hds : reL (args.toList.map f) = some es) (hes : es = aa k0 g0) (h0 : σ[k0]? = some (pRow k0 k1 g0 g1 o.length bad)) (h1 : σ[k1]? = some (.row g1 (Wf o))) (hne : Nat.beq k0 k1 = false)
  (hargs : RenL (RenD (qf [k0, k1] σ.length)) (aa k0 g0) (aa 0 g0)) (hres : res.clo = true) (hσ' : ∀ g1', qg σ [k0, k1] [pRow k0 k1 g0 g1' o'.length bad', .row g1' (Wf o')] = some (σ' g1')) (kk : ∀ g1', (g1' = g1 \/ B < g1') -> K res (σ' g1')) :
  OpSem P G B ⟨dst, .call ⟨.value (.func fid), args, ts⟩, type, pos, after, gd⟩ f σ K := s_call hx hds ((h.lift hes h0 h1 hne hargs hres hσ').mono fun _ _ ⟨g, hg, e1, e2⟩ => by rw [e1, e2];exact kk g hg)
def PE (P : Program) (G : Nat -> DV) (f : FuncId) (aa : Nat -> Nat -> List DV) (o : List UInt8) (bad : Bool) (res : DV) (bad' : Bool) : Prop :=
 ∀ g0 g1 B, g0 <= B -> g1 <= B -> ACalls P G B f (aa 0 g0) [pRow 0 1 g0 g1 o.length bad, .row g1 (Wf o)] (fun d' τ' => d' = res /\ τ' = [pRow 0 1 g0 g1 o.length bad', .row g1 (Wf o)])
theorem PE.conv {f : FuncId} {aa : Nat -> Nat -> List DV} {o : List UInt8} {bad bad' b2 : Bool} {res r2 : DV} (h : PE P G f aa o bad res bad') (h1 : res = r2) (h3 : bad' = b2) : PE P G f aa o bad r2 b2 := by subst h1;subst h3;exact h
theorem PE.lift {fid : FuncId} {aa : Nat -> Nat -> List DV} {o : List UInt8} {bad bad' : Bool} {res : DV} {k0 k1 g0 g1 : Nat} {es : List DV} {σ' : List ABlk} (h : PE P G fid aa o bad res bad') (hes : es = aa k0 g0) (h0 : σ[k0]? = some (pRow k0 k1 g0 g1 o.length bad)) (h1 : σ[k1]? = some (.row g1 (Wf o))) (hne : Nat.beq k0 k1 = false)
  (hargs : RenL (RenD (qf [k0, k1] σ.length)) (aa k0 g0) (aa 0 g0)) (hres : res.clo = true) (hσ' : qg σ [k0, k1] [pRow k0 k1 g0 g1 o.length bad', .row g1 (Wf o)] = some σ') :
  ACalls P G B fid es σ (fun d τ => d = res /\ τ = σ') := by
 subst hes
 have hbs : ∀ {m : Nat} {g : Nat} {l : List UInt8} {b : Bool}, RenBs (qf [k0, k1] m) [pRow k0 k1 g0 g l.length b, .row g (Wf l)] [pRow 0 1 g0 g l.length b, .row g (Wf l)] := fun {m g l b} =>
  .cons (.row (.cons (.bld rfl) (.cons (.bref rfl) (.cons (.clo Wj) .nil)))) (.cons (.rowc (Qy l)) .nil)
 have hnd : [k0, k1].Nodup := by
  have : k0 ≠ k1 := fun e => by subst e;simp at hne
  simp [this]
 have hpick : pickA σ [k0, k1] = some [pRow k0 k1 g0 g1 o.length bad, .row g1 (Wf o)] := by simp only [pickA, h0, h1]
 obtain ⟨hp1, hp2⟩ := pickA_eq hpick
 obtain ⟨h3, h4⟩ := (hbs (m := σ.length) (g := g1) (l := o) (b := bad)).get
 refine ACalls.sub (R := fun B d' τ' => d' = res /\ τ' = [pRow 0 1 g0 g1 o.length bad', .row g1 (Wf o)]) hargs hnd rfl (fun i hi => ?_) (fun B' hB hg => h g0 g1 B' (hg 0 _ _ rfl rfl) (hg 1 _ _ rfl rfl)) ?_
 ·obtain ⟨b, e1, e2⟩ := hp2 i hi
  have hi2 : i < 2 := by simpa using hi
  have e3 := List.getElem?_eq_getElem (show i < [pRow 0 1 g0 g1 o.length bad, .row g1 (Wf o)].length by simpa using hi2)
  exact ⟨b, _, e1, e3, h4 i b _ e2 e3⟩
 ·rintro B' d' τ' hB ⟨rfl, rfl⟩
  refine ⟨d', σ', Out.of (.s (.clo hres)) hnd rfl hbs hσ', rfl, rfl⟩
theorem s_call_pe {args : Array Operand} {ts : Array TypeId} {fid : FuncId} {aa : Nat -> Nat -> List DV} {o : List UInt8} {bad bad' : Bool} {res : DV} {k0 k1 g0 g1 : Nat} {es : List DV} {σ' : List ABlk} [FnOk P fid] (h : PE P G fid aa o bad res bad') (hx : f (.func fid) = .fn (.func fid) [] []) (hds : reL (args.toList.map f) = some es) (hes : es = aa k0 g0) (h0 : σ[k0]? = some (pRow k0 k1 g0 g1 o.length bad)) (h1 : σ[k1]? = some (.row g1 (Wf o))) (hne : Nat.beq k0 k1 = false)
  (hargs : RenL (RenD (qf [k0, k1] σ.length)) (aa k0 g0) (aa 0 g0)) (hres : res.clo = true) (hσ' : qg σ [k0, k1] [pRow k0 k1 g0 g1 o.length bad', .row g1 (Wf o)] = some σ') (kk : K res σ') :
  OpSem P G B ⟨dst, .call ⟨.value (.func fid), args, ts⟩, type, pos, after, gd⟩ f σ K := s_call hx hds ((h.lift hes h0 h1 hne hargs hres hσ').mono fun _ _ ⟨e1, e2⟩ => by rw [e1, e2];exact kk)
theorem s_callv_pe {x : Operand} {args : Array Operand} {ts : Array TypeId} {fid : FuncId} {first cap : List DV} {aa : Nat -> Nat -> List DV} {o : List UInt8} {bad bad' : Bool} {res : DV} {k0 k1 g0 g1 : Nat} {es : List DV} {σ' : List ABlk} [FnOk P fid] (h : PE P G fid aa o bad res bad') (hx : f x = .fn (.func fid) first cap) (hds : reL (first ++ args.toList.map f ++ cap) = some es) (hes : es = aa k0 g0) (h0 : σ[k0]? = some (pRow k0 k1 g0 g1 o.length bad)) (h1 : σ[k1]? = some (.row g1 (Wf o))) (hne : Nat.beq k0 k1 = false)
  (hargs : RenL (RenD (qf [k0, k1] σ.length)) (aa k0 g0) (aa 0 g0)) (hres : res.clo = true) (hσ' : qg σ [k0, k1] [pRow k0 k1 g0 g1 o.length bad', .row g1 (Wf o)] = some σ') (kk : K res σ') :
  OpSem P G B ⟨dst, .call ⟨.value x, args, ts⟩, type, pos, after, gd⟩ f σ K := s_callv hx hds ((h.lift hes h0 h1 hne hargs hres hσ').mono fun _ _ ⟨e1, e2⟩ => by rw [e1, e2];exact kk)
theorem c_pe {E : AX} {g0 g1 : Nat} {d res : DV} {o : List UInt8} {bad' b2 : Bool} {r : List ABlk} (hd : d = res) (hb : b2 = bad') :
  AClose E (fun d' τ' => d' = res /\ τ' = [pRow 0 1 g0 g1 o.length bad', .row g1 (Wf o)]) d (pRow 0 1 g0 g1 o.length b2 :: .row g1 (Wf o) :: r) := by
 subst hb
 exact WV (σ := [_, _]) ⟨hd, rfl⟩
theorem s_call_cc {G : Nat -> DV} {B : Nat} {f : Operand -> DV} {σ : List ABlk} {K : DV -> List ABlk -> Prop} {dst : Option Tmp} {type : TypeId} {pos : String} {after : Array Edge} {gd : Option (Nat × Bool)} {args : Array Operand} {ts : Array TypeId} {k g : Nat} {rest : List DV} (hx : f (.func 86) = .fn (.func 86) [] []) (hds : reL (args.toList.map f) = some [.ptr k g 0]) (hk : σ[k]? = some (.row g (.bld 77 k g :: rest))) (hl : rest.length = 2) (kk : K (.tup []) σ) :
  OpSem Tryz.prog G B ⟨dst, .call ⟨.value (.func 86), args, ts⟩, type, pos, after, gd⟩ f σ K := s_call hx hds ((copyCheck_c hk hl).mono fun _ _ ⟨e1, e2⟩ => by rw [e1, e2];exact kk)
theorem s_app_str {t t' e : TypeId} {d : TypeDesc} {g1 : Bool} {z1 : Nat} {zs : List Value} {x y : Operand} {m g : Nat} {l s : List UInt8} {σ' : Nat -> List ABlk} [ht : TyI P t (.slice e) g1 z1] [ht' : SrcTy P t'] [he : TyI P e d false 1] [hb : TyB P e 1] [hz : TyZ P e zs]
  (hzl : zs.length = 1) (hx : f x = .ref m g 0 l.length 1) (hm : σ[m]? = some (.row g (Wf l))) (hy : f y = Q2 s) (hlen : l.length + s.length <= 140737488355328) (hσ' : ∀ g', setA σ m (.row g' (Wf (l ++ s))) = some (σ' g'))
  (k : ∀ g', B < g' -> K (.ref m g' 0 (l ++ s).length 1) (σ' g')) : OpSem P G B ⟨dst, .call ⟨.builtin .append, #[x, y], #[t, t']⟩, type, pos, after, gd⟩ f σ K := by
 have hel : (Wf l : List DV).length = l.length := by rw [Qx];exact Nat.mul_one _
 have hby : q8 ⟨s.toArray⟩ = (Wf s : List DV) := by
  unfold q8
  show s.toArray.toList.map _ = _
  rw [List.toList_toArray]
  clear hy hlen hσ' k
  induction s with
  | nil => rfl
  | cons b r ih => rw [List.map_cons, ih];rfl
 refine s_append (n := s.length) (ms := Wf s) hzl hx hm (by rw [hel];omega) hy (fun X v a b c => ?_) (by simpa using hlen) (by omega) fun g' hg' => ?_
 ·obtain ⟨vs, hvs⟩ := srcOf_str (P := P) X v a b c
  rw [hby, Z1] at hvs
  exact ⟨vs, hvs⟩
 ·have h1 := k g' hg'
  rw [qB (hσ' g'), List.length_append, encs_append] at h1
  rw [List.take_of_length_le (by rw [hel];omega)]
  exact h1
theorem s_app_bstr {t t' e : TypeId} {d : TypeDesc} {g1 : Bool} {z1 : Nat} {zs : List Value} {x y : Operand} {m g : Nat} {l s : List UInt8} {σ' : Nat -> List ABlk} [ht : TyI P t (.slice e) g1 z1] [ht' : SrcTy P t'] [he : TyI P e d false 1] [hb : TyB P e 1] [hz : TyZ P e zs]
  (hzl : zs.length = 1) (hx : f x = .bref e m g l.length) (hm : σ[m]? = some (.row g (Wf l))) (hy : f y = Q2 s) (hlen : l.length + s.length <= 140737488355328) (hσ' : ∀ g', setA σ m (.row g' (Wf (l ++ s))) = some (σ' g'))
  (k : ∀ g', B < g' -> K (.bref e m g' (l ++ s).length) (σ' g')) : OpSem P G B ⟨dst, .call ⟨.builtin .append, #[x, y], #[t, t']⟩, type, pos, after, gd⟩ f σ K := by
 have hel : (Wf l : List DV).length = l.length := by rw [Qx];exact Nat.mul_one _
 have hby : q8 ⟨s.toArray⟩ = (Wf s : List DV) := by
  unfold q8
  show s.toArray.toList.map _ = _
  rw [List.toList_toArray]
  clear hy hlen hσ' k
  induction s with
  | nil => rfl
  | cons b r ih => rw [List.map_cons, ih];rfl
 refine s_append_b (n := s.length) (ms := Wf s) hzl hx hm (by rw [hel];omega) hy (fun X v a b c => ?_) (by simpa using hlen) (by omega) fun g' hg' => ?_
 ·obtain ⟨vs, hvs⟩ := srcOf_str (P := P) X v a b c
  rw [hby, Z1] at hvs
  exact ⟨vs, hvs⟩
 ·have h1 := k g' hg'
  rw [qB (hσ' g'), List.length_append, encs_append] at h1
  rw [List.take_of_length_le (by rw [hel];omega)]
  exact h1
theorem c_pm {E : AX} {B g0 g1 g1' : Nat} {d res : DV} {o' o2 : List UInt8} {bad' b2 : Bool} {r : List ABlk} (hd : d = res) (ho : o2 = o') (hb : b2 = bad') (hg : g1' = g1 \/ B < g1') :
  AClose E (fun d' τ' => d' = res /\ ∃ g, (g = g1 \/ B < g) /\ τ' = [pRow 0 1 g0 g o'.length bad', .row g (Wf o')]) d (pRow 0 1 g0 g1' o2.length b2 :: .row g1' (Wf o2) :: r) := by
 subst ho;subst hb
 exact WV (σ := [_, _]) ⟨hd, g1', hg, rfl⟩
theorem s_callv_eq {x : Operand} {args : Array Operand} {ts : Array TypeId} {fid : FuncId} {first cap es : List DV} {d0 : DV} {σ1 : List ABlk} [FnOk P fid] (hx : f x = .fn (.func fid) first cap) (hds : reL (first ++ args.toList.map f ++ cap) = some es) (h : ACalls P G B fid es σ (fun d τ => d = d0 /\ τ = σ1)) (kk : K d0 σ1) :
  OpSem P G B ⟨dst, .call ⟨.value x, args, ts⟩, type, pos, after, gd⟩ f σ K := s_callv hx hds (h.mono fun _ _ ⟨e1, e2⟩ => by rw [e1, e2];exact kk)
theorem s_callv_ex {x : Operand} {args : Array Operand} {ts : Array TypeId} {fid : FuncId} {first cap es : List DV} {d0 : DV} {σ1 : Nat -> List ABlk} {g : Nat} {cs : List DV} [FnOk P fid] (hx : f x = .fn (.func fid) first cap) (hds : reL (first ++ args.toList.map f ++ cap) = some es) (h1 : σ[1]? = some (.row g cs)) (h : ∀ B', g <= B' -> ACalls P G B' fid es σ (fun d τ => d = d0 /\ ∃ g', (g' = g \/ B' < g') /\ τ = σ1 g')) (kk : ∀ g', (g' = g \/ B < g') -> K d0 (σ1 g')) :
  OpSem P G B ⟨dst, .call ⟨.value x, args, ts⟩, type, pos, after, gd⟩ f σ K := s_callv hx hds fun X vs hS hσ hB hG hv => by
 have hg : g <= X.N := hS.gen 1 g (Wt (by rw [hσ];exact h1))
 refine (h X.N hg X vs hS hσ (Nat.le_refl _) hG hv).mono ?_
 rintro e w' ⟨v, he, X', a, b, c, d, hd, rfl, g', hg', e2⟩
 exact ⟨v, he, X', a, b, c, _, hd, by rw [e2];exact kk g' (by omega)⟩
end
section
theorem s_pe (k0 k1 : Nat) {P : Program} {G : Nat -> DV} {B : Nat} {f : Operand -> DV} {σ : List ABlk} {K : DV -> List ABlk -> Prop} {dst : Option Tmp} {type : TypeId} {pos : String} {after : Array Edge} {gd : Option (Nat × Bool)} {args : Array Operand} {ts : Array TypeId} {fid : FuncId} {aa : Nat -> Nat -> List DV} {o : List UInt8} {bad bad' : Bool} {res : DV} {g0 g1 : Nat} {es : List DV} {σ' : List ABlk} [FnOk P fid] (h : PE P G fid aa o bad res bad') (hx : f (.func fid) = .fn (.func fid) [] []) (hds : reL (args.toList.map f) = some es) (hes : es = aa k0 g0) (h0 : σ[k0]? = some (pRow k0 k1 g0 g1 o.length bad)) (h1 : σ[k1]? = some (.row g1 (Wf o))) (hne : Nat.beq k0 k1 = false) (kk : K res σ')
  (hargs : RenL (RenD (qf [k0, k1] σ.length)) (aa k0 g0) (aa 0 g0) := by repeat' first|exact .nil|refine .cons ?_ ?_|exact .s (.mp rfl)|exact .s (.ptr rfl)|exact .s (.ref rfl)|exact .fn (by repeat' first|exact .nil|refine .cons ?_ ?_|exact .ptr rfl|exact .mp rfl|exact .clo Wj) (by repeat' first|exact .nil|refine .cons ?_ ?_|exact .ptr rfl|exact .mp rfl|exact .clo Wj)|exact .s (.clo (by (repeat' first|exact Enc.clo _|exact Wj|exact WB _|exact WH (Qy _)|exact Qy _|refine qi ?_ ?_|refine Z3 ?_|refine W4 ?_|refine WS ?_|exact Zb|refine Ww ?_ ?_|refine WH ?_);done))) (hres : res.clo = true := by repeat' first|exact Wj|exact WB _|exact WH (Qy _)|exact Qy _|refine qi ?_ ?_|refine Z3 ?_|refine W4 ?_|refine WS ?_|exact Zb|refine Ww ?_ ?_|refine WH ?_) (hσ' : qg σ [k0, k1] [pRow k0 k1 g0 g1 o.length bad', .row g1 (Wf o)] = some σ' := by rfl) :
  OpSem P G B ⟨dst, .call ⟨.value (.func fid), args, ts⟩, type, pos, after, gd⟩ f σ K := s_call_pe h hx hds hes h0 h1 hne hargs hres hσ' kk
theorem s_pm (k0 k1 : Nat) {P : Program} {G : Nat -> DV} {B : Nat} {f : Operand -> DV} {σ : List ABlk} {K : DV -> List ABlk -> Prop} {dst : Option Tmp} {type : TypeId} {pos : String} {after : Array Edge} {gd : Option (Nat × Bool)} {args : Array Operand} {ts : Array TypeId} {fid : FuncId} {aa : Nat -> Nat -> List DV} {o o' : List UInt8} {bad bad' : Bool} {res : DV} {g0 g1 : Nat} {es : List DV} {σ' : Nat -> List ABlk} [FnOk P fid] (h : PM P G fid aa o bad res o' bad') (hx : f (.func fid) = .fn (.func fid) [] []) (hds : reL (args.toList.map f) = some es) (hes : es = aa k0 g0) (h0 : σ[k0]? = some (pRow k0 k1 g0 g1 o.length bad)) (h1 : σ[k1]? = some (.row g1 (Wf o))) (hne : Nat.beq k0 k1 = false) (hσ' : ∀ g1', qg σ [k0, k1] [pRow k0 k1 g0 g1' o'.length bad', .row g1' (Wf o')] = some (σ' g1')) (kk : ∀ g1', (g1' = g1 \/ B < g1') -> K res (σ' g1'))
  (hargs : RenL (RenD (qf [k0, k1] σ.length)) (aa k0 g0) (aa 0 g0) := by repeat' first|exact .nil|refine .cons ?_ ?_|exact .s (.mp rfl)|exact .s (.ptr rfl)|exact .s (.ref rfl)|exact .fn (by repeat' first|exact .nil|refine .cons ?_ ?_|exact .ptr rfl|exact .mp rfl|exact .clo Wj) (by repeat' first|exact .nil|refine .cons ?_ ?_|exact .ptr rfl|exact .mp rfl|exact .clo Wj)|exact .s (.clo (by (repeat' first|exact Enc.clo _|exact Wj|exact WB _|exact WH (Qy _)|exact Qy _|refine qi ?_ ?_|refine Z3 ?_|refine W4 ?_|refine WS ?_|exact Zb|refine Ww ?_ ?_|refine WH ?_);done))) (hres : res.clo = true := by repeat' first|exact Wj|exact WB _|exact WH (Qy _)|exact Qy _|refine qi ?_ ?_|refine Z3 ?_|refine W4 ?_|refine WS ?_|exact Zb|refine Ww ?_ ?_|refine WH ?_) :
  OpSem P G B ⟨dst, .call ⟨.value (.func fid), args, ts⟩, type, pos, after, gd⟩ f σ K := s_call_pm h hx hds hes h0 h1 hne hargs hres hσ' kk
end
end Go.Av
end
section
namespace Go.Proofs
open Go.Av
variable {G : Nat -> DV}
attribute [local irreducible] OpSem WR Zc Zp ACalls ZS AClose RV
open Go.Bl
variable {o : List UInt8} {bad : Bool}
theorem write_c (s : List UInt8) (hlen : o.length + s.length <= 140737488355328) : PM Tryz.prog G 46 (fun k g => [.ptr k g 0, Q2 s]) o bad (.tup [.i s.length, .sc .nilIface]) (o ++ s) bad := fun g0 g1 B h0 h1 => by
 refine Qa Tryz.func46 rfl Tryz.ntmps46 rfl (t := [(0, .ptr 0 g0 0), (1, Q2 s)]) rfl fun E hE => ?_
 (repeat' first|(refine Qz ?_;(first|refine Ws rfl ?_|refine WM rfl ?_|refine Qc rfl rfl rfl ?_|(refine QK ?_;(first|refine s_call_cc rfl rfl rfl rfl ?_|refine Zx rfl ?_|refine s_app_bstr rfl rfl rfl rfl (by first|omega|(simp only [List.length_append, List.length_cons, List.length_nil];omega)) (fun _ => rfl) (fun _ _ => ?_)))|refine Qe rfl rfl ?_|refine Wg rfl rfl rfl rfl (by rfl) (by rfl) (by rfl) ?_|refine Qj rfl rfl ?_))|(refine We ?_;(first|refine Wb ?_|refine Zg rfl ?_|refine WI ?_))|(refine Wc ?_;(first|refine Q7 ?_|refine Qm ?_|refine Wi ?_)))
 exact e_2 (Tryz.results46) (Qb rfl) (Qb rfl) (c_same ⟨rfl, _, .inr (by omega), rfl⟩)
theorem need_c (ok : Bool) : PE Tryz.prog G 81 (fun k g => [.ptr k g 0, .b ok]) o bad (.b ok) (bad || !ok) := fun g0 g1 B h0 h1 => by
 cases bad with
 | true =>
  refine Qa Tryz.func81 rfl Tryz.ntmps81 rfl (t := [(0, .ptr 0 g0 0), (1, .b ok)]) rfl fun E hE => ?_
  (repeat' first|(refine Qz ?_;(first|refine Ws rfl ?_|refine WM rfl ?_|refine Qc rfl rfl rfl ?_|refine ZO rfl rfl ?_|refine Qe rfl rfl ?_|refine Wg rfl rfl rfl rfl (by rfl) (by rfl) (by rfl) ?_|refine Qj rfl rfl ?_))|(refine We ?_;(first|refine Wb ?_|refine Zg rfl ?_|refine WI ?_|refine qw rfl rfl rfl rfl ?_))|(refine Wc ?_;(first|refine Q7 ?_|refine Qm ?_|refine Wi ?_)))
  exact e_1 (Tryz.results81) (Qb rfl) (c_same ⟨rfl, rfl⟩)
 | false =>
  refine Qa Tryz.func81 rfl Tryz.ntmps81 rfl (t := [(0, .ptr 0 g0 0), (1, .b ok)]) rfl fun E hE => ?_
  (repeat' first|(refine Qz ?_;(first|refine Ws rfl ?_|refine WM rfl ?_|refine Qc rfl rfl rfl ?_|refine W9 rfl rfl ?_|refine qK rfl ?_|refine Qe rfl rfl ?_|refine Wg rfl rfl rfl rfl (by rfl) (by rfl) (by rfl) ?_|refine Qj rfl rfl ?_))|(refine We ?_;(first|refine Wb ?_|refine Zg rfl ?_|refine WI ?_|refine qd rfl rfl rfl rfl ?_))|(refine Wc ?_;(first|refine Q7 ?_|refine Qm ?_|refine Wi ?_)))
  exact e_1 (Tryz.results81) (Qb rfl) (c_same ⟨rfl, rfl⟩)
def QI (m : Int) (len : Nat) (kids : Int) : Bool := decide (m = 0) && (decide (kids < 0) || decide ((len : Int) = kids))
theorem wkT2 {X W0 W1 W2 : Prop} (w0 : W0 := by exact True.intro) (w1 : W1 := by exact True.intro) (w2 : W2 := by exact True.intro) (s : (Unit -> W0) -> (Unit -> W1) -> (Unit -> W2) -> Unit -> X := by (intro w0 w1 w2 _;(repeat' first|(refine Qz ?_;(first|refine Ws rfl ?_|refine WM rfl ?_|(refine QN ?_;(first|refine Qc rfl rfl rfl ?_|refine s_load_rowa rfl rfl (by rfl) (by rfl) ?_))|(refine Qw ?_;(first|refine Zw rfl rfl ?_|refine qv rfl rfl ?_|refine WG rfl rfl ?_|refine WX rfl rfl ?_))|(refine QK ?_;(first|refine Qv rfl ?_|refine s_pe 0 1 (need_c _) rfl rfl rfl rfl rfl rfl ?_|refine s_pe 0 1 (ZY _ _ _ _ _ (by assumption)) rfl rfl rfl rfl rfl rfl ?_|refine WA rfl rfl (itoa_c hG _ (by omega)) ?_))|(refine Q1 ?_;(first|refine ZO rfl rfl ?_|refine W9 rfl rfl ?_))|refine Qe rfl rfl ?_|refine ZC rfl rfl (fun _ _ => ?_)))|(refine We ?_;(first|refine Wb ?_|refine Zg rfl ?_|refine qd rfl rfl rfl rfl ?_|refine qw rfl rfl rfl rfl ?_|refine o_gu rfl rfl rfl rfl rfl ?_|refine WN rfl rfl (by omega) ?_|refine WD rfl rfl (by omega) ?_))|(refine Wc ?_;(first|refine Q7 ?_|refine Qm ?_|refine Wi ?_)));all_goals (repeat (rename_i x;(fail_if_success have : Unit := x);revert x));(first|done|exact w0 ());(first|done|exact w1 ());(first|done|exact w2 ()))) (u : (W0 \/ True) /\ (W1 \/ True) /\ (W2 \/ True) := by (refine ⟨?_, ?_, ?_⟩ <;> first|exact Or.inl True.intro|exact Or.inr True.intro)) : X := s (fun _ => w0) (fun _ => w1) (fun _ => w2) ()
theorem ZY (k n m : Int) (ks : List Nd) (kids : Int) (hl : ks.length <= 1048576) : PE Tryz.prog G 42 (fun p g => [.ptr p g 0, .agg [.i k, .i n, .i m, Qo ks], .i kids]) o bad (.b (QI m ks.length kids)) (bad || !QI m ks.length kids) := fun g0 g1 B h0 h1 => by
 unfold QI
 by_cases hm : m = 0
 ·by_cases hk : kids < 0
  ·refine Qa Tryz.func42 rfl Tryz.ntmps42 rfl (t := [(0, .ptr 0 g0 0), (1, .agg [.i k, .i n, .i m, Qo ks]), (2, .i kids)]) rfl fun E hE => ?_
   (refine wkT2 ?_;intros)
   exact e_1 Tryz.results42 (Qb rfl) (c_pe (by simp [*]) (by simp [*, Bool.or_assoc]))
  ·refine Qa Tryz.func42 rfl Tryz.ntmps42 rfl (t := [(0, .ptr 0 g0 0), (1, .agg [.i k, .i n, .i m, Qo ks]), (2, .i kids)]) rfl fun E hE => ?_
   (refine wkT2 ?_;intros)
   exact e_1 Tryz.results42 (Qb rfl) (c_pe (by simp [*]) (by simp [*, Bool.or_assoc]))
 ·refine Qa Tryz.func42 rfl Tryz.ntmps42 rfl (t := [(0, .ptr 0 g0 0), (1, .agg [.i k, .i n, .i m, Qo ks]), (2, .i kids)]) rfl fun E hE => ?_
  (refine wkT2 ?_;intros)
  exact e_1 Tryz.results42 (Qb rfl) (c_pe (by simp [*]) (by simp [*, Bool.or_assoc]))
def Wu (n m : Int) (len : Nat) (kids : Int) : Bool := decide (n = 0) && QI m len kids
theorem zb (k n m : Int) (ks : List Nd) (kids : Int) (hl : ks.length <= 1048576) : PE Tryz.prog G 87 (fun p g => [.ptr p g 0, .agg [.i k, .i n, .i m, Qo ks], .i kids]) o bad (.b (Wu n m ks.length kids)) (bad || !Wu n m ks.length kids) := fun g0 g1 B h0 h1 => by
 unfold Wu
 by_cases hn : n = 0
 ·refine Qa Tryz.func87 rfl Tryz.ntmps87 rfl (t := [(0, .ptr 0 g0 0), (1, .agg [.i k, .i n, .i m, Qo ks]), (2, .i kids)]) rfl fun E hE => ?_
  (refine wkT2 ?_;intros)
  exact e_1 Tryz.results87 (Qb rfl) (c_pe (by simp [*]) (by simp [*, Bool.or_assoc]))
 ·refine Qa Tryz.func87 rfl Tryz.ntmps87 rfl (t := [(0, .ptr 0 g0 0), (1, .agg [.i k, .i n, .i m, Qo ks]), (2, .i kids)]) rfl fun E hE => ?_
  (refine wkT2 ?_;intros)
  exact e_1 Tryz.results87 (Qb rfl) (c_pe (by simp [*]) (by simp [*, Bool.or_assoc]))
def WF (n : Int) : Bool := decide (0 <= n) && decide (n <= 999)
theorem numeral_c (hG : G 6 = pow10T) (n : Int) (hn : -9223372036854775808 <= n /\ n <= 9223372036854775807) : PE Tryz.prog G 44 (fun p g => [.ptr p g 0, .i n]) o bad (Q2 (Lib.itoa n)) (bad || !WF n) := fun g0 g1 B h0 h1 => by
 unfold WF
 by_cases h : 0 <= n
 ·refine Qa Tryz.func44 rfl Tryz.ntmps44 rfl (t := [(0, .ptr 0 g0 0), (1, .i n)]) rfl fun E hE => ?_
  (refine wkT2 ?_;intros)
  exact e_1 Tryz.results44 (Qb rfl) (c_pe (by simp [*]) (by simp [*, Bool.or_assoc]))
 ·refine Qa Tryz.func44 rfl Tryz.ntmps44 rfl (t := [(0, .ptr 0 g0 0), (1, .i n)]) rfl fun E hE => ?_
  (refine wkT2 ?_;intros)
  exact e_1 Tryz.results44 (Qb rfl) (c_pe (by simp [*]) (by simp [*, Bool.or_assoc]))
end Go.Proofs
end
section
namespace Go.Proofs
open Go.Av
variable {G : Nat -> DV}
attribute [local irreducible] OpSem WR Zc Zp ACalls ZS AClose RV
open Go.Bl
variable {o : List UInt8}
def comma : List UInt8 := [44, 32]
def Wy (l : List (List UInt8)) : List UInt8 := Lib.join l comma
theorem wkT3 {X W0 W1 W2 : Prop} (w0 : W0 := by exact True.intro) (w1 : W1 := by exact True.intro) (w2 : W2 := by exact True.intro) (s : (Unit -> W0) -> (Unit -> W1) -> (Unit -> W2) -> Unit -> X := by (intro w0 w1 w2 _;(repeat' first|(refine Qz ?_;(first|refine Ws rfl ?_|refine WM rfl ?_|(refine QN ?_;(first|refine Z4 rfl rfl ?_|refine Q0 rfl ?_))|refine Qq rfl rfl (by first|assumption|omega|(simp;done)|(simp;omega)) ?_|(refine Qw ?_;(first|refine Zw rfl rfl ?_|refine ZU rfl rfl (by omega) ?_))|(refine QK ?_;(first|refine s_call_v rfl rfl (View.ref rfl (by rw [Qx];rfl) (Qy _) (View.same View.nil)) (join_c _ _ hN hJ) rfl ?_|refine s_callv_pe (k0 := 0) (k1 := 1) (hx) rfl rfl rfl rfl rfl rfl (by repeat' first|exact .nil|refine .cons ?_ ?_|exact .s (.mp rfl)|exact .s (.ptr rfl)|exact .s (.ref rfl)|exact .fn (by repeat' first|exact .nil|refine .cons ?_ ?_|exact .ptr rfl|exact .mp rfl|exact .clo Wj) (by repeat' first|exact .nil|refine .cons ?_ ?_|exact .ptr rfl|exact .mp rfl|exact .clo Wj)|exact .s (.clo (by (repeat' first|exact Enc.clo _|exact Wj|exact WB _|exact WH (Qy _)|exact Qy _|refine qi ?_ ?_|refine Z3 ?_|refine W4 ?_|refine WS ?_|exact Zb|refine Ww ?_ ?_|refine WH ?_);done))) (by repeat' first|exact Wj|exact WB _|exact WH (Qy _)|exact Qy _|refine qi ?_ ?_|refine Z3 ?_|refine W4 ?_|refine WS ?_|exact Zb|refine Ww ?_ ?_|refine WH ?_) (by rfl) ?_|refine Zy (z := Str.mk _) rfl rfl rfl rfl rfl rfl rfl (by first|omega|(simp;omega)) (by first|omega|(simp;omega)) (fun _ => rfl) (fun _ _ => ?_)|refine Qv rfl ?_))|refine qh rfl rfl rfl rfl ?_|refine W5 rfl rfl (by decide) rfl ?_|refine QU (fun _ _ => ?_)))|(refine We ?_;(first|refine Wb ?_|refine Zg rfl ?_|refine WI ?_))|(refine Wc ?_;(first|refine Q7 ?_|refine Qm ?_|refine QM ?_|refine QV ?_|refine Qu rfl (by omega) ?_|refine Qn rfl (by omega) ?_|refine W8 rfl ?_|refine Wi ?_)));all_goals (repeat (rename_i x;(fail_if_success have : Unit := x);revert x));(first|done|exact w0 ());(first|done|exact w1 ());(first|done|exact w2 ()))) (u : (W0 \/ True) /\ (W1 \/ True) /\ (W2 \/ True) := by (refine ⟨?_, ?_, ?_⟩ <;> first|exact Or.inl True.intro|exact Or.inr True.intro)) : X := s (fun _ => w0) (fun _ => w1) (fun _ => w2) ()
theorem list_c (fid : FuncId) [FnOk Tryz.prog fid] (txt : Nd -> List UInt8) (ok : Nd -> Bool) (ks : List Nd) (bad : Bool) (h : ∀ x ∈ ks, ∀ b, PE Tryz.prog G fid (fun p g => [.ptr p g 0, .agg (Enc.enc x)]) o b (Q2 (txt x)) (b || !ok x)) (hl : ks.length <= 1048576) (hlen : (Wy (ks.map txt)).length <= 140737488355328) :
  PE Tryz.prog G 84 (fun p g => [Qo ks, .fn (.func fid) [.ptr p g 0] []]) o bad (Q2 (Wy (ks.map txt))) (bad || !ks.all ok) := fun g0 g1 B h0 h1 => by
 refine Qa Tryz.func84 rfl Tryz.ntmps84 rfl (t := [(0, Qo ks), (1, .fn (.func fid) [.ptr 0 g0 0] [])]) rfl fun E hE => ?_
 (refine wkT3 ?_;intros)
 refine r_own 5 1 rfl fun gO hgO => ?_
 refine r_loopg (fun (i : Nat) g => ⟨[(1, .fn (.func fid) [.ptr 0 g0 0] []), (5, .ref 2 g 0 ((ks.take i).map fun x => Str.mk (txt x)).length 1), (8, Qo ks), (9, .i ks.length), (10, .i i)], [pRow 0 1 g0 g1 o.length (bad || !(ks.take i).all ok), .row g1 (Wf o), .row g (Wf ((ks.take i).map fun x => Str.mk (txt x)))]⟩) (fun i => i <= ks.length) (fun i => ks.length - i) 0 gO hgO ?_ (by omega) ?_
 ·rw [show (bad || !(ks.take 0).all ok) = bad by simp]
  exact zal rfl
 intro i g hi hg
 by_cases hil : i < ks.length
 ·have hx := h _ (List.getElem_mem hil) (bad || !(ks.take i).all ok)
  have hb1 : (bad || !(ks.take (i + 1)).all ok) = ((bad || !(ks.take i).all ok) || !ok ks[i]) := by rw [List.take_succ_eq_append_getElem hil, List.all_append];cases bad <;> simp
  have hb2 : ((ks.take (i + 1)).map fun x => Str.mk (txt x)) = ((ks.take i).map fun x => Str.mk (txt x)) ++ [Str.mk (txt ks[i])] := by rw [List.take_succ_eq_append_getElem hil, List.map_append];rfl
  have hal : ((ks.take i).map fun x => Str.mk (txt x)).length <= 1048576 := by simp;omega
  (refine wkT3 ?_;intros)
  refine ⟨i + 1, _, by omega, by assumption, by omega, ?_⟩
  rw [hb1, hb2]
  exact zal rfl
 ·have hie : i = ks.length := by omega
  subst hie
  rw [List.take_length]
  have hN : (ks.map fun x => Str.mk (txt x)).length <= 140737488355328 := by simp;omega
  have hmm : (ks.map fun x => Str.mk (txt x)).map (·.l) = ks.map txt := by rw [List.map_map];rfl
  have hJ : (Lib.join ((ks.map fun x => Str.mk (txt x)).map (·.l)) [44, 32]).length <= 140737488355328 := by rw [hmm];exact hlen
  (refine wkT3 ?_;intros)
  refine e_1 Tryz.results84 (Qb rfl) (c_pe ?_ ?_)
  ·rw [hmm];rfl
  ·rfl
end Go.Proofs
end
section
namespace Go.Proofs
open Go.Av Go.Bl
mutual
def Qk : Nd -> Nat
 | .mk _ _ _ ks => 1 + Qs ks
def Qs : List Nd -> Nat
 | [] => 0
 | x :: r => Qk x + Qs r
end
theorem QZ (t : Nd) : 1 <= Qk t := by cases t;rw [Qk];omega
theorem Wk : ∀ ts : List Nd, ts.length <= Qs ts
 | [] => Nat.le_refl _
 | x :: r => by
  have := Wk r
  have := QZ x
  rw [Qs, List.length_cons];omega
theorem QG {x : Nd} : ∀ {ks : List Nd}, x ∈ ks -> Qk x <= Qs ks
 | y :: r, h => by
  rw [Qs]
  rcases List.mem_cons.1 h with rfl|h
  ·omega
  ·have := QG h;omega
theorem qA (a b : List Nd) : Qs (a ++ b) = Qs a + Qs b := by
 induction a with
 | nil => simp [Qs]
 | cons x r ih => rw [List.cons_append, Qs, Qs, ih];omega
theorem qr (ks : List Nd) (i : Nat) (h : i < ks.length) : Qs (ks.take (i + 1)) = Qs (ks.take i) + Qk ks[i] := by
 rw [List.take_succ_eq_append_getElem h, qA, Qs, Qs];omega
theorem Wp (ks : List Nd) (i : Nat) : Qs (ks.take i) <= Qs ks := by
 have := qA (ks.take i) (ks.drop i)
 rw [List.take_append_drop] at this;omega
def i64 (n : Int) : Prop := -9223372036854775808 <= n /\ n <= 9223372036854775807
mutual
def okN : Nd -> Prop
 | .mk k n m ks => (i64 k /\ i64 n /\ i64 m) /\ okL ks
def okL : List Nd -> Prop
 | [] => True
 | x :: r => okN x /\ okL r
end
theorem Wa {x : Nd} : ∀ {ks : List Nd}, okL ks -> x ∈ ks -> okN x
 | y :: r, h, hx => by
  rw [okL] at h
  rcases List.mem_cons.1 hx with rfl|hx
  ·exact h.1
  ·exact Wa h.2 hx
theorem WP {n : Int} (h : i64 n) : (Lib.itoa n).length <= 21 := by
 have key : ∀ u : Nat, u < 10 ^ 20 -> Lib.nDigits u <= 20 := fun u hu => by
  rcases Nat.lt_or_ge 20 (Lib.nDigits u) with h'|h'
  ·exfalso
   obtain ⟨k, hk⟩ : ∃ k, Lib.nDigits u = k + 1 := ⟨Lib.nDigits u - 1, by omega⟩
   have : ∀ (k u : Nat), Lib.nDigits u = k + 1 -> 0 < k -> 10 ^ k <= u := by
    intro k
    induction k with
    | zero => intro u _ h0;omega
    | succ k ih =>
     intro u hu _
     by_cases hs : u < 10
     ·rw [Lib.nDigits_small hs] at hu;omega
     ·rw [Lib.nDigits_big hs] at hu
      by_cases hk0 : k = 0
      ·subst hk0;omega
      ·have := ih (u / 10) (by omega) (by omega)
       rw [Nat.pow_succ]
       omega
   have h1 := this k u hk (by omega)
   have : 10 ^ 20 <= 10 ^ k := Nat.pow_le_pow_right (by decide) (by omega)
   omega
  ·exact h'
 obtain ⟨h1, h2⟩ := h
 have e20 : (10 : Nat) ^ 20 = 100000000000000000000 := by decide
 unfold Lib.itoa
 split
 ·rw [List.length_cons, Lib.decDigits_length]
  have := key n.natAbs (by omega);omega
 ·rw [Lib.decDigits_length]
  have := key n.toNat (by omega);omega
theorem ZN {M : Nat} (f : Nd -> List UInt8) : ∀ (ks : List Nd), (∀ x ∈ ks, (f x).length + 2 <= M * Qk x) -> (Wy (ks.map f)).length <= M * Qs ks
 | [], _ => by simp [Wy, Lib.join_nil, Qs]
 | x :: r, h => by
  have hx := h x (by simp)
  have ih := ZN f r fun y hy => h y (by simp [hy])
  rw [Qs, Nat.mul_add]
  cases r with
  | nil =>
   show (Lib.join [f x] comma).length <= _
   rw [Lib.join_one];omega
  | cons y r =>
   have hc : Wy ((x :: y :: r).map f) = f x ++ comma ++ Wy ((y :: r).map f) := by
    show Lib.join (f x :: f y :: r.map f) comma = f x ++ comma ++ Lib.join (f y :: r.map f) comma
    rw [Lib.join_cons, Lib.join_cons]
    simp [Lib.joinTail]
   rw [hc, List.length_append, List.length_append, show comma.length = 2 from rfl]
   omega
mutual
def qz : Nd -> List UInt8
 | .mk k n m ks => if k = 0 then [105, 110, 116] else if k = 1 then [98, 111, 111, 108] else if k = 2 then [97, 114, 114, 32] ++ Lib.itoa n else if k = 3 then [114, 101, 99, 32, 40] ++ Wy (typTs ks) ++ [41] else []
def typTs : List Nd -> List (List UInt8)
 | [] => []
 | x :: r => qz x :: typTs r
end
theorem typTs_eq : ∀ ks, typTs ks = ks.map qz
 | [] => rfl
 | x :: r => by rw [typTs, typTs_eq r];rfl
mutual
def ZH : Nd -> Bool
 | .mk k n m ks => if k = 0 \/ k = 1 then Wu n m ks.length 0 else if k = 2 then QI m ks.length 0 && WF n else if k = 3 then Wu n m ks.length (-1) && decide (0 < ks.length) && typOks ks else false
def typOks : List Nd -> Bool
 | [] => true
 | x :: r => ZH x && typOks r
end
theorem typOks_eq : ∀ ks, typOks ks = ks.all ZH
 | [] => rfl
 | x :: r => by rw [typOks, typOks_eq r];rfl
theorem qT (t : Nd) : okN t -> (qz t).length + 2 <= 30 * Qk t := by
 induction t using Nd.ind with
 | h k n m ks ih =>
 intro hok
 rw [okN] at hok
 have hn := WP hok.1.2.1
 have hs := ZN qz ks fun x hx => ih x hx (Wa hok.2 hx)
 rw [qz, Qk, typTs_eq]
 split
 ·simp;omega
 ·split
  ·simp;omega
  ·split
   ·simp only [List.length_append, List.length_cons, List.length_nil];omega
   ·split
    ·simp only [List.length_append, List.length_cons, List.length_nil];omega
    ·simp only [List.length_nil];omega
def opTexts : List (List UInt8) := [[43], [45], [42], [47], [37], [38], [124], [94], [60, 60], [62, 62], [60], [61, 61], [38, 38], [124, 124]]
mutual
def exT : Nd -> List UInt8
 | .mk k n m ks => 
  if k = 4 then Lib.itoa n else if k = 5 then (if n = 1 then [116, 114, 117, 101] else [102, 97, 108, 115, 101]) else if k = 6 then [118] ++ Lib.itoa n else
  if k = 7 then [118] ++ Lib.itoa n ++ [91] ++ Wy (exTs ks) ++ [93] else if k = 8 then [118] ++ Lib.itoa n ++ [46] ++ Lib.itoa m else
  if k = 9 then (if (QI m ks.length 2 && (decide (0 <= n) && decide (n < 14))) = true then [40] ++ (exTs ks).getD 0 [] ++ [32] ++ opTexts.getD n.toNat [] ++ [32] ++ (exTs ks).getD 1 [] ++ [41] else []) else
  if k = 10 then [33] ++ Wy (exTs ks) else if k = 11 then [102] ++ Lib.itoa n ++ [40] ++ Wy (exTs ks) ++ [41] else if k = 12 then [114, 101, 99, 118, 32, 99] ++ Lib.itoa n else []
def exTs : List Nd -> List (List UInt8)
 | [] => []
 | x :: r => exT x :: exTs r
end
theorem q9 : ∀ ks, exTs ks = ks.map exT
 | [] => rfl
 | x :: r => by rw [exTs, q9 r];rfl
mutual
def Zn : Nd -> Bool
 | .mk k n m ks =>
  if k = 4 then QI m ks.length 0 && (if n < 0 then decide (-999 <= n) else WF n) else if k = 5 then QI m ks.length 0 && (decide (n = 0) || decide (n = 1)) else if k = 6 then QI m ks.length 0 && WF n else
  if k = 7 then QI m ks.length 1 && WF n && exOks ks else if k = 8 then decide (ks.length = 0) && WF n && WF m else
  if k = 9 then QI m ks.length 2 && (decide (0 <= n) && decide (n < 14)) && exOks ks else
  if k = 10 then Wu n m ks.length 1 && exOks ks else if k = 11 then QI m ks.length (-1) && WF n && exOks ks else if k = 12 then QI m ks.length 0 && WF n else false
def exOks : List Nd -> Bool
 | [] => true
 | x :: r => Zn x && exOks r
end
theorem WQ : ∀ ks, exOks ks = ks.all Zn
 | [] => rfl
 | x :: r => by rw [exOks, WQ r];rfl
theorem opTexts_len (i : Nat) : (opTexts.getD i []).length <= 2 := by
 rcases Nat.lt_or_ge i 14 with h|h
 ·revert i;decide
 ·rw [List.getD_eq_getElem?_getD, List.getElem?_eq_none (by simpa [opTexts] using h)];simp
theorem qS (t : Nd) : okN t -> (exT t).length + 2 <= 60 * Qk t := by
 induction t using Nd.ind with
 | h k n m ks ih =>
 intro hok
 rw [okN] at hok
 have hn := WP hok.1.2.1
 have hm := WP hok.1.2.2
 have hs := ZN exT ks fun x hx => ih x hx (Wa hok.2 hx)
 have hop := opTexts_len n.toNat
 have hk : ∀ x ∈ ks, (exT x).length + 2 <= 60 * Qk x := fun x hx => ih x hx (Wa hok.2 hx)
 clear ih
 rw [exT, Qk, q9]
 split
 ·omega
 split
 ·split <;> (simp only [List.length_cons, List.length_nil];omega)
 split
 ·simp only [List.length_append, List.length_cons, List.length_nil];omega
 split
 ·simp only [List.length_append, List.length_cons, List.length_nil];omega
 split
 ·simp only [List.length_append, List.length_cons, List.length_nil];omega
 split
 ·split
  ·rename_i h2
   have : ks.length = 2 := by simp [QI] at h2;omega
   match ks, this with
   | [a, b], _ =>
    have ha := hk a (by simp)
    have hb := hk b (by simp)
    simp only [List.map_cons, List.map_nil, List.getD_cons_zero, List.getD_cons_succ, List.length_append, List.length_cons, List.length_nil, Qs]
    omega
  ·simp only [List.length_nil];omega
 split
 ·simp only [List.length_append, List.length_cons, List.length_nil];omega
 split
 ·simp only [List.length_append, List.length_cons, List.length_nil];omega
 split
 ·simp only [List.length_append, List.length_cons, List.length_nil];omega
 ·simp only [List.length_nil];omega
end Go.Proofs
end
section
namespace Go.Proofs
open Go.Av
variable {G : Nat -> DV}
attribute [local irreducible] OpSem WR Zc Zp ACalls ZS AClose RV
open Go.Bl
variable {o : List UInt8} {bad : Bool}
theorem wkT5 {X W0 W1 W2 : Prop} (w0 : W0 := by exact True.intro) (w1 : W1 := by exact True.intro) (w2 : W2 := by exact True.intro) (s : (Unit -> W0) -> (Unit -> W1) -> (Unit -> W2) -> Unit -> X := by (intro w0 w1 w2 _;(repeat' first|(refine Qz ?_;(first|refine Ws rfl ?_|refine WM rfl ?_|(refine QN ?_;(first|refine Z4 rfl rfl ?_|refine Qc rfl rfl rfl ?_))|(refine Qw ?_;(first|refine s_gtr rfl rfl ?_|refine WX rfl rfl ?_|refine s_ad rfl rfl ?_))|(refine QK ?_;(first|refine Qv rfl ?_|refine s_pe 0 1 (need_c _) rfl rfl rfl rfl rfl rfl ?_|refine s_pe 0 1 (ZY _ _ _ _ _ (by assumption)) rfl rfl rfl rfl rfl rfl ?_|refine s_pe 0 1 (zb _ _ _ _ _ (by assumption)) rfl rfl rfl rfl rfl rfl ?_|refine s_pe 0 1 (numeral_c hG _ (by assumption)) rfl rfl rfl rfl rfl rfl ?_|refine s_pe 0 1 (hlist _) rfl rfl rfl rfl rfl rfl ?_))|refine Qe rfl rfl ?_|refine Zu rfl rfl ?_|refine ZC rfl rfl (fun _ _ => ?_)))|(refine We ?_;(first|refine Wb ?_|refine Zg rfl ?_))|(refine Wc ?_;(first|refine Q7 ?_|refine Qm ?_|refine QM ?_|refine QV ?_|refine QD rfl ?_|refine QR rfl ?_|refine Qn rfl (by omega) ?_|refine Wi ?_)));all_goals (repeat (rename_i x;(fail_if_success have : Unit := x);revert x));(first|done|exact w0 ());(first|done|exact w1 ());(first|done|exact w2 ()))) (u : (W0 \/ True) /\ (W1 \/ True) /\ (W2 \/ True) := by (refine ⟨?_, ?_, ?_⟩ <;> first|exact Or.inl True.intro|exact Or.inr True.intro)) : X := s (fun _ => w0) (fun _ => w1) (fun _ => w2) ()
theorem typed_c (hG : G 6 = pow10T) (t : Nd) : okN t -> Qk t <= 1000000 -> ∀ bad, PE Tryz.prog G 47 (fun p g => [.ptr p g 0, .agg (Enc.enc t)]) o bad (Q2 (qz t)) (bad || !ZH t) := by
 induction t using Nd.ind with
 | h k n m ks ih =>
 intro hok hsz bad g0 g1 B h0 h1
 rw [okN] at hok
 rw [Qk] at hsz
 have hl1 := Wk ks
 have hl : ks.length <= 1048576 := by omega
 have hn : -9223372036854775808 <= n /\ n <= 9223372036854775807 := hok.1.2.1
 have hnl := WP hok.1.2.1
 have hcl := ZN qz ks fun x hx => qT x (Wa hok.2 hx)
 have hlist : ∀ b, PE Tryz.prog G 84 (fun p g => [Qo ks, .fn (.func 47) [.ptr p g 0] []]) o b (Q2 (Wy (ks.map qz))) (b || !ks.all ZH) := fun b => list_c _ qz ZH ks b (fun x hx b => ih x hx (Wa hok.2 hx) (by have := QG hx;omega) b) hl (by omega)
 clear ih
 rw [qz, ZH, typTs_eq, typOks_eq, Qr]
 by_cases k0 : k = 0
 ·subst k0
  refine Qa Tryz.func47 rfl Tryz.ntmps47 rfl (t := [(0, .ptr 0 g0 0), (1, .agg [.i _, .i n, .i m, Qo ks])]) rfl fun E hE => ?_
  (refine wkT5 ?_;intros)
  exact e_1 Tryz.results47 (Qb rfl) (c_pe (by simp [*]) (by simp [*, Bool.or_assoc]))
 by_cases k1 : k = 1
 ·subst k1
  refine Qa Tryz.func47 rfl Tryz.ntmps47 rfl (t := [(0, .ptr 0 g0 0), (1, .agg [.i _, .i n, .i m, Qo ks])]) rfl fun E hE => ?_
  (refine wkT5 ?_;intros)
  exact e_1 Tryz.results47 (Qb rfl) (c_pe (by simp [*]) (by simp [*, Bool.or_assoc]))
 by_cases k2 : k = 2
 ·subst k2
  refine Qa Tryz.func47 rfl Tryz.ntmps47 rfl (t := [(0, .ptr 0 g0 0), (1, .agg [.i _, .i n, .i m, Qo ks])]) rfl fun E hE => ?_
  (refine wkT5 ?_;intros)
  exact e_1 Tryz.results47 (Qb rfl) (c_pe (by simp [*]) (by simp [*, Bool.or_assoc]))
 by_cases k3 : k = 3
 ·subst k3
  refine Qa Tryz.func47 rfl Tryz.ntmps47 rfl (t := [(0, .ptr 0 g0 0), (1, .agg [.i _, .i n, .i m, Qo ks])]) rfl fun E hE => ?_
  (refine wkT5 ?_;intros)
  exact e_1 Tryz.results47 (Qb rfl) (c_pe (by simp [*]) (by simp [*, Bool.or_assoc]))
 ·refine Qa Tryz.func47 rfl Tryz.ntmps47 rfl (t := [(0, .ptr 0 g0 0), (1, .agg [.i k, .i n, .i m, Qo ks])]) rfl fun E hE => ?_
  (refine wkT5 ?_;intros)
  exact e_1 Tryz.results47 (Qb rfl) (c_pe (by simp [*]) (by simp [*, Bool.or_assoc]))
theorem fields_ops : Lib.fields [43, 32, 45, 32, 42, 32, 47, 32, 37, 32, 38, 32, 124, 32, 94, 32, 60, 60, 32, 62, 62, 32, 60, 32, 61, 61, 32, 38, 38, 32, 124, 124] = opTexts := by decide +kernel
theorem wkT6 {X W0 W1 W2 : Prop} (w0 : W0 := by exact True.intro) (w1 : W1 := by exact True.intro) (w2 : W2 := by exact True.intro) (s : (Unit -> W0) -> (Unit -> W1) -> (Unit -> W2) -> Unit -> X := by (intro w0 w1 w2 _;(repeat' first|(refine Qz ?_;(first|refine Ws rfl ?_|refine WM rfl ?_|(refine QN ?_;(first|refine Z4 rfl rfl ?_|refine Qc rfl rfl rfl ?_))|(refine Qw ?_;(first|refine Zw rfl rfl ?_|refine WG rfl rfl ?_|refine WX rfl rfl ?_|refine s_ad rfl rfl ?_))|(refine QK ?_;(first|refine Qv rfl ?_|refine s_pe 0 1 (need_c _) rfl rfl rfl rfl rfl rfl ?_|refine s_pe 0 1 (hpl _) rfl rfl rfl rfl rfl rfl ?_|refine s_pe 0 1 (ZY _ _ _ _ _ (by assumption)) rfl rfl rfl rfl rfl rfl ?_|refine s_pe 0 1 (zb _ _ _ _ _ (by assumption)) rfl rfl rfl rfl rfl rfl ?_|refine s_pe 0 1 (numeral_c hG _ (by assumption)) rfl rfl rfl rfl rfl rfl ?_|refine s_pe 0 1 (hlist _) rfl rfl rfl rfl rfl rfl ?_|refine s_pe 0 1 (ha _) rfl rfl rfl rfl rfl rfl ?_|refine s_pe 0 1 (hb _) rfl rfl rfl rfl rfl rfl ?_|refine WA rfl rfl (itoa_c hG _ (by assumption)) ?_|refine WA rfl rfl (formatBool_c _) ?_|refine s_call_o rfl rfl (fields_own hG1 [43, 32, 45, 32, 42, 32, 47, 32, 37, 32, 38, 32, 124, 32, 94, 32, 60, 60, 32, 62, 62, 32, 60, 32, 61, 61, 32, 38, 38, 32, 124, 124] (by decide) (by decide)) (by first|exact Qy _) (fun _ _ => ?_)))|(refine Q1 ?_;(first|refine ZO rfl rfl ?_|refine W9 rfl rfl ?_))|(refine g_unOp ?_;(first|refine s_not_d rfl ?_|refine qK rfl ?_))|refine Qe rfl rfl ?_|refine Zu rfl rfl ?_|refine ZC rfl rfl (fun _ _ => ?_)))|(refine We ?_;(first|refine Wb ?_|refine Zg rfl ?_|refine qd rfl rfl rfl rfl ?_|refine qw rfl rfl rfl rfl ?_|refine o_gu rfl rfl rfl rfl rfl ?_|refine WN rfl rfl (by omega) ?_|refine WD rfl rfl (by omega) ?_))|(refine Wc ?_;(first|refine Q7 ?_|refine Qm ?_|refine QM ?_|(refine WC ?_;first|(refine Ql (pfx3 _ _) 100 [(0, true), (1, true), (2, true), (3, true), (4, true), (9, true), (10, true), (15, true), (16, true), (17, true), (18, true), (19, true), (5, false), (6, true), (7, true), (8, true), (11, true), (12, true), (13, true), (14, true), (20, false), (21, true), (22, true), (23, true)] (by rfl) (by rfl) (by kernel_rfl) (by decide +kernel) (by decide +kernel) ⟨(_, _, _, _), rfl⟩ ?_)|(refine Ql (pfx3 _ _) 100 [(0, true), (1, true), (2, true), (6, true), (7, true), (8, true), (3, false), (4, true), (5, true), (9, false), (10, true), (11, true)] (by rfl) (by rfl) (by kernel_rfl) (by decide +kernel) (by decide +kernel) ⟨(_, _, _, _), rfl⟩ ?_)|(refine Ql (pfx3 _ _) 100 [(0, true), (1, true), (2, true), (6, true), (7, true), (8, true), (9, true), (3, false), (4, true), (5, true), (10, false), (11, true), (12, true), (13, true)] (by rfl) (by rfl) (by kernel_rfl) (by decide +kernel) (by decide +kernel) ⟨(_, _, _, _), rfl⟩ ?_)|refine Q9 (by rfl) (by kernel_rfl) (by kernel_rfl) ?_|refine Q8 (by kernel_rfl) (by kernel_rfl) ?_)|refine QV ?_|refine QD rfl ?_|refine QR rfl ?_|refine Qu rfl (by omega) ?_|refine Qn rfl (by omega) ?_|refine Wi ?_))|(refine ZG ?_;(first|refine qL ?_|refine i_st rfl rfl (fun _ => (by (repeat' first|(refine Qz ?_;(first|refine Ws rfl ?_|refine WM rfl ?_|(refine QN ?_;(first|refine QA rfl ?_|refine Q0 rfl ?_|refine Qc rfl rfl rfl ?_))|(refine qp ?_;(first|refine Qq rfl rfl (by first|assumption|omega|(simp;done)|(simp;omega)) ?_|refine s_idx_sl rfl rfl (by omega) (by first|assumption|omega|(simp;done)|(simp;omega)) ?_))|refine s_ad rfl rfl ?_|refine WA rfl rfl (hops) ?_|refine Qe rfl rfl ?_|refine Zu rfl rfl ?_))|exact ⟨rfl, rfl⟩))) ?_|refine i_ef rfl ?_))|refine And.intro (Exists.intro ((_, _, _, _)) rfl) ?_);all_goals (repeat (rename_i x;(fail_if_success have : Unit := x);revert x));(first|done|exact w0 ());(first|done|exact w1 ());(first|done|exact w2 ()))) (u : (W0 \/ True) /\ (W1 \/ True) /\ (W2 \/ True) := by (refine ⟨?_, ?_, ?_⟩ <;> first|exact Or.inl True.intro|exact Or.inr True.intro)) : X := s (fun _ => w0) (fun _ => w1) (fun _ => w2) ()
theorem ops_own (hG1 : G 1 = spaceT) : Own Tryz.prog G 89 [] 14 1 (Wf (opTexts.map Str.mk)) := fun B => by
 refine Qa Tryz.func89 rfl Tryz.ntmps89 rfl (t := []) rfl fun E hE => ?_
 (refine wkT6 ?_;intros)
 exact e_1 (Tryz.results89) (Qb rfl) (c_ownedB hE rfl (by rw [fields_ops];rfl) (by rw [fields_ops]) rfl)
theorem ops_c (hG1 : G 1 = spaceT) : Go.Av.Pure Tryz.prog G 89 [] (Qo (opTexts.map Str.mk)) := (ops_own hG1).pure (by rw [Qx];rfl)
theorem opAt {n : Int} (h0 : 0 <= n) (h1 : n < 14) (h : n.toNat < (opTexts.map Str.mk).length) : ((opTexts.map Str.mk)[n.toNat]).l = opTexts.getD n.toNat [] := by
 rw [List.getElem_map, List.getD_eq_getElem?_getD, List.getElem?_eq_getElem (by simpa using h)];rfl
theorem expr_c (hG : G 6 = pow10T) (hG1 : G 1 = spaceT) (t : Nd) : okN t -> Qk t <= 1000000 -> ∀ bad, PE Tryz.prog G 48 (fun p g => [.ptr p g 0, .agg (Enc.enc t)]) o bad (Q2 (exT t)) (bad || !Zn t) := by
 induction t using Nd.ind with
 | h k n m ks ih =>
 intro hok hsz bad g0 g1 B h0 h1
 rw [okN] at hok
 rw [Qk] at hsz
 have hops := ops_c (G := G) hG1
 have hl1 := Wk ks
 have hl : ks.length <= 1048576 := by omega
 have hn : -9223372036854775808 <= n /\ n <= 9223372036854775807 := hok.1.2.1
 have hm : -9223372036854775808 <= m /\ m <= 9223372036854775807 := hok.1.2.2
 have hnl := WP hok.1.2.1
 have hml := WP hok.1.2.2
 have hol := opTexts_len n.toNat
 have hcl := ZN exT ks fun x hx => qS x (Wa hok.2 hx)
 have hlist : ∀ b, PE Tryz.prog G 84 (fun p g => [Qo ks, .fn (.func 48) [.ptr p g 0] []]) o b (Q2 (Wy (ks.map exT))) (b || !ks.all Zn) := fun b => list_c _ exT Zn ks b (fun x hx b => ih x hx (Wa hok.2 hx) (by have := QG hx;omega) b) hl (by omega)
 have hx : ∀ x ∈ ks, ∀ b, PE Tryz.prog G 48 (fun p g => [.ptr p g 0, .agg (Enc.enc x)]) o b (Q2 (exT x)) (b || !Zn x) := fun x hx b => ih x hx (Wa hok.2 hx) (by have := QG hx;omega) b
 have hxl : ∀ x ∈ ks, (exT x).length <= 60000000 := fun x hx => by have := qS x (Wa hok.2 hx);have := QG hx;omega
 clear ih hok
 rw [exT, Zn, q9, WQ, Qr]
 by_cases k4 : k = 4
 ·subst k4
  by_cases hn0 : n < 0
  ·refine Qa Tryz.func48 rfl Tryz.ntmps48 rfl (t := [(0, .ptr 0 g0 0), (1, .agg [.i _, .i n, .i m, Qo ks])]) rfl fun E hE => ?_
   (refine wkT6 ?_;intros)
   exact e_1 Tryz.results48 (Qb rfl) (c_pe (by simp [*]) (by simp [*, Bool.or_assoc]))
  ·refine Qa Tryz.func48 rfl Tryz.ntmps48 rfl (t := [(0, .ptr 0 g0 0), (1, .agg [.i _, .i n, .i m, Qo ks])]) rfl fun E hE => ?_
   (refine wkT6 ?_;intros)
   exact e_1 Tryz.results48 (Qb rfl) (c_pe (by simp [*]) (by simp [*, Bool.or_assoc]))
 by_cases k5 : k = 5
 ·subst k5
  by_cases hn0 : n = 0
  ·subst hn0
   refine Qa Tryz.func48 rfl Tryz.ntmps48 rfl (t := [(0, .ptr 0 g0 0), (1, .agg [.i _, .i _, .i m, Qo ks])]) rfl fun E hE => ?_
   (refine wkT6 ?_;intros)
   exact e_1 Tryz.results48 (Qb rfl) (c_pe (by simp [*]) (by simp [*, Bool.or_assoc]))
  ·refine Qa Tryz.func48 rfl Tryz.ntmps48 rfl (t := [(0, .ptr 0 g0 0), (1, .agg [.i _, .i n, .i m, Qo ks])]) rfl fun E hE => ?_
   (refine wkT6 ?_;intros)
   exact e_1 Tryz.results48 (Qb rfl) (c_pe (by simp [*]) (by simp [*, Bool.or_assoc]))
 by_cases k6 : k = 6
 ·subst k6
  refine Qa Tryz.func48 rfl Tryz.ntmps48 rfl (t := [(0, .ptr 0 g0 0), (1, .agg [.i _, .i n, .i m, Qo ks])]) rfl fun E hE => ?_
  (refine wkT6 ?_;intros)
  exact e_1 Tryz.results48 (Qb rfl) (c_pe (by simp [*]) (by simp [*, Bool.or_assoc]))
 by_cases k7 : k = 7
 ·subst k7
  refine Qa Tryz.func48 rfl Tryz.ntmps48 rfl (t := [(0, .ptr 0 g0 0), (1, .agg [.i _, .i n, .i m, Qo ks])]) rfl fun E hE => ?_
  (refine wkT6 ?_;intros)
  exact e_1 Tryz.results48 (Qb rfl) (c_pe (by simp [*]) (by simp [*, Bool.or_assoc]))
 by_cases k8 : k = 8
 ·subst k8
  refine Qa Tryz.func48 rfl Tryz.ntmps48 rfl (t := [(0, .ptr 0 g0 0), (1, .agg [.i _, .i n, .i m, Qo ks])]) rfl fun E hE => ?_
  (refine wkT6 ?_;intros)
  exact e_1 Tryz.results48 (Qb rfl) (c_pe (by simp [*]) (by simp [*, Bool.or_assoc]))
 by_cases k9 : k = 9
 ·subst k9
  by_cases hp : QI m ks.length 2 = true
  ·have hpl : ∀ b, PE Tryz.prog G 42 (fun p g => [.ptr p g 0, .agg [.i 9, .i n, .i m, Qo ks], .i 2]) o b (.b true) b := fun b => (ZY 9 n m ks 2 hl).conv (by rw [hp]) (by rw [hp];simp)
   by_cases hnb : 0 <= n /\ n < 14
   ·obtain ⟨hn0, hn1⟩ := hnb
    have h2 : ks.length = 2 := by simp [QI] at hp;omega
    match ks, h2 with
    | [a, b], _ =>
     have ha := hx a (by simp)
     have hb := hx b (by simp)
     have hal := hxl a (by simp)
     have hbl := hxl b (by simp)
     have hlt : n.toNat < (opTexts.map Str.mk).length := by show n.toNat < 14;omega
     have hoa := opAt hn0 hn1 hlt
     have hol' : ((opTexts.map Str.mk)[n.toNat]).l.length <= 2 := by rw [hoa];exact hol
     clear hx hxl hlist hcl
     refine Qa Tryz.func48 rfl Tryz.ntmps48 rfl (t := [(0, .ptr 0 g0 0), (1, .agg [.i _, .i n, .i m, Qo [a, b]])]) rfl fun E hE => ?_
     (refine wkT6 ?_;intros)
     have hp2 : QI m 2 2 = true := hp
     refine e_1 Tryz.results48 (Qb rfl) (c_pe ?_ ?_)
     ·rw [hoa];simp [hp2, hn0, hn1]
     ·simp [hp2, hn0, hn1, Bool.or_assoc]
   ·by_cases hn0 : 0 <= n
    ·have h14 : 14 <= n := by omega
     have h15 : ¬ n < 14 := by omega
     refine Qa Tryz.func48 rfl Tryz.ntmps48 rfl (t := [(0, .ptr 0 g0 0), (1, .agg [.i _, .i n, .i m, Qo ks])]) rfl fun E hE => ?_
     (refine wkT6 ?_;intros)
     exact e_1 Tryz.results48 (Qb rfl) (c_pe (by simp [*]) (by simp [*, Bool.or_assoc]))
    ·refine Qa Tryz.func48 rfl Tryz.ntmps48 rfl (t := [(0, .ptr 0 g0 0), (1, .agg [.i _, .i n, .i m, Qo ks])]) rfl fun E hE => ?_
     (refine wkT6 ?_;intros)
     exact e_1 Tryz.results48 (Qb rfl) (c_pe (by simp [*]) (by simp [*, Bool.or_assoc]))
  ·have hpl : ∀ b, PE Tryz.prog G 42 (fun p g => [.ptr p g 0, .agg [.i 9, .i n, .i m, Qo ks], .i 2]) o b (.b false) true := fun b => (ZY 9 n m ks 2 hl).conv (by rw [Bool.not_eq_true] at hp;rw [hp]) (by rw [Bool.not_eq_true] at hp;rw [hp];simp)
   refine Qa Tryz.func48 rfl Tryz.ntmps48 rfl (t := [(0, .ptr 0 g0 0), (1, .agg [.i _, .i n, .i m, Qo ks])]) rfl fun E hE => ?_
   (refine wkT6 ?_;intros)
   exact e_1 Tryz.results48 (Qb rfl) (c_pe (by simp [*]) (by simp [*, Bool.or_assoc]))
 by_cases k10 : k = 10
 ·subst k10
  refine Qa Tryz.func48 rfl Tryz.ntmps48 rfl (t := [(0, .ptr 0 g0 0), (1, .agg [.i _, .i n, .i m, Qo ks])]) rfl fun E hE => ?_
  (refine wkT6 ?_;intros)
  exact e_1 Tryz.results48 (Qb rfl) (c_pe (by simp [*]) (by simp [*, Bool.or_assoc]))
 by_cases k11 : k = 11
 ·subst k11
  refine Qa Tryz.func48 rfl Tryz.ntmps48 rfl (t := [(0, .ptr 0 g0 0), (1, .agg [.i _, .i n, .i m, Qo ks])]) rfl fun E hE => ?_
  (refine wkT6 ?_;intros)
  exact e_1 Tryz.results48 (Qb rfl) (c_pe (by simp [*]) (by simp [*, Bool.or_assoc]))
 by_cases k12 : k = 12
 ·subst k12
  refine Qa Tryz.func48 rfl Tryz.ntmps48 rfl (t := [(0, .ptr 0 g0 0), (1, .agg [.i _, .i n, .i m, Qo ks])]) rfl fun E hE => ?_
  (refine wkT6 ?_;intros)
  exact e_1 Tryz.results48 (Qb rfl) (c_pe (by simp [*]) (by simp [*, Bool.or_assoc]))
 ·refine Qa Tryz.func48 rfl Tryz.ntmps48 rfl (t := [(0, .ptr 0 g0 0), (1, .agg [.i k, .i n, .i m, Qo ks])]) rfl fun E hE => ?_
  (refine wkT6 ?_;intros)
  exact e_1 Tryz.results48 (Qb rfl) (c_pe (by simp [*]) (by simp [*, Bool.or_assoc]))
end Go.Proofs
end
section
namespace Go.Proofs
open Go.Av
variable {G : Nat -> DV}
attribute [local irreducible] OpSem WR Zc Zp ACalls ZS AClose RV
open Go.Bl
theorem wkS0 {X W0 W1 W2 : Prop} (w0 : W0 := by exact True.intro) (w1 : W1 := by exact True.intro) (w2 : W2 := by exact True.intro) (s : (Unit -> W0) -> (Unit -> W1) -> (Unit -> W2) -> Unit -> X := by (intro w0 w1 w2 _;(repeat' first|(refine Qz ?_;(first|refine Ws rfl ?_|refine WM rfl ?_|(refine Qw ?_;(first|refine WX rfl rfl ?_|refine Zr rfl rfl ?_|refine qv rfl rfl ?_|refine WG rfl rfl ?_|refine s_neq rfl rfl ?_))|(refine QK ?_;(first|refine Zx rfl ?_|refine WA rfl rfl (htr) ?_))|(refine Q1 ?_;(first|refine ZO rfl rfl ?_|refine W9 rfl rfl ?_))|refine s_index_str rfl rfl (by first|assumption|omega|(simp only [List.length_take, List.length_drop];omega)) ?_))|(refine We ?_;(first|refine Wb ?_|refine Zg rfl ?_|refine qd rfl rfl rfl rfl ?_|refine qw rfl rfl rfl rfl ?_|refine o_gu rfl rfl rfl rfl rfl ?_|refine WN rfl rfl (by omega) ?_|refine WD rfl rfl (by omega) ?_|refine za rfl rfl (fun _ => ?_) (fun _ => ?_)))|(refine Wc ?_;(first|refine Q7 ?_|refine Qm ?_|refine Wi ?_)));(all_goals (repeat (rename_i x;(fail_if_success have : Unit := x);revert x)));(first|done|exact w0 ());(first|done|exact w1 ());(first|done|exact w2 ()))) (u : (W0 \/ True) /\ (W1 \/ True) /\ (W2 \/ True) := by (refine ⟨?_, ?_, ?_⟩ <;> first|exact Or.inl True.intro|exact Or.inr True.intro)) : X := s (fun _ => w0) (fun _ => w1) (fun _ => w2) ()
theorem letter_c (b : UInt8) : Go.Av.Pure Tryz.prog G 144 [.u b] (.b (letB b)) := fun B => by
 unfold letB
 by_cases h1 : (97 : Int) <= b.toNat <;> by_cases h2 : (b.toNat : Int) <= 122 <;> by_cases h3 : (65 : Int) <= b.toNat
 all_goals
  refine Qa Tryz.func144 rfl Tryz.ntmps144 rfl (t := [(0, .u b)]) rfl fun E hE => ?_
  (repeat' first|(refine Qz ?_;(first|refine Ws rfl ?_|refine WM rfl ?_|(refine Qw ?_;(first|refine qv rfl rfl ?_|refine WG rfl rfl ?_))|(refine Q1 ?_;(first|refine ZO rfl rfl ?_|refine W9 rfl rfl ?_))))|(refine We ?_;(first|refine Wb ?_|refine Zg rfl ?_|refine qd rfl rfl rfl rfl ?_|refine qw rfl rfl rfl rfl ?_|refine o_gu rfl rfl rfl rfl rfl ?_|refine WN rfl rfl (by omega) ?_|refine WD rfl rfl (by omega) ?_))|(refine Wc ?_;(first|refine Q7 ?_|refine Qm ?_|refine Wi ?_)))
  refine e_1 Tryz.results144 (Qb rfl) (Qd ?_)
  congr 2
  rw [Bool.eq_iff_iff]
  simp
  try omega
theorem digit_c (b : UInt8) : Go.Av.Pure Tryz.prog G 143 [.u b] (.b (digB b)) := fun B => by
 unfold digB
 by_cases h1 : (48 : Int) <= b.toNat
 all_goals
  refine Qa Tryz.func143 rfl Tryz.ntmps143 rfl (t := [(0, .u b)]) rfl fun E hE => ?_
  (refine wkS0 ?_ ?_ <;> first|exact True.intro|intros)
  refine e_1 Tryz.results143 (Qb rfl) (Qd ?_)
  congr 2
  rw [Bool.eq_iff_iff]
  simp
  try omega
theorem r_letter_c (b : UInt8) : Go.Av.Pure Tryz.prog G 71 [.u b] (.b (letB b)) := fun B => by
 unfold letB
 by_cases h1 : (97 : Int) <= b.toNat <;> by_cases h2 : (b.toNat : Int) <= 122 <;> by_cases h3 : (65 : Int) <= b.toNat
 all_goals
  refine Qa Tryz.func71 rfl Tryz.ntmps71 rfl (t := [(0, .u b)]) rfl fun E hE => ?_
  (repeat' first|(refine Qz ?_;(first|refine Ws rfl ?_|refine WM rfl ?_|(refine Qw ?_;(first|refine qv rfl rfl ?_|refine WG rfl rfl ?_))|(refine Q1 ?_;(first|refine ZO rfl rfl ?_|refine W9 rfl rfl ?_))))|(refine We ?_;(first|refine Wb ?_|refine Zg rfl ?_|refine qd rfl rfl rfl rfl ?_|refine qw rfl rfl rfl rfl ?_|refine o_gu rfl rfl rfl rfl rfl ?_|refine WN rfl rfl (by omega) ?_|refine WD rfl rfl (by omega) ?_))|(refine Wc ?_;(first|refine Q7 ?_|refine Qm ?_|refine Wi ?_)))
  refine e_1 Tryz.results71 (Qb rfl) (Qd ?_)
  congr 2
  rw [Bool.eq_iff_iff]
  simp
  try omega
theorem r_digit_c (b : UInt8) : Go.Av.Pure Tryz.prog G 72 [.u b] (.b (digB b)) := fun B => by
 unfold digB
 by_cases h1 : (48 : Int) <= b.toNat
 all_goals
  refine Qa Tryz.func72 rfl Tryz.ntmps72 rfl (t := [(0, .u b)]) rfl fun E hE => ?_
  (refine wkS0 ?_ ?_ <;> first|exact True.intro|intros)
  refine e_1 Tryz.results72 (Qb rfl) (Qd ?_)
  congr 2
  rw [Bool.eq_iff_iff]
  simp
  try omega
theorem dw_nil (p : UInt8 -> Bool) : ∀ l : List UInt8, l.dropWhile p = [] ↔ l.all p = true
 | [] => by simp
 | b :: r => by
  by_cases hb : p b = true
  ·rw [List.dropWhile_cons, if_pos hb, dw_nil p r];simp [hb]
  ·rw [List.dropWhile_cons, if_neg hb];simp [hb]
theorem dw_all (p : UInt8 -> Bool) : ∀ l : List UInt8, (l.dropWhile p).all p = l.all p
 | [] => by simp
 | b :: r => by
  by_cases hb : p b = true
  ·rw [List.dropWhile_cons, if_pos hb, dw_all p r];simp [hb]
  ·rw [List.dropWhile_cons, if_neg hb]
theorem trim_digits (s : List UInt8) : Lib.trimS s [48, 49, 50, 51, 52, 53, 54, 55, 56, 57] = [] ↔ s.all digB = true := by
 have hd : (fun b : UInt8 => [48, 49, 50, 51, 52, 53, 54, 55, 56, 57].contains b) = digB := by
  funext b
  have : ∀ n : Fin 256, [48, 49, 50, 51, 52, 53, 54, 55, 56, 57].contains (UInt8.ofNat n.val) = digB (UInt8.ofNat n.val) := by decide +kernel
  have h := this ⟨b.toNat, b.toNat_lt⟩
  simpa using h
 unfold Lib.trimS Lib.trimLeftS Lib.trimRightS
 rw [hd, dw_nil, List.all_reverse, dw_all, List.all_reverse]
theorem tnum_c (s : List UInt8) (hs : s.length <= 1000000) : Go.Av.Pure Tryz.prog G 107 [Q2 s] (.b (qx s)) := fun B => by
 have htr := trim_c (G := G) s [48, 49, 50, 51, 52, 53, 54, 55, 56, 57] (by omega) (by decide) (by decide)
 have hta : decide (Lib.trimS s [48, 49, 50, 51, 52, 53, 54, 55, 56, 57] = []) = s.all digB := by rw [Bool.eq_iff_iff, decide_eq_true_eq, trim_digits]
 generalize Lib.trimS s [48, 49, 50, 51, 52, 53, 54, 55, 56, 57] = tr at *
 unfold qx
 by_cases h0 : s = []
 ·subst h0
  refine Qa Tryz.func107 rfl Tryz.ntmps107 rfl (t := [(0, Q2 [])]) rfl fun E hE => ?_
  (refine wkS0 ?_;intros)
  refine e_1 Tryz.results107 (Qb rfl) (Qd ?_)
  rfl
 have hl : 0 < s.length := by cases s with|nil => exact absurd rfl h0|cons b r => simp
 have hl1 : (1 : Int) <= s.length := by omega
 by_cases h3 : (s.length : Int) <= 3
 case neg =>
  refine Qa Tryz.func107 rfl Tryz.ntmps107 rfl (t := [(0, Q2 s)]) rfl fun E hE => ?_
  (refine wkS0 ?_;intros)
  refine e_1 Tryz.results107 (Qb rfl) (Qd ?_)
  simp;omega
 have h33 : s.length <= 3 := by omega
 by_cases h8 : ((s.getD 0 0).toNat : Int) = 48
 ·have h88 : s.getD 0 0 = 48 := UInt8.toNat_inj.1 (by rw [show (48 : UInt8).toNat = 48 from rfl];omega)
  by_cases h1 : (s.length : Int) = 1
  ·have h11 : s.length = 1 := by omega
   refine Qa Tryz.func107 rfl Tryz.ntmps107 rfl (t := [(0, Q2 s)]) rfl fun E hE => ?_
   (refine wkS0 ?_ ?_ <;> first|exact True.intro|intros)
   ·exact absurd h8 (by assumption)
   refine e_1 Tryz.results107 (Qb rfl) (Qd ?_)
   rw [h11, h88]
   simpa using hta
  ·have h11 : ¬ s.length = 1 := by omega
   refine Qa Tryz.func107 rfl Tryz.ntmps107 rfl (t := [(0, Q2 s)]) rfl fun E hE => ?_
   (refine wkS0 ?_ ?_ <;> first|exact True.intro|intros)
   ·exact absurd h8 (by assumption)
   refine e_1 Tryz.results107 (Qb rfl) (Qd ?_)
   rw [h88]
   simp [h11]
 ·have h88 : ¬ s.getD 0 0 = 48 := fun h => h8 (by rw [h];rfl)
  refine Qa Tryz.func107 rfl Tryz.ntmps107 rfl (t := [(0, Q2 s)]) rfl fun E hE => ?_
  (refine wkS0 ?_;intros)
  refine e_1 Tryz.results107 (Qb rfl) (Qd ?_)
  rw [show decide (1 <= s.length) = true from decide_eq_true hl, show decide (s.length <= 3) = true by simpa using h33, show decide (s.getD 0 0 ≠ 48) = true by simpa using h88]
  simpa using hta
theorem fields_signs : Lib.fields [61, 61, 32, 38, 38, 32, 124, 124, 32, 60, 60, 32, 62, 62, 32, 40, 32, 41, 32, 123, 32, 125, 32, 91, 32, 93, 32, 44, 32, 46, 32, 61, 32, 43, 32, 45, 32, 42, 32, 47, 32, 37, 32, 38, 32, 124, 32, 94, 32, 60, 32, 33] = signsT := by decide +kernel
theorem wkS1 {X W0 W1 W2 : Prop} (w0 : W0 := by exact True.intro) (w1 : W1 := by exact True.intro) (w2 : W2 := by exact True.intro) (s : (Unit -> W0) -> (Unit -> W1) -> (Unit -> W2) -> Unit -> X := by (intro w0 w1 w2 _;(repeat' first|(refine Qz ?_;(first|refine Ws rfl ?_|refine WM rfl ?_|refine QA rfl ?_|refine Qq rfl rfl (by first|assumption|omega|(simp;done)|(simp;omega)) ?_|(refine Qw ?_;(first|refine Zw rfl rfl ?_|refine s_gtr rfl rfl ?_|refine WG rfl rfl ?_|refine ZU rfl rfl (by omega) ?_))|(refine QK ?_;(first|refine Qv rfl ?_|refine Zx rfl ?_|refine WA rfl rfl (hlet) ?_|refine WA rfl rfl (hd) ?_|refine WA rfl rfl (hl0) ?_|refine WA rfl rfl (hln) ?_|refine WA rfl rfl (hnm) ?_|refine WA rfl rfl (hsg) ?_|refine WA rfl rfl (hix) ?_|refine WA rfl rfl (hasPrefix_c _ _) ?_|refine s_callv_q rfl (hp _ (by first|assumption|exact List.getElem_mem _)) (by repeat' first|exact Wj|exact WB _|exact WH (Qy _)|exact Qy _|refine qi ?_ ?_|refine Z3 ?_|refine W4 ?_|refine WS ?_|exact Zb|refine Ww ?_ ?_|refine WH ?_) ?_|refine s_call_o rfl rfl (fields_own hG1 [61, 61, 32, 38, 38, 32, 124, 124, 32, 60, 60, 32, 62, 62, 32, 40, 32, 41, 32, 123, 32, 125, 32, 91, 32, 93, 32, 44, 32, 46, 32, 61, 32, 43, 32, 45, 32, 42, 32, 47, 32, 37, 32, 38, 32, 124, 32, 94, 32, 60, 32, 33] (by decide) (by decide)) (by first|exact Qy _) (fun _ _ => ?_)))|(refine Q1 ?_;(first|refine ZO rfl rfl ?_|refine W9 rfl rfl ?_))|refine s_index_str rfl rfl (by first|assumption|omega|(simp only [List.length_take, List.length_drop];omega)) ?_|refine s_sh rfl rfl ?_|refine Zu rfl rfl ?_|refine ZC rfl rfl (fun _ _ => ?_)))|(refine We ?_;(first|refine Wb ?_|refine Zg rfl ?_|refine qd rfl rfl rfl rfl ?_|refine qw rfl rfl rfl rfl ?_|refine o_gu rfl rfl rfl rfl rfl ?_|refine WN rfl rfl (by omega) ?_|refine WD rfl rfl (by omega) ?_))|(refine Wc ?_;(first|refine Q7 ?_|refine Qm ?_|refine QM ?_|refine QV ?_|refine QD rfl ?_|refine QR rfl ?_|refine Qu rfl (by omega) ?_|refine Qn rfl (by omega) ?_|refine W8 rfl ?_|refine Wi ?_)));all_goals (repeat (rename_i x;(fail_if_success have : Unit := x);revert x));(first|done|exact w0 ());(first|done|exact w1 ());(first|done|exact w2 ()))) (u : (W0 \/ True) /\ (W1 \/ True) /\ (W2 \/ True) := by (refine ⟨?_, ?_, ?_⟩ <;> first|exact Or.inl True.intro|exact Or.inr True.intro)) : X := s (fun _ => w0) (fun _ => w1) (fun _ => w2) ()
theorem signs_own (hG1 : G 1 = spaceT) : Own Tryz.prog G 146 [] 24 1 (Wf (signsT.map Str.mk)) := fun B => by
 refine Qa Tryz.func146 rfl Tryz.ntmps146 rfl (t := []) rfl fun E hE => ?_
 (refine wkS1 ?_;intros)
 exact e_1 (Tryz.results146) (Qb rfl) (c_ownedB hE rfl (by rw [fields_signs];rfl) (by rw [fields_signs]) rfl)
theorem signs_c (hG1 : G 1 = spaceT) : Go.Av.Pure Tryz.prog G 146 [] (Qo (signsT.map Str.mk)) := (signs_own hG1).pure (by rw [Qx];rfl)
def findP {α : Type} (p : α -> Bool) (l : List α) : Int := match l.findIdx? p with|some i => i|none => -1
theorem findP_some {α : Type} {p : α -> Bool} {l : List α} {k : Nat} (hk : k < l.length) (hp : p l[k] = true) (hno : ∀ j (h : j < l.length), j < k -> p l[j] = false) : findP p l = k := by
 unfold findP
 have : l.findIdx? p = some k := List.findIdx?_eq_some_iff_getElem.2 ⟨hk, hp, fun j hj => by simpa using hno j (by omega) hj⟩
 rw [this]
theorem findP_none {α : Type} {p : α -> Bool} {l : List α} (hno : ∀ j (h : j < l.length), p l[j] = false) : findP p l = -1 := by
 unfold findP
 have : l.findIdx? p = none := List.findIdx?_eq_none_iff.2 fun x hx => by
  obtain ⟨j, hj, rfl⟩ := List.getElem_of_mem hx
  exact hno j hj
 rw [this]
theorem idxF_c (l : List Str) (fid : FuncId) (first cap : List DV) (p : Str -> Bool) [FnOk Tryz.prog fid] (hl : l.length <= 4611686018427387904) (hp : ∀ x ∈ l, Go.Av.Pure Tryz.prog G fid (first ++ [Q2 x.l] ++ cap) (.b (p x))) :
  Go.Av.Pure Tryz.prog G 145 [Qo l, .fn (.func fid) first cap] (.i (findP p l)) := fun B => by
 refine Qa Tryz.func145 rfl Tryz.ntmps145 rfl (t := [(0, Qo l), (1, .fn (.func fid) first cap)]) rfl fun E hE => ?_
 (refine wkS1 ?_;intros)
 refine WY (fun k : Nat => ⟨[(0, Qo l), (1, .fn (.func fid) first cap), (7, .i l.length), (8, .i k)], []⟩) (fun k => k <= l.length /\ ∀ j (h : j < l.length), j < k -> p l[j] = false) (fun k => l.length - k) 0 ?_ ⟨by omega, fun j h hj => by omega⟩ ?_
 ·exact zal rfl
 intro k ⟨hk, hno⟩
 (refine wkS1 ?_;intros)
 refine r_cond_d rfl (fun h => ?_) (fun h => ?_)
 ·have hk' : k < l.length := by omega
  (refine wkS1 ?_;intros)
  refine r_cond rfl (fun hb => ?_) (fun hb => ?_)
  ·(refine wkS1 ?_;intros)
   refine e_1 Tryz.results145 (Qb rfl) (Qd ?_)
   rw [findP_some hk' hb hno]
  ·(refine wkS1 ?_;intros)
   refine ⟨k + 1, ⟨hk', fun j hj hjk => ?_⟩, by omega, ?_⟩
   ·rcases Nat.lt_or_ge j k with h'|h'
    ·exact hno j hj h'
    ·have : j = k := by omega
     subst this;exact hb
   ·exact zal rfl
 ·have hk' : k = l.length := by omega
  (refine wkS1 ?_;intros)
  refine e_1 Tryz.results145 (Qb rfl) (Qd ?_)
  rw [findP_none fun j hj => hno j hj (by omega)]
theorem first1_c (s t : List UInt8) : Go.Av.Pure Tryz.prog G 147 [Q2 t, .ep [Q2 s]] (.b (Lib.hasPrefix s t)) := fun B => by
 refine Qa Tryz.func147 rfl Tryz.ntmps147 rfl (t := [(0, Q2 t), (1, .ep [Q2 s])]) rfl fun E hE => ?_
 (refine wkS1 ?_;intros)
 refine e_1 Tryz.results147 (Qb rfl) (Qd ?_)
 rfl
theorem find_idx {s : List UInt8} : (findP (fun x : Str => Lib.hasPrefix s x.l) (signsT.map Str.mk) = -1 /\ signM s = []) \/ ∃ i : Nat, ∃ h : i < (signsT.map Str.mk).length, findP (fun x : Str => Lib.hasPrefix s x.l) (signsT.map Str.mk) = i /\ ((signsT.map Str.mk)[i]).l = signM s := by
 have key : ∀ L : List (List UInt8), (findP (fun x : Str => Lib.hasPrefix s x.l) (L.map Str.mk) = -1 /\ (L.find? (fun t => Lib.hasPrefix s t)).getD [] = []) \/ ∃ i : Nat, ∃ h : i < (L.map Str.mk).length, findP (fun x : Str => Lib.hasPrefix s x.l) (L.map Str.mk) = i /\ ((L.map Str.mk)[i]).l = (L.find? (fun t => Lib.hasPrefix s t)).getD [] := by
  intro L
  unfold findP
  induction L with
  | nil => left;simp
  | cons x r ih =>
   by_cases hx : Lib.hasPrefix s x = true
   ·right
    exact ⟨0, by simp, by simp [List.findIdx?_cons, hx], by simp [hx]⟩
   ·have hx2 : Lib.hasPrefix s x = false := by simpa using hx
    rcases ih with ⟨h1, h2⟩|⟨i, hi, h1, h2⟩
    ·left
     refine ⟨?_, by rw [List.find?_cons, hx2];exact h2⟩
     rw [List.map_cons, List.findIdx?_cons]
     simp only [hx2]
     cases hf : (r.map Str.mk).findIdx? (fun x => Lib.hasPrefix s x.l) with
     | none => rfl
     | some j => rw [hf] at h1;simp at h1 <;> omega
    ·right
     refine ⟨i + 1, by simpa using hi, ?_, by rw [List.find?_cons, hx2];exact h2⟩
     rw [List.map_cons, List.findIdx?_cons]
     simp only [hx2]
     cases hf : (r.map Str.mk).findIdx? (fun x => Lib.hasPrefix s x.l) with
     | none => rw [hf] at h1;simp at h1 <;> omega
     | some j => rw [hf] at h1;simp at h1 ⊢;omega
 exact key signsT
theorem first_c (hG1 : G 1 = spaceT) (s : List UInt8) (hs : s.length <= 1000000) : Go.Av.Pure Tryz.prog G 103 [Q2 s] (Q2 (Wq s)) := fun B => by
 have hpl : (ZE s).length <= s.length := (List.takeWhile_sublist _).length_le
 have htk : s.take (ZE s).length = ZE s := take_pre _ s
 have hsg := signs_c (G := G) hG1
 have hlt0 := letter_c (G := G) (s.getD 0 0)
 unfold Wq
 refine Qa Tryz.func103 rfl Tryz.ntmps103 rfl (t := [(0, Q2 s)]) rfl fun E hE => ?_
 (refine wkS1 ?_;intros)
 refine r_pubptr 1 rfl rfl rfl ?_
 refine WY (fun n : Nat => ⟨[(1, .ep [Q2 s]), (3, .i n)], [.gone]⟩) (fun n => n <= (ZE s).length) (fun n => (ZE s).length - n) 0 ?_ (by omega) ?_
 ·exact zal rfl
 intro n hn
 by_cases hnl : n < (ZE s).length
 ·have hns : n < s.length := by omega
  have hrun : runB (s.getD 0 0) (s.getD n 0) = true := run_in hnl
  have hd := digit_c (G := G) (s.getD n 0)
  unfold runB at hrun
  by_cases hD : digB (s.getD n 0) = true
  ·rw [hD] at hd
   (refine wkS1 ?_;intros)
   refine ⟨n + 1, by omega, by omega, ?_⟩
   exact zal rfl
  ·have hD2 : digB (s.getD n 0) = false := by simpa using hD
   rw [hD2] at hd hrun
   simp at hrun
   have hl0 : Go.Av.Pure Tryz.prog G 144 [.u (s.getD 0 0)] (.b true) := by have := letter_c (G := G) (s.getD 0 0);rwa [show letB (s.getD 0 0) = true by simpa using hrun.1] at this
   have hln : Go.Av.Pure Tryz.prog G 144 [.u (s.getD n 0)] (.b true) := by have := letter_c (G := G) (s.getD n 0);rwa [show letB (s.getD n 0) = true by simpa using hrun.2] at this
   (refine wkS1 ?_;intros)
   refine ⟨n + 1, by omega, by omega, ?_⟩
   exact zal rfl
 have hne : n = (ZE s).length := by omega
 have hnm := tnum_c (G := G) (s.take (ZE s).length) (by rw [htk];omega)
 rw [show qx (s.take (ZE s).length) = qx (ZE s) by rw [htk]] at hnm
 have hix := idxF_c (G := G) (signsT.map Str.mk) 147 [] [.ep [Q2 s]] (fun x => Lib.hasPrefix s x.l) (by decide) (fun x hx => first1_c s x.l)
 subst hne
 have hlet := letter_c (G := G) (s.getD 0 0)
 by_cases hns : (ZE s).length < s.length
 ·have hrun : runB (s.getD 0 0) (s.getD (ZE s).length 0) = false := run_end rfl hns
  have hd := digit_c (G := G) (s.getD (ZE s).length 0)
  have hln := letter_c (G := G) (s.getD (ZE s).length 0)
  unfold runB at hrun
  have hD2 : digB (s.getD (ZE s).length 0) = false := by simp at hrun;simpa using hrun.1
  rw [hD2] at hd hrun
  by_cases h0 : letB (s.getD 0 0) = true
  ·rw [h0] at hlet hrun
   have hn2 : letB (s.getD (ZE s).length 0) = false := by simpa using hrun
   rw [hn2] at hln
   have hpos : 0 < (ZE s).length := by
    rcases Nat.eq_zero_or_pos (ZE s).length with h|h
    ·rw [h, h0] at hn2;cases hn2
    ·exact h
   rw [if_pos hpos, if_pos (by rw [h0];rfl)]
   (refine wkS1 ?_;intros)
   refine e_1 Tryz.results103 (Qb rfl) (Qd ?_)
   rw [htk]
  ·have h0 : letB (s.getD 0 0) = false := by simpa using h0
   rw [h0] at hlet
   by_cases hpos : 0 < (ZE s).length
   ·rw [if_pos hpos]
    by_cases hN : qx (ZE s) = true
    ·rw [hN] at hnm
     rw [if_pos (show (letB (s.getD 0 0) || qx (ZE s)) = true by rw [hN];simp)]
     (refine wkS1 ?_;intros)
     refine e_1 Tryz.results103 (Qb rfl) (Qd ?_)
     rw [htk]
    ·have hN2 : qx (ZE s) = false := by simpa using hN
     rw [hN2] at hnm
     rw [if_neg (show ¬ (letB (s.getD 0 0) || qx (ZE s)) = true by rw [hN2, h0];simp)]
     (refine wkS1 ?_;intros)
     refine e_1 Tryz.results103 (Qb rfl) (Qd ?_)
     all_goals rfl
   ·rw [if_neg hpos]
    have hz : (ZE s).length = 0 := by omega
    rcases find_idx (s := s) with ⟨h1, h2⟩|⟨i, hi, h1, h2⟩
    ·rw [h1] at hix
     rw [h2]
     (refine wkS1 ?_;intros)
     refine e_1 Tryz.results103 (Qb rfl) (Qd ?_)
     all_goals rfl
    ·rw [h1] at hix
     rw [<- h2]
     have hi2 : i < 24 := by simpa [signsT] using hi
     (refine wkS1 ?_;intros)
     refine e_1 Tryz.results103 (Qb rfl) (Qd ?_)
     all_goals rfl
 ·have hN0 : (ZE s).length = s.length := by omega
  by_cases hpos : 0 < (ZE s).length
  ·rw [if_pos hpos]
   by_cases h0 : letB (s.getD 0 0) = true
   ·rw [h0] at hlet
    rw [if_pos (by rw [h0];rfl)]
    (refine wkS1 ?_;intros)
    refine e_1 Tryz.results103 (Qb rfl) (Qd ?_)
    rw [htk]
   ·have h0 : letB (s.getD 0 0) = false := by simpa using h0
    rw [h0] at hlet
    by_cases hN : qx (ZE s) = true
    ·rw [hN] at hnm
     rw [if_pos (show (letB (s.getD 0 0) || qx (ZE s)) = true by rw [hN];simp)]
     (refine wkS1 ?_;intros)
     refine e_1 Tryz.results103 (Qb rfl) (Qd ?_)
     rw [htk]
    ·have hN2 : qx (ZE s) = false := by simpa using hN
     rw [hN2] at hnm
     rw [if_neg (show ¬ (letB (s.getD 0 0) || qx (ZE s)) = true by rw [hN2, h0];simp)]
     (refine wkS1 ?_;intros)
     refine e_1 Tryz.results103 (Qb rfl) (Qd ?_)
     all_goals rfl
  ·rw [if_neg hpos]
   have hz : (ZE s).length = 0 := by omega
   rcases find_idx (s := s) with ⟨h1, h2⟩|⟨i, hi, h1, h2⟩
   ·rw [h1] at hix
    rw [h2]
    (refine wkS1 ?_;intros)
    refine e_1 Tryz.results103 (Qb rfl) (Qd ?_)
    all_goals rfl
   ·rw [h1] at hix
    rw [<- h2]
    have hi2 : i < 24 := by simpa [signsT] using hi
    (refine wkS1 ?_;intros)
    refine e_1 Tryz.results103 (Qb rfl) (Qd ?_)
    all_goals rfl
end Go.Proofs
end
section
namespace Go.Av
open Go.Bl
section
variable {P : Program} {G : Nat -> DV} {B : Nat} {f : Operand -> DV} {σ : List ABlk} {K : DV -> List ABlk -> Prop} {dst : Option Tmp} {type : TypeId} {pos : String} {after : Array Edge} {gd : Option (Nat × Bool)}
theorem wrap_u8 (a : Nat) (h : a < 256) : IntKind.u8.wrap (a : Int) = ((UInt8.ofNat a).toNat : Int) := by
 have h1 : (UInt8.ofNat a).toNat = a := by simp;omega
 rw [h1]
 simp only [IntKind.wrap, IntKind.signed, IntKind.bits]
 simp
 omega
theorem s_max {ts : Array TypeId} {x y : Operand} {k1 : IntKind} {a b : Int} (hx : f x = .sc (.int k1 a)) (hy : f y = .sc (.int k1 b)) (k : K (.sc (.int k1 (max a b))) σ) : OpSem P G B ⟨dst, .call ⟨.builtin .max, #[x, y], ts⟩, type, pos, after, gd⟩ f σ K := fun X ρ hS hσ _ _ hf => by
 subst hσ
 have e1 := hf x (by simp [Op.operands, Call.operands]);rw [hx] at e1
 have e2 := hf y (by simp [Op.operands, Call.operands]);rw [hy] at e2
 have : (Builtin.max_ ts type #[.int k1 a, .int k1 b]).run P X.w = .ok (.int k1 (max a b)) X.w := by
  simp only [Builtin.max_, Builtin.max2, List.foldlM_cons, List.foldlM_nil, Sem.run_bind, Sem.run_pure, Result.andThen_ok]
  rw [Int.max_def];split <;> split <;> first|rfl|(congr 2;omega)
 simp only [execOp, resolve, invoke, builtin, List.map_toArray, List.map_cons, List.map_nil, Sem.run_bind, Sem.run_pure, Result.andThen_ok, VRep.sc_eq e1, VRep.sc_eq e2, this]
 exact Wn hS (.sc _) k
theorem s_conv_u8 {s d : TypeId} {x : Operand} {a : Int} {b : UInt8} {k1 : IntKind} {ds : TypeDesc} {g1 g2 : Bool} {z1 z2 : Nat} [hs : TyI P s ds g1 z1] [hd : TyI P d (.int .u8) g2 z2] (hx : f x = .sc (.int k1 a)) (h : IntKind.u8.wrap a = (b.toNat : Int)) (k : K (.u b) σ) :
  OpSem P G B ⟨dst, .convert s d x, type, pos, after, gd⟩ f σ K := s_conv hx (by rw [h];exact k)
theorem s_conv_bsl {s d e : TypeId} {g1 g2 g3 : Bool} {z1 z2 z3 : Nat} {x : Operand} {l : List UInt8} [hs : TyI P s (.slice e) g1 z1] [he : TyI P e (.int .u8) g2 z2] [hd : TyI P d .string g3 z3] (hx : f x = .sl 1 (u8s l)) (h0 : 0 < l.length) (k : K (Q2 l) σ) :
  OpSem P G B ⟨dst, .convert s d x, type, pos, after, gd⟩ f σ K := fun X ρ hS hσ _ _ hf => by
 subst hσ
 have e1 := hf x (by simp [Op.operands]);rw [hx] at e1
 obtain ⟨a, len, cap, fv, e4, h1, h2, h3, h4, h5⟩ := e1.sl_inv
 have hlen : len = l.length := by simpa [u8s] using h1
 subst hlen
 rcases h4 with h4|⟨b, o, rfl, h6⟩
 ·exfalso;have := congrArg List.length h4;simp [u8s] at this;subst this;simp at h0
 have hcell : ∀ i, i < l.length -> X.w.cell? ⟨b, o + i, none⟩ = some (.int .u8 ((l.map fun b => (b.toNat : Int)).getD i 0)) := fun i hi => by
  have hi' : (u8s l)[i]? = some (.sc (.int .u8 (l[i].toNat : Int))) := by simp [u8s, hi]
  rw [(AX.imm_lt (h6 i (by simpa [u8s] using hi))).2.2.2, VRep.sc_eq (h5 i _ hi')]
  simp [List.getD_eq_getElem?_getD, hi]
 have hrun := run_convert_bytes_arg (P := P) X.w s e hs.u he.u b o l.length cap (l.map fun b => (b.toNat : Int)) (by simp) (fun i hi => hcell i (by omega)) d hd.u
 have hstr : strOfNums (l.map fun b => (b.toNat : Int)) = ⟨l.toArray⟩ := by
  apply ByteArray.ext
  apply Array.toList_inj.1
  rw [strOfNums_data, List.map_map]
  show _ = l
  conv => rhs;rw [<- List.map_id l]
  apply List.map_congr_left
  intro x _
  simp
 rw [hstr] at hrun
 simp only [execOp, e4, hrun, Sem.run_bind, Sem.run_pure, Result.andThen_ok]
 exact Wn hS (.sc _) k
theorem s_conv_bsl1 {s d e : TypeId} {g1 g2 g3 : Bool} {z1 z2 z3 : Nat} {x : Operand} {b : UInt8} [hs : TyI P s (.slice e) g1 z1] [he : TyI P e (.int .u8) g2 z2] [hd : TyI P d .string g3 z3] (hx : f x = .sl 1 [.u b]) (k : K (Q2 [b]) σ) :
  OpSem P G B ⟨dst, .convert s d x, type, pos, after, gd⟩ f σ K := s_conv_bsl (l := [b]) hx (Nat.succ_pos _) k
end
section
variable {E : AX} {R : DV -> List ABlk -> Prop}
theorem Ze {d d2 : DV} {σ : List ABlk} (h : ∀ L v, VRep L d v -> VRep L d2 v) (k : AClose E R d2 σ) : AClose E R d σ := fun X v hσ hS hE hv => k X v hσ hS hE (h _ _ hv)
theorem Zj {L : Lay} {v : Value} {es : Nat} (h : VRep L (.sc (.slice none 0 0)) v) : VRep L (.sl es []) v := (Sub.nil es).rep h
theorem ZB {L : Lay} {v : Value} {d d' : DV} {r : List DV} (hd : ∀ v, VRep L d v -> VRep L d' v) (h : VRep L (.tup (d :: r)) v) : VRep L (.tup (d' :: r)) v := by
 cases h with|tup _ vs h1 h2 =>
 refine .tup _ _ (by simpa using h1) fun j e hj => ?_
 cases j with
 | zero => simp at hj;subst hj;exact hd _ (h2 0 _ rfl)
 | succ j => exact h2 (j + 1) e (by simpa using hj)
end
theorem r_loop3 {P : Program} {G : Nat -> DV} {E : AX} {n : Nat} {N : ASt -> Prop} {xs : List (Nat × (ASt -> Prop))} {R : ASt -> Prop} {st : ASt} {c : Code} {α β γ : Type} (I : α -> β -> γ -> ASt) (pre : α -> β -> γ -> Prop) (μ : α -> β -> γ -> Nat) (x0 : α) (y0 : β) (z0 : γ) (h0 : ALe st (I x0 y0 z0)) (hp0 : pre x0 y0 z0)
  (round : ∀ x y z, pre x y z -> WR P G E n c (fun st' => ∃ x' y' z', pre x' y' z' /\ μ x' y' z' < μ x y z /\ ALe st' (I x' y' z')) xs R (I x y z)) : WR P G E n (.loop c) N xs R st :=
 WY (fun s : α × β × γ => I s.1 s.2.1 s.2.2) (fun s => pre s.1 s.2.1 s.2.2) (fun s => μ s.1 s.2.1 s.2.2) (x0, y0, z0) h0 hp0 fun s hs a w hr => wp_mono (round s.1 s.2.1 s.2.2 hs a w hr) fun e a' w' ⟨st', hr', hq⟩ => ⟨st', hr', by
  cases e with
  | normal => obtain ⟨x', y', z', h1, h2, h3⟩ := hq;exact ⟨(x', y', z'), h1, h2, h3⟩
  | exit id => exact hq
  | ret => exact hq
  | goto l => exact hq
  | _ => exact hq⟩
section
variable {P : Program} {G : Nat -> DV} {B : Nat} {f : Operand -> DV} {σ : List ABlk} {K : DV -> List ABlk -> Prop} {dst : Option Tmp} {type : TypeId} {pos : String} {after : Array Edge} {gd : Option (Nat × Bool)}
theorem W6 {t t' : TypeId} {x y : Operand} {a b c : Int} (hx : f x = .sc (.int .i64 a)) (hy : f y = .sc (.int .i64 b)) (hc : a + b = c) (h : -9223372036854775808 <= c /\ c <= 9223372036854775807)
  (k : K (.sc (.int .i64 c)) σ) : OpSem P G B ⟨dst, .binOp .add t x y t', type, pos, after, gd⟩ f σ K :=
 ZU hx hy (by rw [hc];exact h) (by rw [hc];exact k)
end
end Go.Av
end
section
namespace Go.Av
open Classical
section
variable {P : Program} {G : Nat -> DV} {E : AX} {R : DV -> List ABlk -> Prop}
def OwnT (P : Program) (G : Nat -> DV) (f : FuncId) (args : List DV) (len es : Nat) (cs : List DV) (u : Value) : Prop := ∀ B, ACalls P G B f args [] (fun d' σ' => ∃ g, B < g /\ d' = .tup [.ref 0 g 0 len es, .sc u] /\ σ' = [.row g cs])
theorem renl_clo1 {q : Nat -> Nat} : ∀ {l : List DV}, (∀ d ∈ l, d.clo = true) -> RenL (RenD q) l l
 | [], _ => .nil
 | d :: r, h => .cons (.s (.clo (h d (by simp)))) (renl_clo1 fun e he => h e (by simp [he]))
theorem OwnT.lift {f : FuncId} {args : List DV} {len es : Nat} {cs : List DV} {u : Value} (h : OwnT P G f args len es cs u) (ha : ∀ d ∈ args, d.clo = true) (hc : ∀ d ∈ cs, d.clo = true) {B : Nat} {σ : List ABlk} : ACalls P G B f args σ (fun d' σ' => ∃ g, B < g /\ d' = .tup [.ref σ.length g 0 len es, .sc u] /\ σ' = σ ++ [.row g cs]) := by
 refine ACalls.sub (ps := []) (τ := []) (R := fun B' d' τ' => ∃ g, B' < g /\ d' = .tup [.ref 0 g 0 len es, .sc u] /\ τ' = [.row g cs]) (renl_clo1 ha) List.nodup_nil rfl (fun i hi => absurd hi (Nat.not_lt_zero _)) (fun B' _ _ => h B') fun B' d' τ' hB ⟨g, hg, e1, e2⟩ => ?_
 subst e1 e2
 refine ⟨.tup [.ref σ.length g 0 len es, .sc u], σ ++ [.row g cs], ⟨.tup (.cons (.ref rfl) (.cons (.clo Wj) .nil)), Nat.zero_le _, by simp, fun j hj _ => by rw [List.getElem?_append_left hj], fun i B' hB' => ?_⟩, g, by omega, rfl, rfl⟩
 cases i with
 | zero =>
  simp at hB';subst hB'
  exact ⟨.row g cs, by show (σ ++ [ABlk.row g cs])[σ.length + (0 - 0)]? = _;simp, .rowc hc⟩
 | succ i => simp at hB'
variable {B : Nat} {f : Operand -> DV} {σ : List ABlk} {K : DV -> List ABlk -> Prop} {dst : Option Tmp} {type : TypeId} {pos : String} {after : Array Edge} {gd : Option (Nat × Bool)}
theorem s_call_ot {args : Array Operand} {ts : Array TypeId} {fid : FuncId} {ds cs : List DV} {len es : Nat} {u : Value} [FnOk P fid] (hx : f (.func fid) = .fn (.func fid) [] []) (hds : reL (args.toList.map f) = some ds) (h : OwnT P G fid ds len es cs u) (ha : ∀ d ∈ ds, d.clo = true) (hc : ∀ d ∈ cs, d.clo = true) (k : ∀ g, B < g -> K (.tup [.ref σ.length g 0 len es, .sc u]) (σ ++ [.row g cs])) :
  OpSem P G B ⟨dst, .call ⟨.value (.func fid), args, ts⟩, type, pos, after, gd⟩ f σ K := s_call hx hds ((h.lift ha hc).mono fun _ _ ⟨g, hg, h1, h2⟩ => by rw [h1, h2];exact k g hg)
theorem c_own_fst {k g len es len' es' : Nat} {cs cs' : List DV} {σ : List ABlk} {u u' : Value} (hk : σ[k]? = some (.row g cs)) (h1 : len' = len) (h2 : cs' = cs) (h3 : es' = es) (h4 : u' = u) : AClose E (fun d' σ' => ∃ g, E.N < g /\ d' = .tup [.ref 0 g 0 len' es', .sc u'] /\ σ' = [.row g cs']) (.tup [.ref k g 0 len es, .sc u]) σ := fun X v hσ hS hE hv => by
 subst h1 h2 h3 h4
 cases hv with|tup _ vs hl hg =>
 have hv0 := hg 0 _ rfl
 have hv1 := hg 1 _ rfl
 obtain ⟨Y, e1, e2, e3, d', e4, e5⟩ := c_own (E := E) (R := fun d' σ' => ∃ g, E.N < g /\ d' = .ref 0 g 0 len' es' /\ σ' = [.row g cs']) (m := 0) (Nat.zero_le _) hk (fun g' hg' => ⟨g', hg', rfl, rfl⟩) X _ hσ hS hE hv0
 obtain ⟨g', k1, k2, k3⟩ := e5
 subst k2
 refine ⟨Y, e1, e2, e3, _, ?_, g', k1, rfl, k3⟩
 refine .tup _ _ hl fun j e hj => ?_
 match j with
 | 0 => simp at hj;subst hj;exact e4
 | 1 =>
  simp at hj;subst hj
  generalize vs.getD 1 undef = w at hv1 ⊢
  cases hv1;exact .sc _
 | j + 2 => simp at hj
theorem c_nil_fst {es len' es' : Nat} {cs' : List DV} {σ : List ABlk} {u u' : Value} (h1 : len' = 0) (h2 : cs' = []) (h3 : es' = es) (h4 : u' = u) : AClose E (fun d' σ' => ∃ g, E.N < g /\ d' = .tup [.ref 0 g 0 len' es', .sc u'] /\ σ' = [.row g cs']) (.tup [.sc (.slice none 0 0), .sc u]) σ := fun X v hσ hS hE hv => by
 subst h1 h2 h3 h4 hσ
 have hob : ∀ b nn, (none : Option (Nat × Nat)) = some (b, nn) -> X.w.heap.size <= b := fun _ _ h => by cases h
 have hEx := WExt.push hS (Keep.refl X.w) (B := .row (X.N + 1) []) rfl hob
 refine c_own_fst (k := X.σ.length) (g := X.N + 1) (len := 0) (es := es') (cs := []) (σ := X.σ ++ [.row (X.N + 1) []]) (by simp) rfl rfl rfl rfl (X.push X.w none (.row (X.N + 1) [])) v rfl (hS.push (Keep.refl X.w) rfl hob rfl) (hE.trans hEx) ?_
 cases hv with|tup _ vs hl hg =>
 have hv0 := hg 0 _ rfl
 have hv1 := hg 1 _ rfl
 refine .tup _ _ hl fun j e hj => ?_
 match j with
 | 0 =>
  simp at hj;subst hj
  rw [VRep.sc_eq hv0]
  refine .ref _ _ _ _ _ _ _ _ (Nat.le_refl _) fun ob hobb => ?_
  rw [AX.row_mk (AX.push_live.2 (.inr ⟨rfl, rfl⟩))] at hobb
  simp only [AX.push, if_true, Option.some.injEq] at hobb
  subst hobb
  exact ⟨rfl, rfl, rfl⟩
 | 1 =>
  simp at hj;subst hj
  generalize vs.getD 1 undef = w at hv1 ⊢
  cases hv1;exact .sc _
 | j + 2 => simp at hj
theorem c_own_fstB {B k g len es len' es' : Nat} {cs cs' : List DV} {σ : List ABlk} {u u' : Value} (hB : B <= E.N) (hk : σ[k]? = some (.row g cs)) (h1 : len' = len) (h2 : cs' = cs) (h3 : es' = es) (h4 : u' = u) : AClose E (fun d' σ' => ∃ g, B < g /\ d' = .tup [.ref 0 g 0 len' es', .sc u'] /\ σ' = [.row g cs']) (.tup [.ref k g 0 len es, .sc u]) σ := fun X v hσ hS hE hv => by
 obtain ⟨Y, e1, e2, e3, d', e4, g', k1, k2⟩ := c_own_fst hk h1 h2 h3 h4 X v hσ hS hE hv
 exact ⟨Y, e1, e2, e3, d', e4, g', by omega, k2⟩
theorem c_nil_fstB {B es len' es' : Nat} {cs' : List DV} {σ : List ABlk} {u u' : Value} (hB : B <= E.N) (h1 : len' = 0) (h2 : cs' = []) (h3 : es' = es) (h4 : u' = u) : AClose E (fun d' σ' => ∃ g, B < g /\ d' = .tup [.ref 0 g 0 len' es', .sc u'] /\ σ' = [.row g cs']) (.tup [.sc (.slice none 0 0), .sc u]) σ := fun X v hσ hS hE hv => by
 obtain ⟨Y, e1, e2, e3, d', e4, g', k1, k2⟩ := c_nil_fst h1 h2 h3 h4 X v hσ hS hE hv
 exact ⟨Y, e1, e2, e3, d', e4, g', by omega, k2⟩
theorem q7 {k g len es : Nat} {cs : List DV} {σ : List ABlk} {u : Value} (hk : σ[k]? = some (.row g cs)) (hl : len * es = cs.length) (h : AClose E R (.tup [.sl es cs, .sc u]) (σ.set k .gone)) : AClose E R (.tup [.ref k g 0 len es, .sc u]) σ := fun X v hσ hS hE hv => by
 subst hσ
 refine h { X with σ := X.σ.set k .gone } v rfl (sto_gone hS k) (hE.trans (qo k)) ?_
 cases hv with|tup _ vs hl2 hg =>
 have hv0 := hg 0 _ rfl
 have hv1 := hg 1 _ rfl
 refine .tup _ _ hl2 fun j e hj => ?_
 match j with
 | 0 => simp at hj;subst hj;exact pub_rep hS hk hl hv0
 | 1 =>
  simp at hj;subst hj
  generalize vs.getD 1 undef = w at hv1 ⊢
  cases hv1;exact .sc _
 | j + 2 => simp at hj
end
end Go.Av
end
section
namespace Go.Proofs
open Go.Av
variable {G : Nat -> DV}
attribute [local irreducible] OpSem WR Zc Zp ACalls ZS AClose RV
open Go.Bl
structure Tk where
 t : List UInt8
 a : Nat
deriving DecidableEq
instance : Enc Tk where
 enc x := [Q2 x.t, .i x.a]
 es := 2
 len _ := rfl
 one _ d hd := by
  simp only [List.mem_cons, List.not_mem_nil, or_false] at hd
  rcases hd with rfl|rfl <;> rfl
 clo r d hd := by
  simp only [List.mem_cons, List.not_mem_nil, or_false] at hd
  rcases hd with rfl|rfl <;> exact Wj
 pos := by decide
def tks (l : List (List UInt8 × Nat)) : List Tk := l.map fun x => ⟨x.1, x.2⟩
theorem dw_drop (p : UInt8 -> Bool) : ∀ l : List UInt8, l.dropWhile p = l.drop (l.length - (l.dropWhile p).length)
 | [] => rfl
 | b :: r => by
  by_cases hb : p b = true
  ·rw [List.dropWhile_cons, if_pos hb]
   have h := dw_drop p r
   have hl := (List.dropWhile_sublist (l := r) p).length_le
   rw [List.length_cons, show r.length + 1 - (r.dropWhile p).length = (r.length - (r.dropWhile p).length) + 1 by omega, List.drop_succ_cons]
   exact h
  ·rw [List.dropWhile_cons, if_neg hb];simp
def ZT (s : List UInt8) (a : Nat) : Nat := a + ((s.drop a).length - ((s.drop a).dropWhile spB).length)
theorem skip_le (s : List UInt8) (a : Nat) (h : a <= s.length) : a <= ZT s a /\ ZT s a <= s.length := by
 have h1 := (List.dropWhile_sublist (l := s.drop a) spB).length_le
 unfold ZT
 rw [List.length_drop] at *
 omega
theorem skip_drop (s : List UInt8) (a : Nat) : (s.drop a).dropWhile spB = s.drop (ZT s a) := by
 rw [dw_drop, List.drop_drop];rfl
theorem scan_none {s : List UInt8} {a : Nat} (h : Wq (s.drop (ZT s a)) = []) : WL (s.drop a) a = ([], ZT s a) := by
 rw [WL]
 simp only
 rw [dif_pos (by rw [skip_drop];exact h)];rfl
theorem scan_some {s : List UInt8} {a : Nat} (h : ¬ Wq (s.drop (ZT s a)) = []) : WL (s.drop a) a = ((Wq (s.drop (ZT s a)), ZT s a) :: (WL (s.drop (ZT s a + (Wq (s.drop (ZT s a))).length)) (ZT s a + (Wq (s.drop (ZT s a))).length)).1, (WL (s.drop (ZT s a + (Wq (s.drop (ZT s a))).length)) (ZT s a + (Wq (s.drop (ZT s a))).length)).2) := by
 rw [WL]
 simp only
 rw [dif_neg (by rw [skip_drop];exact h)]
 have e : a + ((s.drop a).length - (s.drop (ZT s a)).length) = ZT s a := by rw [<- skip_drop];rfl
 rw [skip_drop, List.drop_drop, e]
theorem wkS2 {X W0 W1 W2 : Prop} (w0 : W0 := by exact True.intro) (w1 : W1 := by exact True.intro) (w2 : W2 := by exact True.intro) (s : (Unit -> W0) -> (Unit -> W1) -> (Unit -> W2) -> Unit -> X := by (intro w0 w1 w2 _;(repeat' first|(refine Qz ?_;(first|refine Ws rfl ?_|refine WM rfl ?_|(refine Qw ?_;(first|refine W6 rfl rfl hat2 ⟨by omega, by omega⟩ ?_|refine Zr rfl rfl ?_))|(refine QK ?_;(first|refine Zy (z := Tk.mk _ _) rfl rfl rfl rfl rfl rfl rfl (by first|omega|(simp;omega)) (by first|omega|(simp;omega)) (fun _ => rfl) (fun _ _ => ?_)|refine Zx rfl ?_|refine WA rfl rfl (hfc) ?_))|refine QB rfl rfl ?_|refine W5 rfl rfl (by decide) rfl ?_|refine s_sl rfl rfl ?_))|(refine We ?_;(first|refine Wb ?_|refine Zg rfl ?_))|(refine Wc ?_;(first|refine Q7 ?_|refine Qm ?_|refine QM ?_|(refine WC ?_;first|refine Q9 (by rfl) (by kernel_rfl) (by kernel_rfl) ?_|refine Q8 (by kernel_rfl) (by kernel_rfl) ?_)|refine QV ?_|refine QD rfl ?_|refine Qn rfl (by omega) ?_|refine Wi ?_))|(refine qM ?_;(first|refine x_op rfl (by (repeat' first|(refine Qz ?_;(first|refine Ws rfl ?_|refine WM rfl ?_|(refine Qw ?_;(first|refine W6 rfl rfl hat ⟨by omega, by omega⟩ ?_|refine qC rfl rfl (by omega) ?_))|(refine QK ?_;(first|refine Zx rfl ?_|refine WA rfl rfl (htl) ?_))|refine s_sl rfl rfl ?_))|exact ⟨rfl, rfl⟩)) ?_|refine qJ ?_)));all_goals (repeat (rename_i x;(fail_if_success have : Unit := x);revert x));(first|done|exact w0 ());(first|done|exact w1 ());(first|done|exact w2 ()))) (u : (W0 \/ True) /\ (W1 \/ True) /\ (W2 \/ True) := by (refine ⟨?_, ?_, ?_⟩ <;> first|exact Or.inl True.intro|exact Or.inr True.intro)) : X := s (fun _ => w0) (fun _ => w1) (fun _ => w2) ()
theorem scan_c (hG1 : G 1 = spaceT) (s : List UInt8) (hs : s.length <= 1000000) : Go.Av.Pure Tryz.prog G 58 [Q2 s] (.tup [Qo (tks (WL s 0).1), .i (WL s 0).2]) := fun B => by
 refine Qa Tryz.func58 rfl Tryz.ntmps58 rfl (t := [(0, Q2 s)]) rfl fun E hE => ?_
 (refine wkS2 ?_;intros)
 refine r_own 4 2 rfl fun gO hgO => ?_
 refine r_loop3 (fun (o : List Tk) (a : Nat) (g : Nat) => ⟨[(0, Q2 s), (4, .ref 0 g 0 o.length 2), (5, .i a)], [.row g (Wf o)]⟩) (fun o a g => a <= s.length /\ o.length <= a /\ E.N < g /\ tks (WL s 0).1 = o ++ tks (WL (s.drop a) a).1 /\ (WL s 0).2 = (WL (s.drop a) a).2) (fun o a g => s.length - a) [] 0 gO ?_ ⟨by omega, by simp, hgO, by simp, by simp⟩ ?_
 ·exact zal rfl
 intro o a g ⟨ha, hoa, hg, h1, h2⟩
 obtain ⟨k1, k2⟩ := skip_le s a ha
 have htl := trimLeft_c (G := G) (s.drop a) [32, 10] (by decide) (by decide)
 have hdl : (s.drop a).length = s.length - a := List.length_drop
 have hdl2 : (s.drop (ZT s a)).length = s.length - ZT s a := List.length_drop
 have htr : Lib.trimLeftS (s.drop a) [32, 10] = s.drop (ZT s a) := skip_drop s a
 rw [htr] at htl
 have hat : (a : Int) + (((s.drop a).length : Int) - ((s.drop (ZT s a)).length : Int)) = (ZT s a : Nat) := by omega
 have hfc := first_c (G := G) hG1 (s.drop (ZT s a)) (by omega)
 have hfl := firstM_le (s.drop (ZT s a))
 by_cases ht : Wq (s.drop (ZT s a)) = []
 ·rw [scan_none ht] at h1 h2
  rw [ht] at hfc
  (refine wkS2 ?_;intros)
  exact e_2 (Tryz.results58) (Qb rfl) (Qb rfl) (q7 rfl (by rw [Qx];try rfl) (Qd (by rw [h1, h2];simp [tks];try rfl)))
 ·rw [scan_some ht] at h1 h2
  generalize htk : Wq (s.drop (ZT s a)) = t at *
  have htp : 0 < t.length := by cases t with|nil => exact absurd rfl ht|cons b r => simp
  have hat2 : (ZT s a : Int) + (t.length : Int) = (ZT s a + t.length : Nat) := by omega
  generalize ZT s a = a2 at *
  have hne : decide (t = []) = false := decide_eq_false ht
  (refine wkS2 ?_;intros)
  refine ⟨o ++ [Tk.mk t a2], a2 + t.length, _, ⟨by omega, by simp;omega, by assumption, by rw [h1];simp [tks], h2⟩, by omega, ?_⟩
  exact zal rfl
end Go.Proofs
end
section
namespace Go.Av
open Go.Bl Go.Proofs
section
variable {P : Program} {G : Nat -> DV}
def CE (P : Program) (G : Nat -> DV) (f : FuncId) (aa : Nat -> Nat -> List DV) (cs : List DV) (res : DV) (cs' : List DV) : Prop :=
 ∀ g B, g <= B -> ACalls P G B f (aa 0 g) [.row g cs] (fun d' τ' => d' = res /\ τ' = [.row g cs'])
theorem CE.conv {f : FuncId} {aa : Nat -> Nat -> List DV} {cs cs' c2 : List DV} {res r2 : DV} (h : CE P G f aa cs res cs') (h1 : res = r2) (h2 : cs' = c2) : CE P G f aa cs r2 c2 := by subst h1;subst h2;exact h
def CO (P : Program) (G : Nat -> DV) (f : FuncId) (aa : Nat -> Nat -> List DV) (cs : List DV) (D : DV -> DV) (len es : Nat) (ks cs' : List DV) : Prop :=
 ∀ g B, g <= B -> ACalls P G B f (aa 0 g) [.row g cs] (fun d' τ' => ∃ g', B < g' /\ d' = D (.ref 1 g' 0 len es) /\ τ' = [.row g cs', .row g' ks])
variable {B : Nat} {f : Operand -> DV} {σ : List ABlk} {K : DV -> List ABlk -> Prop} {dst : Option Tmp} {type : TypeId} {pos : String} {after : Array Edge} {gd : Option (Nat × Bool)}
theorem CE.lift {fid : FuncId} {aa : Nat -> Nat -> List DV} {cs cs' : List DV} {res : DV} {k g : Nat} {es : List DV} {σ' : List ABlk} (h : CE P G fid aa cs res cs') (hes : es = aa k g) (hk : σ[k]? = some (.row g cs)) (hc : ∀ d ∈ cs, d.clo = true) (hc' : ∀ d ∈ cs', d.clo = true)
  (hargs : RenL (RenD (qf [k] σ.length)) (aa k g) (aa 0 g)) (hres : res.clo = true) (hσ' : qg σ [k] [.row g cs'] = some σ') : ACalls P G B fid es σ (fun d τ => d = res /\ τ = σ') := by
 subst hes
 have hpick : pickA σ [k] = some [.row g cs] := by simp only [pickA, hk]
 obtain ⟨hp1, hp2⟩ := pickA_eq hpick
 refine ACalls.sub (R := fun B d' τ' => d' = res /\ τ' = [.row g cs']) hargs (by simp) rfl (fun i hi => ?_) (fun B' hB hg => h g B' (hg 0 _ _ rfl rfl)) ?_
 ·obtain ⟨b, e1, e2⟩ := hp2 i hi
  have hi2 : i = 0 := by simpa using hi
  subst hi2
  simp at e2
  exact ⟨b, .row g cs, e1, rfl, by rw [<- e2];exact .rowc hc⟩
 ·rintro B' d' τ' hB ⟨rfl, rfl⟩
  exact ⟨d', σ', Out.of (.s (.clo hres)) (by simp) rfl (.cons (.rowc hc') .nil) hσ', rfl, rfl⟩
theorem s_call_ce {args : Array Operand} {ts : Array TypeId} {fid : FuncId} {aa : Nat -> Nat -> List DV} {cs cs' : List DV} {res : DV} {k g : Nat} {es : List DV} {σ' : List ABlk} [FnOk P fid] (h : CE P G fid aa cs res cs') (hx : f (.func fid) = .fn (.func fid) [] []) (hds : reL (args.toList.map f) = some es) (hes : es = aa k g) (hk : σ[k]? = some (.row g cs)) (hc : ∀ d ∈ cs, d.clo = true) (hc' : ∀ d ∈ cs', d.clo = true)
  (hargs : RenL (RenD (qf [k] σ.length)) (aa k g) (aa 0 g)) (hres : res.clo = true) (hσ' : qg σ [k] [.row g cs'] = some σ') (kk : K res σ') :
  OpSem P G B ⟨dst, .call ⟨.value (.func fid), args, ts⟩, type, pos, after, gd⟩ f σ K := s_call hx hds ((h.lift hes hk hc hc' hargs hres hσ').mono fun _ _ ⟨e1, e2⟩ => by rw [e1, e2];exact kk)
theorem s_callv_ce {x : Operand} {args : Array Operand} {ts : Array TypeId} {fid : FuncId} {first cap : List DV} {aa : Nat -> Nat -> List DV} {cs cs' : List DV} {res : DV} {k g : Nat} {es : List DV} {σ' : List ABlk} [FnOk P fid] (h : CE P G fid aa cs res cs') (hx : f x = .fn (.func fid) first cap) (hds : reL (first ++ args.toList.map f ++ cap) = some es) (hes : es = aa k g) (hk : σ[k]? = some (.row g cs)) (hc : ∀ d ∈ cs, d.clo = true) (hc' : ∀ d ∈ cs', d.clo = true)
  (hargs : RenL (RenD (qf [k] σ.length)) (aa k g) (aa 0 g)) (hres : res.clo = true) (hσ' : qg σ [k] [.row g cs'] = some σ') (kk : K res σ') :
  OpSem P G B ⟨dst, .call ⟨.value x, args, ts⟩, type, pos, after, gd⟩ f σ K := s_callv hx hds ((h.lift hes hk hc hc' hargs hres hσ').mono fun _ _ ⟨e1, e2⟩ => by rw [e1, e2];exact kk)
inductive FrmD : (DV -> DV) -> Prop
 | id : FrmD fun d => d
 | node {a b c : Value} : a.oneCell' = true -> b.oneCell' = true -> c.oneCell' = true -> FrmD fun d => .agg [.sc a, .sc b, .sc c, d]
theorem FrmD.ren {D : DV -> DV} (h : FrmD D) {q : Nat -> Nat} {d e : DV} (hr : RenS q d e) : RenD q (D d) (D e) := by
 cases h with
 | id => exact .s hr
 | node h1 h2 h3 => exact .agg (.cons (.clo Wj) (.cons (.clo Wj) (.cons (.clo Wj) (.cons hr .nil))))
theorem CO.lift {fid : FuncId} {aa : Nat -> Nat -> List DV} {cs cs' ks : List DV} {D : DV -> DV} {len es : Nat} {k g : Nat} {es0 : List DV} {σ' : List ABlk} (h : CO P G fid aa cs D len es ks cs') (hD : FrmD D) (hes : es0 = aa k g) (hk : σ[k]? = some (.row g cs)) (hc : ∀ d ∈ cs, d.clo = true) (hc' : ∀ d ∈ cs', d.clo = true) (hks : ∀ d ∈ ks, d.clo = true)
  (hargs : RenL (RenD (qf [k] σ.length)) (aa k g) (aa 0 g)) (hσ' : qg σ [k] [.row g cs'] = some σ') : ACalls P G B fid es0 σ (fun d τ => ∃ g', B < g' /\ d = D (.ref σ.length g' 0 len es) /\ τ = σ' ++ [.row g' ks]) := by
 subst hes
 have hpick : pickA σ [k] = some [.row g cs] := by simp only [pickA, hk]
 obtain ⟨hp1, hp2⟩ := pickA_eq hpick
 obtain ⟨k1, k2, k3, k4⟩ := setAll_eq hσ' (by simp)
 refine ACalls.sub (R := fun B d' τ' => ∃ g', B < g' /\ d' = D (.ref 1 g' 0 len es) /\ τ' = [.row g cs', .row g' ks]) hargs (by simp) rfl (fun i hi => ?_) (fun B' hB hg => h g B' (hg 0 _ _ rfl rfl)) ?_
 ·obtain ⟨b, e1, e2⟩ := hp2 i hi
  have hi2 : i = 0 := by simpa using hi
  subst hi2
  simp at e2
  exact ⟨b, .row g cs, e1, rfl, by rw [<- e2];exact .rowc hc⟩
 ·rintro B' d' τ' hB ⟨g', hg', rfl, rfl⟩
  have hkl : k < σ.length := (List.getElem?_eq_some_iff.1 hk).1
  refine ⟨D (.ref σ.length g' 0 len es), σ' ++ [.row g' ks], ⟨hD.ren (.ref (by rw [qf_out (by simp)];rfl)), by simp, by simp;omega, fun j hj hj2 => ?_, fun i b hb => ?_⟩, g', by omega, rfl, rfl⟩
  ·rw [List.getElem?_append_left (by omega)]
   exact k3 j hj2
  ·match i with
   | 0 =>
    simp at hb;subst hb
    refine ⟨.row g cs', ?_, .rowc hc'⟩
    rw [qf_in (by simp), List.getElem?_append_left (by simp;omega)]
    exact k4 0 (by simp)
   | 1 =>
    simp at hb;subst hb
    refine ⟨.row g' ks, ?_, .rowc hks⟩
    rw [qf_out (by simp), List.getElem?_append_right (by simp;omega)]
    simp [k2]
   | i + 2 => simp at hb
theorem s_call_co {args : Array Operand} {ts : Array TypeId} {fid : FuncId} {aa : Nat -> Nat -> List DV} {cs cs' ks : List DV} {D : DV -> DV} {len es : Nat} {k g : Nat} {es0 : List DV} {σ' : List ABlk} [FnOk P fid] (h : CO P G fid aa cs D len es ks cs') (hD : FrmD D) (hx : f (.func fid) = .fn (.func fid) [] []) (hds : reL (args.toList.map f) = some es0) (hes : es0 = aa k g) (hk : σ[k]? = some (.row g cs)) (hc : ∀ d ∈ cs, d.clo = true) (hc' : ∀ d ∈ cs', d.clo = true) (hks : ∀ d ∈ ks, d.clo = true)
  (hargs : RenL (RenD (qf [k] σ.length)) (aa k g) (aa 0 g)) (hσ' : qg σ [k] [.row g cs'] = some σ') (kk : ∀ g', B < g' -> K (D (.ref σ.length g' 0 len es)) (σ' ++ [.row g' ks])) :
  OpSem P G B ⟨dst, .call ⟨.value (.func fid), args, ts⟩, type, pos, after, gd⟩ f σ K := s_call hx hds ((h.lift hD hes hk hc hc' hks hargs hσ').mono fun _ _ ⟨g', hg, e1, e2⟩ => by rw [e1, e2];exact kk g' hg)
variable {E : AX} {R R2 : DV -> List ABlk -> Prop}
theorem ACalls.close {f : FuncId} {args : List DV} {σ : List ABlk} {B : Nat} (h : ACalls P G B f args σ R) (k : ∀ E d σ', B <= E.N -> R d σ' -> AClose E R2 d σ') : ACalls P G B f args σ R2 := fun X vs hS hσ hB hG hv => by
 refine (h X vs hS hσ hB hG hv).mono ?_
 rintro e w' ⟨v, he, Y, hw, hY, hE, d', hr, hR⟩
 subst hw
 exact ⟨v, he, k X d' Y.σ hB hR Y v rfl hY hE hr⟩
theorem AClose.mono {d : DV} {σ : List ABlk} (h : AClose E R d σ) (k : ∀ d' σ', R d' σ' -> R2 d' σ') : AClose E R2 d σ := fun X v hσ hS hE hv => by
 obtain ⟨Y, e1, e2, e3, d', e4, e5⟩ := h X v hσ hS hE hv
 exact ⟨Y, e1, e2, e3, d', e4, k _ _ e5⟩
theorem FrmD.close {D : DV -> DV} (hD : FrmD D) {d : DV} {σ : List ABlk} (h : AClose E R d σ) (h1 : ∀ d0 σ', R d0 σ' -> d0.one = true) : AClose E (fun d' σ' => ∃ d0, R d0 σ' /\ d' = D d0) (D d) σ := by
 cases hD with
 | id => exact h.mono fun d' σ' hr => ⟨d', hr, rfl⟩
 | @node a b c ha hb hc =>
  intro X v hσ hS hE hv
  cases hv with|agg _ vs hl ho hg =>
  obtain ⟨Y, e1, e2, e3, d0, e4, e5⟩ := h X _ hσ hS hE (hg 3 _ rfl)
  have g0 := hg 0 _ rfl
  have g1 := hg 1 _ rfl
  have g2 := hg 2 _ rfl
  refine ⟨Y, e1, e2, e3, _, ?_, d0, e5, rfl⟩
  refine .agg _ _ hl (fun e he => ?_) fun j e hj => ?_
  ·simp only [List.mem_cons, List.not_mem_nil, or_false] at he
   rcases he with rfl|rfl|rfl|rfl
   ·exact ha
   ·exact hb
   ·exact hc
   ·exact h1 _ _ e5
  ·match j with
   | 0 => simp at hj;subst hj;generalize vs.getD 0 undef = w at g0 ⊢;cases g0;exact .sc _
   | 1 => simp at hj;subst hj;generalize vs.getD 1 undef = w at g1 ⊢;cases g1;exact .sc _
   | 2 => simp at hj;subst hj;generalize vs.getD 2 undef = w at g2 ⊢;cases g2;exact .sc _
   | 3 => simp at hj;subst hj;exact e4
   | j + 4 => simp at hj
theorem ZI {g : Nat} {d res : DV} {cs' c2 : List DV} {r : List ABlk} (hd : d = res) (hc : c2 = cs') : AClose E (fun d' τ' => d' = res /\ τ' = [.row g cs']) d (.row g c2 :: r) := by
 subst hc
 exact WV (σ := [_]) ⟨hd, rfl⟩
theorem c_co {D D2 : DV -> DV} {B k g gk len len2 es es2 : Nat} {cs' c2 ks k2 : List DV} {r : List ABlk} (hD : FrmD D) (hB : B <= E.N) (hk1 : 1 <= k) (hk : (ABlk.row g c2 :: r)[k]? = some (.row gk k2)) (hDD : D2 = D) (hl : len2 = len) (he : es2 = es) (hks : k2 = ks) (hc : c2 = cs') :
  AClose E (fun d' τ' => ∃ g', B < g' /\ d' = D (.ref 1 g' 0 len es) /\ τ' = [.row g cs', .row g' ks]) (D2 (.ref k gk 0 len2 es2)) (.row g c2 :: r) := by
 subst hDD hl he hks hc
 refine (hD.close (c_own (m := 1) (R := fun d' τ' => ∃ g', B < g' /\ d' = .ref 1 g' 0 len2 es2 /\ τ' = [.row g c2, .row g' k2]) hk1 hk fun g' hg' => ⟨g', by omega, rfl, rfl⟩) ?_).mono ?_
 ·rintro d0 σ' ⟨g', _, rfl, _⟩;rfl
 ·rintro d' σ' ⟨d0, ⟨g', h1, rfl, h3⟩, rfl⟩
  exact ⟨g', h1, rfl, h3⟩
theorem c_nil1 {B g es : Nat} {c2 : List DV} {r : List ABlk} (hB : B <= E.N) : AClose E (fun d' τ' => ∃ g', B < g' /\ d' = .ref 1 g' 0 0 es /\ τ' = [.row g c2, .row g' []]) (.sc (.slice none 0 0)) (.row g c2 :: r) := fun X v hσ hS hE hv => by
 have hob : ∀ b nn, (none : Option (Nat × Nat)) = some (b, nn) -> X.w.heap.size <= b := fun _ _ h => by cases h
 have hEx := WExt.push hS (Keep.refl X.w) (B := .row (X.N + 1) []) rfl hob
 have hlen : X.σ.length = r.length + 1 := by rw [hσ];rfl
 refine c_own (m := 1) (k := X.σ.length) (g := X.N + 1) (off := 0) (len := 0) (es := es) (cs := []) (σ := .row g c2 :: (r ++ [.row (X.N + 1) []])) (R := fun d' τ' => ∃ g', B < g' /\ d' = .ref 1 g' 0 0 es /\ τ' = [.row g c2, .row g' []]) (by omega) (by rw [hlen];simp) (fun g' hg' => ⟨g', by omega, rfl, rfl⟩) (X.push X.w none (.row (X.N + 1) [])) v (by simp only [AX.push, hσ];rfl) (hS.push (Keep.refl X.w) rfl hob rfl) (hE.trans hEx) ?_
 rw [VRep.sc_eq hv]
 refine .ref _ _ _ _ _ _ _ _ (Nat.le_refl _) fun ob hobb => ?_
 rw [AX.row_mk (AX.push_live.2 (.inr ⟨rfl, rfl⟩))] at hobb
 simp only [AX.push, if_true, Option.some.injEq] at hobb
 subst hobb
 exact ⟨rfl, rfl, rfl⟩
theorem c_co_nil {D D2 : DV -> DV} {B g len es : Nat} {cs' c2 ks : List DV} {r : List ABlk} (hD : FrmD D) (hB : B <= E.N) (hDD : D2 = D) (hl : len = 0) (hks : ks = []) (hc : c2 = cs') :
  AClose E (fun d' τ' => ∃ g', B < g' /\ d' = D (.ref 1 g' 0 len es) /\ τ' = [.row g cs', .row g' ks]) (D2 (.sc (.slice none 0 0))) (.row g c2 :: r) := by
 subst hDD hl hks hc
 refine (hD.close (c_nil1 (es := es) hB) ?_).mono ?_
 ·rintro d0 σ' ⟨g', _, rfl, _⟩;rfl
 ·rintro d' σ' ⟨d0, ⟨g', h1, rfl, h3⟩, rfl⟩
  exact ⟨g', h1, rfl, h3⟩
theorem CO.pub {fid : FuncId} {aa : Nat -> Nat -> List DV} {cs cs' ks : List DV} {D : DV -> DV} {len es : Nat} (h : CO P G fid aa cs D len es ks cs') (hD : FrmD D) (hl : len * es = ks.length) : CE P G fid aa cs (D (.sl es ks)) cs' := fun g B hg => by
 refine (h g B hg).close ?_
 rintro E d σ' hB ⟨g', hg', rfl, rfl⟩
 refine (hD.close (c_pub (k := 1) (g := g') (cs := ks) (R := fun d' τ' => d' = .sl es ks /\ τ' = [.row g cs']) rfl hl (WV (σ := [.row g cs']) (r := [.gone]) ⟨rfl, rfl⟩)) ?_).mono ?_
 ·rintro d0 σ' ⟨rfl, _⟩;rfl
 ·rintro d' σ' ⟨d0, ⟨rfl, h3⟩, rfl⟩
  exact ⟨rfl, h3⟩
end
section
theorem Wh (k : Nat) {P : Program} {G : Nat -> DV} {B : Nat} {f : Operand -> DV} {σ : List ABlk} {K : DV -> List ABlk -> Prop} {dst : Option Tmp} {type : TypeId} {pos : String} {after : Array Edge} {gd : Option (Nat × Bool)} {args : Array Operand} {ts : Array TypeId} {fid : FuncId} {aa : Nat -> Nat -> List DV} {cs cs' : List DV} {res : DV} {g : Nat} {es : List DV} {σ' : List ABlk} [FnOk P fid] (h : CE P G fid aa cs res cs') (hx : f (.func fid) = .fn (.func fid) [] []) (hds : reL (args.toList.map f) = some es) (hes : es = aa k g) (hk : σ[k]? = some (.row g cs)) (kk : K res σ') (hc : ∀ d ∈ cs, d.clo = true := by repeat' first|exact Zb|refine Ww ?_ ?_|exact Wj|exact WB _|exact WH (Qy _)) (hc' : ∀ d ∈ cs', d.clo = true := by repeat' first|exact Zb|refine Ww ?_ ?_|exact Wj|exact WB _|exact WH (Qy _))
  (hargs : RenL (RenD (qf [k] σ.length)) (aa k g) (aa 0 g) := by repeat' first|exact .nil|refine .cons ?_ ?_|exact .s (.mp rfl)|exact .s (.ptr rfl)|exact .s (.ref rfl)|exact .fn (by repeat' first|exact .nil|refine .cons ?_ ?_|exact .ptr rfl|exact .mp rfl|exact .clo Wj) (by repeat' first|exact .nil|refine .cons ?_ ?_|exact .ptr rfl|exact .mp rfl|exact .clo Wj)|exact .s (.clo (by (repeat' first|exact Enc.clo _|exact Wj|exact WB _|exact WH (Qy _)|exact Qy _|refine qi ?_ ?_|refine Z3 ?_|refine W4 ?_|refine WS ?_|exact Zb|refine Ww ?_ ?_|refine WH ?_);done))) (hres : res.clo = true := by (repeat' first|exact Enc.clo _|exact Wj|exact WB _|exact WH (Qy _)|exact Qy _|refine qi ?_ ?_|refine Z3 ?_|refine W4 ?_|refine WS ?_|exact Zb|refine Ww ?_ ?_|refine WH ?_);done) (hσ' : qg σ [k] [.row g cs'] = some σ' := by rfl) :
  OpSem P G B ⟨dst, .call ⟨.value (.func fid), args, ts⟩, type, pos, after, gd⟩ f σ K := s_call_ce h hx hds hes hk hc hc' hargs hres hσ' kk
theorem s_co (k : Nat) {P : Program} {G : Nat -> DV} {B : Nat} {f : Operand -> DV} {σ : List ABlk} {K : DV -> List ABlk -> Prop} {dst : Option Tmp} {type : TypeId} {pos : String} {after : Array Edge} {gd : Option (Nat × Bool)} {args : Array Operand} {ts : Array TypeId} {fid : FuncId} {aa : Nat -> Nat -> List DV} {cs cs' ks : List DV} {D : DV -> DV} {len es : Nat} {g : Nat} {es0 : List DV} {σ' : List ABlk} [FnOk P fid] (h : CO P G fid aa cs D len es ks cs') (hD : FrmD D) (hx : f (.func fid) = .fn (.func fid) [] []) (hds : reL (args.toList.map f) = some es0) (hes : es0 = aa k g) (hk : σ[k]? = some (.row g cs)) (hks : ∀ d ∈ ks, d.clo = true) (kk : ∀ g', B < g' -> K (D (.ref σ.length g' 0 len es)) (σ' ++ [.row g' ks])) (hc : ∀ d ∈ cs, d.clo = true := by repeat' first|exact Zb|refine Ww ?_ ?_|exact Wj|exact WB _|exact WH (Qy _)) (hc' : ∀ d ∈ cs', d.clo = true := by repeat' first|exact Zb|refine Ww ?_ ?_|exact Wj|exact WB _|exact WH (Qy _))
  (hargs : RenL (RenD (qf [k] σ.length)) (aa k g) (aa 0 g) := by repeat' first|exact .nil|refine .cons ?_ ?_|exact .s (.mp rfl)|exact .s (.ptr rfl)|exact .s (.ref rfl)|exact .fn (by repeat' first|exact .nil|refine .cons ?_ ?_|exact .ptr rfl|exact .mp rfl|exact .clo Wj) (by repeat' first|exact .nil|refine .cons ?_ ?_|exact .ptr rfl|exact .mp rfl|exact .clo Wj)|exact .s (.clo (by (repeat' first|exact Enc.clo _|exact Wj|exact WB _|exact WH (Qy _)|exact Qy _|refine qi ?_ ?_|refine Z3 ?_|refine W4 ?_|refine WS ?_|exact Zb|refine Ww ?_ ?_|refine WH ?_);done))) (hσ' : qg σ [k] [.row g cs'] = some σ' := by rfl) :
  OpSem P G B ⟨dst, .call ⟨.value (.func fid), args, ts⟩, type, pos, after, gd⟩ f σ K := s_call_co h hD hx hds hes hk hc hc' hks hargs hσ' kk
end
end Go.Av
end
section
namespace Go.Proofs
open Go.Av Go.Bl
structure RS where
 p : Nat
 bad : Bool
deriving DecidableEq
abbrev W7 := List (List UInt8 × Nat)
def QH (L : W7) (S : RS) : List UInt8 := if S.bad = true then [] else (L.getD S.p ([], 0)).1
def WJ (S : RS) : RS := ⟨S.p, true⟩
def Qi (S : RS) : RS := ⟨S.p + 1, S.bad⟩
def haveM (L : W7) (s : List UInt8) (S : RS) : Bool × RS := if QH L S = s then (true, Qi S) else (false, S)
def QC (L : W7) (s : List UInt8) (S : RS) : RS := if QH L S = s then Qi S else WJ S
def valM (s : List UInt8) : Int := (Lib.atoi s).getD 0
def Qh (L : W7) (S : RS) : Int × RS := if qx (QH L S) = true then (valM (QH L S), Qi S) else (0, WJ S)
def isM (L : W7) (c : UInt8) (S : RS) : Bool := Lib.hasPrefix (QH L S) [c] && qx ((QH L S).drop 1)
def Qf (L : W7) (c : UInt8) (S : RS) : Int × RS := if isM L c S = true then (valM ((QH L S).drop 1), Qi S) else (0, WJ S)
def badI (S : RS) : Int := if S.bad = true then S.p else -1
def OkL (L : W7) : Prop := L.length <= 1000000 /\ ∀ x ∈ L, x.1 ≠ [] /\ x.1.length <= 1000000
theorem now_at {L : W7} {S : RS} (h : QH L S ≠ []) : S.bad = false /\ ∃ h : S.p < L.length, QH L S = (L[S.p]).1 := by
 unfold QH at h ⊢
 cases hb : S.bad with
 | true => rw [hb, if_pos rfl] at h;exact absurd rfl h
 | false =>
  rw [hb] at h
  simp only [Bool.false_eq_true, if_false] at h ⊢
  refine ⟨trivial, ?_⟩
  rcases Nat.lt_or_ge S.p L.length with h1|h1
  ·refine ⟨h1, ?_⟩
   rw [List.getD_eq_getElem?_getD, List.getElem?_eq_getElem h1];rfl
  ·rw [List.getD_eq_getElem?_getD, List.getElem?_eq_none h1] at h;exact absurd rfl h
theorem now_len {L : W7} (hL : OkL L) (S : RS) : (QH L S).length <= 1000000 := by
 by_cases h : QH L S = []
 ·rw [h];simp
 ·obtain ⟨_, h1, h2⟩ := now_at h
  rw [h2];exact (hL.2 _ (List.getElem_mem h1)).2
theorem numB_ne {s : List UInt8} (h : qx s = true) : s ≠ [] := by
 rintro rfl;simp [qx] at h
theorem atoi_num {s : List UInt8} (h : qx s = true) : ∃ n : Nat, Lib.atoi s = some (n : Int) /\ n <= 999 := by
 unfold qx at h
 simp only [Bool.and_eq_true, decide_eq_true_eq] at h
 obtain ⟨⟨⟨h1, h2⟩, _⟩, h3⟩ := h
 have hd : ∀ b, digB b = true -> Lib.digitVal b = some (b.toNat - 48) /\ b.toNat <= 57 /\ 48 <= b.toNat := fun b hb => by
  unfold digB at hb
  simp only [Bool.and_eq_true, decide_eq_true_eq] at hb
  unfold Lib.digitVal
  rw [if_pos hb];exact ⟨rfl, hb.2, hb.1⟩
 have hsgn : ∀ (b : UInt8) (r : List UInt8), digB b = true -> b ≠ 43 /\ b ≠ 45 := fun b r hb => by
  unfold digB at hb
  simp only [Bool.and_eq_true, decide_eq_true_eq] at hb
  constructor <;> (rintro rfl;revert hb;decide)
 match s, h1, h2, h3 with
 | [a], _, _, h3 =>
  simp at h3
  obtain ⟨e1, e2, e3⟩ := hd a h3
  obtain ⟨n1, n2⟩ := hsgn a [] h3
  refine ⟨a.toNat - 48, ?_, by omega⟩
  simp [Lib.atoi, Lib.decNat, Lib.decFrom, e1, n1, n2]
 | [a, b], _, _, h3 =>
  simp at h3
  obtain ⟨e1, e2, e3⟩ := hd a h3.1
  obtain ⟨f1, f2, f3⟩ := hd b h3.2
  obtain ⟨n1, n2⟩ := hsgn a [] h3.1
  refine ⟨(a.toNat - 48) * 10 + (b.toNat - 48), ?_, by omega⟩
  simp [Lib.atoi, Lib.decNat, Lib.decFrom, e1, f1, n1, n2]
 | [a, b, c], _, _, h3 =>
  simp at h3
  obtain ⟨e1, e2, e3⟩ := hd a h3.1
  obtain ⟨f1, f2, f3⟩ := hd b h3.2.1
  obtain ⟨g1, g2, g3⟩ := hd c h3.2.2
  obtain ⟨n1, n2⟩ := hsgn a [] h3.1
  refine ⟨((a.toNat - 48) * 10 + (b.toNat - 48)) * 10 + (c.toNat - 48), ?_, by omega⟩
  simp [Lib.atoi, Lib.decNat, Lib.decFrom, e1, f1, g1, n1, n2]
theorem val_num {s : List UInt8} (h : qx s = true) : Lib.atoi s = some (valM s) /\ 0 <= valM s /\ valM s <= 999 := by
 obtain ⟨n, h1, h2⟩ := atoi_num h
 unfold valM
 rw [h1]
 exact ⟨rfl, Int.natCast_nonneg n, Int.ofNat_le.2 h2⟩
end Go.Proofs
end
section
namespace Go.Proofs
open Go.Av
variable {G : Nat -> DV}
attribute [local irreducible] OpSem WR Zc Zp ACalls ZS AClose RV
open Go.Bl
abbrev rdC (L : W7) (S : RS) : List DV := [Qo (tks L), .i S.p, .i (badI S)]
theorem tks_get {L : W7} {i : Nat} (h : i < L.length) : (tks L)[i]'(by simpa [tks] using h) = ⟨L[i].1, L[i].2⟩ := by simp [tks]
theorem wkR0 {X W0 W1 W2 : Prop} (w0 : W0 := by exact True.intro) (w1 : W1 := by exact True.intro) (w2 : W2 := by exact True.intro) (s : (Unit -> W0) -> (Unit -> W1) -> (Unit -> W2) -> Unit -> X := by (intro w0 w1 w2 _;(repeat' first|(refine Qz ?_;(first|refine Ws rfl ?_|refine WM rfl ?_|refine Qc rfl rfl rfl ?_|(refine Qw ?_;(first|refine Zw rfl rfl ?_|refine Zr rfl rfl ?_|refine ZU rfl rfl (by omega) ?_))|(refine QK ?_;(first|refine WA rfl rfl (htn2) ?_|refine WA rfl rfl (hao) ?_|refine Wh 0 (now_c L S hL) rfl rfl rfl rfl ?_|refine Wh 0 (fail_c L S) rfl rfl rfl rfl ?_|refine Wh 0 (hv) rfl rfl rfl rfl ?_))|refine qK rfl ?_|refine Qe rfl rfl ?_|refine Zm rfl rfl rfl ?_|refine Wg rfl rfl rfl rfl (by rfl) (by rfl) (by rfl) ?_|refine Qj rfl rfl ?_))|(refine We ?_;(first|refine Wb ?_|refine Zg rfl ?_|refine WI ?_))|(refine Wc ?_;(first|refine Q7 ?_|refine Qm ?_|(refine WC ?_;first|refine Q9 (by rfl) (by kernel_rfl) (by kernel_rfl) ?_|refine Q8 (by kernel_rfl) (by kernel_rfl) ?_)|refine QV ?_|refine QD rfl ?_|refine QR rfl ?_|refine Qu rfl (by omega) ?_|refine Qn rfl (by omega) ?_|refine Wi ?_))|(refine qM ?_;(first|refine x_gn rfl rfl rfl rfl ?_|refine x_op rfl (by (repeat' first|(refine Qz ?_;(first|refine Ws rfl ?_|refine WM rfl ?_|(refine QN ?_;(first|refine QA rfl ?_|refine Qc rfl rfl rfl ?_))|refine Qq rfl rfl (by first|assumption|omega|(simp;done)|(simp;omega)) ?_|refine WG rfl rfl ?_|refine Qv rfl ?_|(refine Q1 ?_;(first|refine ZO rfl rfl ?_|refine W9 rfl rfl ?_))|(refine QS ?_;(first|refine Qe rfl rfl ?_|refine Wz rfl rfl ?_))|refine Qj rfl rfl ?_))|exact ⟨rfl, rfl⟩)) ?_|refine x_gy rfl rfl rfl rfl (by (repeat' first|(refine Qz ?_;(first|refine Ws rfl ?_|refine WM rfl ?_|(refine QN ?_;(first|refine QA rfl ?_|refine Qc rfl rfl rfl ?_))|refine Qq rfl rfl (by first|assumption|omega|(simp;done)|(simp;omega)) ?_|refine WG rfl rfl ?_|refine Qv rfl ?_|(refine Q1 ?_;(first|refine ZO rfl rfl ?_|refine W9 rfl rfl ?_))|(refine QS ?_;(first|refine Qe rfl rfl ?_|refine Wz rfl rfl ?_))|refine Qj rfl rfl ?_))|exact ⟨rfl, rfl⟩)) ?_|refine qJ ?_)));all_goals (repeat (rename_i x;(fail_if_success have : Unit := x);revert x));(first|done|exact w0 ());(first|done|exact w1 ());(first|done|exact w2 ()))) (u : (W0 \/ True) /\ (W1 \/ True) /\ (W2 \/ True) := by (refine ⟨?_, ?_, ?_⟩ <;> first|exact Or.inl True.intro|exact Or.inr True.intro)) : X := s (fun _ => w0) (fun _ => w1) (fun _ => w2) ()
theorem now_c (L : W7) (S : RS) (hL : OkL L) : CE Tryz.prog G 106 (fun p g => [.ptr p g 0]) (rdC L S) (Q2 (QH L S)) (rdC L S) := fun g B hg => by
 have htl : (tks L).length = L.length := by simp [tks]
 obtain ⟨p, bad⟩ := S
 unfold QH rdC badI
 cases bad with
 | true =>
  simp only [if_true]
  refine Qa Tryz.func106 rfl Tryz.ntmps106 rfl (t := [(0, .ptr 0 g 0)]) rfl fun E hE => ?_
  (refine wkR0 ?_;intros)
  exact e_1 (Tryz.results106) (Qb rfl) (ZI rfl rfl)
 | false =>
  simp only [Bool.false_eq_true, if_false]
  by_cases hp : p < L.length
  ·have hp2 : p < (tks L).length := by omega
   have hgt : (L.getD p ([], 0)).1 = (tks L)[p].t := by rw [tks_get hp, List.getD_eq_getElem?_getD, List.getElem?_eq_getElem hp];rfl
   rw [hgt]
   refine Qa Tryz.func106 rfl Tryz.ntmps106 rfl (t := [(0, .ptr 0 g 0)]) rfl fun E hE => ?_
   (refine wkR0 ?_;intros)
   exact e_1 (Tryz.results106) (Qb rfl) (ZI rfl rfl)
  ·have hgt : (L.getD p ([], 0)).1 = [] := by rw [List.getD_eq_getElem?_getD, List.getElem?_eq_none (by omega)];rfl
   rw [hgt]
   refine Qa Tryz.func106 rfl Tryz.ntmps106 rfl (t := [(0, .ptr 0 g 0)]) rfl fun E hE => ?_
   (refine wkR0 ?_;intros)
   exact e_1 (Tryz.results106) (Qb rfl) (ZI rfl rfl)
theorem fail_c (L : W7) (S : RS) : CE Tryz.prog G 105 (fun p g => [.ptr p g 0]) (rdC L S) (.tup []) (rdC L (WJ S)) := fun g B hg => by
 obtain ⟨p, bad⟩ := S
 unfold WJ rdC badI
 cases bad with
 | true =>
  simp only [if_true]
  refine Qa Tryz.func105 rfl Tryz.ntmps105 rfl (t := [(0, .ptr 0 g 0)]) rfl fun E hE => ?_
  (refine wkR0 ?_;intros)
  exact e_0 (Tryz.results105) (ZI rfl rfl)
 | false =>
  simp only [Bool.false_eq_true, if_false, if_true]
  refine Qa Tryz.func105 rfl Tryz.ntmps105 rfl (t := [(0, .ptr 0 g 0)]) rfl fun E hE => ?_
  (refine wkR0 ?_;intros)
  exact e_0 (Tryz.results105) (ZI rfl rfl)
theorem next_cells {L : W7} {S : RS} (h : S.bad = false) : [Qo (tks L), .i ((S.p : Int) + 1), .i (badI S)] = rdC L (Qi S) := by
 unfold rdC Qi badI;simp [h]
theorem have_c (L : W7) (S : RS) (hL : OkL L) (s : List UInt8) (hs0 : s ≠ []) : CE Tryz.prog G 104 (fun p g => [.ptr p g 0, Q2 s]) (rdC L S) (.b (haveM L s S).1) (rdC L (haveM L s S).2) := fun g B hg => by
 unfold haveM
 by_cases h : QH L S = s
 ·obtain ⟨h1, h2, h3⟩ := now_at (L := L) (S := S) (by rw [h];exact hs0)
  have hd : decide (QH L S = s) = true := decide_eq_true h
  have hb := hL.1
  rw [if_pos h, <- next_cells h1]
  refine Qa Tryz.func104 rfl Tryz.ntmps104 rfl (t := [(0, .ptr 0 g 0), (1, Q2 s)]) rfl fun E hE => ?_
  (refine wkR0 ?_;intros)
  exact e_1 (Tryz.results104) (Qb rfl) (ZI (by rw [hd]) rfl)
 ·have hd : decide (QH L S = s) = false := decide_eq_false h
  rw [if_neg h]
  refine Qa Tryz.func104 rfl Tryz.ntmps104 rfl (t := [(0, .ptr 0 g 0), (1, Q2 s)]) rfl fun E hE => ?_
  (refine wkR0 ?_;intros)
  exact e_1 (Tryz.results104) (Qb rfl) (ZI (by rw [hd]) rfl)
theorem take_c (L : W7) (S : RS) (hL : OkL L) (s : List UInt8) (hs0 : s ≠ []) : CE Tryz.prog G 59 (fun p g => [.ptr p g 0, Q2 s]) (rdC L S) (.tup []) (rdC L (QC L s S)) := fun g B hg => by
 have hv := have_c (G := G) L S hL s hs0
 unfold QC
 unfold haveM at hv
 by_cases h : QH L S = s
 ·rw [if_pos h] at hv ⊢
  refine Qa Tryz.func59 rfl Tryz.ntmps59 rfl (t := [(0, .ptr 0 g 0), (1, Q2 s)]) rfl fun E hE => ?_
  (refine wkR0 ?_;intros)
  exact e_0 (Tryz.results59) (ZI rfl rfl)
 ·rw [if_neg h] at hv ⊢
  refine Qa Tryz.func59 rfl Tryz.ntmps59 rfl (t := [(0, .ptr 0 g 0), (1, Q2 s)]) rfl fun E hE => ?_
  (refine wkR0 ?_;intros)
  exact e_0 (Tryz.results59) (ZI rfl rfl)
theorem qQ (L : W7) (S : RS) (hL : OkL L) : CE Tryz.prog G 60 (fun p g => [.ptr p g 0]) (rdC L S) (.i (Qh L S).1) (rdC L (Qh L S).2) := fun g B hg => by
 have htn2 := tnum_c (G := G) (QH L S) (now_len hL S)
 unfold Qh
 by_cases h : qx (QH L S) = true
 ·obtain ⟨h1, h2, h3⟩ := now_at (numB_ne h)
  obtain ⟨v1, v2, v3⟩ := val_num h
  have hlen : (QH L S).length <= 18 := by unfold qx at h;simp only [Bool.and_eq_true, decide_eq_true_eq] at h;omega
  have hao := atoi_c (G := G) (QH L S) (valM (QH L S)) hlen v1
  have hb := hL.1
  rw [if_pos h, <- next_cells h1]
  rw [h] at htn2
  refine Qa Tryz.func60 rfl Tryz.ntmps60 rfl (t := [(0, .ptr 0 g 0)]) rfl fun E hE => ?_
  (refine wkR0 ?_;intros)
  exact e_1 (Tryz.results60) (Qb rfl) (ZI rfl rfl)
 ·rw [if_neg h]
  rw [show qx (QH L S) = false by simpa using h] at htn2
  refine Qa Tryz.func60 rfl Tryz.ntmps60 rfl (t := [(0, .ptr 0 g 0)]) rfl fun E hE => ?_
  (refine wkR0 ?_;intros)
  exact e_1 (Tryz.results60) (Qb rfl) (ZI rfl rfl)
theorem wkR1 {X W0 W1 W2 : Prop} (w0 : W0 := by exact True.intro) (w1 : W1 := by exact True.intro) (w2 : W2 := by exact True.intro) (s : (Unit -> W0) -> (Unit -> W1) -> (Unit -> W2) -> Unit -> X := by (intro w0 w1 w2 _;(repeat' first|(refine Qz ?_;(first|refine Ws rfl ?_|refine WM rfl ?_|refine Qc rfl rfl rfl ?_|refine ZU rfl rfl (by omega) ?_|(refine QK ?_;(first|refine WA rfl rfl (hcut) ?_|refine WA rfl rfl (htn2) ?_|refine WA rfl rfl (hao) ?_|refine Wh 0 (now_c L S hL) rfl rfl rfl rfl ?_|refine Wh 0 (fail_c L S) rfl rfl rfl rfl ?_|refine Wh 0 (his) rfl rfl rfl rfl ?_))|(refine Q1 ?_;(first|refine ZO rfl rfl ?_|refine W9 rfl rfl ?_))|refine qK rfl ?_|refine Qe rfl rfl ?_|refine Zm rfl rfl rfl ?_|refine Wg rfl rfl rfl rfl (by rfl) (by rfl) (by rfl) ?_|refine s_sl rfl rfl ?_|refine Qj rfl rfl ?_))|(refine We ?_;(first|refine Wb ?_|refine Zg rfl ?_|refine WI ?_|refine qd rfl rfl rfl rfl ?_|refine qw rfl rfl rfl rfl ?_))|(refine Wc ?_;(first|refine Q7 ?_|refine Qm ?_|refine QV ?_|refine QD rfl ?_|refine QR rfl ?_|refine Wi ?_)));all_goals (repeat (rename_i x;(fail_if_success have : Unit := x);revert x));(first|done|exact w0 ());(first|done|exact w1 ());(first|done|exact w2 ()))) (u : (W0 \/ True) /\ (W1 \/ True) /\ (W2 \/ True) := by (refine ⟨?_, ?_, ?_⟩ <;> first|exact Or.inl True.intro|exact Or.inr True.intro)) : X := s (fun _ => w0) (fun _ => w1) (fun _ => w2) ()
theorem is_c (L : W7) (S : RS) (hL : OkL L) (c : UInt8) : CE Tryz.prog G 177 (fun p g => [.ptr p g 0, Q2 [c]]) (rdC L S) (.b (isM L c S)) (rdC L S) := fun g B hg => by
 have hcut := cutPrefix_c (G := G) (QH L S) [c]
 have hnl := now_len hL S
 unfold isM
 by_cases h : Lib.hasPrefix (QH L S) [c] = true
 ·rw [show Lib.trimPrefix (QH L S) [c] = (QH L S).drop 1 by unfold Lib.trimPrefix;rw [if_pos h];rfl, h] at hcut
  have htn2 := tnum_c (G := G) ((QH L S).drop 1) (by rw [List.length_drop];omega)
  refine Qa Tryz.func177 rfl Tryz.ntmps177 rfl (t := [(0, .ptr 0 g 0), (1, Q2 [c])]) rfl fun E hE => ?_
  (refine wkR1 ?_;intros)
  exact e_1 (Tryz.results177) (Qb rfl) (ZI (by rw [h];simp) rfl)
 ·have h2 : Lib.hasPrefix (QH L S) [c] = false := by simpa using h
  rw [h2] at hcut
  refine Qa Tryz.func177 rfl Tryz.ntmps177 rfl (t := [(0, .ptr 0 g 0), (1, Q2 [c])]) rfl fun E hE => ?_
  (refine wkR1 ?_;intros)
  exact e_1 (Tryz.results177) (Qb rfl) (ZI (by rw [h2];simp) rfl)
theorem is_now {L : W7} {S : RS} {c : UInt8} (h : isM L c S = true) : QH L S ≠ [] /\ qx ((QH L S).drop 1) = true /\ 1 <= (QH L S).length := by
 unfold isM at h
 simp only [Bool.and_eq_true] at h
 have h1 : 1 <= (QH L S).length := (List.isPrefixOf_iff_prefix.1 h.1).length_le
 exact ⟨fun e => by rw [e] at h1;simp at h1, h.2, h1⟩
theorem numbered_c (L : W7) (S : RS) (hL : OkL L) (c : UInt8) : CE Tryz.prog G 179 (fun p g => [.ptr p g 0, Q2 [c]]) (rdC L S) (.i (Qf L c S).1) (rdC L (Qf L c S).2) := fun g B hg => by
 have his := is_c (G := G) L S hL c
 unfold Qf
 by_cases h : isM L c S = true
 ·obtain ⟨e1, e2, e3⟩ := is_now h
  obtain ⟨h1, h2, h3⟩ := now_at e1
  obtain ⟨v1, v2, v3⟩ := val_num e2
  have hlen : ((QH L S).drop 1).length <= 18 := by unfold qx at e2;simp only [Bool.and_eq_true, decide_eq_true_eq] at e2;omega
  have hao := atoi_c (G := G) ((QH L S).drop 1) (valM ((QH L S).drop 1)) hlen v1
  have hb := hL.1
  rw [if_pos h, <- next_cells h1]
  rw [h] at his
  refine Qa Tryz.func179 rfl Tryz.ntmps179 rfl (t := [(0, .ptr 0 g 0), (1, Q2 [c])]) rfl fun E hE => ?_
  (refine wkR1 ?_;intros)
  exact e_1 (Tryz.results179) (Qb rfl) (ZI rfl rfl)
 ·rw [if_neg h]
  rw [show isM L c S = false by simpa using h] at his
  refine Qa Tryz.func179 rfl Tryz.ntmps179 rfl (t := [(0, .ptr 0 g 0), (1, Q2 [c])]) rfl fun E hE => ?_
  (refine wkR1 ?_;intros)
  exact e_1 (Tryz.results179) (Qb rfl) (ZI rfl rfl)
end Go.Proofs
end
section
namespace Go.Proofs
open Go.Av Go.Bl
def zNd : Nd := .mk 0 0 0 []
abbrev Rd1 := RS -> Nd × RS
abbrev wInt : List UInt8 := [105, 110, 116]
abbrev wBool : List UInt8 := [98, 111, 111, 108]
abbrev wArr : List UInt8 := [97, 114, 114]
abbrev wRec : List UInt8 := [114, 101, 99]
abbrev wTrue : List UInt8 := [116, 114, 117, 101]
abbrev wFalse : List UInt8 := [102, 97, 108, 115, 101]
abbrev wRecv : List UInt8 := [114, 101, 99, 118]
abbrev wIf : List UInt8 := [105, 102]
abbrev wElse : List UInt8 := [101, 108, 115, 101]
abbrev wWhile : List UInt8 := [119, 104, 105, 108, 101]
abbrev wReturn : List UInt8 := [114, 101, 116, 117, 114, 110]
abbrev wThrow : List UInt8 := [116, 104, 114, 111, 119]
abbrev wOut : List UInt8 := [111, 117, 116]
abbrev wSkip : List UInt8 := [115, 107, 105, 112]
abbrev wTry : List UInt8 := [116, 114, 121]
abbrev qy : List UInt8 := [99, 97, 116, 99, 104]
abbrev wSend : List UInt8 := [115, 101, 110, 100]
abbrev wSpawn : List UInt8 := [115, 112, 97, 119, 110]
abbrev wFun : List UInt8 := [102, 117, 110]
abbrev WT : List UInt8 := [112, 114, 111, 103, 114, 97, 109]
def QJ (L : W7) (E : Rd1) : Nat -> List Nd -> RS -> List Nd × RS
 | 0, o, S => (o, S)
 | k + 1, o, S => if QH L S = [44] then QJ L E k (o ++ [(E (Qi S)).1]) (E (Qi S)).2 else (o, S)
def ZM (L : W7) (E : Rd1) (k : Nat) (S : RS) : List Nd × RS :=
 ((QJ L E k [(E S).1] (E S).2).1, QC L [41] (QJ L E k [(E S).1] (E S).2).2)
def Wv (L : W7) (E : Rd1) (k : Nat) (S : RS) : List Nd × RS :=
 if QH L (QC L [40] S) = [41] then ([], Qi (QC L [40] S)) else ZM L E k (QC L [40] S)
def qP (L : W7) (E : Rd1) (n : Int) (S : RS) : Nd × RS :=
 if QH L S = [91] then (.mk 7 n 0 [(E (Qi S)).1], QC L [93] (E (Qi S)).2)
 else if QH L S = [46] then (.mk 8 n (Qh L (Qi S)).1 [], (Qh L (Qi S)).2) else (.mk 6 n 0 [], S)
def QX (L : W7) (E : Rd1) (S : RS) : Nd × RS := qP L E (Qf L 118 S).1 (Qf L 118 S).2
def qF (s : List UInt8) : Int := match opTexts.findIdx? (fun t => decide (t = s)) with|some i => i|none => -1
def Z0 (L : W7) (E : Rd1) (S : RS) : Nd × RS :=
 if qF (QH L (E S).2) < 0 then (zNd, WJ (E S).2)
 else (.mk 9 (qF (QH L (E S).2)) 0 [(E S).1, (E (Qi (E S).2)).1], QC L [41] (E (Qi (E S).2)).2)
def Wm (L : W7) (z : Nd) : Nat -> Rd1
 | 0, S => (zNd, WJ S)
 | n + 1, S =>
  if qx (QH L S) = true then (.mk 4 (Qh L S).1 0 [], (Qh L S).2)
  else if isM L 118 S = true then QX L (Wm L z n) S
  else if isM L 102 S = true then (.mk 11 (Qf L 102 S).1 0 (Wv L (Wm L z n) n (Qf L 102 S).2).1, (Wv L (Wm L z n) n (Qf L 102 S).2).2)
  else if QH L S = [45] then (if QH L (Qi S) = [48] then (z, WJ (Qi S)) else (.mk 4 (-(Qh L (Qi S)).1) 0 [], (Qh L (Qi S)).2))
  else if QH L S = wTrue then (.mk 5 1 0 [], Qi S)
  else if QH L S = wFalse then (.mk 5 0 0 [], Qi S)
  else if QH L S = [40] then Z0 L (Wm L z n) (Qi S)
  else if QH L S = [33] then (.mk 10 0 0 [(Wm L z n (Qi S)).1], (Wm L z n (Qi S)).2)
  else if QH L S = wRecv then (.mk 12 (Qf L 99 (Qi S)).1 0 [], (Qf L 99 (Qi S)).2)
  else (zNd, WJ S)
def QY (L : W7) : Nat -> Rd1
 | 0, S => (zNd, WJ S)
 | n + 1, S =>
  if QH L S = wInt then (.mk 0 0 0 [], Qi S)
  else if QH L S = wBool then (.mk 1 0 0 [], Qi S)
  else if QH L S = wArr then (.mk 2 (Qh L (Qi S)).1 0 [], (Qh L (Qi S)).2)
  else if QH L S = wRec then (.mk 3 0 0 (ZM L (QY L n) n (QC L [40] (Qi S))).1, (ZM L (QY L n) n (QC L [40] (Qi S))).2)
  else (zNd, WJ S)
def Q4 (L : W7) (T : Rd1) : Nat -> List Nd -> RS -> List Nd × RS
 | 0, o, S => (o, S)
 | k + 1, o, S => if S.bad = true then (o, S) else if QH L S = [125] then (o, Qi S) else Q4 L T k (o ++ [(T S).1]) (T S).2
def QW (L : W7) (T : Rd1) (k : Nat) (S : RS) : Nd × RS := (.mk 13 0 0 (Q4 L T k [] (QC L [123] S)).1, (Q4 L T k [] (QC L [123] S)).2)
def setKind (k : Int) : Int := if k = 7 then 15 else if k = 8 then 16 else 14
def setM (v x : Nd) : Nd := match v with|.mk k n m ks => .mk (setKind k) n m (ks ++ [x])
def qe (L : W7) (E : Rd1) (S : RS) : Nd × RS :=
 (setM (QX L E S).1 (E (QC L [61] (QX L E S).2)).1, (E (QC L [61] (QX L E S).2)).2)
def oneM (E : Rd1) (k n : Int) (S : RS) : Nd × RS := (.mk k n 0 [(E S).1], (E S).2)
def ifM (L : W7) (E Bl : Rd1) (S : RS) : Nd × RS :=
 let c := E S
 let a := Bl c.2
 let b := Bl (QC L wElse a.2)
 (.mk 17 0 0 [c.1, a.1, b.1], b.2)
def whileM (E Bl : Rd1) (S : RS) : Nd × RS :=
 let c := E S
 let a := Bl c.2
 (.mk 18 0 0 [c.1, a.1], a.2)
def tryM (L : W7) (Bl : Rd1) (S : RS) : Nd × RS :=
 let a := Bl S
 let v := Qf L 118 (QC L qy a.2)
 let b := Bl v.2
 (.mk 21 v.1 0 [a.1, b.1], b.2)
def Wl (L : W7) (E : Rd1) (q : Nat) : Nat -> Rd1
 | 0, S => (zNd, WJ S)
 | n + 1, S =>
  if QH L S = [123] then QW L (Wl L E q n) n S
  else if isM L 118 S = true then qe L E S
  else if QH L S = wIf then ifM L E (QW L (Wl L E q n) n) (Qi S)
  else if QH L S = wWhile then whileM E (QW L (Wl L E q n) n) (Qi S)
  else if QH L S = wReturn then oneM E 19 0 (Qi S)
  else if QH L S = wThrow then oneM E 20 0 (Qi S)
  else if QH L S = wOut then oneM E 24 0 (Qi S)
  else if QH L S = wSkip then (.mk 25 0 0 [], Qi S)
  else if QH L S = wTry then tryM L (QW L (Wl L E q n) n) (Qi S)
  else if QH L S = wSend then oneM E 22 (Qf L 99 (Qi S)).1 (Qf L 99 (Qi S)).2
  else if QH L S = wSpawn then (.mk 23 (Qf L 102 (Qi S)).1 0 (Wv L E q (Qf L 102 (Qi S)).2).1, (Wv L E q (Qf L 102 (Qi S)).2).2)
  else (zNd, WJ S)
def funM (L : W7) (T Bl : Rd1) (q : Nat) (S : RS) : Nd × RS :=
 let v := Qh L (QC L wFun S)
 let a := Wv L T q v.2
 let b := Bl a.2
 (.mk 26 v.1 0 (a.1 ++ [b.1]), b.2)
def QT (L : W7) (F : Rd1) : Nat -> List Nd -> RS -> List Nd × RS
 | 0, o, S => (o, S)
 | k + 1, o, S => if S.bad = false /\ S.p < L.length then QT L F k (o ++ [(F S).1]) (F S).2 else (o, S)
def Za (L : W7) (z : Nd) (q : Nat) : Rd1 := funM L (QY L q) (QW L (Wl L (Wm L z q) q q) q) q
def Zi (L : W7) (z : Nd) (q : Nat) : Nd × RS :=
 let v := Qh L (QC L WT ⟨0, false⟩)
 let o := QT L (Za L z q) q [] v.2
 (.mk 27 v.1 0 o.1, o.2)
end Go.Proofs
end
section
namespace Go.Proofs
open Go.Av
variable {G : Nat -> DV}
attribute [local irreducible] OpSem WR Zc Zp ACalls ZS AClose RV
open Go.Bl
section
variable {P : Program} {G : Nat -> DV} {B : Nat} {f : Operand -> DV} {σ : List ABlk} {K : DV -> List ABlk -> Prop} {dst : Option Tmp} {type : TypeId} {pos : String} {after : Array Edge} {gd : Option (Nat × Bool)}
theorem qD {α : Type} [Enc α] {z : α} {t e : Nat} {g1 g2 : Bool} {z1 : Nat} {td : TypeDesc} {zs : List Value} {ps : List (Nat × Operand)} [ht : TyI P t (.slice e) g1 z1] [he : TyI P e td g2 (Enc.es α)] [hz : TyZ P e zs] (hzl : zs.length = Enc.es α) (hp : partsD f ps = some [(0, .agg (Enc.enc z))]) (hn : Nat.ble (Enc.es α) 16777216 = true) (hl : Nat.blt 0 (Enc.es α) = true)
  (k : ∀ g, B < g -> K (.ref σ.length g 0 1 (Enc.es α)) (σ ++ [.row g (Wf [z])])) : OpSem P G B ⟨dst, .buildSlice t 1 ps.toArray, type, pos, after, gd⟩ f σ K := by
 have e1 : Wf [z] = Enc.enc z := by simp [Wf]
 refine s_bslice_own (cs := Enc.enc z) hzl hp (by simpa using hn) (fill_one hzl (Enc.len z) (by simpa using hl)) (by rw [Enc.len];omega) fun g hg => ?_
 have := k g hg
 rwa [e1] at this
end
def rM (L : W7) (S : RS) : Nat := if S.bad = true then 0 else L.length - S.p
theorem Wo {L : W7} {S : RS} {s : List UInt8} (h : QH L S = s) (hs : s ≠ []) : rM L (Qi S) + 1 = rM L S /\ S.bad = false := by
 obtain ⟨h1, h2, h3⟩ := now_at (L := L) (S := S) (by rw [h];exact hs)
 unfold rM Qi
 simp only [h1]
 constructor
 ·simp;omega
 ·trivial
theorem qE {L : W7} {S : RS} : rM L (WJ S) = 0 := by unfold rM WJ;simp
theorem qc {L : W7} {S : RS} (s : List UInt8) (hs : s ≠ []) : rM L (QC L s S) <= rM L S := by
 unfold QC
 split
 ·have := (Wo (by assumption) hs).1;omega
 ·rw [qE];omega
def ElC (G : Nat -> DV) (F : FuncId) (L : W7) (E : Rd1) (r0 : Nat) : Prop := ∀ S, rM L S <= r0 -> CE Tryz.prog G F (fun p g => [.ptr p g 0]) (rdC L S) (.agg (Enc.enc (E S).1)) (rdC L (E S).2) /\ rM L (E S).2 <= rM L S
theorem wkR2 {X W0 W1 W2 : Prop} (w0 : W0 := by exact True.intro) (w1 : W1 := by exact True.intro) (w2 : W2 := by exact True.intro) (s : (Unit -> W0) -> (Unit -> W1) -> (Unit -> W2) -> Unit -> X := by (intro w0 w1 w2 _;(repeat' first|(refine Qz ?_;(first|refine Ws rfl ?_|refine WM rfl ?_|(refine QK ?_;(first|refine Zy (z := x2) rfl rfl rfl rfl rfl rfl rfl (by first|omega|(simp;omega)) (by first|omega|(simp;omega)) (fun _ => rfl) (fun _ _ => ?_)|refine s_callv_ce (k := 0) (hE0) rfl rfl rfl rfl (by repeat' first|exact Zb|refine Ww ?_ ?_|exact Wj|exact WB _|exact WH (Qy _)) (by repeat' first|exact Zb|refine Ww ?_ ?_|exact Wj|exact WB _|exact WH (Qy _)) (by repeat' first|exact .nil|refine .cons ?_ ?_|exact .s (.mp rfl)|exact .s (.ptr rfl)|exact .s (.ref rfl)|exact .fn (by repeat' first|exact .nil|refine .cons ?_ ?_|exact .ptr rfl|exact .mp rfl|exact .clo Wj) (by repeat' first|exact .nil|refine .cons ?_ ?_|exact .ptr rfl|exact .mp rfl|exact .clo Wj)|exact .s (.clo (by (repeat' first|exact Enc.clo _|exact Wj|exact WB _|exact WH (Qy _)|exact Qy _|refine qi ?_ ?_|refine Z3 ?_|refine W4 ?_|refine WS ?_|exact Zb|refine Ww ?_ ?_|refine WH ?_);done))) (by (repeat' first|exact Enc.clo _|exact Wj|exact WB _|exact WH (Qy _)|exact Qy _|refine qi ?_ ?_|refine Z3 ?_|refine W4 ?_|refine WS ?_|exact Zb|refine Ww ?_ ?_|refine WH ?_);done) (by rfl) ?_|refine s_callv_ce (k := 0) (hE2) rfl rfl rfl rfl (by repeat' first|exact Zb|refine Ww ?_ ?_|exact Wj|exact WB _|exact WH (Qy _)) (by repeat' first|exact Zb|refine Ww ?_ ?_|exact Wj|exact WB _|exact WH (Qy _)) (by repeat' first|exact .nil|refine .cons ?_ ?_|exact .s (.mp rfl)|exact .s (.ptr rfl)|exact .s (.ref rfl)|exact .fn (by repeat' first|exact .nil|refine .cons ?_ ?_|exact .ptr rfl|exact .mp rfl|exact .clo Wj) (by repeat' first|exact .nil|refine .cons ?_ ?_|exact .ptr rfl|exact .mp rfl|exact .clo Wj)|exact .s (.clo (by (repeat' first|exact Enc.clo _|exact Wj|exact WB _|exact WH (Qy _)|exact Qy _|refine qi ?_ ?_|refine Z3 ?_|refine W4 ?_|refine WS ?_|exact Zb|refine Ww ?_ ?_|refine WH ?_);done))) (by (repeat' first|exact Enc.clo _|exact Wj|exact WB _|exact WH (Qy _)|exact Qy _|refine qi ?_ ?_|refine Z3 ?_|refine W4 ?_|refine WS ?_|exact Zb|refine Ww ?_ ?_|refine WH ?_);done) (by rfl) ?_|refine Wh 0 (hhv) rfl rfl rfl rfl ?_|refine Wh 0 (htk) rfl rfl rfl rfl ?_))|(refine ZA ?_;(first|refine qD (z := hd1) rfl rfl rfl rfl (fun _ _ => ?_)|refine QO (z := x2) rfl rfl (by decide) ?_))))|(refine We ?_;(first|refine Wb ?_|refine Zg rfl ?_))|(refine Wc ?_;(first|refine Q7 ?_|refine Qm ?_|refine QM ?_|refine QV ?_|refine QD rfl ?_|refine QR rfl ?_|refine W8 rfl ?_|refine Wi ?_)));all_goals (repeat (rename_i x;(fail_if_success have : Unit := x);revert x));(first|done|exact w0 ());(first|done|exact w1 ());(first|done|exact w2 ()))) (u : (W0 \/ True) /\ (W1 \/ True) /\ (W2 \/ True) := by (refine ⟨?_, ?_, ?_⟩ <;> first|exact Or.inl True.intro|exact Or.inr True.intro)) : X := s (fun _ => w0) (fun _ => w1) (fun _ => w2) ()
theorem list_rc (F : FuncId) [FnOk Tryz.prog F] (L : W7) (E : Rd1) (r0 k : Nat) (hL : OkL L) (hE : ElC G F L E r0) (S : RS) (hr : rM L S <= r0) (hk : rM L S + 1 <= k) :
  CO Tryz.prog G 151 (fun p g => [.ptr p g 0, .fn (.func F) [.ptr p g 0] []]) (rdC L S) (fun d => d) (ZM L E k S).1.length 4 (Wf (ZM L E k S).1) (rdC L (ZM L E k S).2) := fun g B hg => by
 obtain ⟨hE0, hrE⟩ := hE S hr
 unfold ZM
 generalize hx0 : (E S).1 = hd1 at *
 generalize hS1 : (E S).2 = S1 at *
 refine Qa Tryz.func151 rfl Tryz.ntmps151 rfl (t := [(0, .ptr 0 g 0), (1, .fn (.func F) [.ptr 0 g 0] [])]) rfl fun E0 hE1 => ?_
 (refine wkR2 ?_;intros)
 rename_i g1 hg1
 have hr1000 : rM L S <= 1000000 := by unfold rM;split <;> have := hL.1 <;> omega
 refine r_loop3 (fun (o : List Nd) (Q : RS) (gg : Nat) => ⟨[(0, .ptr 0 g 0), (1, .fn (.func F) [.ptr 0 g 0] []), (5, .ref 1 gg 0 o.length 4)], [.row g (rdC L Q), .row gg (Wf o)]⟩) (fun o Q gg => E0.N < gg /\ rM L Q <= rM L S /\ o.length + rM L Q <= rM L S + 1 /\ ∃ k', QJ L E k [hd1] S1 = QJ L E k' o Q /\ rM L Q + 1 <= k') (fun o Q gg => rM L Q) [hd1] S1 g1 ?_ ⟨hg1, hrE, by simp;omega, k, rfl, by omega⟩ ?_
 ·exact zal rfl
 intro o Q gg ⟨hgg, hq1, hq2, k', hk1, hk2⟩
 rw [hk1]
 have hhv := have_c (G := G) L Q hL [44] (by decide)
 unfold haveM at hhv
 by_cases hc : QH L Q = [44]
 ·rw [if_pos hc] at hhv
  obtain ⟨hn1, hn2⟩ := Wo hc (by decide)
  obtain ⟨hE2, hrE2⟩ := hE (Qi Q) (by omega)
  match k', hk1, hk2 with
  | k2 + 1, hk1, hk2 =>
  have hrec : QJ L E (k2 + 1) o Q = QJ L E k2 (o ++ [(E (Qi Q)).1]) (E (Qi Q)).2 := by rw [QJ, if_pos hc]
  generalize hx2 : (E (Qi Q)).1 = x2 at *
  generalize hS2 : (E (Qi Q)).2 = S2 at *
  (refine wkR2 ?_;intros)
  refine ⟨o ++ [x2], S2, _, ⟨by assumption, by omega, by simp;omega, k2, hrec, by omega⟩, by omega, ?_⟩
  exact zal rfl
 ·rw [if_neg hc] at hhv
  have htk := take_c (G := G) L Q hL [41] (by decide)
  have hend : QJ L E k' o Q = (o, Q) := by
   cases k' with
   | zero => rfl
   | succ k2 => rw [QJ, if_neg hc]
  rw [hend]
  (refine wkR2 ?_;intros)
  exact e_1 (Tryz.results151) (Qb rfl) (c_co (k := 1) .id hE1 (by omega) rfl rfl rfl rfl rfl rfl)
theorem have_t (L : W7) (S : RS) (hL : OkL L) (s : List UInt8) (hs0 : s ≠ []) (h : QH L S = s) : CE Tryz.prog G 104 (fun p g => [.ptr p g 0, Q2 s]) (rdC L S) (.b true) (rdC L (Qi S)) := (have_c L S hL s hs0).conv (by unfold haveM;rw [if_pos h]) (by unfold haveM;rw [if_pos h])
theorem have_f (L : W7) (S : RS) (hL : OkL L) (s : List UInt8) (hs0 : s ≠ []) (h : ¬ QH L S = s) : CE Tryz.prog G 104 (fun p g => [.ptr p g 0, Q2 s]) (rdC L S) (.b false) (rdC L S) := (have_c L S hL s hs0).conv (by unfold haveM;rw [if_neg h]) (by unfold haveM;rw [if_neg h])
theorem WK {E : AX} {D : DV -> DV} {k g gk len es : Nat} {res : DV} {cs' c2 ks : List DV} {r : List ABlk} (hD : FrmD D) (hk : r[k]? = some (.row gk ks)) (hl : len * es = ks.length) (hd : D (.sl es ks) = res) (hc : c2 = cs') :
  AClose E (fun d' τ' => d' = res /\ τ' = [.row g cs']) (D (.ref (k + 1) gk 0 len es)) (.row g c2 :: r) := by
 subst hd hc
 refine (hD.close (c_pub (R := fun d' τ' => d' = .sl es ks /\ τ' = [.row g c2]) (by rw [List.getElem?_cons_succ];exact hk) hl ?_) ?_).mono ?_
 ·rw [List.set_cons_succ]
  exact WV (σ := [_]) ⟨rfl, rfl⟩
 ·rintro d0 σ' ⟨rfl, _⟩;rfl
 ·rintro d' σ' ⟨d0, ⟨rfl, h3⟩, rfl⟩
  exact ⟨rfl, h3⟩
theorem WU {E : AX} {D : DV -> DV} {g es : Nat} {res : DV} {cs' c2 : List DV} {r : List ABlk} (hD : FrmD D) (hd : D (.sl es []) = res) (hc : c2 = cs') :
  AClose E (fun d' τ' => d' = res /\ τ' = [.row g cs']) (D (.sc (.slice none 0 0))) (.row g c2 :: r) := by
 subst hd hc
 refine (hD.close (Ze (d2 := .sl es []) (R := fun d' τ' => d' = .sl es [] /\ τ' = [.row g c2]) (fun L v h => Zj h) (WV (σ := [_]) ⟨rfl, rfl⟩)) ?_).mono ?_
 ·rintro d0 σ' ⟨rfl, _⟩;rfl
 ·rintro d' σ' ⟨d0, ⟨rfl, h3⟩, rfl⟩
  exact ⟨rfl, h3⟩
theorem rM_numeral (L : W7) (S : RS) : rM L (Qh L S).2 <= rM L S := by
 unfold Qh
 split
 ·rename_i h
  have := (Wo (L := L) (S := S) rfl (numB_ne h)).1
  simp only;omega
 ·simp only;rw [qE];omega
theorem ZP (L : W7) (c : UInt8) (S : RS) : rM L (Qf L c S).2 <= rM L S := by
 unfold Qf
 split
 ·rename_i h
  have := (Wo (L := L) (S := S) rfl (is_now h).1).1
  simp only;omega
 ·simp only;rw [qE];omega
theorem listLoop_le {F : FuncId} {L : W7} {E : Rd1} {r0 : Nat} (hE : ElC G F L E r0) : ∀ (k : Nat) (o : List Nd) (S : RS), rM L S <= r0 -> rM L (QJ L E k o S).2 <= rM L S
 | 0, o, S, _ => Nat.le_refl _
 | k + 1, o, S, h => by
  rw [QJ]
  split
  ·rename_i hc
   have h1 := (Wo hc (by decide)).1
   have h2 := (hE (Qi S) (by omega)).2
   have h3 := listLoop_le hE k (o ++ [(E (Qi S)).1]) (E (Qi S)).2 (by omega)
   omega
  ·exact Nat.le_refl _
theorem list_le {F : FuncId} {L : W7} {E : Rd1} {r0 : Nat} (hE : ElC G F L E r0) (k : Nat) (S : RS) (h : rM L S <= r0) : rM L (ZM L E k S).2 <= rM L S := by
 unfold ZM
 have h1 := (hE S h).2
 have h2 := listLoop_le hE k [(E S).1] (E S).2 (by omega)
 have h3 := qc (L := L) (S := (QJ L E k [(E S).1] (E S).2).2) [41] (by decide)
 show rM L (QC L [41] (QJ L E k [(E S).1] (E S).2).2) <= _
 omega
theorem wkR3 {X W0 W1 W2 : Prop} (w0 : W0 := by exact True.intro) (w1 : W1 := by exact True.intro) (w2 : W2 := by exact True.intro) (s : (Unit -> W0) -> (Unit -> W1) -> (Unit -> W2) -> Unit -> X := by (intro w0 w1 w2 _;(repeat' first|(refine Qz ?_;(first|refine Ws rfl ?_|refine WM rfl ?_|(refine QK ?_;(first|refine Wh 0 (have_f L S hL _ (by decide) (by assumption)) rfl rfl rfl rfl ?_|refine Wh 0 (have_t L S hL _ (by decide) (by assumption)) rfl rfl rfl rfl ?_|refine Wh 0 (htk) rfl rfl rfl rfl ?_|refine Wh 0 (hv1) rfl rfl rfl rfl ?_|refine Wh 0 (hnm) rfl rfl rfl rfl ?_|refine Wh 0 (fail_c L S) rfl rfl rfl rfl ?_|refine s_co 0 (hlist) (by first|exact .id|exact .node rfl rfl rfl) rfl rfl rfl rfl (Qy _) (fun _ _ => ?_)))|refine qh rfl rfl rfl rfl ?_|refine QB rfl rfl ?_|refine Zu rfl rfl ?_|refine QU (fun _ _ => ?_)))|(refine We ?_;(first|refine Wb ?_|refine Zg rfl ?_|refine WI ?_))|(refine Wc ?_;(first|refine Q7 ?_|refine Qm ?_|refine QM ?_|refine QV ?_|refine QD rfl ?_|refine QR rfl ?_|refine Wi ?_)));all_goals (repeat (rename_i x;(fail_if_success have : Unit := x);revert x));(first|done|exact w0 ());(first|done|exact w1 ());(first|done|exact w2 ()))) (u : (W0 \/ True) /\ (W1 \/ True) /\ (W2 \/ True) := by (refine ⟨?_, ?_, ?_⟩ <;> first|exact Or.inl True.intro|exact Or.inr True.intro)) : X := s (fun _ => w0) (fun _ => w1) (fun _ => w2) ()
theorem args_rc (F : FuncId) [FnOk Tryz.prog F] (L : W7) (E : Rd1) (r0 k : Nat) (hL : OkL L) (hE : ElC G F L E r0) (S : RS) (hr : rM L S <= r0) (hk : rM L S + 1 <= k) :
  CO Tryz.prog G 109 (fun p g => [.ptr p g 0, .fn (.func F) [.ptr p g 0] []]) (rdC L S) (fun d => d) (Wv L E k S).1.length 4 (Wf (Wv L E k S).1) (rdC L (Wv L E k S).2) := fun g B hg => by
 have htk := take_c (G := G) L S hL [40] (by decide)
 have hle := qc (L := L) (S := S) [40] (by decide)
 unfold Wv
 generalize QC L [40] S = S1 at *
 by_cases hc : QH L S1 = [41]
 ·rw [if_pos hc]
  have hv1 := have_t (G := G) L S1 hL [41] (by decide) hc
  refine Qa Tryz.func109 rfl Tryz.ntmps109 rfl (t := [(0, .ptr 0 g 0), (1, .fn (.func F) [.ptr 0 g 0] [])]) rfl fun E0 hE1 => ?_
  (refine wkR3 ?_;intros)
  exact e_1 (Tryz.results109) (Qb rfl) (c_co_nil .id hE1 rfl rfl rfl rfl)
 ·rw [if_neg hc]
  have hv1 := have_f (G := G) L S1 hL [41] (by decide) hc
  have hlist := list_rc (G := G) F L E r0 k hL hE S1 (by omega) (by omega)
  refine Qa Tryz.func109 rfl Tryz.ntmps109 rfl (t := [(0, .ptr 0 g 0), (1, .fn (.func F) [.ptr 0 g 0] [])]) rfl fun E0 hE1 => ?_
  (refine wkR3 ?_;intros)
  exact e_1 (Tryz.results109) (Qb rfl) (c_co (k := 1) .id hE1 (by omega) rfl rfl rfl rfl rfl rfl)
theorem typed_rc (L : W7) (hL : OkL L) : ∀ (n : Nat) (S : RS), rM L S + 2 <= n -> CE Tryz.prog G 110 (fun p g => [.ptr p g 0]) (rdC L S) (.agg (Enc.enc (QY L n S).1)) (rdC L (QY L n S).2) /\ rM L (QY L n S).2 <= rM L S := by
 intro n
 induction n with
 | zero => intro S h;omega
 | succ n ih =>
 intro S hn
 rw [QY]
 by_cases h1 : QH L S = wInt
 ·have := (Wo h1 (by decide)).1
  rw [if_pos h1]
  refine ⟨fun g B hg => ?_, by simp only;omega⟩
  refine Qa Tryz.func110 rfl Tryz.ntmps110 rfl (t := [(0, .ptr 0 g 0)]) rfl fun E0 hE1 => ?_
  (refine wkR3 ?_;intros)
  exact e_1 (Tryz.results110) (Qg (size := 4) rfl rfl rfl rfl) (WU (es := 4) (.node rfl rfl rfl) (by rw [Qr];rfl) rfl)
 rw [if_neg h1]
 by_cases h2 : QH L S = wBool
 ·have := (Wo h2 (by decide)).1
  rw [if_pos h2]
  refine ⟨fun g B hg => ?_, by simp only;omega⟩
  refine Qa Tryz.func110 rfl Tryz.ntmps110 rfl (t := [(0, .ptr 0 g 0)]) rfl fun E0 hE1 => ?_
  (refine wkR3 ?_;intros)
  exact e_1 (Tryz.results110) (Qg (size := 4) rfl rfl rfl rfl) (WU (es := 4) (.node rfl rfl rfl) (by rw [Qr];rfl) rfl)
 rw [if_neg h2]
 by_cases h3 : QH L S = wArr
 ·have := (Wo h3 (by decide)).1
  rw [if_pos h3]
  have hnm := qQ (G := G) L (Qi S) hL
  have hnl := rM_numeral L (Qi S)
  refine ⟨fun g B hg => ?_, by simp only;omega⟩
  refine Qa Tryz.func110 rfl Tryz.ntmps110 rfl (t := [(0, .ptr 0 g 0)]) rfl fun E0 hE1 => ?_
  (refine wkR3 ?_;intros)
  exact e_1 (Tryz.results110) (Qg (size := 4) rfl rfl rfl rfl) (WU (es := 4) (.node rfl rfl rfl) (by rw [Qr];rfl) rfl)
 rw [if_neg h3]
 by_cases h4 : QH L S = wRec
 ·have hrn := (Wo h4 (by decide)).1
  rw [if_pos h4]
  have htk := take_c (G := G) L (Qi S) hL [40] (by decide)
  have hle := qc (L := L) (S := Qi S) [40] (by decide)
  have hel : ElC G 110 L (QY L n) (rM L (Qi S)) := fun Q hQ => ih Q (by omega)
  have hlist := list_rc (G := G) 110 L (QY L n) _ n hL hel (QC L [40] (Qi S)) hle (by omega)
  have hll := list_le hel n (QC L [40] (Qi S)) hle
  refine ⟨fun g B hg => ?_, by simp only;omega⟩
  refine Qa Tryz.func110 rfl Tryz.ntmps110 rfl (t := [(0, .ptr 0 g 0)]) rfl fun E0 hE1 => ?_
  (refine wkR3 ?_;intros)
  exact e_1 (Tryz.results110) (Qg (size := 4) rfl rfl rfl rfl) (WK (D := fun d => .agg [.i 3, .i 0, .i 0, d]) (k := 1) (.node rfl rfl rfl) rfl (by rw [Qx];rfl) (by rw [Qr];rfl) rfl)
 ·rw [if_neg h4]
  refine ⟨fun g B hg => ?_, by simp only;rw [qE];omega⟩
  refine Qa Tryz.func110 rfl Tryz.ntmps110 rfl (t := [(0, .ptr 0 g 0)]) rfl fun E0 hE1 => ?_
  (refine wkR3 ?_;intros)
  exact e_1 (Tryz.results110) (Qg (size := 4) rfl rfl rfl rfl) (WU (es := 4) (.node rfl rfl rfl) (by show _ = DV.agg (Enc.enc (Nd.mk 0 0 0 []));rw [Qr];rfl) rfl)
def frmN (v : Nd) (d : DV) : DV := match v with|.mk k n m _ => .agg [.i k, .i n, .i m, d]
def kidsN (v : Nd) : List Nd := match v with|.mk _ _ _ ks => ks
theorem frmN_ok (v : Nd) : FrmD (frmN v) := by cases v;exact .node rfl rfl rfl
theorem frmN_enc (v : Nd) : frmN v (.sl 4 (Wf (kidsN v))) = .agg (Enc.enc v) := by cases v;rw [Qr];rfl
theorem wkR4 {X W0 W1 W2 : Prop} (w0 : W0 := by exact True.intro) (w1 : W1 := by exact True.intro) (w2 : W2 := by exact True.intro) (s : (Unit -> W0) -> (Unit -> W1) -> (Unit -> W2) -> Unit -> X := by (intro w0 w1 w2 _;(repeat' first|(refine Qz ?_;(first|refine Ws rfl ?_|refine WM rfl ?_|refine Z4 rfl rfl ?_|(refine QK ?_;(first|refine Wh 0 (hnb) rfl rfl rfl rfl ?_|refine Wh 0 (hv1) rfl rfl rfl rfl ?_|refine Wh 0 (hv2) rfl rfl rfl rfl ?_|refine Wh 0 (htk) rfl rfl rfl rfl ?_|refine Wh 0 (hnm) rfl rfl rfl rfl ?_|refine Wh 0 (hE2) rfl rfl rfl rfl ?_))|(refine Wr ?_;(first|refine qh rfl rfl rfl rfl ?_|refine Wg rfl rfl rfl rfl (by rfl) (by rfl) (by rfl) ?_))|refine qD (z := xE) rfl rfl rfl rfl (fun _ _ => ?_)|refine Qe rfl rfl ?_|refine QB rfl rfl ?_|refine QU (fun _ _ => ?_)))|(refine We ?_;(first|refine Wb ?_|refine Zg rfl ?_|refine WI ?_))|(refine Wc ?_;(first|refine Q7 ?_|refine Qm ?_|refine QM ?_|refine QV ?_|refine QD rfl ?_|refine QR rfl ?_|refine Wi ?_)));all_goals (repeat (rename_i x;(fail_if_success have : Unit := x);revert x));(first|done|exact w0 ());(first|done|exact w1 ());(first|done|exact w2 ()))) (u : (W0 \/ True) /\ (W1 \/ True) /\ (W2 \/ True) := by (refine ⟨?_, ?_, ?_⟩ <;> first|exact Or.inl True.intro|exact Or.inr True.intro)) : X := s (fun _ => w0) (fun _ => w1) (fun _ => w2) ()
theorem variable_rc (L : W7) (hL : OkL L) (E : Rd1) (r0 : Nat) (hE : ElC G 176 L E r0) (S : RS) (hr : rM L S <= r0 + 1) :
  CO Tryz.prog G 199 (fun p g => [.ptr p g 0]) (rdC L S) (frmN (QX L E S).1) (kidsN (QX L E S).1).length 4 (Wf (kidsN (QX L E S).1)) (rdC L (QX L E S).2) /\ rM L (QX L E S).2 <= rM L S := by
 have hnb := numbered_c (G := G) L S hL 118
 have hnl := ZP L 118 S
 unfold QX
 generalize (Qf L 118 S).1 = v at *
 generalize (Qf L 118 S).2 = S1 at *
 unfold qP
 by_cases h1 : QH L S1 = [91]
 ·have hv1 := have_t (G := G) L S1 hL [91] (by decide) h1
  have hrn := (Wo h1 (by decide)).1
  obtain ⟨hE2, hle2⟩ := hE (Qi S1) (by omega)
  rw [if_pos h1]
  generalize (E (Qi S1)).1 = xE at *
  generalize (E (Qi S1)).2 = S2 at *
  have htk := take_c (G := G) L S2 hL [93] (by decide)
  have htl := qc (L := L) (S := S2) [93] (by decide)
  refine ⟨fun g B hg => ?_, by first|omega|(simp only;omega)⟩
  refine Qa Tryz.func199 rfl Tryz.ntmps199 rfl (t := [(0, .ptr 0 g 0)]) rfl fun E0 hE1 => ?_
  (refine wkR4 ?_;intros)
  exact e_1 (Tryz.results199) (Qg (size := 4) rfl rfl rfl rfl) (c_co (k := 3) (D2 := frmN (.mk 7 v 0 [xE])) (frmN_ok _) hE1 (by omega) rfl rfl rfl rfl rfl rfl)
 rw [if_neg h1]
 have hv1 := have_f (G := G) L S1 hL [91] (by decide) h1
 by_cases h2 : QH L S1 = [46]
 ·have hv2 := have_t (G := G) L S1 hL [46] (by decide) h2
  have hrn := (Wo h2 (by decide)).1
  rw [if_pos h2]
  have hnm := qQ (G := G) L (Qi S1) hL
  have hnl2 := rM_numeral L (Qi S1)
  generalize (Qh L (Qi S1)).1 = m at *
  generalize (Qh L (Qi S1)).2 = S2 at *
  refine ⟨fun g B hg => ?_, by first|omega|(simp only;omega)⟩
  refine Qa Tryz.func199 rfl Tryz.ntmps199 rfl (t := [(0, .ptr 0 g 0)]) rfl fun E0 hE1 => ?_
  (refine wkR4 ?_;intros)
  exact e_1 (Tryz.results199) (Qg (size := 4) rfl rfl rfl rfl) (c_co_nil (D2 := frmN (.mk 8 v m [])) (frmN_ok _) hE1 rfl rfl rfl rfl)
 ·rw [if_neg h2]
  have hv2 := have_f (G := G) L S1 hL [46] (by decide) h2
  refine ⟨fun g B hg => ?_, by first|omega|(simp only;omega)⟩
  refine Qa Tryz.func199 rfl Tryz.ntmps199 rfl (t := [(0, .ptr 0 g 0)]) rfl fun E0 hE1 => ?_
  (refine wkR4 ?_;intros)
  exact e_1 (Tryz.results199) (Qg (size := 4) rfl rfl rfl rfl) (c_co_nil (D2 := frmN (.mk 6 v 0 [])) (frmN_ok _) hE1 rfl rfl rfl rfl)
end Go.Proofs
end
section
namespace Go.Av
open Classical
theorem spliceD_pre : ∀ (l ds rest : List DV), l.length = ds.length -> Zq (l ++ rest) 0 ds = some (ds ++ rest)
 | [], [], rest, _ => by
  cases rest <;> exact forceD_same _
 | x :: r, d :: ds, rest, h => by
  have ih := spliceD_pre r ds rest (by simpa using h)
  show (match Zq (r ++ rest) 0 ds with|some r' => some (d :: r')|none => none) = _
  rw [ih];rfl
theorem spliceD_at : ∀ (l1 l2 : List DV) (d : DV) (ds : List DV), l2.length = (d :: ds).length -> Zq (l1 ++ l2) l1.length (d :: ds) = some (l1 ++ (d :: ds))
 | [], l2, d, ds, h => spliceD_all l2 (d :: ds) h
 | x :: r, l2, d, ds, h => by
  have ih := spliceD_at r l2 d ds h
  show (match Zq (r ++ l2) r.length (d :: ds) with|some r' => some (x :: r')|none => none) = _
  rw [ih];rfl
theorem fill_two {zs : List Value} {cs ds : List DV} {n : Nat} (h1 : zs.length = n) (h2 : cs.length = n) (h3 : ds.length = n) (h0 : 0 < n) : fillD (fun i => some (i * n, n)) (WE zs 2) [(0, .agg cs), (1, .agg ds)] = some (cs ++ ds) := by
 have hz : WE zs 2 = WE zs 1 ++ WE zs 1 := by simp [WE, List.replicate]
 have hz1 : (WE zs 1).length = n := by rw [Z8, h1];omega
 cases cs with
 | nil => simp at h2;omega
 | cons e r =>
 cases ds with
 | nil => simp at h3;omega
 | cons e2 r2 =>
  have hb : Nat.beq (e :: r).length n = true := by rw [h2];exact Nat.beq_refl n
  have hb2 : Nat.beq (e2 :: r2).length n = true := by rw [h3];exact Nat.beq_refl n
  have s1 : Zq (WE zs 1 ++ WE zs 1) 0 (e :: r) = some ((e :: r) ++ WE zs 1)  := spliceD_pre (WE zs 1) (e :: r) (WE zs 1) (by rw [hz1, h2])
  have s2 : Zq ((e :: r) ++ WE zs 1) n (e2 :: r2) = some ((e :: r) ++ (e2 :: r2)) := by
   have := spliceD_at (e :: r) (WE zs 1) e2 r2 (by rw [hz1, h3])
   rwa [h2] at this
  rw [hz]
  simp only [fillD, dcells, hb, hb2, Nat.zero_mul, Nat.one_mul, s1, s2]
  exact forceD_same _
theorem WO {P : Program} {G : Nat -> DV} {B : Nat} {f : Operand -> DV} {σ : List ABlk} {K : DV -> List ABlk -> Prop} {dst : Option Tmp} {type : TypeId} {pos : String} {after : Array Edge} {gd : Option (Nat × Bool)} {α : Type} [Enc α] {y z : α} {t e : Nat} {g1 g2 : Bool} {z1 : Nat} {td : TypeDesc} {zs : List Value} {ps : List (Nat × Operand)} [ht : TyI P t (.slice e) g1 z1] [he : TyI P e td g2 (Enc.es α)] [hz : TyZ P e zs] (hzl : zs.length = Enc.es α) (hp : partsD f ps = some [(0, .agg (Enc.enc y)), (1, .agg (Enc.enc z))]) (hn : 2 * Enc.es α <= 16777216)
  (k : K (Qo [y, z]) σ) : OpSem P G B ⟨dst, .buildSlice t 2 ps.toArray, type, pos, after, gd⟩ f σ K := by
 refine W5 hzl hp hn (fill_two hzl (Enc.len y) (Enc.len z) Enc.pos) ?_
 have e1 : Qo [y, z] = .sl (Enc.es α) (Enc.enc y ++ Enc.enc z) := by simp [Qo, Wf]
 rwa [<- e1]
end Go.Av
end
section
namespace Go.Proofs
open Go.Av
variable {G : Nat -> DV}
attribute [local irreducible] OpSem WR Zc Zp ACalls ZS AClose RV
open Go.Bl
theorem wkR5 {X W0 W1 W2 : Prop} (w0 : W0 := by exact True.intro) (w1 : W1 := by exact True.intro) (w2 : W2 := by exact True.intro) (s : (Unit -> W0) -> (Unit -> W1) -> (Unit -> W2) -> Unit -> X := by (intro w0 w1 w2 _;(repeat' first|(refine Qz ?_;(first|refine Ws rfl ?_|refine WM rfl ?_|(refine QN ?_;(first|refine Z4 rfl rfl ?_|refine QA rfl ?_|refine Qc rfl rfl rfl ?_))|refine Qq rfl rfl (by first|assumption|omega|(simp;done)|(simp;omega)) ?_|(refine Qw ?_;(first|refine W6 (a := (p : Int)) (b := 1) rfl rfl hat ⟨by omega, by omega⟩ ?_|refine ZU rfl rfl (by omega) ?_|refine Zw rfl rfl ?_|refine Zr rfl rfl ?_))|(refine QK ?_;(first|refine Qv rfl ?_|refine WA rfl rfl (hops) ?_|refine WA rfl rfl (hix) ?_|refine Wh 0 (hEa) rfl rfl rfl rfl ?_|refine Wh 0 (hnw) rfl rfl rfl rfl ?_|refine Wh 0 (hfl) rfl rfl rfl rfl ?_|refine Wh 0 (hEb) rfl rfl rfl rfl ?_|refine Wh 0 (htk) rfl rfl rfl rfl ?_))|(refine Wr ?_;(first|refine qh rfl rfl rfl rfl ?_|refine Wg rfl rfl rfl rfl (by rfl) (by rfl) (by rfl) ?_))|refine WO (y := a) (z := b) rfl rfl (by decide) ?_|refine Qe rfl rfl ?_|refine QB rfl rfl ?_|refine Qj rfl rfl ?_|refine QU (fun _ _ => ?_)))|(refine We ?_;(first|refine Wb ?_|refine Zg rfl ?_|refine WI ?_))|(refine Wc ?_;(first|refine Q7 ?_|refine Qm ?_|refine QM ?_|refine QV ?_|refine Qu rfl (by omega) ?_|refine Qn rfl (by omega) ?_|refine W8 rfl ?_|refine Wi ?_)));all_goals (repeat (rename_i x;(fail_if_success have : Unit := x);revert x));(first|done|exact w0 ());(first|done|exact w1 ());(first|done|exact w2 ()))) (u : (W0 \/ True) /\ (W1 \/ True) /\ (W2 \/ True) := by (refine ⟨?_, ?_, ?_⟩ <;> first|exact Or.inl True.intro|exact Or.inr True.intro)) : X := s (fun _ => w0) (fun _ => w1) (fun _ => w2) ()
theorem idxS_c (l : List Str) (s : List UInt8) (hl : l.length <= 4611686018427387904) : Go.Av.Pure Tryz.prog G 221 [Qo l, Q2 s] (.i (findP (fun x : Str => decide (s = x.l)) l)) := fun B => by
 refine Qa Tryz.func221 rfl Tryz.ntmps221 rfl (t := [(0, Qo l), (1, Q2 s)]) rfl fun E hE => ?_
 (refine wkR5 ?_;intros)
 refine WY (fun k : Nat => ⟨[(0, Qo l), (1, Q2 s), (7, .i l.length), (8, .i k)], []⟩) (fun k => k <= l.length /\ ∀ j (h : j < l.length), j < k -> decide (s = l[j].l) = false) (fun k => l.length - k) 0 ?_ ⟨by omega, fun j h hj => by omega⟩ ?_
 ·exact zal rfl
 intro k ⟨hk, hno⟩
 by_cases hkl : k < l.length
 ·by_cases hx : s = l[k].l
  ·have hd : decide (s = l[k].l) = true := decide_eq_true hx
   (refine wkR5 ?_;intros)
   refine e_1 Tryz.results221 (Qb rfl) (Qd ?_)
   rw [findP_some (p := fun x : Str => decide (s = x.l)) hkl hd hno]
  ·have hd : decide (s = l[k].l) = false := decide_eq_false hx
   (refine wkR5 ?_;intros)
   refine ⟨k + 1, ⟨hkl, fun j hj hjk => ?_⟩, by omega, ?_⟩
   ·rcases Nat.lt_or_ge j k with h'|h'
    ·exact hno j hj h'
    ·have : j = k := by omega
     subst this;exact hd
   ·exact zal rfl
 ·have hk' : k = l.length := by omega
  (refine wkR5 ?_;intros)
  refine e_1 Tryz.results221 (Qb rfl) (Qd ?_)
  rw [findP_none (p := fun x : Str => decide (s = x.l)) fun j hj => hno j hj (by omega)]
theorem opIdx_eq (s : List UInt8) : findP (fun x : Str => decide (s = x.l)) (opTexts.map Str.mk) = qF s := by
 unfold findP qF
 rw [List.findIdx?_map]
 have : ((fun x : Str => decide (s = x.l)) ∘ Str.mk) = fun t => decide (t = s) := by
  funext t
  show decide (s = t) = decide (t = s)
  rw [Bool.eq_iff_iff];simp [eq_comm]
 rw [this]
 try (cases List.findIdx? (fun t => decide (t = s)) opTexts <;> rfl)
theorem opIdx_ne {s : List UInt8} (h : 0 <= qF s) : s ≠ [] /\ qF s < 14 := by
 constructor
 ·rintro rfl;revert h;decide
 ·unfold qF at h ⊢
  cases hf : opTexts.findIdx? (fun t => decide (t = s)) with
  | none => rw [hf] at h;simp at h
  | some i =>
   obtain ⟨hi, _⟩ := List.findIdx?_eq_some_iff_getElem.1 hf
   have : opTexts.length = 14 := rfl
   simp only;omega
theorem binary_rc (hG1 : G 1 = spaceT) (L : W7) (hL : OkL L) (E : Rd1) (r0 : Nat) (hE : ElC G 176 L E r0) (S : RS) (hr : rM L S <= r0) :
  CE Tryz.prog G 200 (fun p g => [.ptr p g 0]) (rdC L S) (.agg (Enc.enc (Z0 L E S).1)) (rdC L (Z0 L E S).2) /\ rM L (Z0 L E S).2 <= rM L S := by
 obtain ⟨hEa, hla⟩ := hE S hr
 have hops := ops_c (G := G) hG1
 unfold Z0
 generalize (E S).1 = a at *
 generalize (E S).2 = S1 at *
 have hnw := now_c (G := G) L S1 hL
 have hix := idxS_c (G := G) (opTexts.map Str.mk) (QH L S1) (by decide)
 rw [opIdx_eq] at hix
 have hfl := fail_c (G := G) L S1
 have hne := opIdx_ne (s := QH L S1)
 by_cases ho : qF (QH L S1) < 0
 ·rw [if_pos ho]
  refine ⟨fun g B hg => ?_, by simp only;rw [qE];omega⟩
  refine Qa Tryz.func200 rfl Tryz.ntmps200 rfl (t := [(0, .ptr 0 g 0)]) rfl fun E0 hE1 => ?_
  (refine wkR5 ?_;intros)
  exact e_1 (Tryz.results200) (Qg (size := 4) rfl rfl rfl rfl) (WU (es := 4) (.node rfl rfl rfl) (by show _ = DV.agg (Enc.enc (Nd.mk 0 0 0 []));rw [Qr];rfl) rfl)
 ·rw [if_neg ho]
  obtain ⟨hn0, hn14⟩ := hne (by omega)
  obtain ⟨q1, q2, q3⟩ := now_at hn0
  have hrn := (Wo (L := L) (S := S1) rfl hn0).1
  obtain ⟨hEb, hlb⟩ := hE (Qi S1) (by omega)
  generalize (E (Qi S1)).1 = b at *
  generalize (E (Qi S1)).2 = S2 at *
  have htk := take_c (G := G) L S2 hL [41] (by decide)
  have htl := qc (L := L) (S := S2) [41] (by decide)
  have hll := hL.1
  obtain ⟨p, bd⟩ := S1
  simp only at q1 q2
  subst q1
  have hat : (p : Int) + 1 = (p + 1 : Nat) := by omega
  generalize qF (QH L ⟨p, false⟩) = io at *
  refine ⟨fun g B hg => ?_, by first|omega|(simp only;omega)⟩
  refine Qa Tryz.func200 rfl Tryz.ntmps200 rfl (t := [(0, .ptr 0 g 0)]) rfl fun E0 hE1 => ?_
  (refine wkR5 ?_;intros)
  refine e_1 (Tryz.results200) (Qg (size := 4) rfl rfl rfl rfl) ?_
  rw [Qr]
  exact ZI rfl rfl
end Go.Proofs
end
