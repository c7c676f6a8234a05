/-
  Part 2 of the proof: RM PB AvY PM T1 T2 T3 T4 RX T5 TS T8 TA TL KX PX KP KS VM GM PV AvX V0 AvZ AT AS LN.
-/
import Derived.Shelf.Strings.Builder1
import Derived.WalkKit
import Derived.LoopTactic
import Derived.WalkSmall
import Derived.Laws.RangeString
import Derived.Test.YtnppaoeijmgneaaGreatDoorZB1
set_option linter.unusedSimpArgs false
set_option linter.unusedVariables false
set_option maxRecDepth 10000
set_option maxHeartbeats 4000000
section
namespace Go.Proofs
open Go.Av Go.Bl
structure RS where
 p : Nat
 bad : Bool
deriving DecidableEq
abbrev Zq := List (List UInt8 × Nat)
def QV (L : Zq) (S : RS) : List UInt8 := if S.bad = true then [] else (L.getD S.p ([], 0)).1
def WQ (S : RS) : RS := ⟨S.p, true⟩
def Qn (S : RS) : RS := ⟨S.p + 1, S.bad⟩
def haveM (L : Zq) (s : List UInt8) (S : RS) : Bool × RS := if QV L S = s then (true, Qn S) else (false, S)
def QU (L : Zq) (s : List UInt8) (S : RS) : RS := if QV L S = s then Qn S else WQ S
def valM (s : List UInt8) : Int := (Lib.atoi s).getD 0
def Qw (L : Zq) (S : RS) : Int × RS := if numB (QV L S) = true then (valM (QV L S), Qn S) else (0, WQ S)
def isM (L : Zq) (c : UInt8) (S : RS) : Bool := Lib.hasPrefix (QV L S) [c] && numB ((QV L S).drop 1)
def Qh (L : Zq) (c : UInt8) (S : RS) : Int × RS := if isM L c S = true then (valM ((QV L S).drop 1), Qn S) else (0, WQ S)
def badI (S : RS) : Int := if S.bad = true then S.p else -1
def OkL (L : Zq) : Prop := L.length <= 1000000 /\ ∀ x ∈ L, x.1 ≠ [] /\ x.1.length <= 1000000
theorem now_at {L : Zq} {S : RS} (h : QV L S ≠ []) : S.bad = false /\ ∃ h : S.p < L.length, QV L S = (L[S.p]).1 := by
 unfold QV at h ⊢
 cases hb : S.bad with
 | true => rw [hb, if_pos rfl] at h; exact absurd rfl h
 | false =>
  rw [hb] at h
  simp only [Bool.false_eq_true, if_false] at h ⊢
  refine ⟨trivial, ?_⟩
  rcases Nat.lt_or_ge S.p L.length with h1 | h1
  ·refine ⟨h1, ?_⟩
   rw [List.getD_eq_getElem?_getD, List.getElem?_eq_getElem h1]; rfl
  ·rw [List.getD_eq_getElem?_getD, List.getElem?_eq_none h1] at h; exact absurd rfl h
theorem now_len {L : Zq} (hL : OkL L) (S : RS) : (QV L S).length <= 1000000 := by
 by_cases h : QV L S = []
 ·rw [h]; simp
 ·obtain ⟨_, h1, h2⟩ := now_at h
  rw [h2]; exact (hL.2 _ (List.getElem_mem h1)).2
theorem numB_ne {s : List UInt8} (h : numB s = true) : s ≠ [] := by
 rintro rfl; simp [numB] at h
theorem atoi_num {s : List UInt8} (h : numB s = true) : ∃ n : Nat, Lib.atoi s = some (n : Int) /\ n <= 999 := by
 unfold numB at h
 simp only [Bool.and_eq_true, decide_eq_true_eq] at h
 obtain ⟨⟨⟨h1, h2⟩, _⟩, h3⟩ := h
 have hd : ∀ b, digB b = true -> Lib.digitVal b = some (b.toNat - 48) /\ b.toNat <= 57 /\ 48 <= b.toNat := fun b hb => by
  unfold digB at hb
  simp only [Bool.and_eq_true, decide_eq_true_eq] at hb
  unfold Lib.digitVal
  rw [if_pos hb]; exact ⟨rfl, hb.2, hb.1⟩
 have hsgn : ∀ (b : UInt8) (r : List UInt8), digB b = true -> b ≠ 43 /\ b ≠ 45 := fun b r hb => by
  unfold digB at hb
  simp only [Bool.and_eq_true, decide_eq_true_eq] at hb
  constructor <;> (rintro rfl; revert hb; decide)
 match s, h1, h2, h3 with
 | [a], _, _, h3 =>
  simp at h3
  obtain ⟨e1, e2, e3⟩ := hd a h3
  obtain ⟨n1, n2⟩ := hsgn a [] h3
  refine ⟨a.toNat - 48, ?_, by omega⟩
  simp [Lib.atoi, Lib.decNat, Lib.decFrom, e1, n1, n2]
 | [a, b], _, _, h3 =>
  simp at h3
  obtain ⟨e1, e2, e3⟩ := hd a h3.1
  obtain ⟨f1, f2, f3⟩ := hd b h3.2
  obtain ⟨n1, n2⟩ := hsgn a [] h3.1
  refine ⟨(a.toNat - 48) * 10 + (b.toNat - 48), ?_, by omega⟩
  simp [Lib.atoi, Lib.decNat, Lib.decFrom, e1, f1, n1, n2]
 | [a, b, c], _, _, h3 =>
  simp at h3
  obtain ⟨e1, e2, e3⟩ := hd a h3.1
  obtain ⟨f1, f2, f3⟩ := hd b h3.2.1
  obtain ⟨g1, g2, g3⟩ := hd c h3.2.2
  obtain ⟨n1, n2⟩ := hsgn a [] h3.1
  refine ⟨((a.toNat - 48) * 10 + (b.toNat - 48)) * 10 + (c.toNat - 48), ?_, by omega⟩
  simp [Lib.atoi, Lib.decNat, Lib.decFrom, e1, f1, g1, n1, n2]
theorem val_num {s : List UInt8} (h : numB s = true) : Lib.atoi s = some (valM s) /\ 0 <= valM s /\ valM s <= 999 := by
 obtain ⟨n, h1, h2⟩ := atoi_num h
 unfold valM
 rw [h1]
 exact ⟨rfl, Int.natCast_nonneg n, Int.ofNat_le.2 h2⟩
end Go.Proofs
end
section
namespace Go.Proofs
open Go.Av Go.Bl Go.RowKit
set_option maxHeartbeats 1000000 in
set_option maxRecDepth 100000 in
theorem copyCheck_used (b : Nat) (w : World) (h0 : w.cell? ⟨b, 0, none⟩ = some (.pointer (some ⟨b, 0, none⟩))) :
  Calls Tryz.prog 86 #[.pointer (some ⟨b, 0, none⟩)] w fun e w' => e = .returned (.tuple #[]) /\ w' = w :=
 Any.Builder_copyCheck_used (ρ := Tryz.lays156_ren) { Tryz.lays156 with } { Tryz.Builder_Extra_156 with } b w h0
set_option maxHeartbeats 1000000 in
set_option maxRecDepth 100000 in
theorem copyCheck_fresh (b : Nat) (w : World) (h0 : w.cell? ⟨b, 0, none⟩ = some (.pointer none)) (hsh : w.shape? b = some (77, 3)) (hfz : w.frozen? ⟨b, 0, none⟩ = false) :
  Calls Tryz.prog 86 #[.pointer (some ⟨b, 0, none⟩)] w fun e w' => e = .returned (.tuple #[]) /\ w' = w.setCell ⟨b, 0, none⟩ (.pointer (some ⟨b, 0, none⟩)) := by
 have hi : ∃ j, Tryz.prog.info? 75 = some j /\ j.size = 2 := Option.map_eq_some_iff.1 (show (Tryz.prog.info? 75).map (·.size) = some 2 by kernel_rfl)
 obtain ⟨j, hj, hjs⟩ := hi
 have hlies : liesAt Tryz.prog Tryz.prog.depth 77 (3 / Tryz.prog.cellsOf 77) 0 75 1 = true := by decide +kernel
 go_enter Tryz.func86, Tryz.ntmps86
 go_wp2
 rw [Lib.run_to_unsafe w ⟨b, 0, none⟩ (by kernel_rfl : Tryz.prog.underlying 73 = some (.pointer 75)) (by kernel_rfl : Tryz.prog.underlying 139 = some .unsafePointer) hj (by rw [hjs]; decide) hsh (Nat.zero_lt_succ 2)]
 simp only [Result.andThen]
 rw [Oper.upon_value]
 go_wp2
 rw [run_callFunc_extern Tryz.func135 (by kernel_rfl) (by kernel_rfl) (by kernel_rfl) (e := Extern.AbiNoEscape.same) (by kernel_rfl)]
 rw [Lib.run_noEscape]
 simp only [Result.andThen]
 rw [Oper.upon_value]
 go_wp2
 rw [Lib.run_from_unsafe w ⟨b, 0, none⟩ (by kernel_rfl : Tryz.prog.underlying 139 = some .unsafePointer) (by kernel_rfl : Tryz.prog.underlying 73 = some (.pointer 75)) hj hsh hlies]
 simp only [Result.andThen]
 rw [Oper.upon_value]
 go_wp2
 go_end0
 exact ⟨rfl, rfl⟩
set_option maxHeartbeats 2000000 in
set_option maxRecDepth 100000 in
theorem string_row (b g cap : Nat) (l : List UInt8) (arr : Array Value) (w : World) (hl0 : l ≠ []) (c0 : w.cell? ⟨b, 1, none⟩ = some (.slice (some ⟨g, 0, none⟩) l.length cap)) (hg : w.shape? g = some (5, arr.size)) (hn : l.length <= cap) (hmax : l.length <= 9223372036854775807) (ha : l.length <= arr.size)
  (hb : ∀ (j : Nat) x, l[j]? = some x -> w.cell? ⟨g, j, none⟩ = some (.int .u8 x.toNat)) :
  Calls Tryz.prog 50 #[.pointer (some ⟨b, 0, none⟩)] w fun e w' => e = .returned (.string ⟨l.toArray⟩) /\ w' = w.drew.freeze ⟨g, 0, none⟩ l.length := by
 have hl1 : l.length ≠ 0 := by simpa using hl0
 have mixed : Tryz.prog.follows Departure.mixedOrders = true := by kernel_rfl
 have c1 : w.drew.cell? ⟨b, 1, none⟩ = some (.slice (some ⟨g, 0, none⟩) l.length cap) := c0
 have hSD : (Builtin.unsafeSliceData_ #[43] 118 #[.slice (some ⟨g, 0, none⟩) l.length cap]).run Tryz.prog w.drew = .ok (.pointer (some ⟨g, 0, none⟩)) w.drew :=
  Lib.run_unsafeSliceData_row _ _ _ _ _ _ (by omega)
 have hUS : (Builtin.unsafeString_ #[118, 3] 9 #[.pointer (some ⟨g, 0, none⟩), .int .i64 l.length]).run Tryz.prog w.drew = .ok (.string ⟨l.toArray⟩) (w.drew.freeze ⟨g, 0, none⟩ l.length) := by
  refine Lib.run_unsafeString_row w.drew 118 3 9 5 (by kernel_rfl) (by kernel_rfl) g arr.size hg l hl0 ha hmax ?_
  intro j x hx
  rw [ZM, Nat.zero_add]
  exact hb j x hx
 go_enter Tryz.func50, Tryz.ntmps50
 go_wp2
 go_region_o
 all_goals (go_wp2; go_ret; exact ⟨rfl, rfl⟩)
theorem copyCheck_c {G : Nat -> DV} {B k g : Nat} {σ : List ABlk} {rest : List DV} (hk : σ[k]? = some (.row g (.bld 77 k g :: rest))) (hl : rest.length = 2) : ACalls Tryz.prog G B 86 [.ptr k g 0] σ (fun d' σ' => d' = .tup [] /\ σ' = σ) := fun X vs hS hσ hB hG hv => by
 subst hσ
 obtain ⟨h1, h2⟩ := hv
 have e1 := h2 0 _ rfl
 obtain ⟨b, n, hρ, e2⟩ := e1.ptr_inv hk
 have hvs : vs = #[.pointer (some ⟨b, 0, none⟩)] := by
  apply Array.ext
  ·simpa using h1
  ·intro j hj1 hj2
   have hj : j < 1 := by simpa using hj2
   match j, hj with
   | 0, _ => simpa [Array.getD_eq_getD_getElem?, hj1] using e2
 subst hvs
 obtain ⟨arr, T, fr, q1, q2, q3, q4, q5⟩ := hS.row hk hρ
 have q30 : 3 <= n := by simpa [hl] using q3
 have r0 := (q5 0 _ rfl).2
 obtain ⟨a, ha⟩ : ∃ a, arr.getD 0 undef = .pointer a := by
  generalize arr.getD 0 undef = u at r0
  cases r0 with | bld _ _ _ a _ _ => exact ⟨a, rfl⟩
 rw [ha] at r0
 have hb0 : ∃ b' n', some (b, n) = some (b', n') /\ X.lay.shp b' = some (77, 3) /\ (a = none \/ a = some ⟨b', 0, none⟩) := by
  cases r0 with | bld _ _ _ a g1 g2 => exact g2 _ (by rw [AX.row_mk (Ww hk), hρ])
 obtain ⟨b', n', hbn, hsh, hcase⟩ := hb0
 cases hbn
 have hc0 : X.w.cell? ⟨b, 0, none⟩ = some (.pointer a) := by
  have : 0 < arr.size := by omega
  simp only [World.cell?, q1]
  rw [<- ha]; simp [Array.getD_eq_getD_getElem?, this]
 have hn3 : n = 3 := by
  have hsh : X.w.shape? b = some (77, 3) := hsh
  simp only [World.shape?, q1, Option.some.injEq, Prod.mk.injEq] at hsh
  omega
 subst hn3
 rcases hcase with rfl | rfl
 ·have hfz : X.w.frozen? ⟨b, 0, none⟩ = false := by
   have := q4 0 (by omega)
   simp only [World.frozen?, q1]
   simpa using this
  refine (copyCheck_fresh b X.w hc0 hsh hfz).mono ?_
  rintro e w' ⟨rfl, rfl⟩
  have hset : X.w.setCell ⟨b, 0, none⟩ (.pointer (some ⟨b, 0, none⟩)) = X.w.setCells b 0 [.pointer (some ⟨b, 0, none⟩)] := rfl
  have := (post_store (P := Tryz.prog) (K := fun d' σ' => d' = .tup [] /\ σ' = X.σ) (v := .tuple #[]) (d := .tup []) (vs := [.pointer (some ⟨b, 0, none⟩)]) (ds := [.bld 77 k g]) (o := 0) (cs' := .bld 77 k g :: rest) hS hk hρ rfl (fun u hu => by simp at hu; subst hu; rfl) (fun j e hj => ?_) (by simp) (by simp [hl]) (fun j => ?_) (fun L _ => .tup _ _ rfl fun j d hj => by simp at hj) ⟨rfl, ?_⟩).2
  ·exact ⟨_, rfl, this⟩
  ·cases j with
   | zero =>
    simp at hj; subst hj
    refine ⟨rfl, .bld _ _ _ _ (by cases r0 with | bld _ _ _ a g1 g2 => exact g1) fun ob hob => ?_⟩
    rw [AX.row_mk (Ww hk), hρ] at hob
    exact ⟨b, 3, (Option.some.inj hob).symm, hsh, .inr rfl⟩
   | succ j => simp at hj
  ·cases j with
   | zero => rfl
   | succ j => simp
  ·apply List.ext_getElem?
   intro i
   rw [List.getElem?_set]
   split
   ·rename_i h; subst h
    split
    ·exact hk.symm
    ·rename_i h; exact absurd (List.getElem?_eq_some_iff.1 hk).1 h
   ·rfl
 ·refine (copyCheck_used b X.w hc0).mono ?_
  rintro e w' ⟨rfl, rfl⟩
  exact ⟨_, rfl, X, rfl, hS, WExt.refl X, .tup [], .tup _ _ rfl fun j d hj => by simp at hj, rfl, rfl⟩
end Go.Proofs
end
section
namespace Go.Av
open Classical
section
variable {P : Program} {G : Nat -> DV} {B : Nat} {f : Operand -> DV} {σ : List ABlk} {K : DV -> List ABlk -> Prop} {dst : Option Tmp} {type : TypeId} {pos : String} {after : Array Edge} {gd : Option (Nat × Bool)}
theorem shape_new (w : World) (a : Array Value) (T : TypeId) : (w.alloc (.cells a T)).shape? w.heap.size = some (T, a.size) := by unfold World.shape?; rw [heap_alloc_new]
theorem s_append_b {t t' e : TypeId} {d : TypeDesc} {g1 g2 : Bool} {z1 bytes : Nat} {zs : List Value} {x y : Operand} {m g len n : Nat} {cs ms : List DV} {dy : DV} [ht : TyI P t (.slice e) g1 z1] [ht' : SrcTy P t'] [he : TyI P e d g2 1] [hb : TyB P e bytes] [hz : TyZ P e zs]
  (hzl : zs.length = 1) (hx : f x = .bref e m g len) (hm : σ[m]? = some (.row g cs)) (hle : len * 1 <= cs.length) (hy : f y = dy) (hsrc : SrcOf P σ dy 1 n ms) (hby : (len + n) * bytes <= 140737488355328) (hsm : len + n <= 9223372036854775807)
  (k : ∀ g', B < g' -> K (.bref e m g' (len + n)) (σ.set m (.row g' (cs.take (len * 1) ++ ms)))) : OpSem P G B ⟨dst, .call ⟨.builtin .append, #[x, y], #[t, t']⟩, type, pos, after, gd⟩ f σ K := fun X ρ hS hσ hB _ hf => by
 subst hσ
 have e0 := hf x (by simp [Op.operands, Call.operands]); rw [hx] at e0
 have e1 : VRep X.lay (.ref m g 0 len 1) (ρ x) := by
  generalize ρ x = u at e0
  cases e0 with | bref _ _ _ _ a l c h1 h2 => exact .ref _ _ _ _ _ _ _ _ h1 fun ob hob => (h2 ob hob).1
 have hsh0 : ∀ b nn, X.ρ m = some (b, nn) -> ∃ mm, X.w.shape? b = some (e, mm) := fun b nn hb => by
  generalize ρ x = u at e0
  cases e0 with | bref _ _ _ _ a l c h1 h2 => exact (h2 _ (AX.row_mk (Ww hm))).2 b nn hb
 have e2 := hf y (by simp [Op.operands, Call.operands]); rw [hy] at e2
 obtain ⟨vs, hsx⟩ := hsrc X _ hS rfl e2
 obtain ⟨us, hss⟩ := Src.ref (P := P) hS hm e1 (by omega)
 rw [List.drop_zero] at hss
 have href := e1.ref_inv hm
 obtain ⟨base, cap, hv, hlc, hcase⟩ : ∃ base cap, ρ x = .slice base len cap /\ len <= cap /\ ((X.ρ m = none /\ base = none /\ cap = 0) \/ ∃ b nn, X.ρ m = some (b, nn) /\ (cap = 0 \/ (base = some ⟨b, 0, none⟩ /\ cap * 1 <= nn))) := by
  unfold RefOk at href
  cases hρ : X.ρ m with
  | none => rw [hρ] at href; obtain ⟨h1, _, rfl⟩ := href; exact ⟨none, 0, h1, Nat.le_refl _, .inl ⟨rfl, rfl, rfl⟩⟩
  | some z =>
   obtain ⟨b, nn⟩ := z
   rw [hρ] at href
   obtain ⟨a, cap, h1, h2, h3⟩ := href
   exact ⟨a, cap, h1, h2, .inr ⟨b, nn, rfl, by rcases h3 with h3 | ⟨h3, h4⟩; exact .inl h3; exact .inr ⟨h3, by omega⟩⟩⟩
 rw [hv] at hss
 have hlen : (cs.take (len * 1) ++ ms).length = (len + n) * 1 := by rw [List.length_append, hss.hm, hsx.hm, Nat.add_mul]
 have fin : ∀ (w' : World) (ob : Option (Nat × Nat)) (v' : Value), w'.os = X.w.os -> w'.tape = X.w.tape -> w'.output = X.w.output -> X.w.heap.size <= w'.heap.size ->
   (∀ b, b < X.w.heap.size -> (∀ nn, X.ρ m ≠ some (b, nn)) -> w'.heap[b]? = X.w.heap[b]?) -> (∀ b nn, ob = some (b, nn) -> X.w.heap.size <= b \/ ∃ n0, X.ρ m = some (b, n0)) -> (∀ b s, X.w.shape? b = some s -> w'.shape? b = some s) ->
   (ABlk.row (X.N + 1) (cs.take (len * 1) ++ ms)).holds X.lay w' ob -> RefOk ob 0 (len + n) 1 v' -> (∃ a c, v' = .slice a (len + n) c) -> (∀ b nn, ob = some (b, nn) -> X.ρ m = some (b, nn) \/ ∃ mm, w'.shape? b = some (e, mm)) -> APost X K v' w' := by
  intro w' ob v' h1 h2 h3 h4 h5 h6 hshp h7 h8 h9 h10
  obtain ⟨a, c, rfl⟩ := h9
  have hok : ReplOk X m g w' ob (.row (X.N + 1) (cs.take (len * 1) ++ ms)) (X.N + 1) := { live := Ww hm, os := h1, tape := h2, output := h3, size := h4, block := h5, gen := .inl ⟨_, rfl, Nat.lt_succ_self _, Nat.le_refl _⟩, lies := h6, shp := hshp }
  refine ⟨_, rfl, hS.repl hok h7, WExt.repl hS hok, _, ?_, k (X.N + 1) (by omega)⟩
  refine .bref _ _ _ _ _ _ _ (Nat.le_refl _) fun ob' hob => ?_
  rw [AX.row_mk ((AX.repl_live (AX.live_lt (Ww hm))).2 (.inr ⟨rfl, rfl⟩))] at hob
  simp only [AX.repl, if_true, Option.some.injEq] at hob
  subst hob
  refine ⟨h8, fun b nn hb => ?_⟩
  rcases h10 b nn hb with hr | hr
  ·obtain ⟨mm, hmm⟩ := hsh0 b nn hr
   exact ⟨mm, hshp _ _ hmm⟩
  ·exact hr
 have hcall : ∀ r, (Builtin.append_ #[t, t'] type #[.slice base len cap, ρ y]).run P X.w = r -> (match r with | .ok v w' => APost X K v w' | _ => False) -> OPost P X K ((execOp ρ ⟨dst, .call ⟨.builtin .append, #[x, y], #[t, t']⟩, type, pos, after, gd⟩).run P X.w) := by
  intro r hr hp
  simp only [execOp, resolve, invoke, builtin, List.map_toArray, List.map_cons, List.map_nil, Sem.run_bind, Sem.run_pure, Result.andThen_ok, hv, hr]
  cases r with
  | ok v w' => exact hp
  | halt _ _ => exact hp.elim
 rcases run_append (ty := type) ht ht' he hb hz hss hsx hby hsm with ⟨hfit, hrun⟩ | ⟨hgrow, nc, hnc, hrun⟩
 ·refine hcall _ hrun ?_
  rcases hcase with ⟨hρ, rfl, rfl⟩ | ⟨b, nn, hρ, hcap⟩
  ·obtain ⟨rfl, rfl⟩ : len = 0 /\ n = 0 := by omega
   have hnil : cs.take (0 * 1) ++ ms = [] := List.eq_nil_of_length_eq_zero (by first | (rw [hlen]; done) | (rw [hlen]; simp))
   exact fin X.w none _ rfl rfl rfl (Nat.le_refl _) (fun _ _ _ => rfl) (fun _ _ h => by cases h) (fun _ _ h => h) hnil ⟨rfl, rfl, rfl⟩ ⟨_, _, rfl⟩ (fun _ _ h => by cases h)
  ·obtain ⟨arr, T, fr, q1, q2, q3, q4, q5⟩ := hS.row hm hρ
   rcases hcap with rfl | ⟨rfl, hcap⟩
   ·obtain ⟨rfl, rfl⟩ : len = 0 /\ n = 0 := by omega
    have hvs : vs = [] := List.eq_nil_of_length_eq_zero (by first | (rw [hsx.hv]; done) | (rw [hsx.hv]; simp))
    have hnil : cs.take (0 * 1) ++ ms = [] := List.eq_nil_of_length_eq_zero (by first | (rw [hlen]; done) | (rw [hlen]; simp))
    suffices hfin : APost X K (.slice base (0 + 0) 0) X.w by subst hvs; cases base <;> exact hfin
    refine fin X.w (some (b, nn)) _ rfl rfl rfl (Nat.le_refl _) (fun _ _ _ => rfl) (fun b' n' h => .inr ⟨nn, by rw [hρ]; cases h; rfl⟩) (fun _ _ h => h) ?_ ⟨_, _, rfl, Nat.le_refl _, .inl rfl⟩ ⟨_, _, rfl⟩ (fun b' n' h => .inl (by rw [hρ]; exact h))
    rw [hnil]
    exact ⟨arr, T, fr, q1, q2, Nat.zero_le _, q4, fun j e hj => by simp at hj⟩
   ·have hfit' : (len + n) * 1 <= cap * 1 := Nat.mul_le_mul_right _ hfit
    rw [Nat.add_mul] at hfit'
    have hst : (storeCells ⟨b, 0 + len * 1, none⟩ vs).run P X.w = .ok () (X.w.setCells b (0 + len * 1) vs) := run_storeRow q1 (fun j hj => q4 j (by omega)) (by rw [hsx.hv]; omega) hsx.one
    simp only [ZM, hst, Result.andThen_ok]
    obtain ⟨r1, r2, r3, r4⟩ := setCells_rest vs X.w b (0 + len * 1)
    refine fin _ (some (b, nn)) _ r1 r2 r3 (Nat.le_of_eq r4.symm) (fun b' _ hb' => Zg vs X.w b _ b' (fun e => hb' nn (by rw [hρ, e]))) (fun b' n' h => .inr ⟨nn, by rw [hρ]; cases h; rfl⟩) (setCells_shp q1 _ _) ?_ ⟨_, cap, rfl, hfit, .inr ⟨rfl, by omega⟩⟩ ⟨_, _, rfl⟩ (fun b' n' h => .inl (by rw [hρ]; exact h))
    refine ⟨_, T, fr, Z9 vs X.w b _ arr T fr q1, by rw [ZU, q2], by rw [hlen, Nat.add_mul]; omega, q4, fun j e hj => ?_⟩
    rw [qk _ _ _ _ (by rw [hsx.hv]; omega)]
    rw [List.getElem?_append, hss.hm] at hj
    split at hj
    ·rename_i hlt
     rw [if_neg (by omega)]
     rw [List.getElem?_take, if_pos hlt] at hj
     exact q5 j e hj
    ·rename_i hge
     have hlt : j - len * 1 < n * 1 := by have := (List.getElem?_eq_some_iff.1 hj).1; rw [hsx.hm] at this; exact this
     rw [if_pos (by rw [hsx.hv]; omega), Nat.zero_add]
     exact hsx.rep _ e hj
 ·refine hcall _ hrun ?_
  have hwk : Keep X.w (X.w.drew.alloc (.cells (us.toArray ++ vs.toArray ++ Builtin.zeroCells zs.toArray (nc - (len + n))) e)) := (Keep.drew X.w).trans (Keep.alloc _ _)
  have hasz : (us.toArray ++ vs.toArray ++ Builtin.zeroCells zs.toArray (nc - (len + n))).size = nc * 1 := by
   rw [Array.size_append, Array.size_append, zeroCells_size, hzl]
   simp only [List.size_toArray, hss.hv, hsx.hv, <- Nat.add_mul]
   congr 1; omega
  have hncs : (len + n) * 1 <= nc * 1 := Nat.mul_le_mul_right _ hnc
  refine fin _ (some (X.w.heap.size, nc * 1)) _ rfl rfl rfl hwk.size (fun b hb _ => hwk.block b hb) (fun b nn h => .inl (by cases h; exact Nat.le_refl _)) hwk.shp ?_ ⟨_, nc, rfl, hnc, .inr ⟨rfl, by omega⟩⟩ ⟨_, _, rfl⟩ (fun b' n' h => .inr ⟨_, by cases h; exact shape_new X.w.drew _ _⟩)
  exact ⟨_, e, (0, 0), heap_alloc_new X.w.drew _, hasz, by rw [hlen]; exact hncs, fun j _ h => by simp at h, fun j e' hj => grown_rep hss hsx _ j e' hj⟩
end
end Go.Av
end
section
namespace Go.Av
open Go.Bl Go.Proofs
abbrev pRow (k0 k1 g0 g1 n : Nat) (bad : Bool) : ABlk := .row g0 [.bld 77 k0 g0, .bref 5 k1 g1 n, .b bad]
abbrev pfx3 (g0 : Nat) (r : List ABlk) (p : DV × DV × DV × ABlk) : List ABlk := .row g0 [p.1, p.2.1, p.2.2.1] :: p.2.2.2 :: r
section
variable {P : Program} {G : Nat -> DV}
def PM (P : Program) (G : Nat -> DV) (f : FuncId) (aa : Nat -> Nat -> List DV) (o : List UInt8) (bad : Bool) (res : DV) (o' : List UInt8) (bad' : Bool) : Prop :=
 ∀ g0 g1 B, g0 <= B -> g1 <= B -> ACalls P G B f (aa 0 g0) [pRow 0 1 g0 g1 o.length bad, .row g1 (Ws o)]
  (fun d' τ' => d' = res /\ ∃ g1', (g1' = g1 \/ B < g1') /\ τ' = [pRow 0 1 g0 g1' o'.length bad', .row g1' (Ws o')])
variable {B : Nat} {f : Operand -> DV} {σ : List ABlk} {K : DV -> List ABlk -> Prop} {dst : Option Tmp} {type : TypeId} {pos : String} {after : Array Edge} {gd : Option (Nat × Bool)}
theorem PM.lift {fid : FuncId} {aa : Nat -> Nat -> List DV} {o o' : List UInt8} {bad bad' : Bool} {res : DV} {k0 k1 g0 g1 : Nat} {es : List DV} {σ' : Nat -> List ABlk} (h : PM P G fid aa o bad res o' bad') (hes : es = aa k0 g0) (h0 : σ[k0]? = some (pRow k0 k1 g0 g1 o.length bad)) (h1 : σ[k1]? = some (.row g1 (Ws o))) (hne : Nat.beq k0 k1 = false)
  (hargs : RenL (RenD (qf [k0, k1] σ.length)) (aa k0 g0) (aa 0 g0)) (hres : res.clo = true) (hσ' : ∀ g1', ZO σ [k0, k1] [pRow k0 k1 g0 g1' o'.length bad', .row g1' (Ws o')] = some (σ' g1')) :
  ACalls P G B fid es σ (fun d τ => ∃ g1', (g1' = g1 \/ B < g1') /\ d = res /\ τ = σ' g1') := by
 subst hes
 have hbs : ∀ {m : Nat} {g : Nat} {l : List UInt8} {b : Bool}, RenBs (qf [k0, k1] m) [pRow k0 k1 g0 g l.length b, .row g (Ws l)] [pRow 0 1 g0 g l.length b, .row g (Ws l)] := fun {m g l b} =>
  .cons (.row (.cons (.bld rfl) (.cons (.bref rfl) (.cons (.clo Wh) .nil)))) (.cons (.rowc (QC l)) .nil)
 have hnd : [k0, k1].Nodup := by
  have : k0 ≠ k1 := fun e => by subst e; simp at hne
  simp [this]
 have hpick : pickA σ [k0, k1] = some [pRow k0 k1 g0 g1 o.length bad, .row g1 (Ws o)] := by simp only [pickA, h0, h1]
 obtain ⟨hp1, hp2⟩ := pickA_eq hpick
 obtain ⟨h3, h4⟩ := (hbs (m := σ.length) (g := g1) (l := o) (b := bad)).get
 refine ACalls.sub (R := fun B d' τ' => d' = res /\ ∃ g1', (g1' = g1 \/ B < g1') /\ τ' = [pRow 0 1 g0 g1' o'.length bad', .row g1' (Ws o')]) hargs hnd rfl (fun i hi => ?_) (fun B' hB hg => h g0 g1 B' (hg 0 _ _ rfl rfl) (hg 1 _ _ rfl rfl)) ?_
 ·obtain ⟨b, e1, e2⟩ := hp2 i hi
  have hi2 : i < 2 := by simpa using hi
  have e3 := List.getElem?_eq_getElem (show i < [pRow 0 1 g0 g1 o.length bad, .row g1 (Ws o)].length by simpa using hi2)
  exact ⟨b, _, e1, e3, h4 i b _ e2 e3⟩
 ·rintro B' d' τ' hB ⟨rfl, g1', hg, rfl⟩
  refine ⟨d', σ' g1', Out.of (.s (.clo hres)) hnd rfl hbs (hσ' g1'), g1', by omega, rfl, rfl⟩
theorem s_call_pm {args : Array Operand} {ts : Array TypeId} {fid : FuncId} {aa : Nat -> Nat -> List DV} {o o' : List UInt8} {bad bad' : Bool} {res : DV} {k0 k1 g0 g1 : Nat} {es : List DV} {σ' : Nat -> List ABlk} [FnOk P fid] (h : PM P G fid aa o bad res o' bad') (hx : f (.func fid) = .fn (.func fid) [] []) (hds : reL (args.toList.map f) = some es) (hes : es = aa k0 g0) (h0 : σ[k0]? = some (pRow k0 k1 g0 g1 o.length bad)) (h1 : σ[k1]? = some (.row g1 (Ws o))) (hne : Nat.beq k0 k1 = false)
  (hargs : RenL (RenD (qf [k0, k1] σ.length)) (aa k0 g0) (aa 0 g0)) (hres : res.clo = true) (hσ' : ∀ g1', ZO σ [k0, k1] [pRow k0 k1 g0 g1' o'.length bad', .row g1' (Ws o')] = some (σ' g1')) (kk : ∀ g1', (g1' = g1 \/ B < g1') -> K res (σ' g1')) :
  OpSem P G B ⟨dst, .call ⟨.value (.func fid), args, ts⟩, type, pos, after, gd⟩ f σ K := s_call hx hds ((h.lift hes h0 h1 hne hargs hres hσ').mono fun _ _ ⟨g, hg, e1, e2⟩ => by rw [e1, e2]; exact kk g hg)
def PE (P : Program) (G : Nat -> DV) (f : FuncId) (aa : Nat -> Nat -> List DV) (o : List UInt8) (bad : Bool) (res : DV) (bad' : Bool) : Prop :=
 ∀ g0 g1 B, g0 <= B -> g1 <= B -> ACalls P G B f (aa 0 g0) [pRow 0 1 g0 g1 o.length bad, .row g1 (Ws o)] (fun d' τ' => d' = res /\ τ' = [pRow 0 1 g0 g1 o.length bad', .row g1 (Ws o)])
theorem PE.conv {f : FuncId} {aa : Nat -> Nat -> List DV} {o : List UInt8} {bad bad' b2 : Bool} {res r2 : DV} (h : PE P G f aa o bad res bad') (h1 : res = r2) (h3 : bad' = b2) : PE P G f aa o bad r2 b2 := by subst h1; subst h3; exact h
theorem PE.lift {fid : FuncId} {aa : Nat -> Nat -> List DV} {o : List UInt8} {bad bad' : Bool} {res : DV} {k0 k1 g0 g1 : Nat} {es : List DV} {σ' : List ABlk} (h : PE P G fid aa o bad res bad') (hes : es = aa k0 g0) (h0 : σ[k0]? = some (pRow k0 k1 g0 g1 o.length bad)) (h1 : σ[k1]? = some (.row g1 (Ws o))) (hne : Nat.beq k0 k1 = false)
  (hargs : RenL (RenD (qf [k0, k1] σ.length)) (aa k0 g0) (aa 0 g0)) (hres : res.clo = true) (hσ' : ZO σ [k0, k1] [pRow k0 k1 g0 g1 o.length bad', .row g1 (Ws o)] = some σ') :
  ACalls P G B fid es σ (fun d τ => d = res /\ τ = σ') := by
 subst hes
 have hbs : ∀ {m : Nat} {g : Nat} {l : List UInt8} {b : Bool}, RenBs (qf [k0, k1] m) [pRow k0 k1 g0 g l.length b, .row g (Ws l)] [pRow 0 1 g0 g l.length b, .row g (Ws l)] := fun {m g l b} =>
  .cons (.row (.cons (.bld rfl) (.cons (.bref rfl) (.cons (.clo Wh) .nil)))) (.cons (.rowc (QC l)) .nil)
 have hnd : [k0, k1].Nodup := by
  have : k0 ≠ k1 := fun e => by subst e; simp at hne
  simp [this]
 have hpick : pickA σ [k0, k1] = some [pRow k0 k1 g0 g1 o.length bad, .row g1 (Ws o)] := by simp only [pickA, h0, h1]
 obtain ⟨hp1, hp2⟩ := pickA_eq hpick
 obtain ⟨h3, h4⟩ := (hbs (m := σ.length) (g := g1) (l := o) (b := bad)).get
 refine ACalls.sub (R := fun B d' τ' => d' = res /\ τ' = [pRow 0 1 g0 g1 o.length bad', .row g1 (Ws o)]) hargs hnd rfl (fun i hi => ?_) (fun B' hB hg => h g0 g1 B' (hg 0 _ _ rfl rfl) (hg 1 _ _ rfl rfl)) ?_
 ·obtain ⟨b, e1, e2⟩ := hp2 i hi
  have hi2 : i < 2 := by simpa using hi
  have e3 := List.getElem?_eq_getElem (show i < [pRow 0 1 g0 g1 o.length bad, .row g1 (Ws o)].length by simpa using hi2)
  exact ⟨b, _, e1, e3, h4 i b _ e2 e3⟩
 ·rintro B' d' τ' hB ⟨rfl, rfl⟩
  refine ⟨d', σ', Out.of (.s (.clo hres)) hnd rfl hbs hσ', rfl, rfl⟩
theorem s_call_pe {args : Array Operand} {ts : Array TypeId} {fid : FuncId} {aa : Nat -> Nat -> List DV} {o : List UInt8} {bad bad' : Bool} {res : DV} {k0 k1 g0 g1 : Nat} {es : List DV} {σ' : List ABlk} [FnOk P fid] (h : PE P G fid aa o bad res bad') (hx : f (.func fid) = .fn (.func fid) [] []) (hds : reL (args.toList.map f) = some es) (hes : es = aa k0 g0) (h0 : σ[k0]? = some (pRow k0 k1 g0 g1 o.length bad)) (h1 : σ[k1]? = some (.row g1 (Ws o))) (hne : Nat.beq k0 k1 = false)
  (hargs : RenL (RenD (qf [k0, k1] σ.length)) (aa k0 g0) (aa 0 g0)) (hres : res.clo = true) (hσ' : ZO σ [k0, k1] [pRow k0 k1 g0 g1 o.length bad', .row g1 (Ws o)] = some σ') (kk : K res σ') :
  OpSem P G B ⟨dst, .call ⟨.value (.func fid), args, ts⟩, type, pos, after, gd⟩ f σ K := s_call hx hds ((h.lift hes h0 h1 hne hargs hres hσ').mono fun _ _ ⟨e1, e2⟩ => by rw [e1, e2]; exact kk)
theorem s_callv_pe {x : Operand} {args : Array Operand} {ts : Array TypeId} {fid : FuncId} {first cap : List DV} {aa : Nat -> Nat -> List DV} {o : List UInt8} {bad bad' : Bool} {res : DV} {k0 k1 g0 g1 : Nat} {es : List DV} {σ' : List ABlk} [FnOk P fid] (h : PE P G fid aa o bad res bad') (hx : f x = .fn (.func fid) first cap) (hds : reL (first ++ args.toList.map f ++ cap) = some es) (hes : es = aa k0 g0) (h0 : σ[k0]? = some (pRow k0 k1 g0 g1 o.length bad)) (h1 : σ[k1]? = some (.row g1 (Ws o))) (hne : Nat.beq k0 k1 = false)
  (hargs : RenL (RenD (qf [k0, k1] σ.length)) (aa k0 g0) (aa 0 g0)) (hres : res.clo = true) (hσ' : ZO σ [k0, k1] [pRow k0 k1 g0 g1 o.length bad', .row g1 (Ws o)] = some σ') (kk : K res σ') :
  OpSem P G B ⟨dst, .call ⟨.value x, args, ts⟩, type, pos, after, gd⟩ f σ K := s_callv hx hds ((h.lift hes h0 h1 hne hargs hres hσ').mono fun _ _ ⟨e1, e2⟩ => by rw [e1, e2]; exact kk)
theorem c_pe {E : AX} {g0 g1 : Nat} {d res : DV} {o : List UInt8} {bad' b2 : Bool} {r : List ABlk} (hd : d = res) (hb : b2 = bad') :
  AClose E (fun d' τ' => d' = res /\ τ' = [pRow 0 1 g0 g1 o.length bad', .row g1 (Ws o)]) d (pRow 0 1 g0 g1 o.length b2 :: .row g1 (Ws o) :: r) := by
 subst hb
 exact WW (σ := [_, _]) ⟨hd, rfl⟩
theorem s_call_cc {G : Nat -> DV} {B : Nat} {f : Operand -> DV} {σ : List ABlk} {K : DV -> List ABlk -> Prop} {dst : Option Tmp} {type : TypeId} {pos : String} {after : Array Edge} {gd : Option (Nat × Bool)} {args : Array Operand} {ts : Array TypeId} {k g : Nat} {rest : List DV} (hx : f (.func 86) = .fn (.func 86) [] []) (hds : reL (args.toList.map f) = some [.ptr k g 0]) (hk : σ[k]? = some (.row g (.bld 77 k g :: rest))) (hl : rest.length = 2) (kk : K (.tup []) σ) :
  OpSem Tryz.prog G B ⟨dst, .call ⟨.value (.func 86), args, ts⟩, type, pos, after, gd⟩ f σ K := s_call hx hds ((copyCheck_c hk hl).mono fun _ _ ⟨e1, e2⟩ => by rw [e1, e2]; exact kk)
theorem s_app_str {t t' e : TypeId} {d : TypeDesc} {g1 : Bool} {z1 : Nat} {zs : List Value} {x y : Operand} {m g : Nat} {l s : List UInt8} {σ' : Nat -> List ABlk} [ht : TyI P t (.slice e) g1 z1] [ht' : SrcTy P t'] [he : TyI P e d false 1] [hb : TyB P e 1] [hz : TyZ P e zs]
  (hzl : zs.length = 1) (hx : f x = .ref m g 0 l.length 1) (hm : σ[m]? = some (.row g (Ws l))) (hy : f y = WS s) (hlen : l.length + s.length <= 140737488355328) (hσ' : ∀ g', setA σ m (.row g' (Ws (l ++ s))) = some (σ' g'))
  (k : ∀ g', B < g' -> K (.ref m g' 0 (l ++ s).length 1) (σ' g')) : OpSem P G B ⟨dst, .call ⟨.builtin .append, #[x, y], #[t, t']⟩, type, pos, after, gd⟩ f σ K := by
 have hel : (Ws l : List DV).length = l.length := by rw [QS]; exact Nat.mul_one _
 have hby : qo ⟨s.toArray⟩ = (Ws s : List DV) := by
  unfold qo
  show s.toArray.toList.map _ = _
  rw [List.toList_toArray]
  clear hy hlen hσ' k
  induction s with
  | nil => rfl
  | cons b r ih => rw [List.map_cons, ih]; rfl
 refine s_append (n := s.length) (ms := Ws s) hzl hx hm (by rw [hel]; omega) hy (fun X v a b c => ?_) (by simpa using hlen) (by omega) fun g' hg' => ?_
 ·obtain ⟨vs, hvs⟩ := srcOf_str (P := P) X v a b c
  rw [hby, ZA] at hvs
  exact ⟨vs, hvs⟩
 ·have h1 := k g' hg'
  rw [qi (hσ' g'), List.length_append, encs_append] at h1
  rw [List.take_of_length_le (by rw [hel]; omega)]
  exact h1
theorem s_app_bstr {t t' e : TypeId} {d : TypeDesc} {g1 : Bool} {z1 : Nat} {zs : List Value} {x y : Operand} {m g : Nat} {l s : List UInt8} {σ' : Nat -> List ABlk} [ht : TyI P t (.slice e) g1 z1] [ht' : SrcTy P t'] [he : TyI P e d false 1] [hb : TyB P e 1] [hz : TyZ P e zs]
  (hzl : zs.length = 1) (hx : f x = .bref e m g l.length) (hm : σ[m]? = some (.row g (Ws l))) (hy : f y = WS s) (hlen : l.length + s.length <= 140737488355328) (hσ' : ∀ g', setA σ m (.row g' (Ws (l ++ s))) = some (σ' g'))
  (k : ∀ g', B < g' -> K (.bref e m g' (l ++ s).length) (σ' g')) : OpSem P G B ⟨dst, .call ⟨.builtin .append, #[x, y], #[t, t']⟩, type, pos, after, gd⟩ f σ K := by
 have hel : (Ws l : List DV).length = l.length := by rw [QS]; exact Nat.mul_one _
 have hby : qo ⟨s.toArray⟩ = (Ws s : List DV) := by
  unfold qo
  show s.toArray.toList.map _ = _
  rw [List.toList_toArray]
  clear hy hlen hσ' k
  induction s with
  | nil => rfl
  | cons b r ih => rw [List.map_cons, ih]; rfl
 refine s_append_b (n := s.length) (ms := Ws s) hzl hx hm (by rw [hel]; omega) hy (fun X v a b c => ?_) (by simpa using hlen) (by omega) fun g' hg' => ?_
 ·obtain ⟨vs, hvs⟩ := srcOf_str (P := P) X v a b c
  rw [hby, ZA] at hvs
  exact ⟨vs, hvs⟩
 ·have h1 := k g' hg'
  rw [qi (hσ' g'), List.length_append, encs_append] at h1
  rw [List.take_of_length_le (by rw [hel]; omega)]
  exact h1
theorem c_pm {E : AX} {B g0 g1 g1' : Nat} {d res : DV} {o' o2 : List UInt8} {bad' b2 : Bool} {r : List ABlk} (hd : d = res) (ho : o2 = o') (hb : b2 = bad') (hg : g1' = g1 \/ B < g1') :
  AClose E (fun d' τ' => d' = res /\ ∃ g, (g = g1 \/ B < g) /\ τ' = [pRow 0 1 g0 g o'.length bad', .row g (Ws o')]) d (pRow 0 1 g0 g1' o2.length b2 :: .row g1' (Ws o2) :: r) := by
 subst ho; subst hb
 exact WW (σ := [_, _]) ⟨hd, g1', hg, rfl⟩
theorem ZY {x : Operand} {args : Array Operand} {ts : Array TypeId} {fid : FuncId} {first cap es : List DV} {d0 : DV} {σ1 : List ABlk} [FnOk P fid] (hx : f x = .fn (.func fid) first cap) (hds : reL (first ++ args.toList.map f ++ cap) = some es) (h : ACalls P G B fid es σ (fun d τ => d = d0 /\ τ = σ1)) (kk : K d0 σ1) :
  OpSem P G B ⟨dst, .call ⟨.value x, args, ts⟩, type, pos, after, gd⟩ f σ K := s_callv hx hds (h.mono fun _ _ ⟨e1, e2⟩ => by rw [e1, e2]; exact kk)
theorem ZX {x : Operand} {args : Array Operand} {ts : Array TypeId} {fid : FuncId} {first cap es : List DV} {d0 : DV} {σ1 : Nat -> List ABlk} {g : Nat} {cs : List DV} [FnOk P fid] (hx : f x = .fn (.func fid) first cap) (hds : reL (first ++ args.toList.map f ++ cap) = some es) (h1 : σ[1]? = some (.row g cs)) (h : ∀ B', g <= B' -> ACalls P G B' fid es σ (fun d τ => d = d0 /\ ∃ g', (g' = g \/ B' < g') /\ τ = σ1 g')) (kk : ∀ g', (g' = g \/ B < g') -> K d0 (σ1 g')) :
  OpSem P G B ⟨dst, .call ⟨.value x, args, ts⟩, type, pos, after, gd⟩ f σ K := s_callv hx hds fun X vs hS hσ hB hG hv => by
 have hg : g <= X.N := hS.gen 1 g (Ww (by rw [hσ]; exact h1))
 refine (h X.N hg X vs hS hσ (Nat.le_refl _) hG hv).mono ?_
 rintro e w' ⟨v, he, X', a, b, c, d, hd, rfl, g', hg', e2⟩
 exact ⟨v, he, X', a, b, c, _, hd, by rw [e2]; exact kk g' (by omega)⟩
end
section
theorem WY (k0 k1 : Nat) {P : Program} {G : Nat -> DV} {B : Nat} {f : Operand -> DV} {σ : List ABlk} {K : DV -> List ABlk -> Prop} {dst : Option Tmp} {type : TypeId} {pos : String} {after : Array Edge} {gd : Option (Nat × Bool)} {args : Array Operand} {ts : Array TypeId} {fid : FuncId} {aa : Nat -> Nat -> List DV} {o : List UInt8} {bad bad' : Bool} {res : DV} {g0 g1 : Nat} {es : List DV} {σ' : List ABlk} [FnOk P fid] (h : PE P G fid aa o bad res bad') (hx : f (.func fid) = .fn (.func fid) [] []) (hds : reL (args.toList.map f) = some es) (hes : es = aa k0 g0) (h0 : σ[k0]? = some (pRow k0 k1 g0 g1 o.length bad)) (h1 : σ[k1]? = some (.row g1 (Ws o))) (hne : Nat.beq k0 k1 = false) (kk : K res σ')
  (hargs : RenL (RenD (qf [k0, k1] σ.length)) (aa k0 g0) (aa 0 g0) := by repeat' first | exact .nil | refine .cons ?_ ?_ | exact .s (.mp rfl) | exact .s (.ptr rfl) | exact .s (.ref rfl) | exact .fn (by repeat' first | exact .nil | refine .cons ?_ ?_ | exact .ptr rfl | exact .mp rfl | exact .clo Wh) (by repeat' first | exact .nil | refine .cons ?_ ?_ | exact .ptr rfl | exact .mp rfl | exact .clo Wh) | exact .s (.clo (by (repeat' first | exact Enc.clo _ | exact Wh | exact Wu _ | exact Wt (QC _) | exact QC _ | refine ZI ?_ ?_ | refine Zu ?_ | refine WV ?_ | refine WK ?_ | exact W0 | refine Wp ?_ ?_ | refine Wt ?_); done))) (hres : res.clo = true := by repeat' first | exact Wh | exact Wu _ | exact Wt (QC _) | exact QC _ | refine ZI ?_ ?_ | refine Zu ?_ | refine WV ?_ | refine WK ?_ | exact W0 | refine Wp ?_ ?_ | refine Wt ?_) (hσ' : ZO σ [k0, k1] [pRow k0 k1 g0 g1 o.length bad', .row g1 (Ws o)] = some σ' := by rfl) :
  OpSem P G B ⟨dst, .call ⟨.value (.func fid), args, ts⟩, type, pos, after, gd⟩ f σ K := s_call_pe h hx hds hes h0 h1 hne hargs hres hσ' kk
theorem s_pm (k0 k1 : Nat) {P : Program} {G : Nat -> DV} {B : Nat} {f : Operand -> DV} {σ : List ABlk} {K : DV -> List ABlk -> Prop} {dst : Option Tmp} {type : TypeId} {pos : String} {after : Array Edge} {gd : Option (Nat × Bool)} {args : Array Operand} {ts : Array TypeId} {fid : FuncId} {aa : Nat -> Nat -> List DV} {o o' : List UInt8} {bad bad' : Bool} {res : DV} {g0 g1 : Nat} {es : List DV} {σ' : Nat -> List ABlk} [FnOk P fid] (h : PM P G fid aa o bad res o' bad') (hx : f (.func fid) = .fn (.func fid) [] []) (hds : reL (args.toList.map f) = some es) (hes : es = aa k0 g0) (h0 : σ[k0]? = some (pRow k0 k1 g0 g1 o.length bad)) (h1 : σ[k1]? = some (.row g1 (Ws o))) (hne : Nat.beq k0 k1 = false) (hσ' : ∀ g1', ZO σ [k0, k1] [pRow k0 k1 g0 g1' o'.length bad', .row g1' (Ws o')] = some (σ' g1')) (kk : ∀ g1', (g1' = g1 \/ B < g1') -> K res (σ' g1'))
  (hargs : RenL (RenD (qf [k0, k1] σ.length)) (aa k0 g0) (aa 0 g0) := by repeat' first | exact .nil | refine .cons ?_ ?_ | exact .s (.mp rfl) | exact .s (.ptr rfl) | exact .s (.ref rfl) | exact .fn (by repeat' first | exact .nil | refine .cons ?_ ?_ | exact .ptr rfl | exact .mp rfl | exact .clo Wh) (by repeat' first | exact .nil | refine .cons ?_ ?_ | exact .ptr rfl | exact .mp rfl | exact .clo Wh) | exact .s (.clo (by (repeat' first | exact Enc.clo _ | exact Wh | exact Wu _ | exact Wt (QC _) | exact QC _ | refine ZI ?_ ?_ | refine Zu ?_ | refine WV ?_ | refine WK ?_ | exact W0 | refine Wp ?_ ?_ | refine Wt ?_); done))) (hres : res.clo = true := by repeat' first | exact Wh | exact Wu _ | exact Wt (QC _) | exact QC _ | refine ZI ?_ ?_ | refine Zu ?_ | refine WV ?_ | refine WK ?_ | exact W0 | refine Wp ?_ ?_ | refine Wt ?_) :
  OpSem P G B ⟨dst, .call ⟨.value (.func fid), args, ts⟩, type, pos, after, gd⟩ f σ K := s_call_pm h hx hds hes h0 h1 hne hargs hres hσ' kk
end
end Go.Av
end
section
namespace Go.Proofs
open Go.Av
variable {G : Nat -> DV}
attribute [local irreducible] OpSem Za Zv qc ACalls AEnd AClose RV
open Go.Bl
variable {o : List UInt8} {bad : Bool}
theorem write_c (s : List UInt8) (hlen : o.length + s.length <= 140737488355328) : PM Tryz.prog G 46 (fun k g => [.ptr k g 0, WS s]) o bad (.tup [.i s.length, .sc .nilIface]) (o ++ s) bad := fun g0 g1 B h0 h1 => by
 refine Qa Tryz.func46 rfl Tryz.ntmps46 rfl (t := [(0, .ptr 0 g0 0), (1, WS s)]) rfl fun E hE => ?_
 (repeat' first | (refine Qg ?_; (first | refine QJ rfl ?_ | refine QN rfl ?_ | refine Qc rfl rfl rfl ?_ | (refine Qt ?_; (first | refine s_call_cc rfl rfl rfl rfl ?_ | refine Wn rfl ?_ | refine s_app_bstr rfl rfl rfl rfl (by first | omega | (simp only [List.length_append, List.length_cons, List.length_nil]; omega)) (fun _ => rfl) (fun _ _ => ?_))) | refine Qd rfl rfl ?_ | refine QZ rfl rfl rfl rfl (by rfl) (by rfl) (by rfl) ?_ | refine Qp rfl rfl ?_)) | (refine Qk ?_; (first | refine Qi ?_ | refine QK rfl ?_ | refine QR ?_)) | (refine Qj ?_; (first | refine Ql ?_ | refine Qb ?_ | refine Qy ?_)))
 exact e_2 (Tryz.results46) (Qx rfl) (Qx rfl) (c_same ⟨rfl, _, .inr (by omega), rfl⟩)
theorem W5 (ok : Bool) : PE Tryz.prog G 81 (fun k g => [.ptr k g 0, .b ok]) o bad (.b ok) (bad || !ok) := fun g0 g1 B h0 h1 => by
 cases bad with
 | true =>
  refine Qa Tryz.func81 rfl Tryz.ntmps81 rfl (t := [(0, .ptr 0 g0 0), (1, .b ok)]) rfl fun E hE => ?_
  (repeat' first | (refine Qg ?_; (first | refine QJ rfl ?_ | refine QN rfl ?_ | refine Qc rfl rfl rfl ?_ | refine W1 rfl rfl ?_ | refine Qd rfl rfl ?_ | refine QZ rfl rfl rfl rfl (by rfl) (by rfl) (by rfl) ?_ | refine Qp rfl rfl ?_)) | (refine Qk ?_; (first | refine Qi ?_ | refine QK rfl ?_ | refine QR ?_ | refine W7 rfl rfl rfl rfl ?_)) | (refine Qj ?_; (first | refine Ql ?_ | refine Qb ?_ | refine Qy ?_)))
  exact e_1 (Tryz.results81) (Qx rfl) (c_same ⟨rfl, rfl⟩)
 | false =>
  refine Qa Tryz.func81 rfl Tryz.ntmps81 rfl (t := [(0, .ptr 0 g0 0), (1, .b ok)]) rfl fun E hE => ?_
  (repeat' first | (refine Qg ?_; (first | refine QJ rfl ?_ | refine QN rfl ?_ | refine Qc rfl rfl rfl ?_ | refine WO rfl rfl ?_ | refine W2 rfl ?_ | refine Qd rfl rfl ?_ | refine QZ rfl rfl rfl rfl (by rfl) (by rfl) (by rfl) ?_ | refine Qp rfl rfl ?_)) | (refine Qk ?_; (first | refine Qi ?_ | refine QK rfl ?_ | refine QR ?_ | refine WM rfl rfl rfl rfl ?_)) | (refine Qj ?_; (first | refine Ql ?_ | refine Qb ?_ | refine Qy ?_)))
  exact e_1 (Tryz.results81) (Qx rfl) (c_same ⟨rfl, rfl⟩)
def Q0 (m : Int) (len : Nat) (kids : Int) : Bool := decide (m = 0) && (decide (kids < 0) || decide ((len : Int) = kids))
theorem W9 (k n m : Int) (ks : List Nd) (kids : Int) (hl : ks.length <= 1048576) : PE Tryz.prog G 42 (fun p g => [.ptr p g 0, .agg [.i k, .i n, .i m, QW ks], .i kids]) o bad (.b (Q0 m ks.length kids)) (bad || !Q0 m ks.length kids) := fun g0 g1 B h0 h1 => by
 unfold Q0
 by_cases hm : m = 0
 ·by_cases hk : kids < 0
  ·refine Qa Tryz.func42 rfl Tryz.ntmps42 rfl (t := [(0, .ptr 0 g0 0), (1, .agg [.i k, .i n, .i m, QW ks]), (2, .i kids)]) rfl fun E hE => ?_
   (repeat' first | (refine Qg ?_; (first | refine QJ rfl ?_ | refine QN rfl ?_ | refine Qc rfl rfl rfl ?_ | (refine Qo ?_; (first | refine QX rfl rfl ?_ | refine Q1 rfl rfl ?_)) | refine WY 0 1 (W5 _) rfl rfl rfl rfl rfl rfl ?_ | refine W1 rfl rfl ?_ | refine Qd rfl rfl ?_ | refine Q9 rfl rfl (fun _ _ => ?_))) | (refine Qk ?_; (first | refine Qi ?_ | refine QK rfl ?_ | refine WM rfl rfl rfl rfl ?_ | refine W7 rfl rfl rfl rfl ?_ | refine Wc rfl rfl (by omega) ?_)) | (refine Qj ?_; (first | refine Ql ?_ | refine Qb ?_ | refine Qy ?_)))
   exact e_1 Tryz.results42 (Qx rfl) (c_pe (by simp [*]) (by simp [*, Bool.or_assoc]))
  ·refine Qa Tryz.func42 rfl Tryz.ntmps42 rfl (t := [(0, .ptr 0 g0 0), (1, .agg [.i k, .i n, .i m, QW ks]), (2, .i kids)]) rfl fun E hE => ?_
   (repeat' first | (refine Qg ?_; (first | refine QJ rfl ?_ | refine QN rfl ?_ | refine Qc rfl rfl rfl ?_ | (refine Qo ?_; (first | refine QX rfl rfl ?_ | refine Q1 rfl rfl ?_)) | (refine Qt ?_; (first | refine QI rfl ?_ | refine WY 0 1 (W5 _) rfl rfl rfl rfl rfl rfl ?_)) | (refine Q8 ?_; (first | refine W1 rfl rfl ?_ | refine WO rfl rfl ?_)) | refine Qd rfl rfl ?_ | refine Q9 rfl rfl (fun _ _ => ?_))) | (refine Qk ?_; (first | refine Qi ?_ | refine QK rfl ?_ | refine WM rfl rfl rfl rfl ?_ | refine Wc rfl rfl (by omega) ?_ | refine Q5 rfl rfl (by omega) ?_)) | (refine Qj ?_; (first | refine Ql ?_ | refine Qb ?_ | refine Qy ?_)))
   exact e_1 Tryz.results42 (Qx rfl) (c_pe (by simp [*]) (by simp [*, Bool.or_assoc]))
 ·refine Qa Tryz.func42 rfl Tryz.ntmps42 rfl (t := [(0, .ptr 0 g0 0), (1, .agg [.i k, .i n, .i m, QW ks]), (2, .i kids)]) rfl fun E hE => ?_
  (repeat' first | (refine Qg ?_; (first | refine QJ rfl ?_ | refine QN rfl ?_ | refine Qc rfl rfl rfl ?_ | refine Q1 rfl rfl ?_ | refine WY 0 1 (W5 _) rfl rfl rfl rfl rfl rfl ?_ | refine WO rfl rfl ?_ | refine Qd rfl rfl ?_ | refine Q9 rfl rfl (fun _ _ => ?_))) | (refine Qk ?_; (first | refine Qi ?_ | refine QK rfl ?_ | refine W7 rfl rfl rfl rfl ?_ | refine o_gu rfl rfl rfl rfl rfl ?_ | refine Q5 rfl rfl (by omega) ?_)) | (refine Qj ?_; (first | refine Ql ?_ | refine Qb ?_ | refine Qy ?_)))
  exact e_1 Tryz.results42 (Qx rfl) (c_pe (by simp [*]) (by simp [*, Bool.or_assoc]))
def WZ (n m : Int) (len : Nat) (kids : Int) : Bool := decide (n = 0) && Q0 m len kids
theorem qe (k n m : Int) (ks : List Nd) (kids : Int) (hl : ks.length <= 1048576) : PE Tryz.prog G 87 (fun p g => [.ptr p g 0, .agg [.i k, .i n, .i m, QW ks], .i kids]) o bad (.b (WZ n m ks.length kids)) (bad || !WZ n m ks.length kids) := fun g0 g1 B h0 h1 => by
 unfold WZ
 by_cases hn : n = 0
 ·refine Qa Tryz.func87 rfl Tryz.ntmps87 rfl (t := [(0, .ptr 0 g0 0), (1, .agg [.i k, .i n, .i m, QW ks]), (2, .i kids)]) rfl fun E hE => ?_
  (repeat' first | (refine Qg ?_; (first | refine QJ rfl ?_ | refine QN rfl ?_ | (refine QG ?_; (first | refine Qc rfl rfl rfl ?_ | refine s_load_rowa rfl rfl (by rfl) (by rfl) ?_)) | refine Q1 rfl rfl ?_ | (refine Qt ?_; (first | refine WY 0 1 (W5 _) rfl rfl rfl rfl rfl rfl ?_ | refine WY 0 1 (W9 _ _ _ _ _ (by assumption)) rfl rfl rfl rfl rfl rfl ?_)) | refine W1 rfl rfl ?_ | refine Qd rfl rfl ?_ | refine Q9 rfl rfl (fun _ _ => ?_))) | (refine Qk ?_; (first | refine Qi ?_ | refine QK rfl ?_ | refine WM rfl rfl rfl rfl ?_ | refine Wc rfl rfl (by omega) ?_)) | (refine Qj ?_; (first | refine Ql ?_ | refine Qb ?_ | refine Qy ?_)))
  exact e_1 Tryz.results87 (Qx rfl) (c_pe (by simp [*]) (by simp [*, Bool.or_assoc]))
 ·refine Qa Tryz.func87 rfl Tryz.ntmps87 rfl (t := [(0, .ptr 0 g0 0), (1, .agg [.i k, .i n, .i m, QW ks]), (2, .i kids)]) rfl fun E hE => ?_
  (repeat' first | (refine Qg ?_; (first | refine QJ rfl ?_ | refine QN rfl ?_ | refine Qc rfl rfl rfl ?_ | refine Q1 rfl rfl ?_ | refine WY 0 1 (W5 _) rfl rfl rfl rfl rfl rfl ?_ | refine WO rfl rfl ?_ | refine Qd rfl rfl ?_ | refine Q9 rfl rfl (fun _ _ => ?_))) | (refine Qk ?_; (first | refine Qi ?_ | refine QK rfl ?_ | refine W7 rfl rfl rfl rfl ?_ | refine Q5 rfl rfl (by omega) ?_)) | (refine Qj ?_; (first | refine Ql ?_ | refine Qb ?_ | refine Qy ?_)))
  exact e_1 Tryz.results87 (Qx rfl) (c_pe (by simp [*]) (by simp [*, Bool.or_assoc]))
def Ze (n : Int) : Bool := decide (0 <= n) && decide (n <= 999)
theorem Zf (hG : G 6 = pow10T) (n : Int) (hn : -9223372036854775808 <= n /\ n <= 9223372036854775807) : PE Tryz.prog G 44 (fun p g => [.ptr p g 0, .i n]) o bad (WS (Lib.itoa n)) (bad || !Ze n) := fun g0 g1 B h0 h1 => by
 unfold Ze
 by_cases h : 0 <= n
 ·refine Qa Tryz.func44 rfl Tryz.ntmps44 rfl (t := [(0, .ptr 0 g0 0), (1, .i n)]) rfl fun E hE => ?_
  (repeat' first | (refine Qg ?_; (first | refine QJ rfl ?_ | refine QN rfl ?_ | (refine Qo ?_; (first | refine Zb rfl rfl ?_ | refine W4 rfl rfl ?_)) | (refine Qt ?_; (first | refine WY 0 1 (W5 _) rfl rfl rfl rfl rfl rfl ?_ | refine WR rfl rfl (itoa_c hG _ (by omega)) ?_)) | refine W1 rfl rfl ?_)) | (refine Qk ?_; (first | refine Qi ?_ | refine QK rfl ?_ | refine WM rfl rfl rfl rfl ?_ | refine Wc rfl rfl (by omega) ?_)) | (refine Qj ?_; (first | refine Ql ?_ | refine Qb ?_ | refine Qy ?_)))
  exact e_1 Tryz.results44 (Qx rfl) (c_pe (by simp [*]) (by simp [*, Bool.or_assoc]))
 ·refine Qa Tryz.func44 rfl Tryz.ntmps44 rfl (t := [(0, .ptr 0 g0 0), (1, .i n)]) rfl fun E hE => ?_
  (repeat' first | (refine Qg ?_; (first | refine QJ rfl ?_ | refine QN rfl ?_ | refine W4 rfl rfl ?_ | (refine Qt ?_; (first | refine WY 0 1 (W5 _) rfl rfl rfl rfl rfl rfl ?_ | refine WR rfl rfl (itoa_c hG _ (by omega)) ?_)) | refine WO rfl rfl ?_)) | (refine Qk ?_; (first | refine Qi ?_ | refine QK rfl ?_ | refine W7 rfl rfl rfl rfl ?_ | refine Q5 rfl rfl (by omega) ?_)) | (refine Qj ?_; (first | refine Ql ?_ | refine Qb ?_ | refine Qy ?_)))
  exact e_1 Tryz.results44 (Qx rfl) (c_pe (by simp [*]) (by simp [*, Bool.or_assoc]))
end Go.Proofs
end
section
namespace Go.Proofs
open Go.Av
variable {G : Nat -> DV}
attribute [local irreducible] OpSem Za Zv qc ACalls AEnd AClose RV
open Go.Bl
variable {o : List UInt8}
def comma : List UInt8 := [44, 32]
def Zm (l : List (List UInt8)) : List UInt8 := Lib.join l comma
theorem list_c (fid : FuncId) [FnOk Tryz.prog fid] (txt : Nd -> List UInt8) (ok : Nd -> Bool) (ks : List Nd) (bad : Bool) (h : ∀ x ∈ ks, ∀ b, PE Tryz.prog G fid (fun p g => [.ptr p g 0, .agg (Enc.enc x)]) o b (WS (txt x)) (b || !ok x)) (hl : ks.length <= 1048576) (hlen : (Zm (ks.map txt)).length <= 140737488355328) :
  PE Tryz.prog G 84 (fun p g => [QW ks, .fn (.func fid) [.ptr p g 0] []]) o bad (WS (Zm (ks.map txt))) (bad || !ks.all ok) := fun g0 g1 B h0 h1 => by
 refine Qa Tryz.func84 rfl Tryz.ntmps84 rfl (t := [(0, QW ks), (1, .fn (.func fid) [.ptr 0 g0 0] [])]) rfl fun E hE => ?_
 (repeat' first | (refine Qg ?_; (first | refine QJ rfl ?_ | refine QN rfl ?_ | refine QI rfl ?_)) | (refine Qk ?_; (first | refine Qi ?_ | refine QK rfl ?_)) | (refine Qj ?_; (first | refine Ql ?_ | refine Qb ?_ | refine Qe ?_)))
 refine r_own 5 1 rfl fun gO hgO => ?_
 refine r_loopg (fun (i : Nat) g => ⟨[(1, .fn (.func fid) [.ptr 0 g0 0] []), (5, .ref 2 g 0 ((ks.take i).map fun x => Str.mk (txt x)).length 1), (8, QW ks), (9, .i ks.length), (10, .i i)], [pRow 0 1 g0 g1 o.length (bad || !(ks.take i).all ok), .row g1 (Ws o), .row g (Ws ((ks.take i).map fun x => Str.mk (txt x)))]⟩) (fun i => i <= ks.length) (fun i => ks.length - i) 0 gO hgO ?_ (by omega) ?_
 ·rw [show (bad || !(ks.take 0).all ok) = bad by simp]
  exact zal rfl
 intro i g hi hg
 by_cases hil : i < ks.length
 ·have hx := h _ (List.getElem_mem hil) (bad || !(ks.take i).all ok)
  have hb1 : (bad || !(ks.take (i + 1)).all ok) = ((bad || !(ks.take i).all ok) || !ok ks[i]) := by rw [List.take_succ_eq_append_getElem hil, List.all_append]; cases bad <;> simp
  have hb2 : ((ks.take (i + 1)).map fun x => Str.mk (txt x)) = ((ks.take i).map fun x => Str.mk (txt x)) ++ [Str.mk (txt ks[i])] := by rw [List.take_succ_eq_append_getElem hil, List.map_append]; rfl
  have hal : ((ks.take i).map fun x => Str.mk (txt x)).length <= 1048576 := by simp; omega
  (repeat' first | (refine Qg ?_; (first | refine QJ rfl ?_ | refine QN rfl ?_ | (refine QG ?_; (first | refine WL rfl rfl ?_ | refine QO rfl ?_)) | refine QM rfl rfl (by first | assumption | omega | (simp; done) | (simp; omega)) ?_ | (refine Qo ?_; (first | refine QX rfl rfl ?_ | refine W3 rfl rfl (by omega) ?_)) | (refine Qt ?_; (first | refine s_callv_pe (k0 := 0) (k1 := 1) (hx) rfl rfl rfl rfl rfl rfl (by repeat' first | exact .nil | refine .cons ?_ ?_ | exact .s (.mp rfl) | exact .s (.ptr rfl) | exact .s (.ref rfl) | exact .fn (by repeat' first | exact .nil | refine .cons ?_ ?_ | exact .ptr rfl | exact .mp rfl | exact .clo Wh) (by repeat' first | exact .nil | refine .cons ?_ ?_ | exact .ptr rfl | exact .mp rfl | exact .clo Wh) | exact .s (.clo (by (repeat' first | exact Enc.clo _ | exact Wh | exact Wu _ | exact Wt (QC _) | exact QC _ | refine ZI ?_ ?_ | refine Zu ?_ | refine WV ?_ | refine WK ?_ | exact W0 | refine Wp ?_ ?_ | refine Wt ?_); done))) (by repeat' first | exact Wh | exact Wu _ | exact Wt (QC _) | exact QC _ | refine ZI ?_ ?_ | refine Zu ?_ | refine WV ?_ | refine WK ?_ | exact W0 | refine Wp ?_ ?_ | refine Wt ?_) (by rfl) ?_ | refine Zt (z := Str.mk _) rfl rfl rfl rfl rfl rfl rfl (by first | omega | (simp; omega)) (by first | omega | (simp; omega)) (fun _ => rfl) (fun _ _ => ?_))) | refine WD rfl rfl rfl rfl ?_ | refine Zk rfl rfl (by decide) rfl ?_ | refine Qu (fun _ _ => ?_))) | (refine Qk ?_; (first | refine Qi ?_ | refine QK rfl ?_ | refine QR ?_)) | (refine Qj ?_; (first | refine Ql ?_ | refine Qb ?_ | refine Qe ?_ | refine QB ?_ | refine Qm rfl (by omega) ?_)))
  refine ⟨i + 1, _, by omega, by assumption, by omega, ?_⟩
  rw [hb1, hb2]
  exact zal rfl
 ·have hie : i = ks.length := by omega
  subst hie
  rw [List.take_length]
  have hN : (ks.map fun x => Str.mk (txt x)).length <= 140737488355328 := by simp; omega
  have hmm : (ks.map fun x => Str.mk (txt x)).map (·.l) = ks.map txt := by rw [List.map_map]; rfl
  have hJ : (Lib.join ((ks.map fun x => Str.mk (txt x)).map (·.l)) [44, 32]).length <= 140737488355328 := by rw [hmm]; exact hlen
  (repeat' first | (refine Qg ?_; (first | refine QJ rfl ?_ | refine QN rfl ?_ | refine QX rfl rfl ?_ | refine ZK rfl rfl (View.ref rfl (by rw [QS]; rfl) (QC _) (View.same View.nil)) (join_c _ _ hN hJ) rfl ?_)) | (refine Qk ?_; (first | refine Qi ?_ | refine QK rfl ?_)) | (refine Qj ?_; (first | refine Ql ?_ | refine Qb ?_ | refine Qf rfl (by omega) ?_ | refine WC rfl ?_ | refine Qy ?_)))
  refine e_1 Tryz.results84 (Qx rfl) (c_pe ?_ ?_)
  ·rw [hmm]; rfl
  ·rfl
end Go.Proofs
end
section
namespace Go.Proofs
open Go.Av Go.Bl
mutual
def Qr : Nd -> Nat
 | .mk _ _ _ ks => 1 + QD ks
def QD : List Nd -> Nat
 | [] => 0
 | x :: r => Qr x + QD r
end
theorem Q6 (t : Nd) : 1 <= Qr t := by cases t; rw [Qr]; omega
theorem WU : ∀ ts : List Nd, ts.length <= QD ts
 | [] => Nat.le_refl _
 | x :: r => by
  have := WU r
  have := Q6 x
  rw [QD, List.length_cons]; omega
theorem Wf {x : Nd} : ∀ {ks : List Nd}, x ∈ ks -> Qr x <= QD ks
 | y :: r, h => by
  rw [QD]
  rcases List.mem_cons.1 h with rfl | h
  ·omega
  ·have := Wf h; omega
theorem Z2 (a b : List Nd) : QD (a ++ b) = QD a + QD b := by
 induction a with
 | nil => simp [QD]
 | cons x r ih => rw [List.cons_append, QD, QD, ih]; omega
theorem qh (ks : List Nd) (i : Nat) (h : i < ks.length) : QD (ks.take (i + 1)) = QD (ks.take i) + Qr ks[i] := by
 rw [List.take_succ_eq_append_getElem h, Z2, QD, QD]; omega
theorem Wy (ks : List Nd) (i : Nat) : QD (ks.take i) <= QD ks := by
 have := Z2 (ks.take i) (ks.drop i)
 rw [List.take_append_drop] at this; omega
def i64 (n : Int) : Prop := -9223372036854775808 <= n /\ n <= 9223372036854775807
mutual
def okN : Nd -> Prop
 | .mk k n m ks => (i64 k /\ i64 n /\ i64 m) /\ okL ks
def okL : List Nd -> Prop
 | [] => True
 | x :: r => okN x /\ okL r
end
theorem WJ {x : Nd} : ∀ {ks : List Nd}, okL ks -> x ∈ ks -> okN x
 | y :: r, h, hx => by
  rw [okL] at h
  rcases List.mem_cons.1 hx with rfl | hx
  ·exact h.1
  ·exact WJ h.2 hx
theorem Zh {n : Int} (h : i64 n) : (Lib.itoa n).length <= 21 := by
 have key : ∀ u : Nat, u < 10 ^ 20 -> Lib.nDigits u <= 20 := fun u hu => by
  rcases Nat.lt_or_ge 20 (Lib.nDigits u) with h' | h'
  ·exfalso
   obtain ⟨k, hk⟩ : ∃ k, Lib.nDigits u = k + 1 := ⟨Lib.nDigits u - 1, by omega⟩
   have : ∀ (k u : Nat), Lib.nDigits u = k + 1 -> 0 < k -> 10 ^ k <= u := by
    intro k
    induction k with
    | zero => intro u _ h0; omega
    | succ k ih =>
     intro u hu _
     by_cases hs : u < 10
     ·rw [Lib.nDigits_small hs] at hu; omega
     ·rw [Lib.nDigits_big hs] at hu
      by_cases hk0 : k = 0
      ·subst hk0; omega
      ·have := ih (u / 10) (by omega) (by omega)
       rw [Nat.pow_succ]
       omega
   have h1 := this k u hk (by omega)
   have : 10 ^ 20 <= 10 ^ k := Nat.pow_le_pow_right (by decide) (by omega)
   omega
  ·exact h'
 obtain ⟨h1, h2⟩ := h
 have e20 : (10 : Nat) ^ 20 = 100000000000000000000 := by decide
 unfold Lib.itoa
 split
 ·rw [List.length_cons, Lib.decDigits_length]
  have := key n.natAbs (by omega); omega
 ·rw [Lib.decDigits_length]
  have := key n.toNat (by omega); omega
theorem Z1 {M : Nat} (f : Nd -> List UInt8) : ∀ (ks : List Nd), (∀ x ∈ ks, (f x).length + 2 <= M * Qr x) -> (Zm (ks.map f)).length <= M * QD ks
 | [], _ => by simp [Zm, Lib.join_nil, QD]
 | x :: r, h => by
  have hx := h x (by simp)
  have ih := Z1 f r fun y hy => h y (by simp [hy])
  rw [QD, Nat.mul_add]
  cases r with
  | nil =>
   show (Lib.join [f x] comma).length <= _
   rw [Lib.join_one]; omega
  | cons y r =>
   have hc : Zm ((x :: y :: r).map f) = f x ++ comma ++ Zm ((y :: r).map f) := by
    show Lib.join (f x :: f y :: r.map f) comma = f x ++ comma ++ Lib.join (f y :: r.map f) comma
    rw [Lib.join_cons, Lib.join_cons]
    simp [Lib.joinTail]
   rw [hc, List.length_append, List.length_append, show comma.length = 2 from rfl]
   omega
mutual
def typT : Nd -> List UInt8
 | .mk k n m ks => if k = 0 then [105, 110, 116] else if k = 1 then [98, 111, 111, 108] else if k = 2 then [97, 114, 114, 32] ++ Lib.itoa n else if k = 3 then [114, 101, 99, 32, 40] ++ Zm (typTs ks) ++ [41] else []
def typTs : List Nd -> List (List UInt8)
 | [] => []
 | x :: r => typT x :: typTs r
end
theorem typTs_eq : ∀ ks, typTs ks = ks.map typT
 | [] => rfl
 | x :: r => by rw [typTs, typTs_eq r]; rfl
mutual
def typOk : Nd -> Bool
 | .mk k n m ks => if k = 0 \/ k = 1 then WZ n m ks.length 0 else if k = 2 then Q0 m ks.length 0 && Ze n else if k = 3 then WZ n m ks.length (-1) && decide (0 < ks.length) && typOks ks else false
def typOks : List Nd -> Bool
 | [] => true
 | x :: r => typOk x && typOks r
end
theorem typOks_eq : ∀ ks, typOks ks = ks.all typOk
 | [] => rfl
 | x :: r => by rw [typOks, typOks_eq r]; rfl
theorem typT_len (t : Nd) : okN t -> (typT t).length + 2 <= 30 * Qr t := by
 induction t using Nd.ind with
 | h k n m ks ih =>
 intro hok
 rw [okN] at hok
 have hn := Zh hok.1.2.1
 have hs := Z1 typT ks fun x hx => ih x hx (WJ hok.2 hx)
 rw [typT, Qr, typTs_eq]
 split
 ·simp; omega
 ·split
  ·simp; omega
  ·split
   ·simp only [List.length_append, List.length_cons, List.length_nil]; omega
   ·split
    ·simp only [List.length_append, List.length_cons, List.length_nil]; omega
    ·simp only [List.length_nil]; omega
def opTexts : List (List UInt8) := [[43], [45], [42], [47], [37], [38], [124], [94], [60, 60], [62, 62], [60], [61, 61], [38, 38], [124, 124]]
mutual
def exT : Nd -> List UInt8
 | .mk k n m ks => 
  if k = 4 then Lib.itoa n else if k = 5 then (if n = 1 then [116, 114, 117, 101] else [102, 97, 108, 115, 101]) else if k = 6 then [118] ++ Lib.itoa n else
  if k = 7 then [118] ++ Lib.itoa n ++ [91] ++ Zm (exTs ks) ++ [93] else if k = 8 then [118] ++ Lib.itoa n ++ [46] ++ Lib.itoa m else
  if k = 9 then (if (Q0 m ks.length 2 && (decide (0 <= n) && decide (n < 14))) = true then [40] ++ (exTs ks).getD 0 [] ++ [32] ++ opTexts.getD n.toNat [] ++ [32] ++ (exTs ks).getD 1 [] ++ [41] else []) else
  if k = 10 then [33] ++ Zm (exTs ks) else if k = 11 then [102] ++ Lib.itoa n ++ [40] ++ Zm (exTs ks) ++ [41] else if k = 12 then [114, 101, 99, 118, 32, 99] ++ Lib.itoa n else []
def exTs : List Nd -> List (List UInt8)
 | [] => []
 | x :: r => exT x :: exTs r
end
theorem exTs_eq : ∀ ks, exTs ks = ks.map exT
 | [] => rfl
 | x :: r => by rw [exTs, exTs_eq r]; rfl
mutual
def exOk : Nd -> Bool
 | .mk k n m ks =>
  if k = 4 then Q0 m ks.length 0 && (if n < 0 then decide (-999 <= n) else Ze n) else if k = 5 then Q0 m ks.length 0 && (decide (n = 0) || decide (n = 1)) else if k = 6 then Q0 m ks.length 0 && Ze n else
  if k = 7 then Q0 m ks.length 1 && Ze n && exOks ks else if k = 8 then decide (ks.length = 0) && Ze n && Ze m else
  if k = 9 then Q0 m ks.length 2 && (decide (0 <= n) && decide (n < 14)) && exOks ks else
  if k = 10 then WZ n m ks.length 1 && exOks ks else if k = 11 then Q0 m ks.length (-1) && Ze n && exOks ks else if k = 12 then Q0 m ks.length 0 && Ze n else false
def exOks : List Nd -> Bool
 | [] => true
 | x :: r => exOk x && exOks r
end
theorem exOks_eq : ∀ ks, exOks ks = ks.all exOk
 | [] => rfl
 | x :: r => by rw [exOks, exOks_eq r]; rfl
theorem opTexts_len (i : Nat) : (opTexts.getD i []).length <= 2 := by
 rcases Nat.lt_or_ge i 14 with h | h
 ·revert i; decide
 ·rw [List.getD_eq_getElem?_getD, List.getElem?_eq_none (by simpa [opTexts] using h)]; simp
theorem exT_len (t : Nd) : okN t -> (exT t).length + 2 <= 60 * Qr t := by
 induction t using Nd.ind with
 | h k n m ks ih =>
 intro hok
 rw [okN] at hok
 have hn := Zh hok.1.2.1
 have hm := Zh hok.1.2.2
 have hs := Z1 exT ks fun x hx => ih x hx (WJ hok.2 hx)
 have hop := opTexts_len n.toNat
 have hk : ∀ x ∈ ks, (exT x).length + 2 <= 60 * Qr x := fun x hx => ih x hx (WJ hok.2 hx)
 clear ih
 rw [exT, Qr, exTs_eq]
 split
 ·omega
 split
 ·split <;> (simp only [List.length_cons, List.length_nil]; omega)
 split
 ·simp only [List.length_append, List.length_cons, List.length_nil]; omega
 split
 ·simp only [List.length_append, List.length_cons, List.length_nil]; omega
 split
 ·simp only [List.length_append, List.length_cons, List.length_nil]; omega
 split
 ·split
  ·rename_i h2
   have : ks.length = 2 := by simp [Q0] at h2; omega
   match ks, this with
   | [a, b], _ =>
    have ha := hk a (by simp)
    have hb := hk b (by simp)
    simp only [List.map_cons, List.map_nil, List.getD_cons_zero, List.getD_cons_succ, List.length_append, List.length_cons, List.length_nil, QD]
    omega
  ·simp only [List.length_nil]; omega
 split
 ·simp only [List.length_append, List.length_cons, List.length_nil]; omega
 split
 ·simp only [List.length_append, List.length_cons, List.length_nil]; omega
 split
 ·simp only [List.length_append, List.length_cons, List.length_nil]; omega
 ·simp only [List.length_nil]; omega
def zNd : Nd := .mk 0 0 0 []
abbrev Rd1 := RS -> Nd × RS
abbrev wInt : List UInt8 := [105, 110, 116]
abbrev wBool : List UInt8 := [98, 111, 111, 108]
abbrev wArr : List UInt8 := [97, 114, 114]
abbrev wRec : List UInt8 := [114, 101, 99]
abbrev wTrue : List UInt8 := [116, 114, 117, 101]
abbrev wFalse : List UInt8 := [102, 97, 108, 115, 101]
abbrev wRecv : List UInt8 := [114, 101, 99, 118]
abbrev wIf : List UInt8 := [105, 102]
abbrev wElse : List UInt8 := [101, 108, 115, 101]
abbrev wWhile : List UInt8 := [119, 104, 105, 108, 101]
abbrev wReturn : List UInt8 := [114, 101, 116, 117, 114, 110]
abbrev wThrow : List UInt8 := [116, 104, 114, 111, 119]
abbrev wOut : List UInt8 := [111, 117, 116]
abbrev wSkip : List UInt8 := [115, 107, 105, 112]
abbrev wTry : List UInt8 := [116, 114, 121]
abbrev qv : List UInt8 := [99, 97, 116, 99, 104]
abbrev wSend : List UInt8 := [115, 101, 110, 100]
abbrev wSpawn : List UInt8 := [115, 112, 97, 119, 110]
abbrev wFun : List UInt8 := [102, 117, 110]
abbrev ZR : List UInt8 := [112, 114, 111, 103, 114, 97, 109]
def We (L : Zq) (E : Rd1) : Nat -> List Nd -> RS -> List Nd × RS
 | 0, o, S => (o, S)
 | k + 1, o, S => if QV L S = [44] then We L E k (o ++ [(E (Qn S)).1]) (E (Qn S)).2 else (o, S)
def Zx (L : Zq) (E : Rd1) (k : Nat) (S : RS) : List Nd × RS :=
 ((We L E k [(E S).1] (E S).2).1, QU L [41] (We L E k [(E S).1] (E S).2).2)
def WH (L : Zq) (E : Rd1) (k : Nat) (S : RS) : List Nd × RS :=
 if QV L (QU L [40] S) = [41] then ([], Qn (QU L [40] S)) else Zx L E k (QU L [40] S)
def varTail (L : Zq) (E : Rd1) (n : Int) (S : RS) : Nd × RS :=
 if QV L S = [91] then (.mk 7 n 0 [(E (Qn S)).1], QU L [93] (E (Qn S)).2)
 else if QV L S = [46] then (.mk 8 n (Qw L (Qn S)).1 [], (Qw L (Qn S)).2) else (.mk 6 n 0 [], S)
def Wq (L : Zq) (E : Rd1) (S : RS) : Nd × RS := varTail L E (Qh L 118 S).1 (Qh L 118 S).2
def qs (s : List UInt8) : Int := match opTexts.findIdx? (fun t => decide (t = s)) with | some i => i | none => -1
def qb (L : Zq) (E : Rd1) (S : RS) : Nd × RS :=
 if qs (QV L (E S).2) < 0 then (zNd, WQ (E S).2)
 else (.mk 9 (qs (QV L (E S).2)) 0 [(E S).1, (E (Qn (E S).2)).1], QU L [41] (E (Qn (E S).2)).2)
def Wz (L : Zq) (z : Nd) : Nat -> Rd1
 | 0, S => (zNd, WQ S)
 | n + 1, S =>
  if numB (QV L S) = true then (.mk 4 (Qw L S).1 0 [], (Qw L S).2)
  else if isM L 118 S = true then Wq L (Wz L z n) S
  else if isM L 102 S = true then (.mk 11 (Qh L 102 S).1 0 (WH L (Wz L z n) n (Qh L 102 S).2).1, (WH L (Wz L z n) n (Qh L 102 S).2).2)
  else if QV L S = [45] then (if QV L (Qn S) = [48] then (z, WQ (Qn S)) else (.mk 4 (-(Qw L (Qn S)).1) 0 [], (Qw L (Qn S)).2))
  else if QV L S = wTrue then (.mk 5 1 0 [], Qn S)
  else if QV L S = wFalse then (.mk 5 0 0 [], Qn S)
  else if QV L S = [40] then qb L (Wz L z n) (Qn S)
  else if QV L S = [33] then (.mk 10 0 0 [(Wz L z n (Qn S)).1], (Wz L z n (Qn S)).2)
  else if QV L S = wRecv then (.mk 12 (Qh L 99 (Qn S)).1 0 [], (Qh L 99 (Qn S)).2)
  else (zNd, WQ S)
def WB (L : Zq) : Nat -> Rd1
 | 0, S => (zNd, WQ S)
 | n + 1, S =>
  if QV L S = wInt then (.mk 0 0 0 [], Qn S)
  else if QV L S = wBool then (.mk 1 0 0 [], Qn S)
  else if QV L S = wArr then (.mk 2 (Qw L (Qn S)).1 0 [], (Qw L (Qn S)).2)
  else if QV L S = wRec then (.mk 3 0 0 (Zx L (WB L n) n (QU L [40] (Qn S))).1, (Zx L (WB L n) n (QU L [40] (Qn S))).2)
  else (zNd, WQ S)
def Wr (L : Zq) (T : Rd1) : Nat -> List Nd -> RS -> List Nd × RS
 | 0, o, S => (o, S)
 | k + 1, o, S => if S.bad = true then (o, S) else if QV L S = [125] then (o, Qn S) else Wr L T k (o ++ [(T S).1]) (T S).2
def Wi (L : Zq) (T : Rd1) (k : Nat) (S : RS) : Nd × RS := (.mk 13 0 0 (Wr L T k [] (QU L [123] S)).1, (Wr L T k [] (QU L [123] S)).2)
def setKind (k : Int) : Int := if k = 7 then 15 else if k = 8 then 16 else 14
def setM (v x : Nd) : Nd := match v with | .mk k n m ks => .mk (setKind k) n m (ks ++ [x])
def qu (L : Zq) (E : Rd1) (S : RS) : Nd × RS :=
 (setM (Wq L E S).1 (E (QU L [61] (Wq L E S).2)).1, (E (QU L [61] (Wq L E S).2)).2)
def oneM (E : Rd1) (k n : Int) (S : RS) : Nd × RS := (.mk k n 0 [(E S).1], (E S).2)
def ifM (L : Zq) (E Bl : Rd1) (S : RS) : Nd × RS :=
 let c := E S
 let a := Bl c.2
 let b := Bl (QU L wElse a.2)
 (.mk 17 0 0 [c.1, a.1, b.1], b.2)
def whileM (E Bl : Rd1) (S : RS) : Nd × RS :=
 let c := E S
 let a := Bl c.2
 (.mk 18 0 0 [c.1, a.1], a.2)
def tryM (L : Zq) (Bl : Rd1) (S : RS) : Nd × RS :=
 let a := Bl S
 let v := Qh L 118 (QU L qv a.2)
 let b := Bl v.2
 (.mk 21 v.1 0 [a.1, b.1], b.2)
def WA (L : Zq) (E : Rd1) (q : Nat) : Nat -> Rd1
 | 0, S => (zNd, WQ S)
 | n + 1, S =>
  if QV L S = [123] then Wi L (WA L E q n) n S
  else if isM L 118 S = true then qu L E S
  else if QV L S = wIf then ifM L E (Wi L (WA L E q n) n) (Qn S)
  else if QV L S = wWhile then whileM E (Wi L (WA L E q n) n) (Qn S)
  else if QV L S = wReturn then oneM E 19 0 (Qn S)
  else if QV L S = wThrow then oneM E 20 0 (Qn S)
  else if QV L S = wOut then oneM E 24 0 (Qn S)
  else if QV L S = wSkip then (.mk 25 0 0 [], Qn S)
  else if QV L S = wTry then tryM L (Wi L (WA L E q n) n) (Qn S)
  else if QV L S = wSend then oneM E 22 (Qh L 99 (Qn S)).1 (Qh L 99 (Qn S)).2
  else if QV L S = wSpawn then (.mk 23 (Qh L 102 (Qn S)).1 0 (WH L E q (Qh L 102 (Qn S)).2).1, (WH L E q (Qh L 102 (Qn S)).2).2)
  else (zNd, WQ S)
def funM (L : Zq) (T Bl : Rd1) (q : Nat) (S : RS) : Nd × RS :=
 let v := Qw L (QU L wFun S)
 let a := WH L T q v.2
 let b := Bl a.2
 (.mk 26 v.1 0 (a.1 ++ [b.1]), b.2)
def WT (L : Zq) (F : Rd1) : Nat -> List Nd -> RS -> List Nd × RS
 | 0, o, S => (o, S)
 | k + 1, o, S => if S.bad = false /\ S.p < L.length then WT L F k (o ++ [(F S).1]) (F S).2 else (o, S)
def qx (L : Zq) (z : Nd) (q : Nat) : Rd1 := funM L (WB L q) (Wi L (WA L (Wz L z q) q q) q) q
def qr (L : Zq) (z : Nd) (q : Nat) : Nd × RS :=
 let v := Qw L (QU L ZR ⟨0, false⟩)
 let o := WT L (qx L z q) q [] v.2
 (.mk 27 v.1 0 o.1, o.2)
end Go.Proofs
end
section
namespace Go.Proofs
open Go.Av
variable {G : Nat -> DV}
attribute [local irreducible] OpSem Za Zv qc ACalls AEnd AClose RV
open Go.Bl
variable {o : List UInt8} {bad : Bool}
theorem typed_c (hG : G 6 = pow10T) (t : Nd) : okN t -> Qr t <= 1000000 -> ∀ bad, PE Tryz.prog G 47 (fun p g => [.ptr p g 0, .agg (Enc.enc t)]) o bad (WS (typT t)) (bad || !typOk t) := by
 induction t using Nd.ind with
 | h k n m ks ih =>
 intro hok hsz bad g0 g1 B h0 h1
 rw [okN] at hok
 rw [Qr] at hsz
 have hl1 := WU ks
 have hl : ks.length <= 1048576 := by omega
 have hn : -9223372036854775808 <= n /\ n <= 9223372036854775807 := hok.1.2.1
 have hnl := Zh hok.1.2.1
 have hcl := Z1 typT ks fun x hx => typT_len x (WJ hok.2 hx)
 have hlist : ∀ b, PE Tryz.prog G 84 (fun p g => [QW ks, .fn (.func 47) [.ptr p g 0] []]) o b (WS (Zm (ks.map typT))) (b || !ks.all typOk) := fun b => list_c _ typT typOk ks b (fun x hx b => ih x hx (WJ hok.2 hx) (by have := Wf hx; omega) b) hl (by omega)
 clear ih
 rw [typT, typOk, typTs_eq, typOks_eq, QQ]
 by_cases k0 : k = 0
 ·subst k0
  refine Qa Tryz.func47 rfl Tryz.ntmps47 rfl (t := [(0, .ptr 0 g0 0), (1, .agg [.i _, .i n, .i m, QW ks])]) rfl fun E hE => ?_
  (repeat' first | (refine Qg ?_; (first | refine QJ rfl ?_ | refine QN rfl ?_ | (refine QG ?_; (first | refine WL rfl rfl ?_ | refine Qc rfl rfl rfl ?_)) | refine Q1 rfl rfl ?_ | refine WY 0 1 (qe _ _ _ _ _ (by assumption)) rfl rfl rfl rfl rfl rfl ?_ | refine Qd rfl rfl ?_ | refine Q9 rfl rfl (fun _ _ => ?_))) | (refine Qk ?_; (first | refine Qi ?_ | refine QK rfl ?_)) | (refine Qj ?_; (first | refine Ql ?_ | refine Qb ?_ | refine Qe ?_ | refine Qq rfl ?_ | refine Qy ?_)))
  exact e_1 Tryz.results47 (Qx rfl) (c_pe (by simp [*]) (by simp [*, Bool.or_assoc]))
 by_cases k1 : k = 1
 ·subst k1
  refine Qa Tryz.func47 rfl Tryz.ntmps47 rfl (t := [(0, .ptr 0 g0 0), (1, .agg [.i _, .i n, .i m, QW ks])]) rfl fun E hE => ?_
  (repeat' first | (refine Qg ?_; (first | refine QJ rfl ?_ | refine QN rfl ?_ | (refine QG ?_; (first | refine WL rfl rfl ?_ | refine Qc rfl rfl rfl ?_)) | refine Q1 rfl rfl ?_ | refine WY 0 1 (qe _ _ _ _ _ (by assumption)) rfl rfl rfl rfl rfl rfl ?_ | refine Qd rfl rfl ?_ | refine Q9 rfl rfl (fun _ _ => ?_))) | (refine Qk ?_; (first | refine Qi ?_ | refine QK rfl ?_)) | (refine Qj ?_; (first | refine Ql ?_ | refine Qb ?_ | refine Qe ?_ | refine Qq rfl ?_ | refine Qs rfl ?_ | refine Qy ?_)))
  exact e_1 Tryz.results47 (Qx rfl) (c_pe (by simp [*]) (by simp [*, Bool.or_assoc]))
 by_cases k2 : k = 2
 ·subst k2
  refine Qa Tryz.func47 rfl Tryz.ntmps47 rfl (t := [(0, .ptr 0 g0 0), (1, .agg [.i _, .i n, .i m, QW ks])]) rfl fun E hE => ?_
  (repeat' first | (refine Qg ?_; (first | refine QJ rfl ?_ | refine QN rfl ?_ | (refine QG ?_; (first | refine WL rfl rfl ?_ | refine Qc rfl rfl rfl ?_)) | (refine Qo ?_; (first | refine Q1 rfl rfl ?_ | refine s_ad rfl rfl ?_)) | (refine Qt ?_; (first | refine WY 0 1 (W9 _ _ _ _ _ (by assumption)) rfl rfl rfl rfl rfl rfl ?_ | refine WY 0 1 (Zf hG _ (by assumption)) rfl rfl rfl rfl rfl rfl ?_)) | refine Qd rfl rfl ?_ | refine Q9 rfl rfl (fun _ _ => ?_))) | (refine Qk ?_; (first | refine Qi ?_ | refine QK rfl ?_)) | (refine Qj ?_; (first | refine Ql ?_ | refine Qb ?_ | refine Qe ?_ | refine Qq rfl ?_ | refine Qs rfl ?_ | refine Qy ?_)))
  exact e_1 Tryz.results47 (Qx rfl) (c_pe (by simp [*]) (by simp [*, Bool.or_assoc]))
 by_cases k3 : k = 3
 ·subst k3
  refine Qa Tryz.func47 rfl Tryz.ntmps47 rfl (t := [(0, .ptr 0 g0 0), (1, .agg [.i _, .i n, .i m, QW ks])]) rfl fun E hE => ?_
  (repeat' first | (refine Qg ?_; (first | refine QJ rfl ?_ | refine QN rfl ?_ | (refine QG ?_; (first | refine WL rfl rfl ?_ | refine Qc rfl rfl rfl ?_)) | (refine Qo ?_; (first | refine ZJ rfl rfl ?_ | refine Q1 rfl rfl ?_ | refine s_ad rfl rfl ?_)) | (refine Qt ?_; (first | refine QI rfl ?_ | refine WY 0 1 (W5 _) rfl rfl rfl rfl rfl rfl ?_ | refine WY 0 1 (qe _ _ _ _ _ (by assumption)) rfl rfl rfl rfl rfl rfl ?_ | refine WY 0 1 (hlist _) rfl rfl rfl rfl rfl rfl ?_)) | refine Qd rfl rfl ?_ | refine QH rfl rfl ?_ | refine Q9 rfl rfl (fun _ _ => ?_))) | (refine Qk ?_; (first | refine Qi ?_ | refine QK rfl ?_)) | (refine Qj ?_; (first | refine Ql ?_ | refine Qb ?_ | refine Qe ?_ | refine Qq rfl ?_ | refine Qs rfl ?_ | refine Qy ?_)))
  exact e_1 Tryz.results47 (Qx rfl) (c_pe (by simp [*]) (by simp [*, Bool.or_assoc]))
 ·refine Qa Tryz.func47 rfl Tryz.ntmps47 rfl (t := [(0, .ptr 0 g0 0), (1, .agg [.i k, .i n, .i m, QW ks])]) rfl fun E hE => ?_
  (repeat' first | (refine Qg ?_; (first | refine QJ rfl ?_ | refine QN rfl ?_ | refine Qc rfl rfl rfl ?_ | refine Q1 rfl rfl ?_ | refine WY 0 1 (W5 _) rfl rfl rfl rfl rfl rfl ?_ | refine Qd rfl rfl ?_ | refine Q9 rfl rfl (fun _ _ => ?_))) | (refine Qk ?_; (first | refine Qi ?_ | refine QK rfl ?_)) | (refine Qj ?_; (first | refine Ql ?_ | refine Qb ?_ | refine Qe ?_ | refine QB ?_ | refine Qf rfl (by omega) ?_ | refine Qy ?_)))
  exact e_1 Tryz.results47 (Qx rfl) (c_pe (by simp [*]) (by simp [*, Bool.or_assoc]))
end Go.Proofs
end
section
namespace Go.Proofs
open Go.Av Go.Bl
def simT : Nd -> List UInt8
 | .mk k n m ks =>
  if k = 14 then (if Q0 m ks.length 1 = true then [118] ++ Lib.itoa n ++ [32, 61, 32] ++ Zm (ks.map exT) else []) else
  if k = 15 then (if Q0 m ks.length 2 = true then [118] ++ Lib.itoa n ++ [91] ++ (ks.map exT).getD 0 [] ++ [93, 32, 61, 32] ++ (ks.map exT).getD 1 [] else []) else
  if k = 16 then (if ks.length = 1 then [118] ++ Lib.itoa n ++ [46] ++ Lib.itoa m ++ [32, 61, 32] ++ Zm (ks.map exT) else []) else
  if k = 19 then (if WZ n m ks.length 1 = true then [114, 101, 116, 117, 114, 110, 32] ++ Zm (ks.map exT) else []) else
  if k = 20 then (if WZ n m ks.length 1 = true then [116, 104, 114, 111, 119, 32] ++ Zm (ks.map exT) else []) else
  if k = 24 then (if WZ n m ks.length 1 = true then [111, 117, 116, 32] ++ Zm (ks.map exT) else []) else
  if k = 25 then (if WZ n m ks.length 0 = true then [115, 107, 105, 112] else []) else
  if k = 22 then (if Q0 m ks.length 1 = true then [115, 101, 110, 100, 32, 99] ++ Lib.itoa n ++ [32] ++ Zm (ks.map exT) else []) else
  if k = 23 then (if Q0 m ks.length (-1) = true then [115, 112, 97, 119, 110, 32, 102] ++ Lib.itoa n ++ [40] ++ Zm (ks.map exT) ++ [41] else []) else []
def simOk : Nd -> Bool
 | .mk k n m ks =>
  if k = 14 then Q0 m ks.length 1 && Ze n && ks.all exOk else if k = 15 then Q0 m ks.length 2 && Ze n && ks.all exOk else if k = 16 then decide (ks.length = 1) && Ze n && Ze m && ks.all exOk else
  if k = 19 then WZ n m ks.length 1 && ks.all exOk else if k = 20 then WZ n m ks.length 1 && ks.all exOk else if k = 24 then WZ n m ks.length 1 && ks.all exOk else if k = 25 then WZ n m ks.length 0 else
  if k = 22 then Q0 m ks.length 1 && Ze n && ks.all exOk else if k = 23 then Q0 m ks.length (-1) && Ze n && ks.all exOk else false
theorem exs_len {ks : List Nd} (h : okL ks) : ∀ x ∈ ks, (exT x).length + 2 <= 60 * Qr x := fun x hx => exT_len x (WJ h hx)
theorem getD2_len {ks : List Nd} (h : okL ks) (h2 : ks.length = 2) : ((ks.map exT).getD 0 []).length + ((ks.map exT).getD 1 []).length <= 60 * QD ks := by
 match ks, h2 with
 | [a, b], _ =>
  have ha := exs_len h a (by simp)
  have hb := exs_len h b (by simp)
  simp only [List.map_cons, List.map_nil, List.getD_cons_zero, List.getD_cons_succ, QD]; omega
theorem simT_len (t : Nd) (hok : okN t) : (simT t).length <= 60 * Qr t := by
 obtain ⟨k, n, m, ks⟩ := t
 rw [okN] at hok
 have hn := Zh hok.1.2.1
 have hm := Zh hok.1.2.2
 have hs := Z1 exT ks (exs_len hok.2)
 have h2 : Q0 m ks.length 2 = true -> ((ks.map exT).getD 0 []).length + ((ks.map exT).getD 1 []).length <= 60 * QD ks := fun h => getD2_len hok.2 (by simp [Q0] at h; omega)
 rw [simT]
 rw [Qr]
 repeat' split
 all_goals (try have h2 := h2 (by assumption)); simp only [List.length_append, List.length_cons, List.length_nil]; omega
def ZN (i : Nat) (s : List UInt8) : List UInt8 := Lib.repeatL [32, 32] i ++ s ++ [10]
theorem Q7 (i : Nat) (s : List UInt8) : (ZN i s).length = 2 * i + s.length + 1 := by
 unfold ZN
 rw [List.length_append, List.length_append, Lib.repeatL_length]
 show i * 2 + s.length + 1 = _
 omega
abbrev sOpen : List UInt8 := [123]
abbrev sClose : List UInt8 := [125]
abbrev sElse : List UInt8 := [125, 32, 101, 108, 115, 101, 32, 123]
abbrev sIf : List UInt8 := [105, 102, 32]
abbrev sWhile : List UInt8 := [119, 104, 105, 108, 101, 32]
abbrev sTry : List UInt8 := [116, 114, 121, 32, 123]
abbrev sCatch : List UInt8 := [125, 32, 99, 97, 116, 99, 104, 32, 118]
abbrev sBr : List UInt8 := [32, 123]
mutual
def stT : Nd -> Nat -> List UInt8
 | .mk k n m ks, i =>
  if k = 13 then ZN i sOpen ++ (if WZ n m ks.length (-1) = true then stTs ks (i + 1) else []) ++ ZN i sClose else
  if k = 17 /\ WZ n m ks.length 3 = true then ZN i (sIf ++ (ks.map exT).getD 0 [] ++ sBr) ++ (inTs ks i).getD 1 [] ++ ZN i sElse ++ (inTs ks i).getD 2 [] ++ ZN i sClose else
  if k = 18 /\ WZ n m ks.length 2 = true then ZN i (sWhile ++ (ks.map exT).getD 0 [] ++ sBr) ++ (inTs ks i).getD 1 [] ++ ZN i sClose else
  if k = 21 /\ Q0 m ks.length 2 = true then ZN i sTry ++ (inTs ks i).getD 0 [] ++ ZN i (sCatch ++ Lib.itoa n ++ sBr) ++ (inTs ks i).getD 1 [] ++ ZN i sClose else
  ZN i (simT (.mk k n m ks))
def stTs : List Nd -> Nat -> List UInt8
 | [], _ => []
 | x :: r, i => stT x i ++ stTs r i
def inT : Nd -> Nat -> List UInt8
 | .mk k n m ks, i => if (decide (k = 13) && WZ n m ks.length (-1)) = true then stTs ks (i + 1) else []
def inTs : List Nd -> Nat -> List (List UInt8)
 | [], _ => []
 | x :: r, i => inT x i :: inTs r i
end
theorem inTs_eq (i : Nat) : ∀ ks, inTs ks i = ks.map fun x => inT x i
 | [] => rfl
 | x :: r => by rw [inTs, inTs_eq i r]; rfl
mutual
def stOk : Nd -> Bool
 | .mk k n m ks =>
  if k = 13 then WZ n m ks.length (-1) && stOks ks else
  if k = 17 then WZ n m ks.length 3 && (ks.map exOk).getD 0 false && (inOks ks).getD 1 false && (inOks ks).getD 2 false else
  if k = 18 then WZ n m ks.length 2 && (ks.map exOk).getD 0 false && (inOks ks).getD 1 false else
  if k = 21 then Q0 m ks.length 2 && Ze n && (inOks ks).getD 0 false && (inOks ks).getD 1 false else simOk (.mk k n m ks)
def stOks : List Nd -> Bool
 | [] => true
 | x :: r => stOk x && stOks r
def inOk : Nd -> Bool
 | .mk k n m ks => decide (k = 13) && WZ n m ks.length (-1) && stOks ks
def inOks : List Nd -> List Bool
 | [] => []
 | x :: r => inOk x :: inOks r
end
theorem inOks_eq : ∀ ks, inOks ks = ks.map inOk
 | [] => rfl
 | x :: r => by rw [inOks, inOks_eq r]; rfl
theorem stOks_eq : ∀ ks, stOks ks = ks.all stOk
 | [] => rfl
 | x :: r => by rw [stOks, stOks_eq r]; rfl
theorem stTs_app (a b : List Nd) (i : Nat) : stTs (a ++ b) i = stTs a i ++ stTs b i := by
 induction a with
 | nil => simp [stTs]
 | cons x r ih => rw [List.cons_append, stTs, stTs, ih, List.append_assoc]
theorem stTs_take {ks : List Nd} {j : Nat} (h : j < ks.length) (i : Nat) : stTs (ks.take (j + 1)) i = stTs (ks.take j) i ++ stT ks[j] i := by
 rw [List.take_succ_eq_append_getElem h, stTs_app, stTs, stTs, List.append_nil]
theorem stOks_take {ks : List Nd} {j : Nat} (h : j < ks.length) : stOks (ks.take (j + 1)) = (stOks (ks.take j) && stOk ks[j]) := by
 rw [stOks_eq, stOks_eq, List.take_succ_eq_append_getElem h, List.all_append]; simp
def bnd (i s : Nat) : Nat := (6 * (i + s) + 100) * s
theorem stTs_len {C : Nat} : ∀ (ks : List Nd) (i : Nat), (∀ x ∈ ks, (stT x i).length <= C * Qr x) -> (stTs ks i).length <= C * QD ks
 | [], i, _ => by simp [stTs]
 | x :: r, i, h => by
  have h1 := h x (by simp)
  have h2 := stTs_len r i fun y hy => h y (by simp [hy])
  rw [stTs, QD, List.length_append, Nat.mul_add]; omega
theorem getD_map_le {ks : List Nd} {f : Nd -> List UInt8} {C : Nat} (h : ∀ x ∈ ks, (f x).length <= C * Qr x) (j : Nat) (hj : j < ks.length) : ((ks.map f).getD j []).length <= C * Qr ks[j] := by
 rw [List.getD_eq_getElem?_getD, List.getElem?_map, List.getElem?_eq_getElem hj]
 exact h _ (List.getElem_mem hj)
theorem st_len (t : Nd) : okN t -> ∀ i, (stT t i).length <= bnd i (Qr t) /\ (inT t i).length <= (6 * (i + Qr t) + 100) * (Qr t - 1) := by
 induction t using Nd.ind with
 | h k n m ks ih =>
 intro hok0 i
 have hsim := simT_len (.mk k n m ks) hok0
 have hok := hok0
 rw [okN] at hok
 have hn := Zh hok.1.2.1
 rw [Qr] at hsim ⊢
 have hin : (stTs ks (i + 1)).length <= (6 * (i + (1 + QD ks)) + 100) * QD ks := by
  refine stTs_len ks (i + 1) fun x hx => ?_
  refine Nat.le_trans (ih x hx (WJ hok.2 hx) (i + 1)).1 (Nat.mul_le_mul ?_ (Nat.le_refl _))
  have := Wf hx; omega
 have hC : (6 * (i + (1 + QD ks)) + 100) * (1 + QD ks) = (6 * (i + (1 + QD ks)) + 100) + (6 * (i + (1 + QD ks)) + 100) * QD ks := by rw [Nat.mul_add, Nat.mul_one]
 have hex : ∀ x ∈ ks, (exT x).length <= (6 * (i + (1 + QD ks)) + 100) * Qr x := fun x hx => by
  have := exs_len hok.2 x hx
  have : 60 * Qr x <= (6 * (i + (1 + QD ks)) + 100) * Qr x := Nat.mul_le_mul (by omega) (Nat.le_refl _)
  omega
 have hib : ∀ x ∈ ks, (inT x i).length <= (6 * (i + (1 + QD ks)) + 100) * Qr x := fun x hx => by
  refine Nat.le_trans (ih x hx (WJ hok.2 hx) i).2 (Nat.mul_le_mul ?_ (by omega))
  have := Wf hx; omega
 have h60 : 60 * (1 + QD ks) <= 60 + (6 * (i + (1 + QD ks)) + 100) * QD ks := by
  have : 60 * QD ks <= (6 * (i + (1 + QD ks)) + 100) * QD ks := Nat.mul_le_mul (by omega) (Nat.le_refl _)
  omega
 have h2 : ks.length = 2 -> ((6 * (i + (1 + QD ks)) + 100) * Qr (ks.getD 0 (.mk 0 0 0 [])) + (6 * (i + (1 + QD ks)) + 100) * Qr (ks.getD 1 (.mk 0 0 0 []))) <= (6 * (i + (1 + QD ks)) + 100) * QD ks := fun h => by
  match ks, h with
  | [a, b], _ =>
   rw [<- Nat.mul_add]
   refine Nat.mul_le_mul (Nat.le_refl _) ?_
   show Qr a + Qr b <= _
   rw [QD, QD, QD]; omega
 have h3 : ks.length = 3 -> ((6 * (i + (1 + QD ks)) + 100) * Qr (ks.getD 0 (.mk 0 0 0 [])) + (6 * (i + (1 + QD ks)) + 100) * Qr (ks.getD 1 (.mk 0 0 0 [])) + (6 * (i + (1 + QD ks)) + 100) * Qr (ks.getD 2 (.mk 0 0 0 []))) <= (6 * (i + (1 + QD ks)) + 100) * QD ks := fun h => by
  match ks, h with
  | [a, b, c], _ =>
   rw [<- Nat.mul_add, <- Nat.mul_add]
   refine Nat.mul_le_mul (Nat.le_refl _) ?_
   show Qr a + Qr b + Qr c <= _
   rw [QD, QD, QD, QD]; omega
 have gx : ∀ j, j < ks.length -> ((ks.map exT).getD j []).length <= (6 * (i + (1 + QD ks)) + 100) * Qr (ks.getD j (.mk 0 0 0 [])) := fun j hj => by
  have := getD_map_le hex j hj
  rwa [List.getD_eq_getElem?_getD (l := ks), List.getElem?_eq_getElem hj]
 have gi : ∀ j, j < ks.length -> ((inTs ks i).getD j []).length <= (6 * (i + (1 + QD ks)) + 100) * Qr (ks.getD j (.mk 0 0 0 [])) := fun j hj => by
  rw [inTs_eq]
  have := getD_map_le hib j hj
  rwa [List.getD_eq_getElem?_getD (l := ks), List.getElem?_eq_getElem hj]
 refine ⟨?_, ?_⟩
 ·rw [stT]
  unfold bnd
  rw [hC]
  generalize (6 * (i + (1 + QD ks)) + 100) * QD ks = W at *
  clear ih hex hib hok hok0
  split
  ·split
   ·simp only [List.length_append, Q7, List.length_cons, List.length_nil]; omega
   ·simp only [List.length_append, Q7, List.length_cons, List.length_nil]; omega
  split
  ·rename_i h
   have hl : ks.length = 3 := by have := h.2; simp [WZ, Q0] at this; omega
   have e0 := gx 0 (by omega)
   have e1 := gi 1 (by omega)
   have e2 := gi 2 (by omega)
   have := h3 hl
   simp only [List.length_append, Q7, List.length_cons, List.length_nil]; omega
  split
  ·rename_i h
   have hl : ks.length = 2 := by have := h.2; simp [WZ, Q0] at this; omega
   have e0 := gx 0 (by omega)
   have e1 := gi 1 (by omega)
   have := h2 hl
   simp only [List.length_append, Q7, List.length_cons, List.length_nil]; omega
  split
  ·rename_i h
   have hl : ks.length = 2 := by have := h.2; simp [Q0] at this; omega
   have e0 := gi 0 (by omega)
   have e1 := gi 1 (by omega)
   have := h2 hl
   simp only [List.length_append, Q7, List.length_cons, List.length_nil]; omega
  ·rw [Q7]; omega
 ·rw [inT]
  split
  ·rw [Nat.add_sub_cancel_left]; exact hin
  ·simp
def funT : Nd -> List UInt8
 | .mk k n m ks =>
  if (decide (k = 26) && decide (0 < ks.length) && Q0 m ks.length (-1)) = true then
   ZN 0 ([102, 117, 110, 32] ++ Lib.itoa n ++ [32, 40] ++ Zm ((ks.take (ks.length - 1)).map typT) ++ [41, 32, 123]) ++ (inT (ks.getD (ks.length - 1) (.mk 0 0 0 [])) 0 ++ ZN 0 sClose)
  else []
def funOk : Nd -> Bool
 | .mk k n m ks => decide (k = 26) && decide (0 < ks.length) && Q0 m ks.length (-1) && Ze n && (ks.take (ks.length - 1)).all typOk && inOk (ks.getD (ks.length - 1) (.mk 0 0 0 []))
def prT : Nd -> List UInt8
 | .mk k n m ks =>
  if k = 27 then ZN 0 ([112, 114, 111, 103, 114, 97, 109, 32] ++ Lib.itoa n) ++ (ks.map funT).flatten else
  if k = 26 then funT (.mk k n m ks) else if 0 <= k /\ k <= 3 then typT (.mk k n m ks) else if 4 <= k /\ k <= 12 then exT (.mk k n m ks) else stT (.mk k n m ks) 0
def prOk : Nd -> Bool
 | .mk k n m ks =>
  if k = 27 then Q0 m ks.length (-1) && Ze n && ks.all funOk else
  if k = 26 then funOk (.mk k n m ks) else if 0 <= k /\ k <= 3 then typOk (.mk k n m ks) else if 4 <= k /\ k <= 12 then exOk (.mk k n m ks) else stOk (.mk k n m ks)
def Wb (t : Nd) : List UInt8 := if prOk t = true then prT t else []
theorem qa (f : Nd -> List UInt8) {M : Nat} (ks : List Nd) (j : Nat) (h : ∀ x ∈ ks, (f x).length + 2 <= M * Qr x) : (Zm ((ks.take j).map f)).length <= M * QD (ks.take j) := Z1 f _ fun x hx => h x (List.mem_of_mem_take hx)
theorem sizeL_last {ks : List Nd} (h : 0 < ks.length) : QD (ks.take (ks.length - 1)) + Qr (ks.getD (ks.length - 1) (.mk 0 0 0 [])) = QD ks := by
 have h1 := qh ks (ks.length - 1) (by omega)
 rw [show ks.length - 1 + 1 = ks.length by omega, List.take_length] at h1
 rw [List.getD_eq_getElem?_getD, List.getElem?_eq_getElem (show ks.length - 1 < ks.length by omega)]
 exact h1.symm
theorem last_mem {ks : List Nd} (h : 0 < ks.length) : ks.getD (ks.length - 1) (.mk 0 0 0 []) ∈ ks := by
 rw [List.getD_eq_getElem?_getD, List.getElem?_eq_getElem (show ks.length - 1 < ks.length by omega)]
 exact List.getElem_mem _
theorem funT_len (t : Nd) (hok : okN t) (hs : Qr t <= 1000000) : (funT t).length <= 7000000 * Qr t := by
 obtain ⟨k, n, m, ks⟩ := t
 rw [okN] at hok
 rw [Qr] at hs ⊢
 have hn := Zh hok.1.2.1
 rw [funT]
 split
 ·rename_i h
  have hk : 0 < ks.length := by simp at h; omega
  have hl := sizeL_last hk
  have hb := (st_len _ (WJ hok.2 (last_mem hk)) 0).2
  have hc := qa typT (M := 30) ks (ks.length - 1) fun x hx => typT_len x (WJ hok.2 hx)
  generalize ks.getD (ks.length - 1) (.mk 0 0 0 []) = b at *
  have hb2 : (6 * (0 + Qr b) + 100) * (Qr b - 1) <= 7000000 * (Qr b - 1) := Nat.mul_le_mul (by omega) (Nat.le_refl _)
  simp only [List.length_append, Q7, List.length_cons, List.length_nil]
  omega
 ·simp
theorem funs_len : ∀ (ks : List Nd), okL ks -> QD ks <= 1000000 -> ((ks.map funT).flatten).length <= 7000000 * QD ks
 | [], _, _ => by simp
 | x :: r, h, hs => by
  rw [okL] at h
  rw [QD] at hs
  have h1 := funT_len x h.1 (by omega)
  have h2 := funs_len r h.2 (by omega)
  rw [List.map_cons, List.flatten_cons, List.length_append, QD, Nat.mul_add]; omega
theorem flatten_take {ks : List Nd} {j : Nat} (f : Nd -> List UInt8) (h : j < ks.length) : ((ks.take (j + 1)).map f).flatten = ((ks.take j).map f).flatten ++ f ks[j] := by
 rw [List.take_succ_eq_append_getElem h, List.map_append, List.flatten_append]; simp
section
variable {α β : Type} {i : Nat} {c : Prop}
def JT (i : Nat) (T T' : RS -> RS) : Prop := ∀ S, S.p <= (T S).p /\ (S.bad = true -> (T S).bad = true) /\ ((T S).p <= i -> T' S = T S)
def J (i : Nat) (c : Prop) (F F' : RS -> α × RS) : Prop := ∀ S, S.p <= (F S).2.p /\ (S.bad = true -> (F S).2.bad = true) /\ ((F S).2.p <= i -> (F' S).2 = (F S).2 /\ (c -> (F S).2.bad = false -> (F' S).1 = (F S).1))
theorem J.pre {T T' : RS -> RS} {F F' : RS -> α × RS} (hT : JT i T T') (h : J i c F F') : J i c (fun S => F (T S)) (fun S => F' (T' S)) := fun S => by
 obtain ⟨a1, a2, a3⟩ := hT S
 obtain ⟨b1, b2, b3⟩ := h (T S)
 refine ⟨Nat.le_trans a1 b1, fun hb => b2 (a2 hb), fun hp => ?_⟩
 show (F' (T' S)).2 = (F (T S)).2 /\ (c -> (F (T S)).2.bad = false -> (F' (T' S)).1 = (F (T S)).1)
 rw [a3 (Nat.le_trans b1 hp)]
 exact b3 hp
theorem J.bind {F F' : RS -> α × RS} {K K' : α -> RS -> β × RS} (h : J i c F F') (hk : ∀ a a', J i (c /\ a' = a) (K a) (K' a')) : J i c (fun S => K (F S).1 (F S).2) (fun S => K' (F' S).1 (F' S).2) := fun S => by
 obtain ⟨a1, a2, a3⟩ := h S
 obtain ⟨b1, b2, b3⟩ := hk (F S).1 (F' S).1 (F S).2
 refine ⟨Nat.le_trans a1 b1, fun hb => b2 (a2 hb), fun hp => ?_⟩
 obtain ⟨e1, e2⟩ := a3 (Nat.le_trans b1 hp)
 obtain ⟨f1, f2⟩ := b3 hp
 show (K' (F' S).1 (F' S).2).2 = (K (F S).1 (F S).2).2 /\ (c -> (K (F S).1 (F S).2).2.bad = false -> (K' (F' S).1 (F' S).2).1 = (K (F S).1 (F S).2).1)
 rw [e1]
 refine ⟨f1, fun hc hb => f2 ⟨hc, e2 hc ?_⟩ hb⟩
 cases hbb : (F S).2.bad with
 | false => rfl
 | true => rw [b2 hbb] at hb; cases hb
theorem J.ite {P P' : RS -> Prop} [DecidablePred P] [DecidablePred P'] {F F' H H' : RS -> α × RS} (hP : ∀ S, S.p <= i -> (P' S ↔ P S)) (h1 : J i c F F') (h2 : J i c H H') : J i c (fun S => if P S then F S else H S) (fun S => if P' S then F' S else H' S) := fun S => by
 obtain ⟨a1, a2, a3⟩ := h1 S
 obtain ⟨b1, b2, b3⟩ := h2 S
 by_cases hp : P S
 ·simp only [if_pos hp]
  refine ⟨a1, a2, fun h => ?_⟩
  rw [if_pos ((hP S (Nat.le_trans a1 h)).2 hp)]
  exact a3 h
 ·simp only [if_neg hp]
  refine ⟨b1, b2, fun h => ?_⟩
  rw [if_neg fun h' => hp ((hP S (Nat.le_trans b1 h)).1 h')]
  exact b3 h
theorem J.val {T T' : RS -> RS} {a a' : α} (hT : JT i T T') (h : c -> a' = a) : J i c (fun S => (a, T S)) (fun S => (a', T' S)) := fun S => by
 obtain ⟨a1, a2, a3⟩ := hT S
 exact ⟨a1, a2, fun hp => ⟨a3 hp, fun hc _ => h hc⟩⟩
theorem JT.id : JT i (fun S => S) (fun S => S) := fun S => ⟨Nat.le_refl _, fun h => h, fun _ => rfl⟩
theorem J.fail {F F' : RS -> α × RS} (h : ∀ S, S.p <= (F S).2.p /\ (F S).2.bad = true /\ ((F S).2.p <= i -> (F' S).2 = (F S).2)) : J i c F F' := fun S => by
 obtain ⟨a1, a2, a3⟩ := h S
 exact ⟨a1, fun _ => a2, fun hp => ⟨a3 hp, fun _ hb => by rw [a2] at hb; cases hb⟩⟩
theorem J.post {T T' : RS -> RS} {F F' : RS -> α × RS} (hT : JT i T T') (h : J i c F F') : J i c (fun S => ((F S).1, T (F S).2)) (fun S => ((F' S).1, T' (F' S).2)) :=
 h.bind (K := fun a S => (a, T S)) (K' := fun a S => (a, T' S)) fun a a' => J.val hT fun hc => hc.2
theorem J.map {F F' : RS -> α × RS} {u u' : α -> β} (h : J i c F F') (hu : ∀ a, c -> u' a = u a) : J i c (fun S => (u (F S).1, (F S).2)) (fun S => (u' (F' S).1, (F' S).2)) :=
 h.bind (K := fun a S => (u a, S)) (K' := fun a S => (u' a, S)) fun a a' => J.val JT.id fun hc => by rw [hc.2]; exact hu a hc.1
theorem J.weak {c' : Prop} {F F' : RS -> α × RS} (h : J i c F F') (hc : c' -> c) : J i c' F F' := fun S => by
 obtain ⟨a1, a2, a3⟩ := h S
 exact ⟨a1, a2, fun hp => ⟨(a3 hp).1, fun h' => (a3 hp).2 (hc h')⟩⟩
end
structure Ag (L L' : Zq) (i : Nat) : Prop where
 tok : ∀ j, j <= i -> (L'.getD j ([], 0)).1 = (L.getD j ([], 0)).1
 len : ∀ j, j <= i -> (j < L'.length ↔ j < L.length)
theorem Ag.refl (L : Zq) (i : Nat) : Ag L L i := ⟨fun _ _ => rfl, fun _ _ => Iff.rfl⟩
section
variable {L L' : Zq} {i : Nat} {c : Prop} {z z' : Nd}
theorem Ag.now (h : Ag L L' i) {S : RS} (hp : S.p <= i) : QV L' S = QV L S := by unfold QV; rw [h.tok _ hp]
theorem JT.next : JT i Qn Qn := fun S => ⟨Nat.le_succ _, fun h => h, fun _ => rfl⟩
theorem JT.fail : JT i WQ WQ := fun S => ⟨Nat.le_refl _, fun h => rfl, fun _ => rfl⟩
theorem JT.take (h : Ag L L' i) (s : List UInt8) : JT i (QU L s) (QU L' s) := fun S => by
 unfold QU
 by_cases hn : QV L S = s
 ·simp only [if_pos hn]
  refine ⟨Nat.le_succ _, fun h => h, fun hp => ?_⟩
  rw [h.now (Nat.le_trans (Nat.le_succ _) hp), if_pos hn]
 ·simp only [if_neg hn]
  refine ⟨Nat.le_refl _, fun h => rfl, fun hp => ?_⟩
  rw [h.now (S := S) hp, if_neg hn]
theorem J.numeral (h : Ag L L' i) : J i c (Qw L) (Qw L') := by
 refine J.ite (P := fun S => numB (QV L S) = true) (P' := fun S => numB (QV L' S) = true) (F := fun S => (valM (QV L S), Qn S)) (F' := fun S => (valM (QV L' S), Qn S)) (H := fun S => (0, WQ S)) (H' := fun S => (0, WQ S)) (fun S hp => by rw [h.now hp]) (fun S => ?_) (J.val JT.fail fun _ => rfl)
 refine ⟨Nat.le_succ _, fun h => h, fun hp => ⟨rfl, fun _ _ => ?_⟩⟩
 show valM (QV L' S) = valM (QV L S)
 rw [h.now (Nat.le_trans (Nat.le_succ _) hp)]
theorem Ag.is (h : Ag L L' i) {S : RS} (hp : S.p <= i) (x : UInt8) : isM L' x S = isM L x S := by unfold isM; rw [h.now hp]
theorem J.numbered (h : Ag L L' i) (x : UInt8) : J i c (Qh L x) (Qh L' x) := by
 refine J.ite (P := fun S => isM L x S = true) (P' := fun S => isM L' x S = true) (F := fun S => (valM ((QV L S).drop 1), Qn S)) (F' := fun S => (valM ((QV L' S).drop 1), Qn S)) (H := fun S => (0, WQ S)) (H' := fun S => (0, WQ S)) (fun S hp => by rw [h.is hp]) (fun S => ?_) (J.val JT.fail fun _ => rfl)
 refine ⟨Nat.le_succ _, fun h => h, fun hp => ⟨rfl, fun _ _ => ?_⟩⟩
 show valM ((QV L' S).drop 1) = valM ((QV L S).drop 1)
 rw [h.now (Nat.le_trans (Nat.le_succ _) hp)]
theorem Ag.nowIff (h : Ag L L' i) (s : List UInt8) : ∀ S : RS, S.p <= i -> (QV L' S = s ↔ QV L S = s) := fun S hp => by rw [h.now hp]
theorem J.loop (h : Ag L L' i) {E E' : Rd1} (hE : ∀ c, J i c E E') : ∀ (k : Nat) (c : Prop) (o o' : List Nd), (c -> o' = o) -> J i c (We L E k o) (We L' E' k o')
 | 0, c, o, o', ho => J.val (a := o) (a' := o') JT.id ho
 | k + 1, c, o, o', ho => by
  refine J.ite (P := fun S => QV L S = [44]) (P' := fun S => QV L' S = [44]) (F := fun S => We L E k (o ++ [(E (Qn S)).1]) (E (Qn S)).2) (F' := fun S => We L' E' k (o' ++ [(E' (Qn S)).1]) (E' (Qn S)).2) (H := fun S => (o, S)) (H' := fun S => (o', S)) (h.nowIff _) ?_ (J.val JT.id ho)
  refine J.pre (F := fun S => We L E k (o ++ [(E S).1]) (E S).2) (F' := fun S => We L' E' k (o' ++ [(E' S).1]) (E' S).2) JT.next ?_
  exact (hE c).bind (K := fun a S => We L E k (o ++ [a]) S) (K' := fun a S => We L' E' k (o' ++ [a]) S) fun a a' => J.loop h hE k _ _ _ fun hc => by rw [ho hc.1, hc.2]
theorem J.lst (h : Ag L L' i) {E E' : Rd1} (hE : ∀ c, J i c E E') (k : Nat) : J i c (Zx L E k) (Zx L' E' k) :=
 (hE c).bind (K := fun a S => ((We L E k [a] S).1, QU L [41] (We L E k [a] S).2)) (K' := fun a S => ((We L' E' k [a] S).1, QU L' [41] (We L' E' k [a] S).2)) fun a a' => J.post (JT.take h _) (J.loop h hE k _ _ _ fun hc => by rw [hc.2])
theorem J.arg (h : Ag L L' i) {E E' : Rd1} (hE : ∀ c, J i c E E') (k : Nat) : J i c (WH L E k) (WH L' E' k) := by
 refine J.pre (F := fun S => if QV L S = [41] then ([], Qn S) else Zx L E k S) (F' := fun S => if QV L' S = [41] then ([], Qn S) else Zx L' E' k S) (JT.take h [40]) ?_
 exact J.ite (P := fun S => QV L S = [41]) (P' := fun S => QV L' S = [41]) (F := fun S => ([], Qn S)) (F' := fun S => ([], Qn S)) (h.nowIff _) (J.val JT.next fun _ => rfl) (J.lst h hE k)
theorem J.vtail (h : Ag L L' i) {E E' : Rd1} (hE : ∀ c, J i c E E') (a a' : Int) : J i (c /\ a' = a) (varTail L E a) (varTail L' E' a') := by
 refine J.ite (P := fun S => QV L S = [91]) (P' := fun S => QV L' S = [91]) (F := fun S => (Nd.mk 7 a 0 [(E (Qn S)).1], QU L [93] (E (Qn S)).2)) (F' := fun S => (Nd.mk 7 a' 0 [(E' (Qn S)).1], QU L' [93] (E' (Qn S)).2)) (h.nowIff _) ?_ ?_
 ·refine J.pre (F := fun S => (Nd.mk 7 a 0 [(E S).1], QU L [93] (E S).2)) (F' := fun S => (Nd.mk 7 a' 0 [(E' S).1], QU L' [93] (E' S).2)) JT.next ?_
  exact (hE _).bind (K := fun x S => (Nd.mk 7 a 0 [x], QU L [93] S)) (K' := fun x S => (Nd.mk 7 a' 0 [x], QU L' [93] S)) fun x x' => J.val (JT.take h _) fun hc => by rw [hc.2, hc.1.2]
 ·refine J.ite (P := fun S => QV L S = [46]) (P' := fun S => QV L' S = [46]) (F := fun S => (Nd.mk 8 a (Qw L (Qn S)).1 [], (Qw L (Qn S)).2)) (F' := fun S => (Nd.mk 8 a' (Qw L' (Qn S)).1 [], (Qw L' (Qn S)).2)) (H := fun S => (Nd.mk 6 a 0 [], S)) (H' := fun S => (Nd.mk 6 a' 0 [], S)) (h.nowIff _) ?_ (J.val JT.id fun hc => by rw [hc.2])
  refine J.pre (F := fun S => (Nd.mk 8 a (Qw L S).1 [], (Qw L S).2)) (F' := fun S => (Nd.mk 8 a' (Qw L' S).1 [], (Qw L' S).2)) JT.next ?_
  exact (J.numeral h).map (u := fun x => Nd.mk 8 a x []) (u' := fun x => Nd.mk 8 a' x []) fun x hc => by rw [hc.2]
theorem J.variable (h : Ag L L' i) {E E' : Rd1} (hE : ∀ c, J i c E E') : J i c (Wq L E) (Wq L' E') :=
 (J.numbered h 118).bind (K := fun a S => varTail L E a S) (K' := fun a S => varTail L' E' a S) fun a a' => J.vtail h hE a a'
theorem J.binary (h : Ag L L' i) {E E' : Rd1} (hE : ∀ c, J i c E E') : J i c (qb L E) (qb L' E') := by
 refine (hE c).bind (K := fun a S => if qs (QV L S) < 0 then (zNd, WQ S) else (Nd.mk 9 (qs (QV L S)) 0 [a, (E (Qn S)).1], QU L [41] (E (Qn S)).2)) (K' := fun a S => if qs (QV L' S) < 0 then (zNd, WQ S) else (Nd.mk 9 (qs (QV L' S)) 0 [a, (E' (Qn S)).1], QU L' [41] (E' (Qn S)).2)) fun a a' => ?_
 refine J.ite (P := fun S => qs (QV L S) < 0) (P' := fun S => qs (QV L' S) < 0) (F := fun S => (zNd, WQ S)) (F' := fun S => (zNd, WQ S)) (fun S hp => by rw [h.now hp]) (J.val JT.fail fun _ => rfl) fun S => ?_
 have hb : ∀ c x x', (c -> x' = x) -> J i c (fun S => (Nd.mk 9 x 0 [a, (E S).1], QU L [41] (E S).2)) (fun S => (Nd.mk 9 x' 0 [a', (E' S).1], QU L' [41] (E' S).2)) -> True := fun _ _ _ _ _ => trivial
 have key : ∀ x, J i (c /\ a' = a) (fun S => (Nd.mk 9 x 0 [a, (E S).1], QU L [41] (E S).2)) (fun S => (Nd.mk 9 x 0 [a', (E' S).1], QU L' [41] (E' S).2)) := fun x =>
  (hE _).bind (K := fun y S => (Nd.mk 9 x 0 [a, y], QU L [41] S)) (K' := fun y S => (Nd.mk 9 x 0 [a', y], QU L' [41] S)) fun y y' => J.val (JT.take h _) fun hc => by rw [hc.2, hc.1.2]
 obtain ⟨a1, a2, a3⟩ := key (qs (QV L S)) (Qn S)
 refine ⟨Nat.le_trans (Nat.le_succ _) a1, a2, fun hp => ?_⟩
 have := a3 hp
 show (Nd.mk 9 (qs (QV L' S)) 0 [a', (E' (Qn S)).1], QU L' [41] (E' (Qn S)).2).2 = _ /\ (_ -> _ -> (Nd.mk 9 (qs (QV L' S)) 0 [a', (E' (Qn S)).1], QU L' [41] (E' (Qn S)).2).1 = _)
 rw [h.now (Nat.le_trans (Nat.le_trans (Nat.le_succ _) a1) hp)]
 exact this
theorem J.node1 {E E' : Rd1} (k : Int) (hE : ∀ c, J i c E E') : J i c (fun S => (Nd.mk k 0 0 [(E S).1], (E S).2)) (fun S => (Nd.mk k 0 0 [(E' S).1], (E' S).2)) := (hE c).map (u := fun x => Nd.mk k 0 0 [x]) (u' := fun x => Nd.mk k 0 0 [x]) fun _ _ => rfl
theorem J.expr (h : Ag L L' i) : ∀ (n : Nat) (c : Prop), J i c (Wz L z n) (Wz L' z' n)
 | 0, c => J.val (a := zNd) (a' := zNd) JT.fail fun _ => rfl
 | n + 1, c => by
  have hE := J.expr h n
  refine J.ite (P := fun S => numB (QV L S) = true) (P' := fun S => numB (QV L' S) = true) (F := fun S => (Nd.mk 4 (Qw L S).1 0 [], (Qw L S).2)) (F' := fun S => (Nd.mk 4 (Qw L' S).1 0 [], (Qw L' S).2)) (fun S hp => by rw [h.now hp]) ((J.numeral h).map (u := fun x => Nd.mk 4 x 0 []) (u' := fun x => Nd.mk 4 x 0 []) fun _ _ => rfl) ?_
  refine J.ite (P := fun S => isM L 118 S = true) (P' := fun S => isM L' 118 S = true) (F := Wq L (Wz L z n)) (F' := Wq L' (Wz L' z' n)) (fun S hp => by rw [h.is hp]) (J.variable h hE) ?_
  refine J.ite (P := fun S => isM L 102 S = true) (P' := fun S => isM L' 102 S = true) (F := fun S => (Nd.mk 11 (Qh L 102 S).1 0 (WH L (Wz L z n) n (Qh L 102 S).2).1, (WH L (Wz L z n) n (Qh L 102 S).2).2)) (F' := fun S => (Nd.mk 11 (Qh L' 102 S).1 0 (WH L' (Wz L' z' n) n (Qh L' 102 S).2).1, (WH L' (Wz L' z' n) n (Qh L' 102 S).2).2)) (fun S hp => by rw [h.is hp]) ?_ ?_
  ·refine (J.numbered h 102).bind (K := fun a S => (Nd.mk 11 a 0 (WH L (Wz L z n) n S).1, (WH L (Wz L z n) n S).2)) (K' := fun a S => (Nd.mk 11 a 0 (WH L' (Wz L' z' n) n S).1, (WH L' (Wz L' z' n) n S).2)) fun a a' => ?_
   exact (J.arg h hE n).map (u := fun x => Nd.mk 11 a 0 x) (u' := fun x => Nd.mk 11 a' 0 x) fun x hc => by rw [hc.2]
  refine J.ite (P := fun S => QV L S = [45]) (P' := fun S => QV L' S = [45]) (F := fun S => if QV L (Qn S) = [48] then (z, WQ (Qn S)) else (Nd.mk 4 (-(Qw L (Qn S)).1) 0 [], (Qw L (Qn S)).2)) (F' := fun S => if QV L' (Qn S) = [48] then (z', WQ (Qn S)) else (Nd.mk 4 (-(Qw L' (Qn S)).1) 0 [], (Qw L' (Qn S)).2)) (h.nowIff _) ?_ ?_
  ·refine J.pre (F := fun S => if QV L S = [48] then (z, WQ S) else (Nd.mk 4 (-(Qw L S).1) 0 [], (Qw L S).2)) (F' := fun S => if QV L' S = [48] then (z', WQ S) else (Nd.mk 4 (-(Qw L' S).1) 0 [], (Qw L' S).2)) JT.next ?_
   refine J.ite (P := fun S => QV L S = [48]) (P' := fun S => QV L' S = [48]) (F := fun S => (z, WQ S)) (F' := fun S => (z', WQ S)) (h.nowIff _) (J.fail fun S => ⟨Nat.le_refl _, rfl, fun _ => rfl⟩) ?_
   exact (J.numeral h).map (u := fun x => Nd.mk 4 (-x) 0 []) (u' := fun x => Nd.mk 4 (-x) 0 []) fun _ _ => rfl
  refine J.ite (P := fun S => QV L S = wTrue) (P' := fun S => QV L' S = wTrue) (F := fun S => (Nd.mk 5 1 0 [], Qn S)) (F' := fun S => (Nd.mk 5 1 0 [], Qn S)) (h.nowIff _) (J.val JT.next fun _ => rfl) ?_
  refine J.ite (P := fun S => QV L S = wFalse) (P' := fun S => QV L' S = wFalse) (F := fun S => (Nd.mk 5 0 0 [], Qn S)) (F' := fun S => (Nd.mk 5 0 0 [], Qn S)) (h.nowIff _) (J.val JT.next fun _ => rfl) ?_
  refine J.ite (P := fun S => QV L S = [40]) (P' := fun S => QV L' S = [40]) (F := fun S => qb L (Wz L z n) (Qn S)) (F' := fun S => qb L' (Wz L' z' n) (Qn S)) (h.nowIff _) (J.pre JT.next (J.binary h hE)) ?_
  refine J.ite (P := fun S => QV L S = [33]) (P' := fun S => QV L' S = [33]) (F := fun S => (Nd.mk 10 0 0 [(Wz L z n (Qn S)).1], (Wz L z n (Qn S)).2)) (F' := fun S => (Nd.mk 10 0 0 [(Wz L' z' n (Qn S)).1], (Wz L' z' n (Qn S)).2)) (h.nowIff _) (J.pre (F := fun S => (Nd.mk 10 0 0 [(Wz L z n S).1], (Wz L z n S).2)) (F' := fun S => (Nd.mk 10 0 0 [(Wz L' z' n S).1], (Wz L' z' n S).2)) JT.next (J.node1 10 hE)) ?_
  refine J.ite (P := fun S => QV L S = wRecv) (P' := fun S => QV L' S = wRecv) (F := fun S => (Nd.mk 12 (Qh L 99 (Qn S)).1 0 [], (Qh L 99 (Qn S)).2)) (F' := fun S => (Nd.mk 12 (Qh L' 99 (Qn S)).1 0 [], (Qh L' 99 (Qn S)).2)) (H := fun S => (zNd, WQ S)) (H' := fun S => (zNd, WQ S)) (h.nowIff _) ?_ (J.val JT.fail fun _ => rfl)
  exact J.pre (F := fun S => (Nd.mk 12 (Qh L 99 S).1 0 [], (Qh L 99 S).2)) (F' := fun S => (Nd.mk 12 (Qh L' 99 S).1 0 [], (Qh L' 99 S).2)) JT.next ((J.numbered h 99).map (u := fun x => Nd.mk 12 x 0 []) (u' := fun x => Nd.mk 12 x 0 []) fun _ _ => rfl)
theorem J.typed (h : Ag L L' i) : ∀ (n : Nat) (c : Prop), J i c (WB L n) (WB L' n)
 | 0, c => J.val (a := zNd) (a' := zNd) JT.fail fun _ => rfl
 | n + 1, c => by
  have hE := J.typed h n
  refine J.ite (P := fun S => QV L S = wInt) (P' := fun S => QV L' S = wInt) (F := fun S => (Nd.mk 0 0 0 [], Qn S)) (F' := fun S => (Nd.mk 0 0 0 [], Qn S)) (h.nowIff _) (J.val JT.next fun _ => rfl) ?_
  refine J.ite (P := fun S => QV L S = wBool) (P' := fun S => QV L' S = wBool) (F := fun S => (Nd.mk 1 0 0 [], Qn S)) (F' := fun S => (Nd.mk 1 0 0 [], Qn S)) (h.nowIff _) (J.val JT.next fun _ => rfl) ?_
  refine J.ite (P := fun S => QV L S = wArr) (P' := fun S => QV L' S = wArr) (F := fun S => (Nd.mk 2 (Qw L (Qn S)).1 0 [], (Qw L (Qn S)).2)) (F' := fun S => (Nd.mk 2 (Qw L' (Qn S)).1 0 [], (Qw L' (Qn S)).2)) (h.nowIff _) ?_ ?_
  ·exact J.pre (F := fun S => (Nd.mk 2 (Qw L S).1 0 [], (Qw L S).2)) (F' := fun S => (Nd.mk 2 (Qw L' S).1 0 [], (Qw L' S).2)) JT.next ((J.numeral h).map (u := fun x => Nd.mk 2 x 0 []) (u' := fun x => Nd.mk 2 x 0 []) fun _ _ => rfl)
  refine J.ite (P := fun S => QV L S = wRec) (P' := fun S => QV L' S = wRec) (F := fun S => (Nd.mk 3 0 0 (Zx L (WB L n) n (QU L [40] (Qn S))).1, (Zx L (WB L n) n (QU L [40] (Qn S))).2)) (F' := fun S => (Nd.mk 3 0 0 (Zx L' (WB L' n) n (QU L' [40] (Qn S))).1, (Zx L' (WB L' n) n (QU L' [40] (Qn S))).2)) (H := fun S => (zNd, WQ S)) (H' := fun S => (zNd, WQ S)) (h.nowIff _) ?_ (J.val JT.fail fun _ => rfl)
  refine J.pre (F := fun S => (Nd.mk 3 0 0 (Zx L (WB L n) n (QU L [40] S)).1, (Zx L (WB L n) n (QU L [40] S)).2)) (F' := fun S => (Nd.mk 3 0 0 (Zx L' (WB L' n) n (QU L' [40] S)).1, (Zx L' (WB L' n) n (QU L' [40] S)).2)) JT.next ?_
  refine J.pre (F := fun S => (Nd.mk 3 0 0 (Zx L (WB L n) n S).1, (Zx L (WB L n) n S).2)) (F' := fun S => (Nd.mk 3 0 0 (Zx L' (WB L' n) n S).1, (Zx L' (WB L' n) n S).2)) (JT.take h [40]) ?_
  exact (J.lst h hE n).map (u := fun x => Nd.mk 3 0 0 x) (u' := fun x => Nd.mk 3 0 0 x) fun _ _ => rfl
theorem J.bloop (h : Ag L L' i) {E E' : Rd1} (hE : ∀ c, J i c E E') : ∀ (k : Nat) (c : Prop) (o o' : List Nd), (c -> o' = o) -> J i c (Wr L E k o) (Wr L' E' k o')
 | 0, c, o, o', ho => J.val (a := o) (a' := o') JT.id ho
 | k + 1, c, o, o', ho => by
  refine J.ite (P := fun S => S.bad = true) (P' := fun S => S.bad = true) (F := fun S => (o, S)) (F' := fun S => (o', S)) (fun _ _ => Iff.rfl) (J.val JT.id ho) ?_
  refine J.ite (P := fun S => QV L S = [125]) (P' := fun S => QV L' S = [125]) (F := fun S => (o, Qn S)) (F' := fun S => (o', Qn S)) (h.nowIff _) (J.val JT.next ho) ?_
  exact (hE c).bind (K := fun a S => Wr L E k (o ++ [a]) S) (K' := fun a S => Wr L' E' k (o' ++ [a]) S) fun a a' => J.bloop h hE k _ _ _ fun hc => by rw [ho hc.1, hc.2]
theorem J.block (h : Ag L L' i) {E E' : Rd1} (hE : ∀ c, J i c E E') (k : Nat) (c : Prop) : J i c (Wi L E k) (Wi L' E' k) := by
 refine J.pre (F := fun S => (Nd.mk 13 0 0 (Wr L E k [] S).1, (Wr L E k [] S).2)) (F' := fun S => (Nd.mk 13 0 0 (Wr L' E' k [] S).1, (Wr L' E' k [] S).2)) (JT.take h [123]) ?_
 exact (J.bloop h hE k c [] [] fun _ => rfl).map (u := fun x => Nd.mk 13 0 0 x) (u' := fun x => Nd.mk 13 0 0 x) fun _ _ => rfl
theorem J.atail (h : Ag L L' i) {E E' : Rd1} (hE : ∀ c, J i c E E') (a a' : Nd) : J i (c /\ a' = a) (fun S => (setM a (E (QU L [61] S)).1, (E (QU L [61] S)).2)) (fun S => (setM a' (E' (QU L' [61] S)).1, (E' (QU L' [61] S)).2)) := by
 refine J.pre (F := fun S => (setM a (E S).1, (E S).2)) (F' := fun S => (setM a' (E' S).1, (E' S).2)) (JT.take h [61]) ?_
 exact (hE _).map (u := fun x => setM a x) (u' := fun x => setM a' x) fun x hc => by rw [hc.2]
theorem J.assign (h : Ag L L' i) {E E' : Rd1} (hE : ∀ c, J i c E E') : J i c (qu L E) (qu L' E') :=
 (J.variable h hE).bind (K := fun a S => (setM a (E (QU L [61] S)).1, (E (QU L [61] S)).2)) (K' := fun a S => (setM a (E' (QU L' [61] S)).1, (E' (QU L' [61] S)).2)) fun a a' => J.atail h hE a a'
theorem J.one {E E' : Rd1} (hE : ∀ c, J i c E E') (k n n' : Int) (hn : c -> n' = n) : J i c (oneM E k n) (oneM E' k n') :=
 (hE c).map (u := fun x => Nd.mk k n 0 [x]) (u' := fun x => Nd.mk k n' 0 [x]) fun x hc => by rw [hn hc]
theorem J.iff (h : Ag L L' i) {E E' B B' : Rd1} (hE : ∀ c, J i c E E') (hB : ∀ c, J i c B B') : J i c (ifM L E B) (ifM L' E' B') := by
 refine (hE c).bind (K := fun x S => (Nd.mk 17 0 0 [x, (B S).1, (B (QU L wElse (B S).2)).1], (B (QU L wElse (B S).2)).2)) (K' := fun x S => (Nd.mk 17 0 0 [x, (B' S).1, (B' (QU L' wElse (B' S).2)).1], (B' (QU L' wElse (B' S).2)).2)) fun x x' => ?_
 refine (hB _).bind (K := fun y S => (Nd.mk 17 0 0 [x, y, (B (QU L wElse S)).1], (B (QU L wElse S)).2)) (K' := fun y S => (Nd.mk 17 0 0 [x', y, (B' (QU L' wElse S)).1], (B' (QU L' wElse S)).2)) fun y y' => ?_
 refine J.pre (F := fun S => (Nd.mk 17 0 0 [x, y, (B S).1], (B S).2)) (F' := fun S => (Nd.mk 17 0 0 [x', y', (B' S).1], (B' S).2)) (JT.take h wElse) ?_
 exact (hB _).map (u := fun w => Nd.mk 17 0 0 [x, y, w]) (u' := fun w => Nd.mk 17 0 0 [x', y', w]) fun w hc => by rw [hc.2, hc.1.2]
theorem J.whil {E E' B B' : Rd1} (hE : ∀ c, J i c E E') (hB : ∀ c, J i c B B') : J i c (whileM E B) (whileM E' B') := by
 refine (hE c).bind (K := fun x S => (Nd.mk 18 0 0 [x, (B S).1], (B S).2)) (K' := fun x S => (Nd.mk 18 0 0 [x, (B' S).1], (B' S).2)) fun x x' => ?_
 exact (hB _).map (u := fun w => Nd.mk 18 0 0 [x, w]) (u' := fun w => Nd.mk 18 0 0 [x', w]) fun w hc => by rw [hc.2]
theorem J.tri (h : Ag L L' i) {B B' : Rd1} (hB : ∀ c, J i c B B') : J i c (tryM L B) (tryM L' B') := by
 refine (hB c).bind (K := fun x S => (Nd.mk 21 (Qh L 118 (QU L qv S)).1 0 [x, (B (Qh L 118 (QU L qv S)).2).1], (B (Qh L 118 (QU L qv S)).2).2)) (K' := fun x S => (Nd.mk 21 (Qh L' 118 (QU L' qv S)).1 0 [x, (B' (Qh L' 118 (QU L' qv S)).2).1], (B' (Qh L' 118 (QU L' qv S)).2).2)) fun x x' => ?_
 refine J.pre (F := fun S => (Nd.mk 21 (Qh L 118 S).1 0 [x, (B (Qh L 118 S).2).1], (B (Qh L 118 S).2).2)) (F' := fun S => (Nd.mk 21 (Qh L' 118 S).1 0 [x', (B' (Qh L' 118 S).2).1], (B' (Qh L' 118 S).2).2)) (JT.take h qv) ?_
 refine (J.numbered h 118).bind (K := fun v S => (Nd.mk 21 v 0 [x, (B S).1], (B S).2)) (K' := fun v S => (Nd.mk 21 v 0 [x', (B' S).1], (B' S).2)) fun v v' => ?_
 exact (hB _).map (u := fun w => Nd.mk 21 v 0 [x, w]) (u' := fun w => Nd.mk 21 v' 0 [x', w]) fun w hc => by rw [hc.2, hc.1.2]
theorem J.stmt (h : Ag L L' i) {E E' : Rd1} (hE : ∀ c, J i c E E') (q : Nat) : ∀ (n : Nat) (c : Prop), J i c (WA L E q n) (WA L' E' q n)
 | 0, c => J.val (a := zNd) (a' := zNd) JT.fail fun _ => rfl
 | n + 1, c => by
  have hB : ∀ c, J i c (Wi L (WA L E q n) n) (Wi L' (WA L' E' q n) n) := fun c => J.block h (J.stmt h hE q n) n c
  refine J.ite (P := fun S => QV L S = [123]) (P' := fun S => QV L' S = [123]) (F := Wi L (WA L E q n) n) (F' := Wi L' (WA L' E' q n) n) (h.nowIff _) (hB c) ?_
  refine J.ite (P := fun S => isM L 118 S = true) (P' := fun S => isM L' 118 S = true) (F := qu L E) (F' := qu L' E') (fun S hp => by rw [h.is hp]) (J.assign h hE) ?_
  refine J.ite (P := fun S => QV L S = wIf) (P' := fun S => QV L' S = wIf) (F := fun S => ifM L E (Wi L (WA L E q n) n) (Qn S)) (F' := fun S => ifM L' E' (Wi L' (WA L' E' q n) n) (Qn S)) (h.nowIff _) (J.pre JT.next (J.iff h hE hB)) ?_
  refine J.ite (P := fun S => QV L S = wWhile) (P' := fun S => QV L' S = wWhile) (F := fun S => whileM E (Wi L (WA L E q n) n) (Qn S)) (F' := fun S => whileM E' (Wi L' (WA L' E' q n) n) (Qn S)) (h.nowIff _) (J.pre JT.next (J.whil hE hB)) ?_
  refine J.ite (P := fun S => QV L S = wReturn) (P' := fun S => QV L' S = wReturn) (F := fun S => oneM E 19 0 (Qn S)) (F' := fun S => oneM E' 19 0 (Qn S)) (h.nowIff _) (J.pre JT.next (J.one hE 19 0 0 fun _ => rfl)) ?_
  refine J.ite (P := fun S => QV L S = wThrow) (P' := fun S => QV L' S = wThrow) (F := fun S => oneM E 20 0 (Qn S)) (F' := fun S => oneM E' 20 0 (Qn S)) (h.nowIff _) (J.pre JT.next (J.one hE 20 0 0 fun _ => rfl)) ?_
  refine J.ite (P := fun S => QV L S = wOut) (P' := fun S => QV L' S = wOut) (F := fun S => oneM E 24 0 (Qn S)) (F' := fun S => oneM E' 24 0 (Qn S)) (h.nowIff _) (J.pre JT.next (J.one hE 24 0 0 fun _ => rfl)) ?_
  refine J.ite (P := fun S => QV L S = wSkip) (P' := fun S => QV L' S = wSkip) (F := fun S => (Nd.mk 25 0 0 [], Qn S)) (F' := fun S => (Nd.mk 25 0 0 [], Qn S)) (h.nowIff _) (J.val JT.next fun _ => rfl) ?_
  refine J.ite (P := fun S => QV L S = wTry) (P' := fun S => QV L' S = wTry) (F := fun S => tryM L (Wi L (WA L E q n) n) (Qn S)) (F' := fun S => tryM L' (Wi L' (WA L' E' q n) n) (Qn S)) (h.nowIff _) (J.pre JT.next (J.tri h hB)) ?_
  refine J.ite (P := fun S => QV L S = wSend) (P' := fun S => QV L' S = wSend) (F := fun S => oneM E 22 (Qh L 99 (Qn S)).1 (Qh L 99 (Qn S)).2) (F' := fun S => oneM E' 22 (Qh L' 99 (Qn S)).1 (Qh L' 99 (Qn S)).2) (h.nowIff _) ?_ ?_
  ·exact J.pre (F := fun S => oneM E 22 (Qh L 99 S).1 (Qh L 99 S).2) (F' := fun S => oneM E' 22 (Qh L' 99 S).1 (Qh L' 99 S).2) JT.next ((J.numbered h 99).bind (K := fun a S => oneM E 22 a S) (K' := fun a S => oneM E' 22 a S) fun a a' => J.one hE 22 a a' fun hc => hc.2)
  refine J.ite (P := fun S => QV L S = wSpawn) (P' := fun S => QV L' S = wSpawn) (F := fun S => (Nd.mk 23 (Qh L 102 (Qn S)).1 0 (WH L E q (Qh L 102 (Qn S)).2).1, (WH L E q (Qh L 102 (Qn S)).2).2)) (F' := fun S => (Nd.mk 23 (Qh L' 102 (Qn S)).1 0 (WH L' E' q (Qh L' 102 (Qn S)).2).1, (WH L' E' q (Qh L' 102 (Qn S)).2).2)) (H := fun S => (zNd, WQ S)) (H' := fun S => (zNd, WQ S)) (h.nowIff _) ?_ (J.val JT.fail fun _ => rfl)
  refine J.pre (F := fun S => (Nd.mk 23 (Qh L 102 S).1 0 (WH L E q (Qh L 102 S).2).1, (WH L E q (Qh L 102 S).2).2)) (F' := fun S => (Nd.mk 23 (Qh L' 102 S).1 0 (WH L' E' q (Qh L' 102 S).2).1, (WH L' E' q (Qh L' 102 S).2).2)) JT.next ?_
  refine (J.numbered h 102).bind (K := fun a S => (Nd.mk 23 a 0 (WH L E q S).1, (WH L E q S).2)) (K' := fun a S => (Nd.mk 23 a 0 (WH L' E' q S).1, (WH L' E' q S).2)) fun a a' => ?_
  exact (J.arg h hE q).map (u := fun x => Nd.mk 23 a 0 x) (u' := fun x => Nd.mk 23 a' 0 x) fun x hc => by rw [hc.2]
end
mutual
def Wj : Nd -> Nat
 | .mk _ _ _ ks => Wk ks + 1
def Wk : List Nd -> Nat
 | [] => 0
 | x :: r => max (Wj x) (Wk r)
end
theorem depthL_app (a b : List Nd) : Wk (a ++ b) = max (Wk a) (Wk b) := by
 induction a with
 | nil => simp [Wk]
 | cons x r ih => rw [List.cons_append, Wk, Wk, ih]; omega
theorem depthL_take {ks : List Nd} {i : Nat} (h : i < ks.length) : Wk (ks.take (i + 1)) = max (Wk (ks.take i)) (Wj ks[i]) := by
 rw [List.take_succ_eq_append_getElem h, depthL_app, Wk, Wk]; omega
theorem depth_size (t : Nd) : Wj t <= Qr t := by
 induction t using Nd.ind with
 | h k n m ks ih =>
 rw [Wj, Qr]
 have : ∀ ks : List Nd, (∀ x ∈ ks, Wj x <= Qr x) -> Wk ks <= QD ks := by
  intro ks
  induction ks with
  | nil => intro _; exact Nat.le_refl _
  | cons x r ihr =>
   intro h
   have h1 := h x (by simp)
   have h2 := ihr fun y hy => h y (by simp [hy])
   rw [Wk, QD]; omega
 have := this ks ih
 omega
structure Sh where
 is : Int
 low : Int
 high : Int
 last : Int
 kids : List Int
 more : Int
 least : Int
 som : Int
def shapesL : List Sh := [⟨3, 0, 0, 0, [], 0, 0, 0⟩, ⟨3, 0, 0, 0, [], 0, 0, 0⟩, ⟨2, 1, 4, 0, [], 0, 0, 0⟩, ⟨2, 0, 0, 0, [], 3, 1, 3⟩,
 ⟨4, -8, 7, 0, [], 0, 0, 0⟩, ⟨4, 0, 1, 0, [], 0, 0, 0⟩, ⟨4, 0, 5, 0, [], 0, 0, 0⟩, ⟨4, 0, 5, 0, [4], 0, 0, 0⟩, ⟨4, 0, 5, 2, [], 0, 0, 0⟩, ⟨4, 0, 13, 0, [4, 4], 0, 0, 0⟩, ⟨4, 0, 0, 0, [4], 0, 0, 0⟩, ⟨4, 0, 5, 0, [], 3, 0, 4⟩, ⟨4, 0, 2, 0, [], 0, 0, 0⟩,
 ⟨6, 0, 0, 0, [], 8, 0, 5⟩, ⟨5, 0, 5, 0, [4], 0, 0, 0⟩, ⟨5, 0, 5, 0, [4, 4], 0, 0, 0⟩, ⟨5, 0, 5, 2, [4], 0, 0, 0⟩, ⟨5, 0, 0, 0, [4, 6, 6], 0, 0, 0⟩, ⟨5, 0, 0, 0, [4, 6], 0, 0, 0⟩, ⟨5, 0, 0, 0, [4], 0, 0, 0⟩, ⟨5, 0, 0, 0, [4], 0, 0, 0⟩, ⟨5, 0, 5, 0, [6, 6], 0, 0, 0⟩, ⟨5, 0, 2, 0, [4], 0, 0, 0⟩, ⟨5, 0, 5, 0, [], 3, 0, 4⟩, ⟨5, 0, 0, 0, [4], 0, 0, 0⟩, ⟨5, 0, 0, 0, [], 0, 0, 0⟩,
 ⟨1, 0, 3, 0, [], 0, 0, 0⟩, ⟨0, 0, 3, 0, [], 6, 1, 1⟩]
def isB (s : Sh) (w : Int) : Bool := (decide (s.is = w) || (decide (s.is = 3) && decide (w = 2))) || (decide (s.is = 6) && decide (w = 5))
def rngB (s : Sh) (n m : Int) : Bool := (decide (s.low <= n) && decide (n <= s.high)) && (decide (0 <= m) && decide (m <= s.last))
def cntB (s : Sh) (l : Nat) : Bool := decide (s.least <= (l : Int) - (s.kids.length : Int)) && decide ((l : Int) - (s.kids.length : Int) <= s.more)
def qq (s : Sh) (i : Nat) : Int := if i < s.kids.length then s.kids.getD i 0 else s.som
def noF : Int -> Bool := fun _ => false
def allI (f : Nat -> Bool) (n : Nat) : Bool := (List.range n).all f
def kidsB (s : Sh) (fs : List (Int -> Bool)) : Bool := allI (fun i => fs.getD i noF (qq s i)) fs.length
def funB (n : Int) (fs : List (Int -> Bool)) : Bool := ((decide (n <= (fs.length : Int) - 1) && decide ((fs.length : Int) - 1 <= 6)) && fs.getD (fs.length - 1) noF 6) && allI (fun i => fs.getD i noF (if (i : Int) < n then 3 else 2)) (fs.length - 1)
def noSh : Sh := ⟨0, 0, 0, 0, [], 0, 0, 0⟩
mutual
def Q2 : Nd -> Int -> Bool
 | .mk k n m ks, w =>
  if 0 <= k /\ k < 28 then
   isB (shapesL.getD k.toNat noSh) w && rngB (shapesL.getD k.toNat noSh) n m && (if k = 26 then funB n (fitsF ks) else cntB (shapesL.getD k.toNat noSh) ks.length && kidsB (shapesL.getD k.toNat noSh) (fitsF ks))
  else false
def fitsF : List Nd -> List (Int -> Bool)
 | [] => []
 | x :: r => Q2 x :: fitsF r
end
theorem fitsF_eq : ∀ ks, fitsF ks = ks.map Q2
 | [] => rfl
 | x :: r => by rw [fitsF, fitsF_eq r]; rfl
def validM (t : Nd) : Bool := decide (Qr t <= 256) && decide (Wj t <= 16) && Q2 t 0
theorem allI_iff {f : Nat -> Bool} {n : Nat} : allI f n = true ↔ ∀ i, i < n -> f i = true := by
 unfold allI
 rw [List.all_eq_true]
 simp
theorem ZB (ks : List Nd) (f : Nd -> Int -> Bool) {i : Nat} (h : i < ks.length) : (ks.map f).getD i noF = f ks[i] := by
 rw [List.getD_eq_getElem?_getD, List.getElem?_map, List.getElem?_eq_getElem h]; rfl
theorem W8 {k n m : Int} {ks : List Nd} {w : Int} (s : Sh) (hs : shapesL.getD k.toNat noSh = s) (hk : 0 <= k /\ k < 28 /\ k ≠ 26) (hi : isB s w = true) (hn : s.low <= n /\ n <= s.high) (hm : 0 <= m /\ m <= s.last) (hc : s.least <= (ks.length : Int) - (s.kids.length : Int) /\ (ks.length : Int) - (s.kids.length : Int) <= s.more) (hw : ∀ i (h : i < ks.length), Q2 ks[i] (qq s i) = true) : Q2 (.mk k n m ks) w = true := by
 rw [Q2, if_pos ⟨hk.1, hk.2.1⟩, if_neg hk.2.2, hs, hi, fitsF_eq]
 have h1 : rngB s n m = true := by unfold rngB; simp [hn, hm]
 have h2 : cntB s ks.length = true := by unfold cntB; simp [hc]
 have h3 : kidsB s (ks.map Q2) = true := by
  unfold kidsB
  rw [allI_iff]
  intro i hi
  rw [List.length_map] at hi
  rw [ZB ks Q2 hi]
  exact hw i hi
 rw [h1, h2, h3]; rfl
theorem kids1 {x : Nd} {s : Sh} (h : Q2 x (qq s 0) = true) : ∀ i (h : i < [x].length), Q2 [x][i] (qq s i) = true := fun i hi => by
 match i, hi with
 | 0, _ => exact h
theorem kids2 {x y : Nd} {s : Sh} (h : Q2 x (qq s 0) = true) (h2 : Q2 y (qq s 1) = true) : ∀ i (h : i < [x, y].length), Q2 [x, y][i] (qq s i) = true := fun i hi => by
 match i, hi with
 | 0, _ => exact h
 | 1, _ => exact h2
theorem kids3 {x y z : Nd} {s : Sh} (h : Q2 x (qq s 0) = true) (h2 : Q2 y (qq s 1) = true) (h3 : Q2 z (qq s 2) = true) : ∀ i (h : i < [x, y, z].length), Q2 [x, y, z][i] (qq s i) = true := fun i hi => by
 match i, hi with
 | 0, _ => exact h
 | 1, _ => exact h2
 | 2, _ => exact h3
theorem kids0 {s : Sh} : ∀ i (h : i < ([] : List Nd).length), Q2 ([] : List Nd)[i] (qq s i) = true := fun i hi => by simp at hi
theorem kidsA {ks : List Nd} {s : Sh} (hk : s.kids = []) (h : ∀ x ∈ ks, Q2 x s.som = true) : ∀ i (h : i < ks.length), Q2 ks[i] (qq s i) = true := fun i hi => by
 unfold qq
 rw [hk, if_neg (by simp)]
 exact h _ (List.getElem_mem hi)
theorem qd {x : Nd} : Wk [x] = Wj x := by simp [Wk]
theorem qn {x y : Nd} : Wk [x, y] = max (Wj x) (Wj y) := by simp [Wk]
theorem sizeL1 {x : Nd} : QD [x] = Qr x := by simp [QD]
theorem depthL_le {ks : List Nd} {D : Nat} (h : ∀ x ∈ ks, Wj x <= D) : Wk ks <= D := by
 induction ks with
 | nil => simp [Wk]
 | cons x r ih =>
  have h1 := h x (by simp)
  have h2 := ih fun y hy => h y (by simp [hy])
  rw [Wk]; omega
theorem fit_block {t : Nd} (h : Q2 t 6 = true) : Q2 t 5 = true := by
 obtain ⟨k, n, m, ks⟩ := t
 rw [Q2] at h ⊢
 split at h
 ·rename_i hk
  rw [if_pos hk]
  simp only [Bool.and_eq_true] at h ⊢
  refine ⟨⟨?_, h.1.2⟩, h.2⟩
  have h1 := h.1.1
  unfold isB at h1 ⊢
  simp only [Bool.or_eq_true, Bool.and_eq_true, decide_eq_true_eq] at h1 ⊢
  rcases h1 with (h1 | ⟨_, h1⟩) | ⟨_, h1⟩
  ·exact .inr ⟨h1, trivial⟩
  ·exact absurd h1 (by decide)
  ·exact absurd h1 (by decide)
 ·cases h
theorem fit_rng {k : Int} (h : 0 <= k /\ k < 28) : -8 <= (shapesL.getD k.toNat noSh).low /\ (shapesL.getD k.toNat noSh).high <= 13 /\ (shapesL.getD k.toNat noSh).last <= 2 := by
 have : ∀ i : Fin 28, -8 <= (shapesL.getD i.val noSh).low /\ (shapesL.getD i.val noSh).high <= 13 /\ (shapesL.getD i.val noSh).last <= 2 := by decide
 exact this ⟨k.toNat, by omega⟩
theorem okL_of {ks : List Nd} (h : ∀ x ∈ ks, okN x) : okL ks := by
 induction ks with
 | nil => rw [okL]; trivial
 | cons x r ih => rw [okL]; exact ⟨h x (by simp), ih fun y hy => h y (by simp [hy])⟩
theorem fit_ok (t : Nd) : ∀ w, Q2 t w = true -> okN t := by
 induction t using Nd.ind with
 | h k n m ks ih =>
 intro w h
 rw [Q2] at h
 split at h
 ·rename_i hk
  have hr := fit_rng hk
  simp only [Bool.and_eq_true] at h
  obtain ⟨⟨_, h1⟩, h2⟩ := h
  unfold rngB at h1
  simp only [Bool.and_eq_true, decide_eq_true_eq] at h1
  rw [okN]
  refine ⟨⟨⟨by omega, by omega⟩, ⟨by omega, by omega⟩, ⟨by omega, by omega⟩⟩, okL_of fun x hx => ?_⟩
  obtain ⟨i, hi, rfl⟩ := List.getElem_of_mem hx
  rw [fitsF_eq] at h2
  split at h2
  ·unfold funB at h2
   simp only [Bool.and_eq_true, List.length_map] at h2
   by_cases hl : i = ks.length - 1
   ·have h3 := h2.1.2
    rw [ZB ks Q2 (by omega)] at h3
    subst hl
    exact ih _ hx 6 h3
   ·have h3 := allI_iff.1 h2.2 i (by omega)
    rw [ZB ks Q2 hi] at h3
    exact ih _ hx _ h3
  ·simp only [Bool.and_eq_true] at h2
   have h3 := h2.2
   unfold kidsB at h3
   rw [List.length_map] at h3
   have h4 := allI_iff.1 h3 i hi
   rw [ZB ks Q2 hi] at h4
   exact ih _ hx _ h4
 ·cases h
abbrev GenF := Int -> Int -> Nd × Int × Int
theorem gen_skolem {pre : Int -> Int -> Prop} {R : Int -> Int -> Nd × Int × Int -> Prop} (h : ∀ a L, pre a L -> ∃ t, R a L t) : ∃ E : GenF, ∀ a L, pre a L -> R a L (E a L) := by
 classical
 refine ⟨fun a L => if h' : pre a L then Classical.choose (h a L h') else (.mk 0 0 0 [], 0, 0), fun a L h' => ?_⟩
 dsimp only
 rw [dif_pos h']
 exact Classical.choose_spec (h a L h')
def runM (E : GenF) : Nat -> Int -> Int -> List Nd × Int × Int
 | 0, a, L => ([], a, L)
 | n + 1, a, L => ((E a L).1 :: (runM E n (E a L).2.1 (E a L).2.2).1, (runM E n (E a L).2.1 (E a L).2.2).2)
def runP (E : GenF) : Nat -> Int -> Int -> List Nd × Int × Int
 | 0, a, L => ([], a, L)
 | n + 1, a, L => if 0 < L then ((E a L).1 :: (runP E n (E a L).2.1 (E a L).2.2).1, (runP E n (E a L).2.1 (E a L).2.2).2) else ([], a, L)
theorem runM_len (E : GenF) : ∀ n a L, (runM E n a L).1.length = n
 | 0, a, L => rfl
 | n + 1, a, L => by rw [runM, List.length_cons, runM_len E n]
theorem runP_len (E : GenF) : ∀ n a L, (runP E n a L).1.length <= n
 | 0, a, L => Nat.le_refl _
 | n + 1, a, L => by
  rw [runP]
  split
  ·have := runP_len E n (E a L).2.1 (E a L).2.2
   rw [List.length_cons]; omega
  ·exact Nat.zero_le _
structure FitI (s : Sh) (n m : Int) (ks : List Nd) (w : Int) : Prop where
 is : s.is = w \/ (s.is = 3 /\ w = 2) \/ (s.is = 6 /\ w = 5)
 low : s.low <= n
 high : n <= s.high
 mlow : 0 <= m
 mhigh : m <= s.last
 least : s.least <= (ks.length : Int) - (s.kids.length : Int)
 more : (ks.length : Int) - (s.kids.length : Int) <= s.more
 kid : ∀ i (h : i < ks.length), Q2 ks[i] (qq s i) = true
theorem fit_inv {k n m w : Int} {ks : List Nd} (h : Q2 (.mk k n m ks) w = true) (hk : k ≠ 26) : FitI (shapesL.getD k.toNat noSh) n m ks w := by
 rw [Q2] at h
 split at h
 ·simp only [Bool.and_eq_true] at h
  obtain ⟨⟨h0, h1⟩, h2, h3⟩ := h
  unfold isB at h0
  unfold rngB at h1
  unfold cntB at h2
  unfold kidsB at h3
  simp only [Bool.and_eq_true, Bool.or_eq_true, decide_eq_true_eq] at h0 h1 h2
  rw [fitsF_eq, List.length_map] at h3
  refine ⟨by omega, h1.1.1, h1.1.2, h1.2.1, h1.2.2, h2.1, h2.2, fun i hi => ?_⟩
  have := allI_iff.1 h3 i hi
  rw [ZB ks Q2 hi] at this
  exact this
 ·cases h
theorem kids_all {s : Sh} {n m w : Int} {ks : List Nd} (h : FitI s n m ks w) (c : Int) (hw : ∀ i, i < ks.length -> qq s i = c) : ∀ x ∈ ks, Q2 x c = true := fun x hx => by
 obtain ⟨i, hi, rfl⟩ := List.getElem_of_mem hx
 have := h.kid i hi
 rw [hw i hi] at this
 exact this
theorem map_getDb (ks : List Nd) (f : Nd -> Bool) {i : Nat} (h : i < ks.length) : (ks.map f).getD i false = f ks[i] := by
 rw [List.getD_eq_getElem?_getD, List.getElem?_map, List.getElem?_eq_getElem h]; rfl
theorem fit_k {k n m w : Int} {ks : List Nd} (h : Q2 (.mk k n m ks) w = true) : 0 <= k /\ k < 28 := by
 rw [Q2] at h
 split at h
 ·assumption
 ·cases h
theorem fit_typ (t : Nd) : ∀ w, (w = 2 \/ w = 3) -> Q2 t w = true -> typOk t = true := by
 induction t using Nd.ind with
 | h k n m ks ih =>
 intro w hw h
 have hk := fit_k h
 by_cases h26 : k = 26
 ·subst h26
  rw [Q2, if_pos (by decide)] at h
  simp only [Bool.and_eq_true] at h
  have := h.1.1
  unfold isB at this
  simp [shapesL] at this
  omega
 have hf := fit_inv h h26
 have hkk : k = 0 \/ k = 1 \/ k = 2 \/ k = 3 \/ (4 <= k /\ k <= 27) := by omega
 rw [typOk]
 rcases hkk with rfl | rfl | rfl | rfl | h4
 ·have hl : ks.length = 0 := by have := hf.least; have := hf.more; simp [shapesL] at this; simp_all
  obtain rfl : ks = [] := List.eq_nil_of_length_eq_zero hl
  obtain ⟨h0, h1, h2, h3, h4, h5, h6, h7⟩ := hf
  simp [shapesL] at h0 h1 h2 h3 h4 h5 h6
  simp [WZ, Q0]; omega
 ·have hl : ks.length = 0 := by have := hf.least; have := hf.more; simp [shapesL] at this; simp_all
  obtain rfl : ks = [] := List.eq_nil_of_length_eq_zero hl
  obtain ⟨h0, h1, h2, h3, h4, h5, h6, h7⟩ := hf
  simp [shapesL] at h0 h1 h2 h3 h4 h5 h6
  simp [WZ, Q0]; omega
 ·have hl : ks.length = 0 := by have := hf.least; have := hf.more; simp [shapesL] at this; simp_all
  obtain rfl : ks = [] := List.eq_nil_of_length_eq_zero hl
  obtain ⟨h0, h1, h2, h3, h4, h5, h6, h7⟩ := hf
  simp [shapesL] at h0 h1 h2 h3 h4 h5 h6
  simp [WZ, Q0, Ze]; omega
 ·have ha := kids_all hf 3 fun i _ => by show (if i < 0 then _ else (3 : Int)) = 3; rw [if_neg (by omega)]
  obtain ⟨h0, h1, h2, h3, h4, h5, h6, h7⟩ := hf
  simp [shapesL] at h0 h1 h2 h3 h4 h5 h6
  have hl : 0 < ks.length := by omega
  rw [if_neg (by omega), if_neg (by omega), if_pos rfl, typOks_eq]
  have : ks.all typOk = true := by rw [List.all_eq_true]; exact fun x hx => ih x hx 3 (.inr rfl) (ha x hx)
  rw [this]
  simp [WZ, Q0, hl]; omega
 ·exfalso
  have h0 := hf.is
  have hs : ∀ j : Fin 28, 4 <= j.val -> ((shapesL.getD j.val noSh).is ≠ 2 /\ (shapesL.getD j.val noSh).is ≠ 3) := by decide
  have := hs ⟨k.toNat, by omega⟩ (by show 4 <= k.toNat; omega)
  dsimp only at this
  omega
theorem fit_is {k n m w : Int} {ks : List Nd} (h : Q2 (.mk k n m ks) w = true) : (shapesL.getD k.toNat noSh).is = w \/ ((shapesL.getD k.toNat noSh).is = 3 /\ w = 2) \/ ((shapesL.getD k.toNat noSh).is = 6 /\ w = 5) := by
 rw [Q2] at h
 split at h
 ·simp only [Bool.and_eq_true] at h
  have := h.1.1
  unfold isB at this
  simp only [Bool.and_eq_true, Bool.or_eq_true, decide_eq_true_eq] at this
  omega
 ·cases h
theorem kind_is {k n m w : Int} {ks : List Nd} (h : Q2 (.mk k n m ks) w = true) : (w = 4 -> 4 <= k /\ k <= 12) /\ (w = 6 -> k = 13) /\ (w = 5 -> 13 <= k /\ k <= 25) /\ (w = 1 -> k = 26) /\ (w = 0 -> k = 27) := by
 have hk := fit_k h
 have h0 := fit_is h
 have hs : ∀ j : Fin 28, ((shapesL.getD j.val noSh).is = 4 -> 4 <= j.val /\ j.val <= 12) /\ ((shapesL.getD j.val noSh).is = 6 -> j.val = 13) /\ ((shapesL.getD j.val noSh).is = 5 -> 13 <= j.val /\ j.val <= 25) /\ ((shapesL.getD j.val noSh).is = 1 -> j.val = 26) /\ ((shapesL.getD j.val noSh).is = 0 -> j.val = 27) := by decide
 have := hs ⟨k.toNat, by omega⟩
 dsimp only at this
 obtain ⟨a1, a2, a3, a4, a5⟩ := this
 refine ⟨fun hw => ?_, fun hw => ?_, fun hw => ?_, fun hw => ?_, fun hw => ?_⟩
 ·have := a1 (by omega); omega
 ·have := a2 (by omega); omega
 ·by_cases h6 : (shapesL.getD k.toNat noSh).is = 6
  ·have := a2 h6; omega
  ·have := a3 (by omega); omega
 ·have := a4 (by omega); omega
 ·have := a5 (by omega); omega
theorem fit_ex (t : Nd) : Q2 t 4 = true -> exOk t = true := by
 induction t using Nd.ind with
 | h k n m ks ih =>
 intro h
 have hk := (kind_is h).1 rfl
 have hf := fit_inv h (by omega)
 have hkk : k = 4 \/ k = 5 \/ k = 6 \/ k = 7 \/ k = 8 \/ k = 9 \/ k = 10 \/ k = 11 \/ k = 12 := by omega
 have hall : (∀ i, i < ks.length -> qq (shapesL.getD k.toNat noSh) i = 4) -> exOks ks = true := fun hw => by
  rw [exOks_eq, List.all_eq_true]
  exact fun x hx => ih x hx (kids_all hf 4 hw x hx)
 rw [exOk]
 rcases hkk with rfl | rfl | rfl | rfl | rfl | rfl | rfl | rfl | rfl
 ·have hl : ks.length = 0 := by have := hf.least; have := hf.more; simp [shapesL] at this; simp_all
  obtain rfl : ks = [] := List.eq_nil_of_length_eq_zero hl
  obtain ⟨h0, h1, h2, h3, h4, h5, h6, h7⟩ := hf
  simp [shapesL] at h0 h1 h2 h3 h4 h5 h6
  by_cases hn : n < 0
  ·simp [Q0, Ze, hn]; omega
  ·simp [Q0, Ze, hn]; omega
 ·have hl : ks.length = 0 := by have := hf.least; have := hf.more; simp [shapesL] at this; simp_all
  obtain rfl : ks = [] := List.eq_nil_of_length_eq_zero hl
  obtain ⟨h0, h1, h2, h3, h4, h5, h6, h7⟩ := hf
  simp [shapesL] at h0 h1 h2 h3 h4 h5 h6
  simp [Q0, Ze]; omega
 ·have hl : ks.length = 0 := by have := hf.least; have := hf.more; simp [shapesL] at this; simp_all
  obtain rfl : ks = [] := List.eq_nil_of_length_eq_zero hl
  obtain ⟨h0, h1, h2, h3, h4, h5, h6, h7⟩ := hf
  simp [shapesL] at h0 h1 h2 h3 h4 h5 h6
  simp [Q0, Ze]; omega
 ·have hl : ks.length = 1 := by have := hf.least; have := hf.more; simp [shapesL] at *; omega
  have := hall fun i hi => by (have : i = 0 := by omega); subst this; rfl
  obtain ⟨h0, h1, h2, h3, h4, h5, h6, h7⟩ := hf
  simp [shapesL] at h0 h1 h2 h3 h4 h5 h6
  simp [Q0, Ze, this]; omega
 ·have hl : ks.length = 0 := by have := hf.least; have := hf.more; simp [shapesL] at this; simp_all
  obtain rfl : ks = [] := List.eq_nil_of_length_eq_zero hl
  obtain ⟨h0, h1, h2, h3, h4, h5, h6, h7⟩ := hf
  simp [shapesL] at h0 h1 h2 h3 h4 h5 h6
  simp [Q0, Ze]
  omega
 ·have hl : ks.length = 2 := by have := hf.least; have := hf.more; simp [shapesL] at *; omega
  have := hall fun i hi => by (have : i = 0 \/ i = 1 := by omega); rcases this with rfl | rfl <;> rfl
  obtain ⟨h0, h1, h2, h3, h4, h5, h6, h7⟩ := hf
  simp [shapesL] at h0 h1 h2 h3 h4 h5 h6
  simp [Q0, Ze, this]; omega
 ·have hl : ks.length = 1 := by have := hf.least; have := hf.more; simp [shapesL] at *; omega
  have := hall fun i hi => by (have : i = 0 := by omega); subst this; rfl
  obtain ⟨h0, h1, h2, h3, h4, h5, h6, h7⟩ := hf
  simp [shapesL] at h0 h1 h2 h3 h4 h5 h6
  simp [WZ, Q0, Ze, this]; omega
 ·have := hall fun i hi => by show (if i < 0 then _ else (4 : Int)) = 4; rw [if_neg (by omega)]
  obtain ⟨h0, h1, h2, h3, h4, h5, h6, h7⟩ := hf
  simp [shapesL] at h0 h1 h2 h3 h4 h5 h6
  simp [Q0, Ze, this]; omega
 ·have hl : ks.length = 0 := by have := hf.least; have := hf.more; simp [shapesL] at this; simp_all
  obtain rfl : ks = [] := List.eq_nil_of_length_eq_zero hl
  obtain ⟨h0, h1, h2, h3, h4, h5, h6, h7⟩ := hf
  simp [shapesL] at h0 h1 h2 h3 h4 h5 h6
  simp [Q0, Ze]; omega
theorem fit_st (t : Nd) : (Q2 t 5 = true -> stOk t = true) /\ (Q2 t 6 = true -> inOk t = true) := by
 induction t using Nd.ind with
 | h k n m ks ih =>
 have hblk : ∀ w, k = 13 -> Q2 (.mk k n m ks) w = true -> WZ n m ks.length (-1) = true /\ stOks ks = true := fun w hk h => by
  have hf := fit_inv h (by omega)
  subst hk
  have ha := kids_all hf 5 fun i _ => by show (if i < 0 then _ else (5 : Int)) = 5; rw [if_neg (by omega)]
  obtain ⟨h0, h1, h2, h3, h4, h5, h6, h7⟩ := hf
  simp [shapesL] at h0 h1 h2 h3 h4 h5 h6
  refine ⟨by simp [WZ, Q0]; omega, ?_⟩
  have : ∀ ks : List Nd, (∀ x ∈ ks, stOk x = true) -> stOks ks = true := by
   intro ks
   induction ks with
   | nil => intro _; rfl
   | cons x r ihr => intro h; rw [stOks, h x (by simp), ihr fun y hy => h y (by simp [hy])]; rfl
  exact this ks fun x hx => (ih x hx).1 (ha x hx)
 refine ⟨fun h => ?_, fun h => ?_⟩
 ·have hk := (kind_is h).2.2.1 rfl
  have hf := fit_inv h (by omega)
  have hkk : k = 13 \/ k = 14 \/ k = 15 \/ k = 16 \/ k = 17 \/ k = 18 \/ k = 19 \/ k = 20 \/ k = 21 \/ k = 22 \/ k = 23 \/ k = 24 \/ k = 25 := by omega
  have hall : (∀ i, i < ks.length -> qq (shapesL.getD k.toNat noSh) i = 4) -> ks.all exOk = true := fun hw => by
   rw [List.all_eq_true]
   exact fun x hx => fit_ex x (kids_all hf 4 hw x hx)
  rw [stOk]
  rcases hkk with rfl | rfl | rfl | rfl | rfl | rfl | rfl | rfl | rfl | rfl | rfl | rfl | rfl
  ·obtain ⟨b1, b2⟩ := hblk 5 rfl h
   rw [if_pos rfl, b1, b2]; rfl
  ·have hl : ks.length = 1 := by have := hf.least; have := hf.more; simp [shapesL] at *; omega
   have := hall fun i hi => by (have : i = 0 := by omega); subst this; rfl
   obtain ⟨h0, h1, h2, h3, h4, h5, h6, h7⟩ := hf
   simp [shapesL] at h0 h1 h2 h3 h4 h5 h6
   simp only [simOk, this]
   simp [Q0, Ze]; omega
  ·have hl : ks.length = 2 := by have := hf.least; have := hf.more; simp [shapesL] at *; omega
   have := hall fun i hi => by (have : i = 0 \/ i = 1 := by omega); rcases this with rfl | rfl <;> rfl
   obtain ⟨h0, h1, h2, h3, h4, h5, h6, h7⟩ := hf
   simp [shapesL] at h0 h1 h2 h3 h4 h5 h6
   simp only [simOk, this]
   simp [Q0, Ze]; omega
  ·have hl : ks.length = 1 := by have := hf.least; have := hf.more; simp [shapesL] at *; omega
   have := hall fun i hi => by (have : i = 0 := by omega); subst this; rfl
   obtain ⟨h0, h1, h2, h3, h4, h5, h6, h7⟩ := hf
   simp [shapesL] at h0 h1 h2 h3 h4 h5 h6
   simp only [simOk, this]
   simp [Q0, Ze]; omega
  ·have hl : ks.length = 3 := by have := hf.least; have := hf.more; simp [shapesL] at *; omega
   have k0 : exOk ks[0] = true := fit_ex _ (hf.kid 0 (by omega))
   have k1 : inOk ks[1] = true := (ih _ (List.getElem_mem _)).2 (hf.kid 1 (by omega))
   have k2 : inOk ks[2] = true := (ih _ (List.getElem_mem _)).2 (hf.kid 2 (by omega))
   obtain ⟨h0, h1, h2, h3, h4, h5, h6, h7⟩ := hf
   simp [shapesL] at h0 h1 h2 h3 h4 h5 h6
   rw [if_neg (by omega), if_pos rfl, inOks_eq, map_getDb ks exOk (i := 0) (by omega), map_getDb ks inOk (i := 1) (by omega), map_getDb ks inOk (i := 2) (by omega), k0, k1, k2]
   simp [WZ, Q0]; omega
  ·have hl : ks.length = 2 := by have := hf.least; have := hf.more; simp [shapesL] at *; omega
   have k0 : exOk ks[0] = true := fit_ex _ (hf.kid 0 (by omega))
   have k1 : inOk ks[1] = true := (ih _ (List.getElem_mem _)).2 (hf.kid 1 (by omega))
   obtain ⟨h0, h1, h2, h3, h4, h5, h6, h7⟩ := hf
   simp [shapesL] at h0 h1 h2 h3 h4 h5 h6
   rw [if_neg (by omega), if_neg (by omega), if_pos rfl, inOks_eq, map_getDb ks exOk (i := 0) (by omega), map_getDb ks inOk (i := 1) (by omega), k0, k1]
   simp [WZ, Q0]; omega
  ·have hl : ks.length = 1 := by have := hf.least; have := hf.more; simp [shapesL] at *; omega
   have := hall fun i hi => by (have : i = 0 := by omega); subst this; rfl
   obtain ⟨h0, h1, h2, h3, h4, h5, h6, h7⟩ := hf
   simp [shapesL] at h0 h1 h2 h3 h4 h5 h6
   simp only [simOk, this]
   simp [WZ, Q0, Ze]; omega
  ·have hl : ks.length = 1 := by have := hf.least; have := hf.more; simp [shapesL] at *; omega
   have := hall fun i hi => by (have : i = 0 := by omega); subst this; rfl
   obtain ⟨h0, h1, h2, h3, h4, h5, h6, h7⟩ := hf
   simp [shapesL] at h0 h1 h2 h3 h4 h5 h6
   simp only [simOk, this]
   simp [WZ, Q0, Ze]; omega
  ·have hl : ks.length = 2 := by have := hf.least; have := hf.more; simp [shapesL] at *; omega
   have k0 : inOk ks[0] = true := (ih _ (List.getElem_mem _)).2 (hf.kid 0 (by omega))
   have k1 : inOk ks[1] = true := (ih _ (List.getElem_mem _)).2 (hf.kid 1 (by omega))
   obtain ⟨h0, h1, h2, h3, h4, h5, h6, h7⟩ := hf
   simp [shapesL] at h0 h1 h2 h3 h4 h5 h6
   rw [if_neg (by omega), if_neg (by omega), if_neg (by omega), if_pos rfl, inOks_eq, map_getDb ks inOk (i := 0) (by omega), map_getDb ks inOk (i := 1) (by omega), k0, k1]
   simp [Q0, Ze]; omega
  ·have hl : ks.length = 1 := by have := hf.least; have := hf.more; simp [shapesL] at *; omega
   have := hall fun i hi => by (have : i = 0 := by omega); subst this; rfl
   obtain ⟨h0, h1, h2, h3, h4, h5, h6, h7⟩ := hf
   simp [shapesL] at h0 h1 h2 h3 h4 h5 h6
   simp only [simOk, this]
   simp [Q0, Ze]; omega
  ·have := hall fun i hi => by show (if i < 0 then _ else (4 : Int)) = 4; rw [if_neg (by omega)]
   obtain ⟨h0, h1, h2, h3, h4, h5, h6, h7⟩ := hf
   simp [shapesL] at h0 h1 h2 h3 h4 h5 h6
   simp only [simOk, this]
   simp [Q0, Ze]; omega
  ·have hl : ks.length = 1 := by have := hf.least; have := hf.more; simp [shapesL] at *; omega
   have := hall fun i hi => by (have : i = 0 := by omega); subst this; rfl
   obtain ⟨h0, h1, h2, h3, h4, h5, h6, h7⟩ := hf
   simp [shapesL] at h0 h1 h2 h3 h4 h5 h6
   simp only [simOk, this]
   simp [WZ, Q0, Ze]; omega
  ·have hl : ks.length = 0 := by have := hf.least; have := hf.more; simp [shapesL] at this; simp_all
   obtain rfl : ks = [] := List.eq_nil_of_length_eq_zero hl
   obtain ⟨h0, h1, h2, h3, h4, h5, h6, h7⟩ := hf
   simp [shapesL] at h0 h1 h2 h3 h4 h5 h6
   simp only [simOk]
   simp [WZ, Q0, Ze]; omega
 ·have hk := (kind_is h).2.1 rfl
  obtain ⟨b1, b2⟩ := hblk 6 hk h
  rw [inOk, b1, b2, decide_eq_true hk]; rfl
theorem fit_funok (t : Nd) (h : Q2 t 1 = true) : funOk t = true := by
 obtain ⟨k, n, m, ks⟩ := t
 have hk := (kind_is h).2.2.2.1 rfl
 subst hk
 rw [Q2, if_pos (by decide), if_pos rfl, fitsF_eq] at h
 simp only [Bool.and_eq_true] at h
 obtain ⟨⟨_, h1⟩, h2⟩ := h
 unfold rngB at h1
 unfold funB at h2
 simp only [Bool.and_eq_true, decide_eq_true_eq, List.length_map] at h1 h2
 simp [shapesL] at h1
 obtain ⟨⟨⟨c1, c2⟩, c3⟩, c4⟩ := h2
 have hl : 0 < ks.length := by
  by_cases h0 : ks.length = 0
  ·omega
  ·omega
 rw [ZB ks Q2 (by omega)] at c3
 rw [funOk]
 have d1 : inOk (ks.getD (ks.length - 1) (.mk 0 0 0 [])) = true := by
  rw [List.getD_eq_getElem?_getD, List.getElem?_eq_getElem (show ks.length - 1 < ks.length by omega)]
  exact (fit_st _).2 c3
 have d2 : (ks.take (ks.length - 1)).all typOk = true := by
  rw [List.all_eq_true]
  intro x hx
  obtain ⟨i, hi, rfl⟩ := List.getElem_of_mem hx
  rw [List.length_take] at hi
  have h3 := allI_iff.1 c4 i (by omega)
  rw [ZB ks Q2 (by omega)] at h3
  rw [List.getElem_take]
  refine fit_typ _ _ ?_ h3
  split <;> simp
 rw [d1, d2, decide_eq_true hl]
 simp [Q0, Ze]; omega
theorem fit_pr (t : Nd) (h : Q2 t 0 = true) : prOk t = true := by
 obtain ⟨k, n, m, ks⟩ := t
 have hk := (kind_is h).2.2.2.2 rfl
 have hf := fit_inv h (by omega)
 subst hk
 have ha := kids_all hf 1 fun i _ => by show (if i < 0 then _ else (1 : Int)) = 1; rw [if_neg (by omega)]
 obtain ⟨h0, h1, h2, h3, h4, h5, h6, h7⟩ := hf
 simp [shapesL] at h0 h1 h2 h3 h4 h5 h6
 rw [prOk, if_pos rfl]
 have : ks.all funOk = true := by rw [List.all_eq_true]; exact fun x hx => fit_funok x (ha x hx)
 rw [this]
 simp [Q0, Ze]; omega
theorem valid_pr {t : Nd} (h : validM t = true) : prOk t = true := by
 unfold validM at h
 simp only [Bool.and_eq_true] at h
 exact fit_pr t h.2
end Go.Proofs
end
section
namespace Go.Av
open Go.Bl
section
variable {P : Program} {G : Nat -> DV} {B : Nat} {f : Operand -> DV} {σ : List ABlk} {K : DV -> List ABlk -> Prop} {dst : Option Tmp} {type : TypeId} {pos : String} {after : Array Edge} {gd : Option (Nat × Bool)}
theorem s_max {ts : Array TypeId} {x y : Operand} {k1 : IntKind} {a b : Int} (hx : f x = .sc (.int k1 a)) (hy : f y = .sc (.int k1 b)) (k : K (.sc (.int k1 (max a b))) σ) : OpSem P G B ⟨dst, .call ⟨.builtin .max, #[x, y], ts⟩, type, pos, after, gd⟩ f σ K := fun X ρ hS hσ _ _ hf => by
 subst hσ
 have e1 := hf x (by simp [Op.operands, Call.operands]); rw [hx] at e1
 have e2 := hf y (by simp [Op.operands, Call.operands]); rw [hy] at e2
 have : (Builtin.max_ ts type #[.int k1 a, .int k1 b]).run P X.w = .ok (.int k1 (max a b)) X.w := by
  simp only [Builtin.max_, Builtin.max2, List.foldlM_cons, List.foldlM_nil, Sem.run_bind, Sem.run_pure, Result.andThen_ok]
  rw [Int.max_def]; split <;> split <;> first | rfl | (congr 2; omega)
 simp only [execOp, resolve, invoke, builtin, List.map_toArray, List.map_cons, List.map_nil, Sem.run_bind, Sem.run_pure, Result.andThen_ok, VRep.sc_eq e1, VRep.sc_eq e2, this]
 exact Wv hS (.sc _) k
end
section
variable {E : AX} {R : DV -> List ABlk -> Prop}
theorem c_conv {d d2 : DV} {σ : List ABlk} (h : ∀ L v, VRep L d v -> VRep L d2 v) (k : AClose E R d2 σ) : AClose E R d σ := fun X v hσ hS hE hv => k X v hσ hS hE (h _ _ hv)
theorem nil_str {L : Lay} {v : Value} {es : Nat} (h : VRep L (.sc (.slice none 0 0)) v) : VRep L (.sl es []) v := (Sub.nil es).rep h
end
end Go.Av
end
section
namespace Go.Proofs
open Go.Av
variable {G : Nat -> DV}
attribute [local irreducible] OpSem Za Zv qc ACalls AEnd AClose RV
open Go.Bl
theorem s_max_as {P : Program} {G : Nat -> DV} {B : Nat} {f : Operand -> DV} {σ : List ABlk} {K : DV -> List ABlk -> Prop} {dst : Option Tmp} {type : TypeId} {pos : String} {after : Array Edge} {gd : Option (Nat × Bool)} {ts : Array TypeId} {x y : Operand} {k1 : IntKind} {a b c : Int} (hx : f x = .sc (.int k1 a)) (hy : f y = .sc (.int k1 b)) (hc : max a b = c) (k : K (.sc (.int k1 c)) σ) : OpSem P G B ⟨dst, .call ⟨.builtin .max, #[x, y], ts⟩, type, pos, after, gd⟩ f σ K := s_max hx hy (by rw [hc]; exact k)
theorem trSize_c (t : Nd) : Qr t <= 4000000 -> Go.Av.Pure Tryz.prog G 73 [.agg (Enc.enc t)] (.i (Qr t)) := by
 induction t using Nd.ind with
 | h k n m ks ih =>
 intro hsz B
 have hse : Qr (.mk k n m ks) = 1 + QD ks := by rw [Qr]
 rw [hse] at hsz ⊢
 have hln := WU ks
 have hi : ∀ x ∈ ks, Go.Av.Pure Tryz.prog G 73 [.agg (Enc.enc x)] (.i (Qr x)) := fun x hx => ih x hx (by have := Wf hx; omega)
 clear ih
 rw [QQ]
 refine Qa Tryz.func73 rfl Tryz.ntmps73 rfl (t := [(0, .agg [.i k, .i n, .i m, QW ks])]) rfl fun E hE => ?_
 (repeat' first | (refine Qg ?_; (first | refine QJ rfl ?_ | refine QN rfl ?_ | refine Qc rfl rfl rfl ?_ | refine QI rfl ?_ | refine Qd rfl rfl ?_ | refine Q9 rfl rfl (fun _ _ => ?_))) | (refine Qk ?_; (first | refine Qi ?_ | refine QK rfl ?_)) | (refine Qj ?_; (first | refine Ql ?_ | refine Qb ?_ | refine Qe ?_)))
 rename_i g1 hg1
 refine ZZ (fun (i : Nat) => ⟨[(1, .ptr 0 g1 0), (3, .i ((1 + QD (ks.take i) : Nat) : Int)), (7, QW ks), (8, .i ks.length), (9, .i i)], [.row g1 [.i k, .i n, .i m, QW ks]]⟩) (fun i => i <= ks.length) (fun i => ks.length - i) 0 ?_ (by omega) ?_
 ·exact zal rfl
 intro i hi2
 by_cases hj : i < ks.length
 ·have hi1 := hi _ (List.getElem_mem hj)
  have hsu := qh ks i hj
  have hle := Wy ks i
  have hle2 := Wy ks (i + 1)
  have e1 : ((1 + QD (ks.take (i + 1)) : Nat) : Int) = ((1 + QD (ks.take i) : Nat) : Int) + (Qr ks[i] : Int) := by omega
  clear hi
  (repeat' first | (refine Qg ?_; (first | refine QJ rfl ?_ | refine QN rfl ?_ | (refine QG ?_; (first | refine WL rfl rfl ?_ | refine QO rfl ?_)) | refine QM rfl rfl (by first | assumption | omega | (simp; done) | (simp; omega)) ?_ | (refine Qo ?_; (first | refine QX rfl rfl ?_ | refine W3 rfl rfl (by omega) ?_)) | refine WR rfl rfl (hi1) ?_ | refine WD rfl rfl rfl rfl ?_ | refine Qu (fun _ _ => ?_))) | (refine Qk ?_; (first | refine Qi ?_ | refine QK rfl ?_ | refine QR ?_)) | (refine Qj ?_; (first | refine Ql ?_ | refine Qb ?_ | refine Qe ?_ | refine QB ?_ | refine Qm rfl (by omega) ?_)))
  refine ⟨i + 1, by omega, by omega, ?_⟩
  rw [e1]
  exact zal rfl
 ·have hj : i = ks.length := by omega
  subst hj
  rw [List.take_length]
  clear hi
  (repeat' first | (refine Qg ?_; (first | refine QJ rfl ?_ | refine QN rfl ?_ | refine QX rfl rfl ?_)) | (refine Qk ?_; (first | refine Qi ?_ | refine QK rfl ?_)) | (refine Qj ?_; (first | refine Ql ?_ | refine Qb ?_ | refine Qf rfl (by omega) ?_ | refine WC rfl ?_ | refine Qy ?_)))
  exact e_1 (Tryz.results73) (Qx rfl) (WW (σ := []) (r := [_]) ⟨rfl, rfl⟩)
theorem trDepth_c (t : Nd) : Qr t <= 4000000 -> Go.Av.Pure Tryz.prog G 74 [.agg (Enc.enc t)] (.i (Wj t)) := by
 induction t using Nd.ind with
 | h k n m ks ih =>
 intro hsz B
 have hds := depth_size (.mk k n m ks)
 have hse : Qr (.mk k n m ks) = 1 + QD ks := by rw [Qr]
 have hde : Wj (.mk k n m ks) = Wk ks + 1 := by rw [Wj]
 rw [hse] at hsz hds
 rw [hde] at hds ⊢
 have hln := WU ks
 have hi : ∀ x ∈ ks, Go.Av.Pure Tryz.prog G 74 [.agg (Enc.enc x)] (.i (Wj x)) := fun x hx => ih x hx (by have := Wf hx; omega)
 clear ih
 rw [QQ]
 refine Qa Tryz.func74 rfl Tryz.ntmps74 rfl (t := [(0, .agg [.i k, .i n, .i m, QW ks])]) rfl fun E hE => ?_
 (repeat' first | (refine Qg ?_; (first | refine QJ rfl ?_ | refine QN rfl ?_ | refine Qc rfl rfl rfl ?_ | refine QI rfl ?_ | refine Qd rfl rfl ?_ | refine Q9 rfl rfl (fun _ _ => ?_))) | (refine Qk ?_; (first | refine Qi ?_ | refine QK rfl ?_)) | (refine Qj ?_; (first | refine Ql ?_ | refine Qb ?_ | refine Qe ?_)))
 rename_i g1 hg1
 refine ZZ (fun (i : Nat) => ⟨[(1, .ptr 0 g1 0), (3, .i ((Wk (ks.take i) : Nat) : Int)), (7, QW ks), (8, .i ks.length), (9, .i i)], [.row g1 [.i k, .i n, .i m, QW ks]]⟩) (fun i => i <= ks.length) (fun i => ks.length - i) 0 ?_ (by omega) ?_
 ·exact zal rfl
 intro i hi2
 by_cases hj : i < ks.length
 ·have hi1 := hi _ (List.getElem_mem hj)
  have hsu := depthL_take hj
  have hmx : max ((Wk (ks.take i) : Nat) : Int) ((Wj ks[i] : Nat) : Int) = ((Wk (ks.take (i + 1)) : Nat) : Int) := by rw [hsu]; omega
  clear hi hsu
  (repeat' first | (refine Qg ?_; (first | refine QJ rfl ?_ | refine QN rfl ?_ | (refine QG ?_; (first | refine WL rfl rfl ?_ | refine QO rfl ?_)) | refine QM rfl rfl (by first | assumption | omega | (simp; done) | (simp; omega)) ?_ | (refine Qo ?_; (first | refine QX rfl rfl ?_ | refine W3 rfl rfl (by omega) ?_)) | (refine Qt ?_; (first | refine s_max_as rfl rfl hmx ?_ | refine WR rfl rfl (hi1) ?_)) | refine WD rfl rfl rfl rfl ?_ | refine Qu (fun _ _ => ?_))) | (refine Qk ?_; (first | refine Qi ?_ | refine QK rfl ?_ | refine QR ?_)) | (refine Qj ?_; (first | refine Ql ?_ | refine Qb ?_ | refine Qe ?_ | refine QB ?_ | refine Qm rfl (by omega) ?_)))
  refine ⟨i + 1, by omega, by omega, ?_⟩
  exact zal rfl
 ·have hj : i = ks.length := by omega
  subst hj
  rw [List.take_length]
  have e1 : ((Wk ks + 1 : Nat) : Int) = (Wk ks : Int) + 1 := by omega
  rw [e1]
  clear hi
  (repeat' first | (refine Qg ?_; (first | refine QJ rfl ?_ | refine QN rfl ?_ | (refine Qo ?_; (first | refine QX rfl rfl ?_ | refine W3 rfl rfl (by omega) ?_)))) | (refine Qk ?_; (first | refine Qi ?_ | refine QK rfl ?_)) | (refine Qj ?_; (first | refine Ql ?_ | refine Qb ?_ | refine Qf rfl (by omega) ?_ | refine WC rfl ?_ | refine Qy ?_)))
  exact e_1 (Tryz.results74) (Qx rfl) (WW (σ := []) (r := [_]) ⟨rfl, rfl⟩)
end Go.Proofs
end
section
namespace Go.Av
open Go.Bl
theorem r_loop3 {P : Program} {G : Nat -> DV} {E : AX} {n : Nat} {N : ASt -> Prop} {xs : List (Nat × (ASt -> Prop))} {R : ASt -> Prop} {st : ASt} {c : Code} {α β γ : Type} (I : α -> β -> γ -> ASt) (pre : α -> β -> γ -> Prop) (μ : α -> β -> γ -> Nat) (x0 : α) (y0 : β) (z0 : γ) (h0 : ALe st (I x0 y0 z0)) (hp0 : pre x0 y0 z0)
  (round : ∀ x y z, pre x y z -> Za P G E n c (fun st' => ∃ x' y' z', pre x' y' z' /\ μ x' y' z' < μ x y z /\ ALe st' (I x' y' z')) xs R (I x y z)) : Za P G E n (.loop c) N xs R st :=
 ZZ (fun s : α × β × γ => I s.1 s.2.1 s.2.2) (fun s => pre s.1 s.2.1 s.2.2) (fun s => μ s.1 s.2.1 s.2.2) (x0, y0, z0) h0 hp0 fun s hs a w hr => wp_mono (round s.1 s.2.1 s.2.2 hs a w hr) fun e a' w' ⟨st', hr', hq⟩ => ⟨st', hr', by
  cases e with
  | normal => obtain ⟨x', y', z', h1, h2, h3⟩ := hq; exact ⟨(x', y', z'), h1, h2, h3⟩
  | exit id => exact hq
  | ret => exact hq
  | goto l => exact hq
  | _ => exact hq⟩
section
variable {P : Program} {G : Nat -> DV} {B : Nat} {f : Operand -> DV} {σ : List ABlk} {K : DV -> List ABlk -> Prop} {dst : Option Tmp} {type : TypeId} {pos : String} {after : Array Edge} {gd : Option (Nat × Bool)}
theorem s_add_as {t t' : TypeId} {x y : Operand} {a b c : Int} (hx : f x = .sc (.int .i64 a)) (hy : f y = .sc (.int .i64 b)) (hc : a + b = c) (h : -9223372036854775808 <= c /\ c <= 9223372036854775807)
  (k : K (.sc (.int .i64 c)) σ) : OpSem P G B ⟨dst, .binOp .add t x y t', type, pos, after, gd⟩ f σ K :=
 W3 hx hy (by rw [hc]; exact h) (by rw [hc]; exact k)
end
end Go.Av
end
section
namespace Go.Proofs
open Go.Av
variable {G : Nat -> DV}
attribute [local irreducible] OpSem Za Zv qc ACalls AEnd AClose RV
open Go.Bl
theorem partD_nd (v : Nd) : partD (Enc.enc v) 0 4 = some (Enc.enc v) := by cases v; rw [QQ]; rfl
theorem copied_c (t : Nd) : Qr t <= 1000000 -> Go.Av.Pure Tryz.prog G 121 [.agg (Enc.enc t)] (.agg (Enc.enc t)) := by
 induction t using Nd.ind with
 | h k n m ks ih =>
 intro hsz B
 have hse : Qr (.mk k n m ks) = 1 + QD ks := by rw [Qr]
 rw [hse] at hsz
 have hln := WU ks
 have hi : ∀ x ∈ ks, Go.Av.Pure Tryz.prog G 121 [.agg (Enc.enc x)] (.agg (Enc.enc x)) := fun x hx => ih x hx (by have := Wf hx; omega)
 clear ih
 rw [QQ]
 refine Qa Tryz.func121 rfl Tryz.ntmps121 rfl (t := [(0, .agg [.i k, .i n, .i m, QW ks])]) rfl fun E hE => ?_
 (repeat' first | (refine Qg ?_; (first | refine QJ rfl ?_ | refine QN rfl ?_ | refine Qc rfl rfl rfl ?_ | refine QI rfl ?_ | refine QZ rfl rfl rfl rfl (by rfl) (by rfl) (by rfl) ?_ | refine Qd rfl rfl ?_ | refine Qu (fun _ _ => ?_) | refine Q9 rfl rfl (fun _ _ => ?_))) | (refine Qk ?_; (first | refine Qi ?_ | refine QK rfl ?_ | refine QR ?_)) | (refine Qj ?_; (first | refine Ql ?_ | refine Qb ?_ | refine Qe ?_)))
 rename_i g1 hg1 g2 hg2
 refine r_ownin 0 3 4 rfl rfl (fun _ => rfl) (fun gk hgk => ?_)
 refine r_loop2 (fun (i gc : Nat) => ⟨[(1, .ptr 0 g1 0), (2, .ptr 1 g2 0), (9, QW ks), (10, .i ks.length), (11, .i i)], [.row g1 [.i k, .i n, .i m, .ref 2 gc 0 (ks.take i).length 4], .row g2 [.i 0, .i 0, .i 0, .nil], .row gc (Ws (ks.take i))]⟩) (fun i gc => i <= ks.length /\ E.N < gc) (fun i _ => ks.length - i) 0 gk ?_ ⟨by omega, hgk⟩ ?_
 ·exact zal rfl
 intro i gc ⟨hi2, hgc⟩
 have hcl : (ks.take i).length <= 1000000 := by rw [List.length_take]; omega
 by_cases hil : i < ks.length
 ·have hi1 := hi _ (List.getElem_mem hil)
  have hst := List.take_succ_eq_append_getElem hil
  clear hi
  (repeat' first | (refine Qg ?_; (first | refine QJ rfl ?_ | refine QO rfl ?_ | refine QM rfl rfl (by first | assumption | omega | (simp; done) | (simp; omega)) ?_ | (refine Qo ?_; (first | refine QX rfl rfl ?_ | refine W3 rfl rfl (by omega) ?_)) | refine Zt (z := (ks[i])) rfl rfl rfl rfl rfl rfl rfl (by first | omega | (simp; omega)) (by first | omega | (simp; omega)) (fun _ => rfl) (fun _ _ => ?_) | (refine Wg ?_; (first | refine WD rfl rfl rfl rfl ?_ | refine QZ rfl rfl rfl rfl (by rfl) (by rfl) (by rfl) ?_)) | refine Qu (fun _ _ => ?_))) | (refine Qk ?_; (first | refine Qi ?_ | refine QK rfl ?_ | refine QR ?_)) | (refine Qj ?_; (first | refine Ql ?_ | refine Qb ?_ | refine Qe ?_ | (refine WF ?_; first | (rename_i g5 hg5; refine Qv (fun p => .row g1 [.i k, .i n, .i m, .ref 2 gc 0 (ks.take i).length 4] :: .row g2 [.i 0, .i 0, .i 0, .nil] :: p :: .row g5 (Enc.enc ks[i]) :: []) 7 [(0, true), (1, true), (2, true), (3, true), (4, true), (5, false), (6, true), (7, false)] (by rfl) (by rfl) (by kernel_rfl) (by decide +kernel) (by decide +kernel) ⟨_, rfl⟩ ?_) | (refine Qv (fun p => p) 100 [(0, true)] (by rfl) (by rfl) (by kernel_rfl) (by decide +kernel) (by decide +kernel) ⟨_, rfl⟩ ?_) | refine Wm (by rfl) (by kernel_rfl) (by kernel_rfl) ?_ | refine Wl (by kernel_rfl) (by kernel_rfl) ?_) | refine QB ?_ | refine Qm rfl (by omega) ?_)) | (refine W6 ?_; (first | refine ZG ?_ | refine i_z0 ?_ | refine i_st rfl rfl (fun _ => (by (repeat' first | (refine Qg ?_; (first | (refine QG ?_; (first | refine WL rfl rfl ?_ | refine Qc rfl rfl rfl ?_)) | refine Z5 rfl rfl hi1 (WK (Enc.clo _)) ?_ | refine Q3 (z := ks[i]) rfl rfl (by decide) ?_ | refine Qd rfl rfl ?_)) | exact ⟨rfl, rfl⟩))) ?_ | refine i_ef rfl ?_)) | refine And.intro (Exists.intro (_) rfl) ?_)
  rename_i ga hga
  refine ⟨i + 1, ga, ⟨by omega, by omega⟩, by omega, ?_⟩
  rw [hst]
  exact zal rfl
 ·have hi3 : i = ks.length := by omega
  subst hi3
  rw [List.take_length]
  have c1 := QS ks
  clear hi
  refine r_pubin 0 3 rfl rfl rfl c1.symm rfl rfl ?_
  (repeat' first | (refine Qg ?_; (first | refine WL rfl rfl ?_ | refine QX rfl rfl ?_ | refine WD rfl rfl rfl rfl ?_)) | (refine Qk ?_; (first | refine Qi ?_ | refine QK rfl ?_ | refine QR ?_)) | (refine Qj ?_; (first | refine Ql ?_ | refine Qb ?_ | refine Qf rfl (by omega) ?_ | refine WC rfl ?_ | refine Qy ?_)))
  all_goals exact e_1 (Tryz.results121) (Qz (size := 4) rfl rfl rfl rfl) (QY rfl)
def atM : List Int -> Nd -> Option Nd
 | [], t => some t
 | i :: p, .mk k n m ks => if 0 <= i then (match ks[i.toNat]? with | some x => atM p x | none => none) else none
theorem atM_cons {a : Int} {p : List Int} {k n m : Int} {ks : List Nd} (h0 : 0 <= a) (h1 : a.toNat < ks.length) : atM (a :: p) (.mk k n m ks) = atM p ks[a.toNat] := by
 rw [atM, if_pos h0, List.getElem?_eq_getElem h1]
theorem atM_none {a : Int} {p : List Int} {k n m : Int} {ks : List Nd} (h : a < 0 \/ (ks.length : Int) <= a) : atM (a :: p) (.mk k n m ks) = none := by
 rw [atM]
 split
 ·rw [List.getElem?_eq_none (by omega)]
 ·rfl
def atD (o : Option Nd) : DV := match o with | some x => .tup [.agg (Enc.enc x), .b true] | none => .tup [.agg (Enc.enc zero0), .b false]
where zero0 : Nd := .mk 0 0 0 []
theorem tup_nil0 {L : Lay} {a b c d : DV} {es : Nat} {v : Value} (h : VRep L (.tup [.agg [a, b, c, .sc (.slice none 0 0)], d]) v) : VRep L (.tup [.agg [a, b, c, .sl es []], d]) v := by
 cases h with | tup _ vs hl hg =>
 refine .tup _ _ hl fun j e hj => ?_
 match j with
 | 0 =>
  simp at hj; subst hj
  have h0 := hg 0 _ rfl
  generalize vs.getD 0 undef = v0 at h0 ⊢
  cases h0 with | agg _ ws hl2 ho2 hg2 =>
  refine .agg _ _ hl2 (fun e he => ?_) fun j e hj => ?_
  ·simp only [List.mem_cons, List.not_mem_nil, or_false] at he
   rcases he with rfl | rfl | rfl | rfl
   ·exact ho2 _ (by simp)
   ·exact ho2 _ (by simp)
   ·exact ho2 _ (by simp)
   ·rfl
  ·match j with
   | 0 => exact hg2 0 e hj
   | 1 => exact hg2 1 e hj
   | 2 => exact hg2 2 e hj
   | 3 => simp at hj; subst hj; exact nil_str (hg2 3 _ rfl)
   | j + 4 => simp at hj
 | j + 1 => exact hg (j + 1) e hj
theorem trAt_c (t : Nd) (hsz : Qr t <= 1000000) (path : List Int) (hpl : path.length <= 4611686018427387904) : Go.Av.Pure Tryz.prog G 67 [.agg (Enc.enc t), QW path] (atD (atM path t)) := fun B => by
 refine Qa Tryz.func67 rfl Tryz.ntmps67 rfl (t := [(0, .agg (Enc.enc t)), (1, QW path)]) rfl fun E hE => ?_
 (repeat' first | (refine Qg ?_; (first | refine QJ rfl ?_ | refine QN rfl ?_ | refine QI rfl ?_ | refine Qu (fun _ _ => ?_) | refine Q9 rfl rfl (fun _ _ => ?_))) | (refine Qk ?_; (first | refine Qi ?_ | refine QK rfl ?_)) | (refine Qj ?_; (first | refine Ql ?_ | refine Qb ?_ | refine Qe ?_)))
 rename_i g2 hg2 g4 hg4
 refine r_loop2 (fun (j : Nat) (cur : Nd) => ⟨[(2, .ptr 0 g2 0), (4, .ptr 1 g4 0), (8, QW path), (9, .i path.length), (10, .i j)], [.row g2 (Enc.enc cur), .row g4 [.i 0, .i 0, .i 0, .nil]]⟩) (fun j cur => j <= path.length /\ atM path t = atM (path.drop j) cur /\ Qr cur <= 1000000) (fun j _ => path.length - j) 0 t ?_ ⟨by omega, by simp, hsz⟩ ?_
 ·exact zal rfl
 intro j cur ⟨hj, he, hcs⟩
 obtain ⟨k, n, m, ks⟩ := cur
 have hse : Qr (.mk k n m ks) = 1 + QD ks := by rw [Qr]
 have hln := WU ks
 by_cases hjl : j < path.length
 ·rw [List.drop_eq_getElem_cons hjl] at he
  rw [QQ]
  by_cases hc : 0 <= path[j] /\ path[j].toNat < ks.length
  ·rw [atM_cons hc.1 hc.2] at he
   have hat : ((path[j].toNat : Nat) : Int) = path[j] := Int.toNat_of_nonneg hc.1
   have hsm := Wf (List.getElem_mem hc.2)
   obtain ⟨hc0, hc1⟩ := hc
   (repeat' first | (refine Qg ?_; (first | refine QJ rfl ?_ | refine QN rfl ?_ | (refine QG ?_; (first | refine Wa rfl ?_ | refine QO rfl ?_ | refine Qc rfl rfl rfl ?_)) | (refine g_indexAddr ?_; (first | refine QM rfl rfl (by first | assumption | omega | (simp; done) | (simp; omega)) ?_ | refine s_idx_sl rfl rfl (by omega) (by first | assumption | omega | (simp; done) | (simp; omega)) ?_)) | (refine Qo ?_; (first | refine QX rfl rfl ?_ | refine W4 rfl rfl ?_ | refine W3 rfl rfl (by omega) ?_)) | refine QI rfl ?_ | refine WO rfl rfl ?_ | refine WD rfl rfl rfl rfl ?_ | refine Qd rfl rfl ?_)) | (refine Qk ?_; (first | refine Qi ?_ | refine QK rfl ?_ | refine QR ?_ | refine WM rfl rfl rfl rfl ?_ | refine Q5 rfl rfl (by omega) ?_)) | (refine Qj ?_; (first | refine Ql ?_ | refine Qb ?_ | refine Qe ?_ | refine QB ?_ | refine Qm rfl (by omega) ?_ | refine Qf rfl (by omega) ?_)))
   refine ⟨j + 1, ks[path[j].toNat], ⟨by omega, he, by omega⟩, by omega, ?_⟩
   exact zal rfl
  ·rw [atM_none (by omega)] at he
   rw [he]
   (repeat' first | (refine Qg ?_; (first | refine QJ rfl ?_ | refine QN rfl ?_ | (refine QG ?_; (first | refine Wa rfl ?_ | refine Qc rfl rfl rfl ?_)) | refine QM rfl rfl (by first | assumption | omega | (simp; done) | (simp; omega)) ?_ | (refine Qo ?_; (first | refine QX rfl rfl ?_ | refine W4 rfl rfl ?_)) | refine QI rfl ?_ | (refine Q8 ?_; (first | refine W1 rfl rfl ?_ | refine WO rfl rfl ?_)) | refine WD rfl rfl rfl rfl ?_ | refine Qd rfl rfl ?_ | refine QA rfl rfl ?_)) | (refine Qk ?_; (first | refine Qi ?_ | refine QK rfl ?_ | refine QR ?_ | refine WM rfl rfl rfl rfl ?_ | refine W7 rfl rfl rfl rfl ?_ | refine qw rfl rfl (fun _ => ?_) (fun _ => ?_))) | (refine Qj ?_; (first | refine Ql ?_ | refine Qb ?_ | refine Qe ?_ | refine QB ?_ | refine Qq rfl ?_ | refine Qm rfl (by omega) ?_ | refine Qy ?_)))
   all_goals exact e_2 (Tryz.results67) (Qz (size := 4) rfl rfl rfl rfl) (Qx rfl) (c_conv (d2 := .tup [.agg [.i 0, .i 0, .i 0, .sl 4 []], .b false]) (fun L v h => tup_nil0 h) (QY (by show _ = DV.tup [.agg (Enc.enc (Nd.mk 0 0 0 [])), .b false]; rw [QQ]; rfl)))
 ·have hje : j = path.length := by omega
  subst hje
  rw [List.drop_length] at he
  have hcp := copied_c (G := G) (.mk k n m ks) hcs
  rw [he]
  show Za _ _ _ _ _ _ _ _ _
  (repeat' first | (refine Qg ?_; (first | refine QN rfl ?_ | refine WL rfl rfl ?_ | refine QX rfl rfl ?_ | refine Z5 rfl rfl hcp (WK (Enc.clo _)) ?_ | refine WD rfl rfl rfl rfl ?_)) | (refine Qk ?_; (first | refine Qi ?_ | refine QK rfl ?_ | refine QR ?_)) | (refine Qj ?_; (first | refine Ql ?_ | refine Qb ?_ | refine Qf rfl (by omega) ?_ | refine WC rfl ?_ | refine Qy ?_)))
  all_goals exact e_2 (Tryz.results67) (Qz (size := 4) rfl rfl (partD_nd _) (Enc.len _)) (Qx rfl) (QY rfl)
end Go.Proofs
end
section
namespace Go.Proofs
open Go.Av Go.Bl
def Li (l : List UInt8) : Prop := ∀ b ∈ l, b.toNat < 128 /\ b ≠ 10
theorem Zc {a b : List UInt8} (ha : Li a) (hb : Li b) : Li (a ++ b) := fun x hx => (List.mem_append.1 hx).elim (ha x) (hb x)
theorem li_nil : Li [] := fun x hx => by cases hx
theorem li_cons {x : UInt8} {b : List UInt8} (hx : (decide (x.toNat < 128) && decide (x ≠ 10)) = true) (hb : Li b) : Li (x :: b) := fun y hy => by
 rcases List.mem_cons.1 hy with rfl | hy
 ·simpa using hx
 ·exact hb y hy
theorem WI {l : List UInt8} (h : (l.all fun x => decide (x.toNat < 128) && decide (x ≠ 10)) = true) : Li l := fun b hb => by
 rw [List.all_eq_true] at h
 simpa using h b hb
theorem li_dec (u : Nat) : Li (Lib.decDigits u) := by
 rw [Lib.decDigits_eq]
 intro b hb
 obtain ⟨t, _, rfl⟩ := List.mem_map.1 hb
 unfold Lib.dg
 have h : u / 10 ^ (Lib.nDigits u - 1 - t) % 10 < 10 := Nat.mod_lt _ (by decide)
 generalize u / 10 ^ (Lib.nDigits u - 1 - t) % 10 = d at *
 have e : (UInt8.ofNat (48 + d)).toNat = 48 + d := by
  rw [UInt8.toNat_ofNat']; omega
 refine ⟨by omega, fun h10 => ?_⟩
 rw [h10] at e
 have : (10 : UInt8).toNat = 10 := rfl
 omega
theorem qt (n : Int) : Li (Lib.itoa n) := by
 unfold Lib.itoa
 split
 ·exact li_cons (by decide) (li_dec _)
 ·exact li_dec _
theorem li_commas : ∀ l : List (List UInt8), (∀ x ∈ l, Li x) -> Li (Zm l)
 | [], _ => by show Li (Lib.join [] comma); rw [Lib.join_nil]; exact li_nil
 | x :: r, h => by
  show Li (Lib.join (x :: r) comma)
  rw [Lib.join_cons]
  refine Zc (h x (by simp)) ?_
  unfold Lib.joinTail
  intro b hb
  obtain ⟨y, hy, hby⟩ := List.mem_flatten.1 hb
  obtain ⟨z, hz, rfl⟩ := List.mem_map.1 hy
  exact Zc (WI (by decide)) (h z (by simp [hz])) b hby
theorem li_typ (t : Nd) : Li (typT t) := by
 induction t using Nd.ind with
 | h k n m ks ih =>
 rw [typT, typTs_eq]
 repeat' split
 ·exact WI (by decide)
 ·exact WI (by decide)
 ·exact Zc (WI (by decide)) (qt n)
 ·refine Zc (Zc (WI (by decide)) (li_commas _ fun x hx => ?_)) (WI (by decide))
  obtain ⟨y, hy, rfl⟩ := List.mem_map.1 hx
  exact ih y hy
 ·exact li_nil
theorem li_op (i : Nat) : Li (opTexts.getD i []) := by
 rcases Nat.lt_or_ge i 14 with h | h
 ·have : ∀ j : Fin 14, (opTexts.getD j.val []).all (fun x => decide (x.toNat < 128) && decide (x ≠ 10)) = true := by decide
  exact WI (this ⟨i, h⟩)
 ·rw [List.getD_eq_getElem?_getD, List.getElem?_eq_none (by simpa [opTexts] using h)]; exact li_nil
theorem li_getD {l : List (List UInt8)} (h : ∀ x ∈ l, Li x) (i : Nat) : Li (l.getD i []) := by
 rw [List.getD_eq_getElem?_getD]
 cases hx : l[i]? with
 | none => exact li_nil
 | some x => exact h x (List.mem_of_getElem? hx)
theorem li_ex (t : Nd) : Li (exT t) := by
 induction t using Nd.ind with
 | h k n m ks ih =>
 rw [exT, exTs_eq]
 have hk : ∀ x ∈ ks.map exT, Li x := fun x hx => by obtain ⟨y, hy, rfl⟩ := List.mem_map.1 hx; exact ih y hy
 have hc := li_commas _ hk
 have h0 := li_getD hk 0
 have h1 := li_getD hk 1
 have hop := li_op n.toNat
 have hn := qt n
 have hm := qt m
 repeat' split
 all_goals repeat' first | assumption | exact li_nil | exact WI (by decide) | refine Zc ?_ ?_
theorem li_exs (ks : List Nd) : ∀ x ∈ ks.map exT, Li x := fun x hx => by obtain ⟨y, hy, rfl⟩ := List.mem_map.1 hx; exact li_ex y
theorem li_sim (t : Nd) : Li (simT t) := by
 obtain ⟨k, n, m, ks⟩ := t
 rw [simT]
 have hk := li_exs ks
 have hc := li_commas _ hk
 have h0 := li_getD hk 0
 have h1 := li_getD hk 1
 have hn := qt n
 have hm := qt m
 repeat' split
 all_goals repeat' first | assumption | exact li_nil | exact WI (by decide) | refine Zc ?_ ?_
def nlC (l : List UInt8) : Nat := l.countP (· == 10)
theorem Z0 (a b : List UInt8) : nlC (a ++ b) = nlC a + nlC b := List.countP_append
theorem nl_li {l : List UInt8} (h : Li l) : nlC l = 0 := by
 unfold nlC
 rw [List.countP_eq_zero]
 intro b hb
 simpa using (h b hb).2
theorem nl_le (l : List UInt8) : nlC l <= l.length := List.countP_le_length
theorem li_rep (i : Nat) : Li (Lib.repeatL [32, 32] i) := by
 induction i with
 | zero => exact li_nil
 | succ i ih => exact Zc (a := [32, 32]) (WI (by decide)) ih
def Asc (l : List UInt8) : Prop := ∀ b ∈ l, b.toNat < 128
theorem Zw {a b : List UInt8} (ha : Asc a) (hb : Asc b) : Asc (a ++ b) := fun x hx => (List.mem_append.1 hx).elim (ha x) (hb x)
theorem asc_nil : Asc [] := fun x hx => (by cases hx)
theorem li_asc {l : List UInt8} (h : Li l) : Asc l := fun b hb => (h b hb).1
theorem ZS {s : List UInt8} (h : Li s) (i : Nat) : Asc (ZN i s) /\ nlC (ZN i s) = 1 := by
 unfold ZN
 have h1 := Zc (li_rep i) h
 refine ⟨Zw (li_asc h1) (fun b hb => by simp at hb; subst hb; decide), ?_⟩
 rw [Z0, nl_li h1]; rfl
theorem st_asc (t : Nd) : ∀ i, (Asc (stT t i) /\ nlC (stT t i) = nlC (stT t 0)) /\ (Asc (inT t i) /\ nlC (inT t i) = nlC (inT t 0)) := by
 induction t using Nd.ind with
 | h k n m ks ih =>
 have hsts : ∀ ks : List Nd, (∀ x ∈ ks, ∀ i, Asc (stT x i) /\ nlC (stT x i) = nlC (stT x 0)) -> ∀ i j, Asc (stTs ks i) /\ nlC (stTs ks i) = nlC (stTs ks j) := by
  intro ks
  induction ks with
  | nil => intro _ i j; exact ⟨by rw [stTs]; exact asc_nil, by rw [stTs, stTs]⟩
  | cons x r ihr =>
   intro h i j
   have h1 := h x (by simp) i
   have h1' := h x (by simp) j
   have h2 := ihr (fun y hy => h y (by simp [hy])) i j
   rw [stTs, stTs, Z0, Z0]
   exact ⟨Zw h1.1 h2.1, by rw [h1.2, h1'.2, h2.2]⟩
 have hk := hsts ks fun x hx i => (ih x hx i).1
 have hin : ∀ j i, Asc ((ks.map fun x => inT x i).getD j []) /\ nlC ((ks.map fun x => inT x i).getD j []) = nlC ((ks.map fun x => inT x 0).getD j []) := fun j i => by
  rw [List.getD_eq_getElem?_getD, List.getD_eq_getElem?_getD, List.getElem?_map, List.getElem?_map]
  cases hx : ks[j]? with
  | none => exact ⟨asc_nil, rfl⟩
  | some x => exact (ih x (List.mem_of_getElem? hx) i).2
 have hex := li_exs ks
 have hie : Li (sIf ++ (ks.map exT).getD 0 [] ++ sBr) := Zc (Zc (WI (by decide)) (li_getD hex 0)) (WI (by decide))
 have hwe : Li (sWhile ++ (ks.map exT).getD 0 [] ++ sBr) := Zc (Zc (WI (by decide)) (li_getD hex 0)) (WI (by decide))
 have hce : Li (sCatch ++ Lib.itoa n ++ sBr) := Zc (Zc (WI (by decide)) (qt n)) (WI (by decide))
 have lo := fun i => ZS (s := sOpen) (WI (by decide)) i
 have lc := fun i => ZS (s := sClose) (WI (by decide)) i
 have le := fun i => ZS (s := sElse) (WI (by decide)) i
 have lt := fun i => ZS (s := sTry) (WI (by decide)) i
 have l1 := fun i => ZS hie i
 have l2 := fun i => ZS hwe i
 have l3 := fun i => ZS hce i
 have l4 := fun i => ZS (li_sim (.mk k n m ks)) i
 intro i
 constructor
 ·rw [stT, stT, inTs_eq, inTs_eq]
  by_cases k13 : k = 13
  ·rw [if_pos k13, if_pos k13]
   split
   ·simp only [Z0]
    exact ⟨Zw (Zw (lo i).1 (hk (i + 1) 0).1) (lc i).1, by rw [(lo i).2, (lo 0).2, (lc i).2, (lc 0).2, (hk (i + 1) (0 + 1)).2]⟩
   ·simp only [Z0]
    exact ⟨Zw (Zw (lo i).1 asc_nil) (lc i).1, by rw [(lo i).2, (lo 0).2, (lc i).2, (lc 0).2]⟩
  rw [if_neg k13, if_neg k13]
  split
  ·simp only [Z0]
   exact ⟨Zw (Zw (Zw (Zw (l1 i).1 (hin 1 i).1) (le i).1) (hin 2 i).1) (lc i).1, by rw [(l1 i).2, (l1 0).2, (hin 1 i).2, (le i).2, (le 0).2, (hin 2 i).2, (lc i).2, (lc 0).2]⟩
  split
  ·simp only [Z0]
   exact ⟨Zw (Zw (l2 i).1 (hin 1 i).1) (lc i).1, by rw [(l2 i).2, (l2 0).2, (hin 1 i).2, (lc i).2, (lc 0).2]⟩
  split
  ·simp only [Z0]
   exact ⟨Zw (Zw (Zw (Zw (lt i).1 (hin 0 i).1) (l3 i).1) (hin 1 i).1) (lc i).1, by rw [(lt i).2, (lt 0).2, (hin 0 i).2, (l3 i).2, (l3 0).2, (hin 1 i).2, (lc i).2, (lc 0).2]⟩
  ·exact ⟨(l4 i).1, by rw [(l4 i).2, (l4 0).2]⟩
 ·rw [inT, inT]
  split
  ·exact hk (i + 1) (0 + 1)
  ·exact ⟨asc_nil, rfl⟩
theorem fun_asc (t : Nd) : Asc (funT t) := by
 obtain ⟨k, n, m, ks⟩ := t
 rw [funT]
 split
 ·have hc : Li (Zm ((ks.take (ks.length - 1)).map typT)) := li_commas _ fun x hx => by obtain ⟨y, _, rfl⟩ := List.mem_map.1 hx; exact li_typ y
  exact Zw (ZS (Zc (Zc (Zc (Zc (WI (by decide)) (qt n)) (WI (by decide))) hc) (WI (by decide))) 0).1 (Zw (st_asc _ 0).2.1 (ZS (s := sClose) (WI (by decide)) 0).1)
 ·exact asc_nil
theorem pr_asc (t : Nd) : Asc (prT t) := by
 obtain ⟨k, n, m, ks⟩ := t
 rw [prT]
 split
 ·refine Zw (ZS (Zc (WI (by decide)) (qt n)) 0).1 fun b hb => ?_
  obtain ⟨y, hy, hby⟩ := List.mem_flatten.1 hb
  obtain ⟨z, _, rfl⟩ := List.mem_map.1 hy
  exact fun_asc z b hby
 split
 ·exact fun_asc _
 split
 ·exact li_asc (li_typ _)
 split
 ·exact li_asc (li_ex _)
 ·exact (st_asc _ 0).1.1
theorem print_asc (t : Nd) : Asc (Wb t) := by
 unfold Wb
 split
 ·exact pr_asc t
 ·exact asc_nil
theorem prT_len (t : Nd) (hok : okN t) (hs : Qr t <= 1000000) : (prT t).length <= 7000000 * Qr t := by
 have h1 := typT_len t hok
 have h2 := exT_len t hok
 have h3 := (st_len t hok 0).1
 have h4 := funT_len t hok hs
 have hb : bnd 0 (Qr t) <= 7000000 * Qr t := by
  unfold bnd
  exact Nat.mul_le_mul (by omega) (Nat.le_refl _)
 obtain ⟨k, n, m, ks⟩ := t
 rw [prT]
 rw [okN] at hok
 have hn := Zh hok.1.2.1
 have hse : Qr (.mk k n m ks) = 1 + QD ks := by rw [Qr]
 have hf := funs_len ks hok.2 (by omega)
 repeat' split
 ·rw [List.length_append, Q7, List.length_append, hse]
  simp only [List.length_cons, List.length_nil]; omega
 ·exact h4
 ·omega
 ·omega
 ·omega
theorem print_len (t : Nd) (hok : okN t) (hs : Qr t <= 1000000) : (Wb t).length <= 7000000 * Qr t := by
 unfold Wb
 split
 ·exact prT_len t hok hs
 ·simp
end Go.Proofs
end
section
namespace Go.Proofs
open Go.RowKit
theorem nlC_succ {l : List UInt8} {i : Nat} (h : i < l.length) : nlC (l.take (i + 1)) = nlC (l.take i) + (if l[i] = 10 then 1 else 0) := by
 unfold nlC
 rw [List.take_succ_eq_append_getElem h, List.countP_append, List.countP_singleton]
 congr 1
 by_cases e : l[i] = 10
 ·simp [e]
 ·simp [e]
theorem ba_get (l : List UInt8) (i : Nat) (h : i < (⟨l.toArray⟩ : ByteArray).size) : (⟨l.toArray⟩ : ByteArray)[i]'h = l[i]'(by have := h; change i < l.toArray.size at this; simpa using this) := by
 show l.toArray[i]'h = _
 simp
set_option maxHeartbeats 1600000 in
set_option maxRecDepth 100000 in
theorem lines_gives (l : List UInt8) (ha : ∀ b ∈ l, b.toNat < 128) (hl : l.length <= 9223372036854775807) (w : World) :
  Calls Tryz.prog 69 #[.string ⟨l.toArray⟩] w fun e w' => e = .returned (.int .i64 (nlC l)) /\ Below w.heap.size w w' := by
 have hsz : (⟨l.toArray⟩ : ByteArray).size = l.length := by show l.toArray.size = _; simp
 have hcl : ∀ i, nlC (l.take i) <= i := fun i => by
  have h1 : nlC (l.take i) <= (l.take i).length := List.countP_le_length
  have h2 := List.length_take_le i l
  omega
 go_enter Tryz.func69, Tryz.ntmps69
 go_wp2
 go_loopw [3] (fun v wr => ∃ pos : Nat, pos <= l.length /\ v = .int .i64 (nlC (l.take pos) : Nat) /\ wr = w.iter ⟨l.toArray⟩ pos) (fun _ wr => l.length - wr.iterPos w.heap.size)
 case atStart => exact ⟨0, Nat.zero_le _, rfl, rfl⟩
 case round =>
  obtain ⟨pos, hp, rfl, rfl⟩ := hrel
  have hip : (w.iter ⟨l.toArray⟩ pos).iterPos w.heap.size = pos := by unfold World.iterPos; rw [World.iter_heap]
  have hip1 : (w.iter ⟨l.toArray⟩ (pos + 1)).iterPos w.heap.size = pos + 1 := by unfold World.iterPos; rw [World.iter_heap]
  have hcp := hcl pos
  by_cases hpl : pos < l.length
  ·have hi : pos < (⟨l.toArray⟩ : ByteArray).size := by omega
   have hg := ba_get l pos hi
   have hasc : ((⟨l.toArray⟩ : ByteArray)[pos]'hi).toNat < 128 := by rw [hg]; exact ha _ (List.getElem_mem hpl)
   have hnx := fun ty => run_next_ascii (P := Tryz.prog) w ⟨l.toArray⟩ pos ty hi hasc
   rw [hg] at hnx
   have hs := nlC_succ hpl
   by_cases h10 : l[pos] = 10
   ·rw [h10] at hnx
    rw [if_pos h10] at hs
    go_wp2
    go_roundw
    case rel => exact ⟨pos + 1, hpl, by rw [hs]; rfl, rfl⟩
    case measure => rw [hip, hip1]; omega
   ·have h10' : ((l[pos].toNat : Nat) : Int) ≠ 10 := by
     intro e
     apply h10
     have : l[pos].toNat = 10 := by omega
     exact UInt8.toNat_inj.1 this
    rw [if_neg h10] at hs
    go_wp2
    exact ⟨⟨pos + 1, hpl, by rw [hs]; rfl, rfl⟩, by rw [hip, hip1]; omega⟩
  ·have hpe : pos = l.length := by omega
   subst hpe
   have hnx := fun ty => run_next_end (P := Tryz.prog) w ⟨l.toArray⟩ l.length ty (by omega)
   go_wp2
   go_ret
   exact ⟨by rw [List.take_length]; rfl, (Below.refl _ w).alloc (Nat.le_refl _) _⟩
section
open Go.Av Go.Bl
variable {G : Nat -> DV}
theorem lines_c (l : List UInt8) (ha : ∀ b ∈ l, b.toNat < 128) (hl : l.length <= 9223372036854775807) : Go.Av.Pure Tryz.prog G 69 [WS l] (.i (nlC l)) :=
 pure_of (us := [.string ⟨l.toArray⟩]) (v := .int .i64 (nlC l)) rfl rfl fun X _ => lines_gives l ha hl X.w
end
end Go.Proofs
end
