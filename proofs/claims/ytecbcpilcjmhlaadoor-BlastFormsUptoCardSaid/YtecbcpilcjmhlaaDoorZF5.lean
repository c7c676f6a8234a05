/-
  Part 5 of the proof: Ev4 Ev5 Ev6 Ev7 Ev8 Ev9 EvA AvO N1 KY AvQ B13 Ct4.
-/
import Derived.Test.YtecbcpilcjmhlaaDoorZF1
import Derived.Test.YtecbcpilcjmhlaaDoorZF2
import Derived.Test.YtecbcpilcjmhlaaDoorZF4
set_option linter.unusedSimpArgs false
set_option linter.unusedVariables false
set_option maxRecDepth 10000
set_option maxHeartbeats 4000000
section
namespace Go.Av
open Classical
mutual
inductive DVw (σ : List ABlk) : DV -> DV -> Prop
 | clo {d : DV} : d.clo = true -> DVw σ d d
 | ref {k g len es : Nat} {cs ds : List DV} : σ[k]? = some (.row g cs) -> len * es = cs.length -> DVwL σ cs ds -> DVw σ (.ref k g 0 len es) (.sl es ds)
 | ptr {k g : Nat} {cs ds : List DV} : σ[k]? = some (.row g cs) -> DVwL σ cs ds -> DVw σ (.ptr k g 0) (.ep ds)
 | fn {f : Fn} {a a' b b' : List DV} : DVwL σ a a' -> DVwL σ b b' -> DVw σ (.fn f a b) (.fn f a' b')
 | agg {a a' : List DV} : DVwL σ a a' -> DVw σ (.agg a) (.agg a')
inductive DVwL (σ : List ABlk) : List DV -> List DV -> Prop
 | same {l : List DV} : (∀ d ∈ l, d.clo = true) -> DVwL σ l l
 | cons {d d' : DV} {r r' : List DV} : DVw σ d d' -> DVwL σ r r' -> DVwL σ (d :: r) (d' :: r')
end
theorem DVwL.nil {σ : List ABlk} : DVwL σ [] [] := .same fun d h => by cases h
theorem DVw.one {σ : List ABlk} {d d' : DV} (h : DVw σ d d') (h1 : d.one = true) : d'.one = true := by
 cases h with
 | clo _ => exact h1
 | ref _ _ _ => rfl
 | ptr _ _ => rfl
 | fn _ _ => rfl
 | agg _ => cases h1
mutual
theorem dvw_rep {X : AX} (hS : Sto X) : ∀ {d d' : DV} {v : Value}, DVw X.σ d d' -> VRep X.lay d v -> VRep (X.aside True).lay d' v
 | _, _, v, .clo hc, hv => hv.mono (qq _)
 | _, _, v, .ref (k := k) (g := g) (len := len) (es := es) (cs := cs) (ds := ds) hσ hl hL, hv => by
  obtain ⟨h7, h8⟩ := dvw_reps hS hL
  obtain ⟨a, cap, rfl, h1, h2⟩ := hv.ref_slice hσ
  by_cases h0 : len = 0
  ·subst h0
   have : ds = [] := List.eq_nil_of_length_eq_zero (by omega)
   subst this
   exact .sl _ _ _ _ _ (fun _ => undef) (by simp) h1 (fun d hd => by simp at hd) (.inl rfl) (fun j d hj => by simp at hj)
  ·obtain ⟨b, n, hρ, rfl, h3⟩ := h2 (by omega)
   obtain ⟨arr, T, fr, g1, g2, g3, g4, g5⟩ := hS.row hσ hρ
   refine .sl _ _ _ _ _ (fun j => arr.getD j undef) (by omega) h1 (fun d hd => ?_) (.inr ⟨b, 0, rfl, fun j hj => ?_⟩) (fun j d hj => ?_)
   ·obtain ⟨j, hj⟩ := List.mem_iff_getElem?.1 hd
    have hlt : j < cs.length := by rw [<- h7]; exact (List.getElem?_eq_some_iff.1 hj).1
    exact (h8 j _ d (List.getElem?_eq_getElem hlt) hj).1 (g5 j _ (List.getElem?_eq_getElem hlt)).1
   ·refine AX.imm_mk Z1 (fun hh => hh.elim (fun hh => hS.hid b ⟨k, g, n, Wz hσ, hρ⟩ hh) (fun hh => hh.1 trivial)) ?_
    have : 0 + j < arr.size := by omega
    simp only [Nat.zero_add] at this ⊢
    show X.w.cell? ⟨b, j, none⟩ = _
    rw [cell_of_row _ _ _ _ _ _ g1]
    simp [Array.getD_eq_getD_getElem?, this]
   ·have hlt : j < cs.length := by rw [<- h7]; exact (List.getElem?_eq_some_iff.1 hj).1
    exact (h8 j _ d (List.getElem?_eq_getElem hlt) hj).2 _ (g5 j _ (List.getElem?_eq_getElem hlt)).2
 | _, _, v, .ptr (k := k) (g := g) (cs := cs) (ds := ds) hσ hL, hv => by
  obtain ⟨h7, h8⟩ := dvw_reps hS hL
  obtain ⟨b, n, hρ, rfl⟩ := hv.ptr_inv hσ
  obtain ⟨arr, T, fr, g1, g2, g3, g4, g5⟩ := hS.row hσ hρ
  refine .ep _ b 0 (fun j => arr.getD j undef) (fun d hd => ?_) (fun j hj => ?_) (fun j d hj => ?_)
  ·obtain ⟨j, hj⟩ := List.mem_iff_getElem?.1 hd
   have hlt : j < cs.length := by rw [<- h7]; exact (List.getElem?_eq_some_iff.1 hj).1
   exact (h8 j _ d (List.getElem?_eq_getElem hlt) hj).1 (g5 j _ (List.getElem?_eq_getElem hlt)).1
  ·refine AX.imm_mk Z1 (fun hh => hh.elim (fun hh => hS.hid b ⟨k, g, n, Wz hσ, hρ⟩ hh) (fun hh => hh.1 trivial)) ?_
   have : 0 + j < arr.size := by omega
   simp only [Nat.zero_add] at this ⊢
   show X.w.cell? ⟨b, j, none⟩ = _
   rw [cell_of_row _ _ _ _ _ _ g1]
   simp [Array.getD_eq_getD_getElem?, this]
  ·have hlt : j < cs.length := by rw [<- h7]; exact (List.getElem?_eq_some_iff.1 hj).1
   exact (h8 j _ d (List.getElem?_eq_getElem hlt) hj).2 _ (g5 j _ (List.getElem?_eq_getElem hlt)).2
 | _, _, v, .fn (f := f) (a := a) (a' := a') (b := b) (b' := b') h1 h2, hv => by
  obtain ⟨p1, p2⟩ := dvw_reps hS h1
  obtain ⟨q1, q2⟩ := dvw_reps hS h2
  cases hv with
  | fn _ _ _ fs cs e1 e2 e3 e4 =>
   refine .fn _ _ _ _ _ (by rw [p1]; exact e1) (by rw [q1]; exact e2) (fun j d hj => ?_) (fun j d hj => ?_)
   ·have hlt : j < a.length := by rw [<- p1]; exact (List.getElem?_eq_some_iff.1 hj).1
    exact (p2 j _ d (List.getElem?_eq_getElem hlt) hj).2 _ (e3 j _ (List.getElem?_eq_getElem hlt))
   ·have hlt : j < b.length := by rw [<- q1]; exact (List.getElem?_eq_some_iff.1 hj).1
    exact (q2 j _ d (List.getElem?_eq_getElem hlt) hj).2 _ (e4 j _ (List.getElem?_eq_getElem hlt))
 | _, _, v, .agg (a := a) (a' := a') h1, hv => by
  obtain ⟨p1, p2⟩ := dvw_reps hS h1
  obtain ⟨vs, rfl, e1, e2, e3⟩ := hv.agg_inv
  refine .agg _ _ (by rw [p1]; exact e1) (fun d hd => ?_) (fun j d hj => ?_)
  ·obtain ⟨j, hj⟩ := List.mem_iff_getElem?.1 hd
   have hlt : j < a.length := by rw [<- p1]; exact (List.getElem?_eq_some_iff.1 hj).1
   exact (p2 j _ d (List.getElem?_eq_getElem hlt) hj).1 (e2 _ (List.getElem_mem hlt))
  ·have hlt : j < a.length := by rw [<- p1]; exact (List.getElem?_eq_some_iff.1 hj).1
   exact (p2 j _ d (List.getElem?_eq_getElem hlt) hj).2 _ (e3 j _ (List.getElem?_eq_getElem hlt))
theorem dvw_reps {X : AX} (hS : Sto X) : ∀ {l l' : List DV}, DVwL X.σ l l' -> l'.length = l.length /\ ∀ (j : Nat) (d d' : DV), l[j]? = some d -> l'[j]? = some d' -> (d.one = true -> d'.one = true) /\ ∀ v, VRep X.lay d v -> VRep (X.aside True).lay d' v
 | _, _, .same hc => ⟨rfl, fun j d d' h1 h2 => by
  rw [h1] at h2; cases h2
  exact ⟨fun h => h, fun v hv => hv.mono (qq _)⟩⟩
 | _, _, .cons hd hr => by
  obtain ⟨h1, h2⟩ := dvw_reps hS hr
  refine ⟨by simp [h1], fun j e e' he he' => ?_⟩
  cases j with
  | zero =>
   simp at he he'
   subst he; subst he'
   exact ⟨hd.one, fun v hv => dvw_rep hS hd hv⟩
  | succ j => exact h2 j e e' (by simpa using he) (by simpa using he')
end
section
variable {P : Program} {G : Nat -> DV} {B : Nat} {f : Operand -> DV} {σ : List ABlk} {K : DV -> List ABlk -> Prop} {dst : Option Tmp} {type : TypeId} {pos : String} {after : Array Edge} {gd : Option (Nat × Bool)}
theorem Pure.dview {fid : FuncId} {args args' : List DV} {d : DV} (h : Pure P G fid args' d) (hf : d.flat = true) (hv : DVwL σ args args') : ACalls P G B fid args σ (fun d' σ' => d' = d /\ σ' = σ) := fun X vs hS hσ hB hG hvs => by
 subst hσ
 obtain ⟨g1, g2⟩ := dvw_reps hS hv
 refine (h X.N (X.aside True) vs (hS.aside _) rfl (Nat.le_refl _) (fun g => ⟨(hG g).1, (hG g).2.mono (qq _)⟩) ⟨by rw [hvs.1, g1], fun j e hj => ?_⟩).mono ?_
 ·have hlt : j < args.length := by rw [<- g1]; exact (List.getElem?_eq_some_iff.1 hj).1
  exact (g2 j _ e (List.getElem?_eq_getElem hlt) hj).2 _ (hvs.2 j _ (List.getElem?_eq_getElem hlt))
 ·rintro e w' ⟨v, he, Y, hw, hY, hE, d', hr, rfl, hσ'⟩
  subst hw
  exact ⟨v, he, X.back Y, rfl, hS.back hE, WExt.back hS hE, _, hr.flat hf, rfl, rfl⟩
theorem s_call_dv {args : Array Operand} {ts : Array TypeId} {fid : FuncId} {ds ds' : List DV} {d : DV} [FnOk P fid] (h : Pure P G fid ds' d) (hx : f (.func fid) = .fn (.func fid) [] []) (hds : reL (args.toList.map f) = some ds) (hv : DVwL σ ds ds') (hf : d.flat = true) (k : K d σ) :
  OpSem P G B ⟨dst, .call ⟨.value (.func fid), args, ts⟩, type, pos, after, gd⟩ f σ K := s_call hx hds ((h.dview hf hv).mono fun _ _ ⟨h1, h2⟩ => by rw [h1, h2]; exact k)
theorem ZB {x : Operand} {args : Array Operand} {ts : Array TypeId} {fid : FuncId} {first cap ds ds' : List DV} {d : DV} [hfn : FnOk P fid] (h : Pure P G fid ds' d) (hx : f x = .fn (.func fid) first cap) (hds : reL (first ++ args.toList.map f ++ cap) = some ds) (hv : DVwL σ ds ds') (hf : d.flat = true) (k : K d σ) :
  OpSem P G B ⟨dst, .call ⟨.value x, args, ts⟩, type, pos, after, gd⟩ f σ K := s_callv hx hds ((h.dview hf hv).mono fun _ _ ⟨h1, h2⟩ => by rw [h1, h2]; exact k)
end
end Go.Av
end
section
namespace Go.Proofs
open Go.Av
variable {G : Nat -> DV}
attribute [local irreducible] OpSem WB WQ WW ACalls Zo QY RV
open Go.Bl
def z24 : List DV := List.replicate 24 (.sc (.int .u8 0))
theorem z24_clo : ∀ d ∈ z24, d.clo = true := fun d hd => by rw [List.eq_of_mem_replicate hd]; exact Qx
theorem z24_clo1 (v : Value) (i : Nat) : ∀ d ∈ z24.set i (.sc v), d.clo = true := fun d hd => by
 rcases List.mem_or_eq_of_mem_set hd with h | rfl
 ·exact z24_clo d h
 ·exact Qx
theorem s_call_fb10 {P : Program} {B : Nat} {f : Operand -> DV} {σ : List ABlk} {K : DV -> List ABlk -> Prop} {dst : Option Tmp} {type : TypeId} {pos : String} {after : Array Edge} {gd : Option (Nat × Bool)} {args : Array Operand} {ts : Array TypeId} {fid : FuncId} {g : Nat} {u v : Value} [FnOk P fid] (hx : f (.func fid) = .fn (.func fid) [] []) (hds : reL (args.toList.map f) = some [.ref 0 g 1 1 1, .sc u])
  (h : ∀ g B, g <= B -> ACalls P G B fid [.ref 0 g 1 1 1, .sc u] [.row g z24] (fun d τ => d = .tup [] /\ τ = [.row g (z24.set 1 (.sc v))])) (hσ : σ = [.row g z24]) (k : K (.tup []) [.row g (z24.set 1 (.sc v))]) : OpSem P G B ⟨dst, .call ⟨.value (.func fid), args, ts⟩, type, pos, after, gd⟩ f σ K := by
 subst hσ
 refine Zd (R := fun _ d τ => d = .tup [] /\ τ = [.row g (z24.set 1 (.sc v))]) [0] hx hds (.cons (.s (.ref rfl)) (.cons (.s (.clo Qx)) .nil)) (by decide) rfl (.cons (.rowc z24_clo) .nil) (fun B' hB hg => h g B' (hg 0 _ _ rfl rfl)) ?_
 rintro B' d' τ' hB ⟨rfl, rfl⟩
 exact ⟨_, _, _, .s (.clo (by simp [DV.clo])), .cons (.rowc (z24_clo1 _ _)) .nil, rfl, k⟩
def pow10L : List Int := [1, 10, 100, 1000, 10000, 100000, 1000000, 10000000, 100000000, 1000000000, 10000000000, 100000000000, 1000000000000, 10000000000000, 100000000000000, 1000000000000000, 10000000000000000, 100000000000000000, 1000000000000000000, 10000000000000000000]
def pow10T : DV := .ep (pow10L.map fun z => .sc (.int .u64 z))
theorem Z4 {P : Program} {G : Nat -> DV} {B : Nat} {f : Operand -> DV} {σ : List ABlk} {K : DV -> List ABlk -> Prop} {dst : Option Tmp} {type : TypeId} {pos : String} {after : Array Edge} {gd : Option (Nat × Bool)} {t : TypeId} {g1 : Bool} {z1 : Nat} {x y : Operand} {l : List UInt8} {kd : IntKind} (i n : Nat) [ht : TyI P t .string g1 z1]
  (hx : f x = .sc (.string ⟨⟨l⟩⟩)) (hy : f y = .sc (.int kd (i : Nat))) (hc : l[i]? = some (UInt8.ofNat n)) (hn : (UInt8.ofNat n).toNat = n) (k : K (.sc (.int .u8 (n : Nat))) σ) : OpSem P G B ⟨dst, .index t x y, type, pos, after, gd⟩ f σ K := s_index_s hx hy hc (by rw [hn]; exact k)
theorem len64_c (k : Nat) (h1 : 1 <= k) (h8 : k <= 8) : ∃ L : Nat, (1 <= L /\ L <= 4) /\ (L = 4 ↔ k = 8) /\ Go.Av.Pure Tryd.prog G 114 [.sc (.int .u64 (k : Int))] (.i L) := by
 have hk : k = 1 \/ k = 2 \/ k = 3 \/ k = 4 \/ k = 5 \/ k = 6 \/ k = 7 \/ k = 8 := by omega
 rcases hk with rfl | rfl | rfl | rfl | rfl | rfl | rfl | rfl
 ·refine ⟨1, by decide, by decide, fun B => ?_⟩
  refine Qc Tryd.func114 rfl Tryd.ntmps114 rfl (t := [(0, .sc (.int .u64 _))]) rfl fun E hE => ?_
  (repeat' first | refine Qu rfl ?_ | refine QA rfl ?_ | refine Q5 rfl rfl (by omega) ?_ | refine Wh rfl rfl ?_ | refine s_conv_i rfl (by omega) ?_ | refine s_conv rfl ?_ | refine Z4 1 1 rfl rfl rfl rfl ?_ | refine Qe ?_ | refine Qs rfl ?_ | refine Qg ?_ | refine Qa ?_ | refine Qk ?_ | refine Qo rfl ?_ | refine Qq ?_)
  all_goals exact e_1 (Tryd.results114) (Qh rfl) (QD rfl)
 ·refine ⟨2, by decide, by decide, fun B => ?_⟩
  refine Qc Tryd.func114 rfl Tryd.ntmps114 rfl (t := [(0, .sc (.int .u64 _))]) rfl fun E hE => ?_
  (repeat' first | refine Qu rfl ?_ | refine QA rfl ?_ | refine Q5 rfl rfl (by omega) ?_ | refine Wh rfl rfl ?_ | refine s_conv_i rfl (by omega) ?_ | refine s_conv rfl ?_ | refine Z4 2 2 rfl rfl rfl rfl ?_ | refine Qe ?_ | refine Qs rfl ?_ | refine Qg ?_ | refine Qa ?_ | refine Qk ?_ | refine Qo rfl ?_ | refine Qq ?_)
  all_goals exact e_1 (Tryd.results114) (Qh rfl) (QD rfl)
 ·refine ⟨2, by decide, by decide, fun B => ?_⟩
  refine Qc Tryd.func114 rfl Tryd.ntmps114 rfl (t := [(0, .sc (.int .u64 _))]) rfl fun E hE => ?_
  (repeat' first | refine Qu rfl ?_ | refine QA rfl ?_ | refine Q5 rfl rfl (by omega) ?_ | refine Wh rfl rfl ?_ | refine s_conv_i rfl (by omega) ?_ | refine s_conv rfl ?_ | refine Z4 3 2 rfl rfl rfl rfl ?_ | refine Qe ?_ | refine Qs rfl ?_ | refine Qg ?_ | refine Qa ?_ | refine Qk ?_ | refine Qo rfl ?_ | refine Qq ?_)
  all_goals exact e_1 (Tryd.results114) (Qh rfl) (QD rfl)
 ·refine ⟨3, by decide, by decide, fun B => ?_⟩
  refine Qc Tryd.func114 rfl Tryd.ntmps114 rfl (t := [(0, .sc (.int .u64 _))]) rfl fun E hE => ?_
  (repeat' first | refine Qu rfl ?_ | refine QA rfl ?_ | refine Q5 rfl rfl (by omega) ?_ | refine Wh rfl rfl ?_ | refine s_conv_i rfl (by omega) ?_ | refine s_conv rfl ?_ | refine Z4 4 3 rfl rfl rfl rfl ?_ | refine Qe ?_ | refine Qs rfl ?_ | refine Qg ?_ | refine Qa ?_ | refine Qk ?_ | refine Qo rfl ?_ | refine Qq ?_)
  all_goals exact e_1 (Tryd.results114) (Qh rfl) (QD rfl)
 ·refine ⟨3, by decide, by decide, fun B => ?_⟩
  refine Qc Tryd.func114 rfl Tryd.ntmps114 rfl (t := [(0, .sc (.int .u64 _))]) rfl fun E hE => ?_
  (repeat' first | refine Qu rfl ?_ | refine QA rfl ?_ | refine Q5 rfl rfl (by omega) ?_ | refine Wh rfl rfl ?_ | refine s_conv_i rfl (by omega) ?_ | refine s_conv rfl ?_ | refine Z4 5 3 rfl rfl rfl rfl ?_ | refine Qe ?_ | refine Qs rfl ?_ | refine Qg ?_ | refine Qa ?_ | refine Qk ?_ | refine Qo rfl ?_ | refine Qq ?_)
  all_goals exact e_1 (Tryd.results114) (Qh rfl) (QD rfl)
 ·refine ⟨3, by decide, by decide, fun B => ?_⟩
  refine Qc Tryd.func114 rfl Tryd.ntmps114 rfl (t := [(0, .sc (.int .u64 _))]) rfl fun E hE => ?_
  (repeat' first | refine Qu rfl ?_ | refine QA rfl ?_ | refine Q5 rfl rfl (by omega) ?_ | refine Wh rfl rfl ?_ | refine s_conv_i rfl (by omega) ?_ | refine s_conv rfl ?_ | refine Z4 6 3 rfl rfl rfl rfl ?_ | refine Qe ?_ | refine Qs rfl ?_ | refine Qg ?_ | refine Qa ?_ | refine Qk ?_ | refine Qo rfl ?_ | refine Qq ?_)
  all_goals exact e_1 (Tryd.results114) (Qh rfl) (QD rfl)
 ·refine ⟨3, by decide, by decide, fun B => ?_⟩
  refine Qc Tryd.func114 rfl Tryd.ntmps114 rfl (t := [(0, .sc (.int .u64 _))]) rfl fun E hE => ?_
  (repeat' first | refine Qu rfl ?_ | refine QA rfl ?_ | refine Q5 rfl rfl (by omega) ?_ | refine Wh rfl rfl ?_ | refine s_conv_i rfl (by omega) ?_ | refine s_conv rfl ?_ | refine Z4 7 3 rfl rfl rfl rfl ?_ | refine Qe ?_ | refine Qs rfl ?_ | refine Qg ?_ | refine Qa ?_ | refine Qk ?_ | refine Qo rfl ?_ | refine Qq ?_)
  all_goals exact e_1 (Tryd.results114) (Qh rfl) (QD rfl)
 ·refine ⟨4, by decide, by decide, fun B => ?_⟩
  refine Qc Tryd.func114 rfl Tryd.ntmps114 rfl (t := [(0, .sc (.int .u64 _))]) rfl fun E hE => ?_
  (repeat' first | refine Qu rfl ?_ | refine QA rfl ?_ | refine Q5 rfl rfl (by omega) ?_ | refine Wh rfl rfl ?_ | refine s_conv_i rfl (by omega) ?_ | refine s_conv rfl ?_ | refine Z4 8 4 rfl rfl rfl rfl ?_ | refine Qe ?_ | refine Qs rfl ?_ | refine Qg ?_ | refine Qa ?_ | refine Qk ?_ | refine Qo rfl ?_ | refine Qq ?_)
  all_goals exact e_1 (Tryd.results114) (Qh rfl) (QD rfl)
theorem log10_c (L : Nat) (h1 : 1 <= L) (h4 : L <= 4) : Go.Av.Pure Tryd.prog G 113 [.i L] (.i ((L / 4 : Nat) : Int)) := fun B => by
 have hk : L = 1 \/ L = 2 \/ L = 3 \/ L = 4 := by omega
 rcases hk with rfl | rfl | rfl | rfl
 all_goals
  refine Qc Tryd.func113 rfl Tryd.ntmps113 rfl (t := [(0, .i _)]) rfl fun E hE => ?_
  (repeat' first | refine Qu rfl ?_ | refine QA rfl ?_ | refine s_mul rfl rfl (by omega) ?_ | refine s_shr rfl rfl (by omega) ?_ | refine Qe ?_ | refine Qs rfl ?_ | refine Qg ?_ | refine Qa ?_ | refine Qq ?_)
  all_goals exact e_1 (Tryd.results113) (Qh rfl) (QD rfl)
theorem bool2_c (b : Bool) : Go.Av.Pure Tryd.prog G 115 [.b b] (.i (if b = true then 1 else 0)) := fun B => by
 cases b
 all_goals
  refine Qc Tryd.func115 rfl Tryd.ntmps115 rfl (t := [(0, .b _)]) rfl fun E hE => ?_
  (repeat' first | refine Qu rfl ?_ | refine QA rfl ?_ | refine Qe ?_ | refine Qs rfl ?_ | refine Qg ?_ | refine Qa ?_ | refine Qk ?_ | refine QB rfl ?_ | refine Qo rfl ?_ | refine Qq ?_)
  all_goals exact e_1 (Tryd.results115) (Qh rfl) (QD rfl)
theorem numDigits_c (hG : G 1 = pow10T) (k : Nat) (h1 : 1 <= k) (h8 : k <= 8) : Go.Av.Pure Tryd.prog G 110 [.sc (.int .u64 (k : Int))] (.i 1) := fun B => by
 obtain ⟨L, ⟨l1, l2⟩, l3, hl64⟩ := len64_c (G := G) k h1 h8
 have hlog := log10_c (G := G) L l1 l2
 by_cases h : k = 8
 ·rw [show L / 4 = 1 by omega] at hlog
  have hb2 : Go.Av.Pure Tryd.prog G 115 [.b (decide ((10 : Int) <= (k : Int)))] (.i 0) := by rw [decide_eq_false (by omega)]; exact bool2_c false
  refine Qc Tryd.func110 rfl Tryd.ntmps110 rfl (t := [(0, .sc (.int .u64 _))]) rfl fun E hE => ?_
  (repeat' first | refine Qu rfl ?_ | refine QA rfl ?_ | refine Qv rfl ?_ | refine W4 hG rfl (by decide) (by decide) ?_ | refine Q5 rfl rfl (by omega) ?_ | refine Wh rfl rfl ?_ | refine Wa rfl rfl (hl64) ?_ | refine Wa rfl rfl (hlog) ?_ | refine Wa rfl rfl (hb2) ?_ | refine Qe ?_ | refine Qs rfl ?_ | refine Qg ?_ | refine Qa ?_ | refine Qq ?_)
  all_goals exact e_1 (Tryd.results110) (Qh rfl) (QD rfl)
 ·rw [show L / 4 = 0 by omega] at hlog
  have hb2 : Go.Av.Pure Tryd.prog G 115 [.b (decide ((1 : Int) <= (k : Int)))] (.i 1) := by rw [decide_eq_true (by omega)]; exact bool2_c true
  refine Qc Tryd.func110 rfl Tryd.ntmps110 rfl (t := [(0, .sc (.int .u64 _))]) rfl fun E hE => ?_
  (repeat' first | refine Qu rfl ?_ | refine QA rfl ?_ | refine Qv rfl ?_ | refine W4 hG rfl (by decide) (by decide) ?_ | refine Q5 rfl rfl (by omega) ?_ | refine Wh rfl rfl ?_ | refine Wa rfl rfl (hl64) ?_ | refine Wa rfl rfl (hlog) ?_ | refine Wa rfl rfl (hb2) ?_ | refine Qe ?_ | refine Qs rfl ?_ | refine Qg ?_ | refine Qa ?_ | refine Qq ?_)
  all_goals exact e_1 (Tryd.results110) (Qh rfl) (QD rfl)
theorem fmtBase10_c (k : Nat) (h1 : 1 <= k) (h8 : k <= 8) (g B : Nat) (hg : g <= B) : ACalls Tryd.prog G B 111 [.ref 0 g 1 1 1, .sc (.int .u64 (k : Int))] [.row g z24] (fun d τ => d = .tup [] /\ τ = [.row g (z24.set 1 (.sc (.int .u8 (48 + k))))]) := by
 refine Qc Tryd.func111 rfl Tryd.ntmps111 rfl (t := [(0, .ref 0 g 1 1 1), (1, .sc (.int .u64 (k : Int)))]) rfl fun E hE => ?_
 (repeat' first | refine Qu rfl ?_ | refine QA rfl ?_ | refine s_len_ref rfl rfl ?_ | refine Qe ?_ | refine Qs rfl ?_ | refine Qg ?_ | refine Qa ?_ | refine Qf ?_)
 refine Wv (fun _ : Unit => ⟨[(0, .ref 0 g 1 1 1), (1, .sc (.int .u64 (k : Int))), (4, .i 1)], [.row g z24]⟩) (fun _ => True) (fun _ => 0) () ?_ trivial ?_
 ·exact zal rfl
 intro u _
 (repeat' first | refine Qu rfl ?_ | refine QA rfl ?_ | refine s_idx_refoi rfl rfl rfl (by omega) (by omega) ?_ | refine s_add_w rfl rfl ?_ | refine s_gtr rfl rfl ?_ | refine Wh rfl rfl ?_ | refine s_conv rfl ?_ | refine Wb rfl rfl rfl rfl (by rfl) (by rfl) (by rfl) ?_ | refine Qe ?_ | refine Qs rfl ?_ | refine QZ ?_ | refine Qg ?_ | refine Qa ?_ | refine Qk ?_ | refine QB rfl ?_ | refine Qo rfl ?_ | refine Q2 rfl ?_)
 have hk : k = 1 \/ k = 2 \/ k = 3 \/ k = 4 \/ k = 5 \/ k = 6 \/ k = 7 \/ k = 8 := by omega
 rcases hk with rfl | rfl | rfl | rfl | rfl | rfl | rfl | rfl
 all_goals exact e_0 (Tryd.results111) (Zg ⟨rfl, rfl⟩)
theorem fmtInt_c (hG : G 1 = pow10T) (k : Nat) (h1 : 1 <= k) (h8 : k <= 8) : Go.Av.Pure Tryd.prog G 107 [.i (-(k : Int)), .i 10] (strD [45, UInt8.ofNat (48 + k)]) := fun B => by
 have hnd := numDigits_c hG k h1 h8
 have hfb := fmtBase10_c (G := G) k h1 h8
 have hk : k = 1 \/ k = 2 \/ k = 3 \/ k = 4 \/ k = 5 \/ k = 6 \/ k = 7 \/ k = 8 := by omega
 have hng : IntKind.u64.wrap (0 - IntKind.u64.wrap (-(k : Int))) = (k : Int) := by rcases hk with rfl | rfl | rfl | rfl | rfl | rfl | rfl | rfl <;> rfl
 have hcs : (((z24.set 1 (.sc (.int .u8 (48 + k)))).set 0 (.sc (.int .u8 45))).drop 0).take 2 = u8s [45, UInt8.ofNat (48 + k)] := by rcases hk with rfl | rfl | rfl | rfl | rfl | rfl | rfl | rfl <;> rfl
 clear hk
 refine Qc Tryd.func107 rfl Tryd.ntmps107 rfl (t := [(0, .i (-(k : Int))), (1, .i 10)]) rfl fun E hE => ?_
 (repeat' first | refine Qu rfl ?_ | refine QA rfl ?_ | refine Zx rfl rfl rfl (by omega) (by omega) ?_ | refine Q5 rfl rfl (by omega) ?_ | refine QL rfl rfl ?_ | refine ZN rfl rfl ?_ | refine QJ rfl rfl ?_ | refine s_call_fb10 rfl rfl hfb rfl ?_ | refine Wa rfl rfl (hnd) ?_ | refine Wm rfl rfl ?_ | refine s_slice_arr (vlo := some (.int .i64 1)) (vhi := some (.int .i64 2)) (l := 1) (h := 2) rfl rfl rfl rfl (.lh rfl rfl (by decide)) (by decide) (by decide) (Nat.le_refl 24) ?_ | refine s_slice_arr (vlo := none) (vhi := some (.int .i64 2)) (l := 0) (h := 2) rfl rfl trivial rfl (.h rfl) (by decide) (by decide) (Nat.le_refl 24) ?_ | refine s_conv_bytes (l := [45, UInt8.ofNat (48 + k)]) rfl rfl (by decide) rfl hcs ?_ | refine s_conv rfl ?_ | refine s_neg_u rfl hng ?_ | refine Wb rfl rfl rfl rfl (by rfl) (by rfl) (by rfl) ?_ | refine QH (fun _ _ => ?_) | refine Qe ?_ | refine Qs rfl ?_ | refine QZ ?_ | refine W3 rfl rfl rfl rfl ?_ | refine Wc rfl rfl (by omega) ?_ | refine Qg ?_ | refine Qa ?_ | refine Qk ?_ | refine QB rfl ?_ | refine Qo rfl ?_ | refine Qp rfl (by omega) ?_ | refine Qq ?_)
 exact e_1 (Tryd.results107) (Qh rfl) (Qy (σ := []) (r := [_]) ⟨rfl, rfl⟩)
def itoaL (n : Int) : List UInt8 := Lib.itoa n
theorem itoa_neg (k : Nat) (h1 : 1 <= k) (h8 : k <= 8) : itoaL (-(k : Int)) = [45, UInt8.ofNat (48 + k)] := by
 have hk : k = 1 \/ k = 2 \/ k = 3 \/ k = 4 \/ k = 5 \/ k = 6 \/ k = 7 \/ k = 8 := by omega
 rcases hk with rfl | rfl | rfl | rfl | rfl | rfl | rfl | rfl <;> decide +kernel
theorem itoa_c (hG : G 1 = pow10T) (n : Int) (h : -8 <= n /\ n < 100) : Go.Av.Pure Tryd.prog G 83 [.i n] (strD (itoaL n)) := by
 by_cases h0 : 0 <= n
 ·obtain ⟨i, rfl⟩ : ∃ i : Nat, n = i := ⟨n.toNat, by omega⟩
  have := itoa_small (G := G) i (by omega)
  rwa [show itoaL (i : Int) = Lib.decDigits i by unfold itoaL Lib.itoa; rw [if_neg (by omega)]; rfl]
 ·obtain ⟨k, rfl⟩ : ∃ k : Nat, n = -(k : Int) := ⟨(-n).toNat, by omega⟩
  have hk1 : 1 <= k := by omega
  have hk8 : k <= 8 := by omega
  have hfi := fmtInt_c hG k hk1 hk8
  rw [itoa_neg k hk1 hk8]
  have hit : Go.Av.Pure Tryd.prog G 95 [.i (-(k : Int))] (strD [45, UInt8.ofNat (48 + k)]) := fun B => by
   refine Qc Tryd.func95 rfl Tryd.ntmps95 rfl (t := [(0, .i (-(k : Int)))]) rfl fun E hE => ?_
   (repeat' first | refine Qu rfl ?_ | refine QA rfl ?_ | refine Wa rfl rfl (hfi) ?_ | refine Qe ?_ | refine Qs rfl ?_ | refine Qg ?_ | refine Qa ?_ | refine Qq ?_)
   refine e_1 Tryd.results95 (Qh rfl) (QD ?_)
   rfl
  intro B
  refine Qc Tryd.func83 rfl Tryd.ntmps83 rfl (t := [(0, .i (-(k : Int)))]) rfl fun E hE => ?_
  (repeat' first | refine Qu rfl ?_ | refine QA rfl ?_ | refine Wa rfl rfl (hit) ?_ | refine Qe ?_ | refine Qs rfl ?_ | refine Qg ?_ | refine Qa ?_ | refine Qq ?_)
  refine e_1 Tryd.results83 (Qh rfl) (QD ?_)
  rfl
inductive Tin : Nd -> Prop
 | mk {k n : Int} {m : Int} {ks : List Nd} : 0 <= k /\ k < 100 -> -8 <= n /\ n < 100 -> ks.length <= 3 -> (∀ x ∈ ks, Tin x) -> Tin (.mk k n m ks)
mutual
def keyS : Nd -> List UInt8
 | .mk k n m ks => itoaL k ++ [44] ++ itoaL n ++ [40] ++ qz ks ++ [41]
def qz : List Nd -> List UInt8
 | [] => []
 | x :: r => keyS x ++ qz r
end
def keysU (ks : List Nd) (i : Nat) : List UInt8 := qz (ks.take i)
theorem keysS_append (a b : List Nd) : qz (a ++ b) = qz a ++ qz b := by
 induction a with
 | nil => rfl
 | cons x r ih => rw [List.cons_append, qz, qz, ih, List.append_assoc]
theorem keysU_succ {ks : List Nd} {i : Nat} (h : i < ks.length) : keysU ks (i + 1) = keysU ks i ++ keyS ks[i] := by
 unfold keysU
 rw [List.take_succ_eq_append_getElem h, keysS_append]
 simp [qz]
theorem keysS_le {x : Nd} : ∀ {ks : List Nd}, x ∈ ks -> (keyS x).length <= (qz ks).length
 | y :: r, h => by
  rw [qz, List.length_append]
  rcases List.mem_cons.1 h with rfl | h
  ·omega
  ·have := keysS_le h; omega
theorem keysU_le (ks : List Nd) (i : Nat) : (keysU ks i).length <= (qz ks).length := by
 have : qz ks = keysU ks i ++ qz (ks.drop i) := by rw [keysU, <- keysS_append, List.take_append_drop]
 rw [this, List.length_append]; omega
theorem digs_len {i : Nat} (h : i < 100) : (Lib.decDigits i).length <= 2 := by
 revert i; decide +kernel
theorem itoa_len {n : Int} (h : -8 <= n /\ n < 100) : (itoaL n).length <= 2 := by
 by_cases h0 : 0 <= n
 ·unfold itoaL Lib.itoa
  rw [if_neg (by omega)]
  exact digs_len (by omega)
 ·obtain ⟨k, rfl⟩ : ∃ k : Nat, n = -(k : Int) := ⟨(-n).toNat, by omega⟩
  rw [itoa_neg k (by omega) (by omega)]
  exact Nat.le_refl 2
theorem keyS_c (hG : G 1 = pow10T) (t : Nd) (ht : Tin t) (hlen : (keyS t).length <= 1048576) : Go.Av.Pure Tryd.prog G 70 [.agg (Enc.enc t)] (strD (keyS t)) := by
 induction ht with
 | @mk k0 n0 m ks hk hn hks _ ih =>
 intro B
 rw [Q9]
 have hd1 := itoa_len (n := k0) ⟨by omega, by omega⟩
 have hd2 := itoa_len hn
 have hnb := hn
 have hi : ∀ x ∈ ks, Go.Av.Pure Tryd.prog G 70 [.agg (Enc.enc x)] (strD (keyS x)) := fun x hx => ih x hx (by
  have := keysS_le hx
  rw [keyS, List.length_append, List.length_append] at hlen
  omega)
 refine Qc Tryd.func70 rfl Tryd.ntmps70 rfl (t := [(0, .agg [.i k0, .i n0, .i m, QG ks])]) rfl fun E hE => ?_
 (repeat' first | refine Qu rfl ?_ | refine QA rfl ?_ | refine Qb rfl rfl rfl ?_ | refine Qj rfl ?_ | refine Qd rfl rfl ?_ | refine QU rfl rfl (fun _ _ => ?_) | refine Qe ?_ | refine Qs rfl ?_ | refine Qg ?_ | refine Qa ?_ | refine Qf ?_ | (refine Q0 ?_; first | refine Q3 (by rfl) (by kernel_rfl) (by kernel_rfl) ?_ | refine QP (by kernel_rfl) (by kernel_rfl) ?_) | refine qb rfl (by (repeat' first | refine QA rfl ?_ | refine Qb rfl rfl rfl ?_ | refine s_add_s rfl rfl (by first | omega | (simp only [List.length_append, List.length_cons, List.length_nil]; omega)) ?_ | refine Wa rfl rfl (itoa_c hG _ (by omega)) ?_ | refine Qd rfl rfl ?_ | exact ⟨rfl, rfl⟩)) ?_ | refine ZS ?_)
 have hkl : (qz ks).length + 7 <= 1048583 := by
  rw [keyS, List.length_append, List.length_append] at hlen
  omega
 have hek : keyS (.mk k0 n0 m ks) = itoaL k0 ++ [44] ++ itoaL n0 ++ [40] ++ keysU ks ks.length ++ [41] := by
  unfold keysU
  rw [List.take_length, keyS]
 have hpre : (itoaL k0 ++ [44] ++ itoaL n0 ++ [40]).length <= 6 := by simp only [List.length_append, List.length_cons, List.length_nil]; omega
 generalize itoaL k0 ++ [44] ++ itoaL n0 ++ [40] = pre at *
 refine Wv (fun (i : Nat) => ⟨[(3, strD (pre ++ keysU ks i)), (16, QG ks), (17, .i ks.length), (18, .i i)], []⟩) (fun i => i <= ks.length) (fun i => ks.length - i) 0 ?_ (by omega) ?_
 ·rw [show keysU ks 0 = [] from rfl, List.append_nil]
  exact zal rfl
 intro i hi'
 have hle := keysU_le ks i
 (repeat' first | refine QL rfl rfl ?_ | refine Qe ?_ | refine Qs rfl ?_ | refine Qg ?_ | refine Qa ?_)
 refine QE rfl (fun h => ?_) (fun h => ?_)
 ·have hj : i < ks.length := by omega
  have hsu := keysU_succ hj
  have hle2 := keysS_le (List.getElem_mem hj)
  (repeat' first | refine Qu rfl ?_ | refine QA rfl ?_ | refine Qm rfl rfl (by first | exact Enc.len _ | rfl) ?_ | refine QC rfl ?_ | refine Ql rfl rfl (by first | assumption | omega | (simp; done) | (simp; omega)) ?_ | refine s_add_s rfl rfl (by first | omega | (simp only [List.length_append, List.length_cons, List.length_nil]; omega)) ?_ | refine Q5 rfl rfl (by omega) ?_ | refine Wa rfl rfl (hi _ (List.getElem_mem hj)) ?_ | refine Qi rfl rfl rfl (by first | exact Enc.len _ | rfl) (by first | exact Enc.len _ | rfl) (by rfl) ?_ | refine QH (fun _ _ => ?_) | refine Qe ?_ | refine Qs rfl ?_ | refine QZ ?_ | refine Qg ?_ | refine Qa ?_ | refine Qf ?_ | refine Qk ?_)
  refine ⟨i + 1, by omega, by omega, ?_⟩
  rw [hsu, <- List.append_assoc]
  exact zal rfl
 ·have hj : i = ks.length := by omega
  subst hj
  (repeat' first | refine Qu rfl ?_ | refine QA rfl ?_ | refine s_add_s rfl rfl (by first | omega | (simp only [List.length_append, List.length_cons, List.length_nil]; omega)) ?_ | refine Qe ?_ | refine Qs rfl ?_ | refine Qg ?_ | refine Qa ?_ | refine Q2 rfl ?_ | refine Qq ?_)
  refine e_1 Tryd.results70 (Qh rfl) (QD ?_)
  rw [hek]
end Go.Proofs
end
section
namespace Go.Av
open Classical
section
variable {P : Program} {G : Nat -> DV}
/-! A place that is gone is filled. -/
def AX.fill (X : AX) (k : Nat) (w' : World) (ob : Option (Nat × Nat)) (B : ABlk) : AX :=
 { w := w', ρ := fun i => if i = k then ob else X.ρ i, σ := X.σ.set k B, N := X.N + 1, hid := X.hid }
theorem AX.fill_live {X : AX} {k : Nat} {w' : World} {ob : Option (Nat × Nat)} {B : ABlk} {i g : Nat} (hk : k < X.σ.length) :
  (X.fill k w' ob B).live i g ↔ (i ≠ k /\ X.live i g) \/ (i = k /\ B.gen? = some g) := by
 simp only [AX.live, AX.fill, List.getElem?_set]
 by_cases h : k = i
 ·subst h; simp [hk]
 ·simp only [h, if_false]
  have h' : i ≠ k := fun e => h e.symm
  simp [h']
theorem WExt.fill {X : AX} (hS : Sto X) {k : Nat} (hk : X.σ[k]? = some .gone) {w' : World} (hw : Keep X.w w') {ob : Option (Nat × Nat)} {B : ABlk} (hg : B.gen? = some (X.N + 1)) (hob : ∀ b n, ob = some (b, n) -> X.w.heap.size <= b) : WExt X (X.fill k w' ob B) where
 hid := rfl
 top := Nat.le_succ _
 os := hw.os
 tape := hw.tape
 output := hw.output
 size := hw.size
 old := fun b hb hm => ⟨hw.block b hb, fun ⟨i, g, n, hl, hr⟩ => by
  rcases (AX.fill_live (List.getElem?_eq_some_iff.1 hk).1).1 hl with ⟨h1, h2⟩ | ⟨h1, h2⟩
  ·simp only [AX.fill, if_neg h1] at hr
   exact hm ⟨i, g, n, h2, hr⟩
  ·simp only [AX.fill, if_pos h1] at hr
   have := hob b n hr
   omega⟩
 rows := fun i g hgN hl => by
  rcases (AX.fill_live (List.getElem?_eq_some_iff.1 hk).1).1 hl with ⟨h1, h2⟩ | ⟨h1, h2⟩
  ·exact ⟨h2, by simp only [AX.fill, if_neg h1]⟩
  ·rw [hg] at h2; cases h2; omega
theorem Sto.fill {X : AX} (hS : Sto X) {k : Nat} (hk : X.σ[k]? = some .gone) {w' : World} (hw : Keep X.w w') {ob : Option (Nat × Nat)} {B : ABlk} (hg : B.gen? = some (X.N + 1)) (hob : ∀ b n, ob = some (b, n) -> X.w.heap.size <= b) (hB : B.holds X.lay w' ob) : Sto (X.fill k w' ob B) where
 inj := fun i i' g1 g1' b n n' hl hl' hr hr' => by
  have hkl := (List.getElem?_eq_some_iff.1 hk).1
  rcases (AX.fill_live hkl).1 hl with ⟨h1, h2⟩ | ⟨h1, h2⟩ <;> rcases (AX.fill_live hkl).1 hl' with ⟨h1', h2'⟩ | ⟨h1', h2'⟩
  ·simp only [AX.fill, if_neg h1] at hr
   simp only [AX.fill, if_neg h1'] at hr'
   exact hS.inj i i' g1 g1' b n n' h2 h2' hr hr'
  ·simp only [AX.fill, if_neg h1] at hr
   simp only [AX.fill, if_pos h1'] at hr'
   have := hS.ρ_lt h2 hr
   have := hob b n' hr'
   omega
  ·simp only [AX.fill, if_neg h1'] at hr'
   simp only [AX.fill, if_pos h1] at hr
   have := hS.ρ_lt h2' hr'
   have := hob b n hr
   omega
  ·rw [h1, h1']
 gen := fun i g' hl => by
  rcases (AX.fill_live (List.getElem?_eq_some_iff.1 hk).1).1 hl with ⟨h1, h2⟩ | ⟨h1, h2⟩
  ·exact Nat.le_trans (hS.gen i g' h2) (Nat.le_succ _)
  ·rw [hg] at h2; cases h2; exact Nat.le_refl _
 hid := fun b ⟨i, g', n, hl, hr⟩ hh => by
  rcases (AX.fill_live (List.getElem?_eq_some_iff.1 hk).1).1 hl with ⟨h1, h2⟩ | ⟨h1, h2⟩
  ·simp only [AX.fill, if_neg h1] at hr
   exact hS.hid b ⟨i, g', n, h2, hr⟩ hh
  ·simp only [AX.fill, if_pos h1] at hr
   have := hob b n hr
   have := hS.hidlt b hh
   omega
 hidlt := fun b hb => Nat.lt_of_lt_of_le (hS.hidlt b hb) hw.size
 holds := fun i B' hB' => by
  have hle := (WExt.fill hS hk hw hg hob).le
  have hkl := (List.getElem?_eq_some_iff.1 hk).1
  simp only [AX.fill, List.getElem?_set] at hB'
  by_cases hik : k = i
  ·subst hik
   simp [hkl] at hB'
   subst hB'
   have hρ : (X.fill k w' ob B).ρ k = ob := by simp only [AX.fill, if_pos]
   rw [hρ]
   exact hB.mono hle fun _ _ _ => rfl
  ·simp only [hik, if_false] at hB'
   have hρ : (X.fill k w' ob B).ρ i = X.ρ i := by simp only [AX.fill, if_neg (Ne.symm hik)]
   rw [hρ]
   cases hg' : B'.gen? with
   | none => cases B' <;> first | trivial | cases hg'
   | some g' =>
    exact (hS.holds i B' hB').mono hle fun b n hb => hw.block b (hS.ρ_lt ((AX.live_get hB').2 hg') hb)
section
variable {B : Nat} {f : Operand -> DV} {σ : List ABlk} {K : DV -> List ABlk -> Prop} {dst : Option Tmp} {type : TypeId} {pos : String} {after : Array Edge} {gd : Option (Nat × Bool)}
theorem s_alloc_at {t : TypeId} {zs : List Value} [hz : TyZ P t zs] {k : Nat} (hk : σ[k]? = some .gone) (kk : ∀ g, B < g -> K (.ptr k g 0) (σ.set k (.row g (zs.map .sc)))) : OpSem P G B ⟨dst, .alloc t, type, pos, after, gd⟩ f σ K := fun X ρ hS hσ hB _ hf => by
 subst hσ
 obtain ⟨z, h1, h2⟩ := run_zero hz X.w
 simp only [execOp, Instr.alloc, h1, newVar, newRow, h2, run_newObj, Sem.run_bind, Sem.run_pure, Result.andThen_ok, World.alloc_eq]
 have hob : ∀ b' n, some (X.w.heap.size, zs.toArray.size) = some (b', n) -> X.w.heap.size <= b' := fun b' n h => by cases h; exact Nat.le_refl _
 have hw := Keep.alloc X.w (.cells zs.toArray t (0, 0))
 have hkl := (List.getElem?_eq_some_iff.1 hk).1
 have hh : (ABlk.row (X.N + 1) (zs.map .sc)).holds X.lay (X.w.alloc (.cells zs.toArray t (0, 0))) (some (X.w.heap.size, zs.toArray.size)) :=
  ⟨zs.toArray, t, (0, 0), heap_alloc_new _ _, rfl, by simp, fun j _ h => by simp at h, fun j e hj => by
   rw [List.getElem?_map] at hj
   cases hzj : zs[j]? with
   | none => simp [hzj] at hj
   | some u =>
    simp [hzj] at hj; subst hj
    refine ⟨List.all_eq_true.1 hz.one u (List.mem_of_getElem? hzj), ?_⟩
    have : zs.toArray.getD j undef = u := by simp [Array.getD_eq_getD_getElem?, hzj]
    rw [this]; exact .sc u⟩
 refine ⟨X.fill k _ _ _, rfl, hS.fill hk hw rfl hob hh, WExt.fill hS hk hw rfl hob, .ptr k (X.N + 1) 0, ?_, kk (X.N + 1) (by omega)⟩
 refine .ptr _ _ _ _ (Nat.le_refl _) fun ob hobb => ?_
 rw [AX.row_mk ((AX.fill_live hkl).2 (.inr ⟨rfl, rfl⟩))] at hobb
 simp only [AX.fill, if_true, Option.some.injEq] at hobb
 exact ⟨_, _, hobb.symm, rfl⟩
end
/-! Variables made at any time. -/
structure AE where
 idx : Nat
 tmp : Nat
 zs : List Value
def AllocOk (P : Program) (G : Nat -> DV) (B n : Nat) (ops : Array Oper) (a : AE) : Prop :=
 a.tmp < n /\ ∃ o, ops[a.idx]? = some o /\ o.dst = some a.tmp /\ o.guard = none /\ ∀ (φ : Nat -> DV) (σ : List ABlk) (k : Nat) (K : DV -> List ABlk -> Prop), σ[k]? = some .gone -> (∀ g, B < g -> K (.ptr k g 0) (σ.set k (.row g (a.zs.map .sc)))) -> OpSem P G B o (aevF G φ) σ K
def lst (A : List AE) (p : Nat -> Bool) (listed : Array Bool) : Array Bool := listed.mapIdx fun i b => b || ((A.map AE.idx).contains i && p i)
def allP : List Nat -> ((Nat -> Bool) -> Bool) -> Bool
 | [], k => k fun _ => false
 | i :: r, k => allP r (fun p => k p) && allP r (fun p => k (fun x => Nat.beq x i || p x))
theorem allP_spec : ∀ {is : List Nat} {k : (Nat -> Bool) -> Bool}, allP is k = true -> ∀ p : Nat -> Bool, k (fun x => is.contains x && p x) = true
 | [], k, h, p => by simpa [allP] using h
 | i :: r, k, h, p => by
  simp only [allP, Bool.and_eq_true] at h
  cases hp : p i
  ·have := allP_spec h.1 p
   have e : (fun x => (i :: r).contains x && p x) = (fun x => r.contains x && p x) := by
    funext x
    by_cases hx : x = i
    ·subst hx; rw [hp, Bool.and_false, Bool.and_false]
    ·simp [List.contains_cons, hx]
   rw [e]; exact this
  ·have := allP_spec h.2 p
   have e : (fun x => (i :: r).contains x && p x) = (fun x => Nat.beq x i || (r.contains x && p x)) := by
    funext x
    by_cases hx : x = i
    ·subst hx; simp [hp]
    ·have : Nat.beq x i = false := by
      cases hb : Nat.beq x i
      ·rfl
      ·exact absurd (Nat.eq_of_beq_eq_true hb) hx
     rw [this]
     simp [List.contains_cons, hx]
   rw [e]; exact this
theorem lst_restrict {A : List AE} {p : Nat -> Bool} {listed : Array Bool} : lst A (fun x => (A.map AE.idx).contains x && p x) listed = lst A p listed := by
 unfold lst
 apply Array.ext (by simp)
 intro i h1 h2
 simp only [Array.getElem_mapIdx]
 cases (A.map AE.idx).contains i <;> simp
theorem lst_get {A : List AE} {p : Nat -> Bool} {listed : Array Bool} {j : Nat} : (lst A p listed)[j]? = (listed[j]?).map fun b => b || ((A.map AE.idx).contains j && p j) := by
 unfold lst; rw [Array.getElem?_mapIdx]
theorem lst_size {A : List AE} {p : Nat -> Bool} {listed : Array Bool} : (lst A p listed).size = listed.size := by unfold lst; simp
theorem lst_set {A : List AE} {p : Nat -> Bool} {listed : Array Bool} {i : Nat} (hi : (A.map AE.idx).contains i = false) : (lst A p listed).setIfInBounds i true = lst A p (listed.setIfInBounds i true) := by
 apply Array.ext_getElem?
 intro j
 rw [lst_get, Array.getElem?_setIfInBounds, Array.getElem?_setIfInBounds, lst_size]
 by_cases h : i = j
 ·subst h
  rw [if_pos rfl, if_pos rfl]
  split <;> rfl
 ·rw [if_neg h, if_neg h, lst_get]
theorem lst_put {A : List AE} {p : Nat -> Bool} {listed : Array Bool} {i : Nat} (hi : (A.map AE.idx).contains i = true) : (lst A p listed).setIfInBounds i true = lst A (fun x => Nat.beq x i || p x) listed := by
 apply Array.ext_getElem?
 intro j
 rw [lst_get, Array.getElem?_setIfInBounds, lst_size]
 by_cases h : i = j
 ·subst h
  rw [if_pos rfl, hi, Nat.beq_refl]
  split
  ·rename_i h; rw [Array.getElem?_eq_getElem h]; simp
  ·rename_i h; rw [Array.getElem?_eq_none (by omega)]; rfl
 ·have : Nat.beq j i = false := by
   cases hb : Nat.beq j i
   ·rfl
   ·exact absurd (Nat.eq_of_beq_eq_true hb).symm h
  rw [if_neg h, lst_get, this]; rfl
variable {n : Nat} {ops : Array Oper} {md : Region.Mode} {Fin : (Nat -> DV) -> List ABlk -> Prop} {Inv : List ABlk -> Prop}
def okTmp (A : List AE) (ops : Array Oper) (j : Nat) : Bool := match ops[j]? with
 | none => false
 | some o => (o.looksAt ops).all (fun t => !(A.map AE.tmp).contains t) && (match o.dst with | none => true | some t => !(A.map AE.tmp).contains t)
def mixA (md : Region.Mode) (ops : Array Oper) (A : List AE) : List (Nat × Bool) -> List (Nat × Bool) -> Array Bool -> Bool
 | [], js2, listed => allP (A.map AE.idx) (fun p => (A.map AE.idx).all p || ((Region.ready md ops (lst A p listed)).all (fun i => (A.map AE.idx).contains i && !p i) && !(Region.ready md ops (lst A p listed)).isEmpty)) && mixB md ops js2 (lst A (fun _ => true) listed)
 | (j, true) :: r, js2, listed => allP (A.map AE.idx) (fun p => (Region.ready md ops (lst A p listed)).contains j && Region.free md ops (lst A p listed) j) && !(A.map AE.idx).contains j && okTmp A ops j && mixA md ops A r js2 (listed.setIfInBounds j true)
 | (j, false) :: r, js2, listed => allP (A.map AE.idx) (fun p => (Region.ready md ops (lst A p listed)).contains j && (Region.ready md ops (lst A p listed)).all (fun i => Nat.beq i j || ((A.map AE.idx).contains i && !p i))) && !(A.map AE.idx).contains j && okTmp A ops j && mixA md ops A r js2 (listed.setIfInBounds j true)
def AC (B b : Nat) (A : List AE) (p : Nat -> Bool) (φ : Nat -> DV) (ss : List ABlk) : Prop :=
 ss.length = A.length /\ ∀ (j : Nat) (a : AE), A[j]? = some a -> (p a.idx = true -> ∃ g, B < g /\ φ a.tmp = .ptr (b + j) g 0 /\ ss[j]? = some (.row g (a.zs.map .sc))) /\ (p a.idx = false -> ss[j]? = some .gone)
def Same (A : List AE) (φ φ' : Nat -> DV) : Prop := ∀ i, (A.map AE.tmp).contains i = false -> φ' i = φ i
def PMix (P : Program) (G : Nat -> DV) (B n : Nat) (ops : Array Oper) (Inv : List ABlk -> Prop) (A : List AE) (Nx : (Nat -> DV) -> List ABlk -> Prop) : List (Nat × Oper × Bool) -> (Nat -> DV) -> List ABlk -> Prop
 | [], φ, σ => Nx φ σ
 | (j, o, true) :: l, φ, σ => ∃ d, (∀ σ, Inv σ -> YA P G B n ops σ o d φ) /\ PMix P G B n ops Inv A Nx l (ZT o.dst d φ) σ
 | (j, o, false) :: l, φ, σ => (∀ s, o.dst = some s -> s < n) /\ Wd n ops o φ true /\ ∀ ss, ss.length = A.length -> OpSem P G B o (aevF G φ) (σ ++ ss) (fun d τ => ∃ σ', τ = σ' ++ ss /\ σ'.length = σ.length /\ Inv τ /\ PMix P G B n ops Inv A Nx l (ZT o.dst d φ) σ')
def pend (A : List AE) (p : Nat -> Bool) : Nat := (A.filter fun a => !p a.idx).length
theorem okTmp_spec {A : List AE} {j : Nat} {o : Oper} (ho : ops[j]? = some o) (h : okTmp A ops j = true) : (∀ t ∈ o.looksAt ops, (A.map AE.tmp).contains t = false) /\ ∀ t, o.dst = some t -> (A.map AE.tmp).contains t = false := by
 unfold okTmp at h
 rw [ho] at h
 simp only [Bool.and_eq_true] at h
 refine ⟨fun t ht => by simpa using List.all_eq_true.1 h.1 t ht, fun t ht => ?_⟩
 have := h.2
 rw [ht] at this
 simpa using this
theorem AC.upd {B b : Nat} {A : List AE} {p : Nat -> Bool} {φ : Nat -> DV} {ss : List ABlk} (h : AC B b A p φ ss) {dst : Option Tmp} {d : DV} (hd : ∀ t, dst = some t -> (A.map AE.tmp).contains t = false) : AC B b A p (ZT dst d φ) ss := by
 refine ⟨h.1, fun j a ha => ⟨fun hp => ?_, (h.2 j a ha).2⟩⟩
 obtain ⟨g, h1, h2, h3⟩ := (h.2 j a ha).1 hp
 refine ⟨g, h1, ?_, h3⟩
 cases dst with
 | none => exact h2
 | some t =>
  have := hd t rfl
  have hne : t ≠ a.tmp := fun e => by
   rw [e] at this
   have : a.tmp ∉ A.map AE.tmp := by simpa using this
   exact this (List.mem_map.2 ⟨a, List.mem_of_getElem? ha, rfl⟩)
  simp only [ZT, if_neg hne]
  exact h2
theorem Same.upd {A : List AE} {φ φ' : Nat -> DV} (h : Same A φ φ') (dst : Option Tmp) (d : DV) : Same A (ZT dst d φ) (ZT dst d φ') := fun i hi => by
 cases dst with
 | none => exact h i hi
 | some t =>
   simp only [ZT]; split
   ·rfl
   ·exact h i hi
theorem pend_put {A : List AE} (hnd : (A.map AE.idx).Nodup) {p : Nat -> Bool} {a : AE} (ha : a ∈ A) (hp : p a.idx = false) : pend A p = pend A (fun x => Nat.beq x a.idx || p x) + 1 := by
 unfold pend
 induction A with
 | nil => cases ha
 | cons c A ih =>
  simp only [List.map_cons, List.nodup_cons] at hnd
  rcases List.mem_cons.1 ha with rfl | ha
  ·have e : A.filter (fun x => !p x.idx) = A.filter (fun x => !(Nat.beq x.idx a.idx || p x.idx)) := by
    refine List.filter_congr fun x hx => ?_
    have : Nat.beq x.idx a.idx = false := by
     cases hb : Nat.beq x.idx a.idx
     ·rfl
     ·exact absurd (List.mem_map.2 ⟨x, hx, Nat.eq_of_beq_eq_true hb⟩) hnd.1
    rw [this]; rfl
   rw [List.filter_cons_of_pos (by simp [hp]), List.filter_cons_of_neg (by simp), List.length_cons, e]
  ·have hne : c.idx ≠ a.idx := fun e => hnd.1 (List.mem_map.2 ⟨a, ha, e.symm⟩)
   have hb : Nat.beq c.idx a.idx = false := by
    cases hb : Nat.beq c.idx a.idx
    ·rfl
    ·exact absurd (Nat.eq_of_beq_eq_true hb) hne
   have := ih hnd.2 ha
   cases hc : p c.idx
   ·rw [List.filter_cons_of_pos (by simp [hc]), List.filter_cons_of_pos (by simp [hc, hb]), List.length_cons, List.length_cons, this]
   ·rw [List.filter_cons_of_neg (by simp [hc]), List.filter_cons_of_neg (by simp [hc]), this]
theorem anyI_pmix {B : Nat} {A : List AE} {js2 : List (Nat × Bool)} {b : Nat} (hA : ∀ a ∈ A, AllocOk P G B n ops a) (hnd : (A.map AE.idx).Nodup) (hndt : (A.map AE.tmp).Nodup)
  (hInv : ∀ σ k B, Inv σ -> Inv (σ.set (k + b) B))
  {Nx : (Nat -> DV) -> List ABlk -> Prop} (hNx : ∀ (listed : Array Bool) (φ φ' : Nat -> DV) (σ ss : List ABlk), Nx φ σ -> σ.length = b -> Same A φ φ' -> AC B b A (fun _ => true) φ' ss -> Inv (σ ++ ss) -> Closed md ops (lst A (fun _ => true) listed) -> mixB md ops js2 (lst A (fun _ => true) listed) = true -> anyI P G B n md ops Fin Inv ops.size js2.length (lst A (fun _ => true) listed) φ' (σ ++ ss)) :
  ∀ (js : List (Nat × Bool)) (l : List (Nat × Oper × Bool)) (q : Nat) (listed : Array Bool) (p : Nat -> Bool) (φ φ' : Nat -> DV) (σ ss : List ABlk), pend A p = q -> js.map (fun x => (x.1, ops[x.1]?, x.2)) = l.map (fun x => (x.1, some x.2.1, x.2.2)) -> Closed md ops (lst A p listed) -> mixA md ops A js js2 listed = true ->
   σ.length = b -> Same A φ φ' -> AC B b A p φ' ss -> Inv (σ ++ ss) -> PMix P G B n ops Inv A Nx l φ σ -> anyI P G B n md ops Fin Inv ops.size (js.length + q + js2.length) (lst A p listed) φ' (σ ++ ss) := by
 have hzl : lastB md ops ops.size = true := by unfold lastB; rw [Array.getElem?_eq_none (Nat.le_refl _)]
 -- a variable is made
 have alloc : ∀ (f q : Nat) (listed : Array Bool) (p : Nat -> Bool) (φ φ' : Nat -> DV) (σ ss : List ABlk) (i : Nat), pend A p = q + 1 -> σ.length = b -> Same A φ φ' -> AC B b A p φ' ss -> Inv (σ ++ ss) -> (A.map AE.idx).contains i = true -> p i = false ->
   (∀ (p' : Nat -> Bool) (φ'' : Nat -> DV) (ss' : List ABlk), pend A p' = q -> (lst A p listed).setIfInBounds i true = lst A p' listed -> Same A φ φ'' -> AC B b A p' φ'' ss' -> Inv (σ ++ ss') -> anyI P G B n md ops Fin Inv ops.size f (lst A p' listed) φ'' (σ ++ ss')) ->
   ∃ o, ops[i]? = some o /\ (∀ s, o.dst = some s -> s < n) /\ ((Wd n ops o φ' true /\ OpSem P G B o (aevF G φ') (σ ++ ss) (fun d σ' => (i ≠ ops.size -> Inv σ') /\ anyI P G B n md ops Fin Inv ops.size f ((lst A p listed).setIfInBounds i true) (ZT o.dst d φ') σ')) \/
   (Wd n ops o φ' false /\ anyI P G B n md ops Fin Inv ops.size f ((lst A p listed).setIfInBounds i true) (ZT o.dst (.sc undef) φ') (σ ++ ss))) := by
  intro f q listed p φ φ' σ ss i hq hb hsame hac hI hi hpi ih
  obtain ⟨a, ha, hai⟩ := List.mem_map.1 (List.contains_iff_mem.1 hi)
  subst hai
  obtain ⟨j, hj, hja⟩ := List.getElem_of_mem ha
  have hja' : A[j]? = some a := by rw [List.getElem?_eq_getElem hj, hja]
  obtain ⟨h1, o, h2, h3, h4, h5⟩ := hA a ha
  refine ⟨o, h2, fun s hs => by rw [h3] at hs; cases hs; exact h1, .inl ⟨by unfold Wd; rw [h4], ?_⟩⟩
  have hgone := (hac.2 j a hja').2 hpi
  refine h5 φ' (σ ++ ss) (b + j) _ (by rw [<- hb, List.getElem?_append_right (by omega), show σ.length + j - σ.length = j by omega]; exact hgone) fun g hg => ?_
  have hset : (σ ++ ss).set (b + j) (.row g (a.zs.map .sc)) = σ ++ ss.set j (.row g (a.zs.map .sc)) := by
   rw [<- hb, List.set_append_right _ _ (by omega), show σ.length + j - σ.length = j by omega]
  have hInv' : Inv (σ ++ ss.set j (.row g (a.zs.map .sc))) := by
   have := hInv (σ ++ ss) j (.row g (a.zs.map .sc)) hI
   rwa [Nat.add_comm, hset] at this
  rw [hset]
  refine ⟨fun _ => hInv', ?_⟩
  rw [lst_put hi]
  refine ih _ _ _ ?_ (lst_put hi) ?_ ?_ hInv'
  ·have := pend_put hnd ha hpi; omega
  ·intro i hi'
   rw [h3]
   have hne : a.tmp ≠ i := fun e => by
    have : i ∉ A.map AE.tmp := by simpa using hi'
    exact this (e ▸ List.mem_map.2 ⟨a, ha, rfl⟩)
   simp only [ZT, if_neg hne]
   exact hsame i hi'
  ·refine ⟨by rw [List.length_set]; exact hac.1, fun j' a' ha' => ?_⟩
   by_cases hjj : j' = j
   ·subst hjj
    rw [hja'] at ha'; cases ha'
    refine ⟨fun _ => ⟨g, hg, by rw [h3]; simp [ZT], by simp [hac.1, hj]⟩, fun hp => by simp at hp⟩
   ·have hidx : a'.idx ≠ a.idx := fun e => hjj (by
     have hj' := (List.getElem?_eq_some_iff.1 ha').1
     have e1 : (A.map AE.idx)[j']'(by simpa using hj') = (A.map AE.idx)[j]'(by simpa using hj) := by
      simp only [List.getElem_map, hja, (List.getElem?_eq_some_iff.1 ha').2]; exact e
     exact (List.getElem_inj hnd).1 e1)
    have htmp : a.tmp ≠ a'.tmp := fun e => hjj (by
     have hj' := (List.getElem?_eq_some_iff.1 ha').1
     have e1 : (A.map AE.tmp)[j']'(by simpa using hj') = (A.map AE.tmp)[j]'(by simpa using hj) := by
      simp only [List.getElem_map, hja, (List.getElem?_eq_some_iff.1 ha').2]; exact e.symm
     exact (List.getElem_inj hndt).1 e1)
    have hb' : Nat.beq a'.idx a.idx = false := by
     cases hb : Nat.beq a'.idx a.idx
     ·rfl
     ·exact absurd (Nat.eq_of_beq_eq_true hb) hidx
    simp only [hb', Bool.false_or]
    refine ⟨fun hp => ?_, fun hp => ?_⟩
    ·obtain ⟨g', k1, k2, k3⟩ := (hac.2 j' a' ha').1 hp
     refine ⟨g', k1, by rw [h3]; simp only [ZT, if_neg htmp]; exact k2, by rw [List.getElem?_set_ne (fun e => hjj e.symm)]; exact k3⟩
    ·rw [List.getElem?_set_ne (fun e => hjj e.symm)]; exact (hac.2 j' a' ha').2 hp
 have pos : ∀ (p : Nat -> Bool) (i : Nat), (A.map AE.idx).contains i = true -> p i = false -> ∃ q, pend A p = q + 1 := fun p i hi hpi => by
  obtain ⟨a, ha, rfl⟩ := List.mem_map.1 (List.contains_iff_mem.1 hi)
  exact ⟨_, pend_put hnd ha hpi⟩
 have mem : ∀ {p : Nat -> Bool} {listed : Array Bool} {i : Nat}, (A.map AE.idx).contains i = true -> Closed md ops (lst A p listed) -> i ∈ Region.ready md ops (lst A p listed) -> Closed md ops ((lst A p listed).setIfInBounds i true) := fun _ hc hr => hc.step hr
 intro js
 induction js with
 | nil =>
  intro l q
  induction q with
  | zero =>
   intro listed p φ φ' σ ss hq he hc hB hb hsame hac hI h
   have hl : l = [] := by cases l with | nil => rfl | cons _ _ => simp at he
   subst hl
   simp only [mixA, Bool.and_eq_true] at hB
   have hall : ∀ a ∈ A, p a.idx = true := fun a ha => by
    cases hp : p a.idx
    ·have := pend_put hnd ha hp; omega
    ·rfl
   have hlst : lst A p listed = lst A (fun _ => true) listed := by
    unfold lst
    apply Array.ext (by simp)
    intro i h1 h2
    simp only [Array.getElem_mapIdx]
    cases hci : (A.map AE.idx).contains i
    ·rfl
    ·obtain ⟨a, ha, rfl⟩ := List.mem_map.1 (List.contains_iff_mem.1 hci)
     rw [hall a ha]
   rw [hlst] at hc ⊢
   have := hNx listed φ φ' σ ss h hb hsame ⟨hac.1, fun j a ha => ⟨fun _ => (hac.2 j a ha).1 (hall a (List.mem_of_getElem? ha)), fun h => by cases h⟩⟩ hI hc hB.2
   simpa using this
  | succ q ihq =>
   intro listed p φ φ' σ ss hq he hc hB hb hsame hac hI h
   have hl : l = [] := by cases l with | nil => rfl | cons _ _ => simp at he
   have hB0 := hB
   simp only [mixA, Bool.and_eq_true] at hB
   have hs := allP_spec hB.1 p
   rw [lst_restrict] at hs
   simp only [Bool.or_eq_true, Bool.and_eq_true] at hs
   have hnot : ¬ ((A.map AE.idx).all (fun x => (A.map AE.idx).contains x && p x) = true) := fun hall => by
    have : pend A p = 0 := by
     unfold pend
     rw [List.length_eq_zero_iff, List.filter_eq_nil_iff]
     intro a ha
     have := List.all_eq_true.1 hall a.idx (List.mem_map.2 ⟨a, ha, rfl⟩)
     simp only [Bool.and_eq_true] at this
     simp [this.2]
    omega
   obtain ⟨hr1, hr2⟩ := hs.resolve_left hnot
   rw [show ([] : List (Nat × Bool)).length + (q + 1) + js2.length = (([] : List (Nat × Bool)).length + q + js2.length) + 1 by simp; omega]
   refine ⟨fun h0 => by rw [h0] at hr2; simp at hr2, fun i hi => ?_⟩
   have h1 := List.all_eq_true.1 hr1 i hi
   simp only [Bool.and_eq_true, Bool.not_eq_true', Bool.and_eq_false_iff] at h1
   have hpi : p i = false := by
     rcases h1.2 with h2 | h2
     ·rw [h1.1] at h2; cases h2
     ·exact h2
   refine alloc _ q listed p φ φ' σ ss i hq hb hsame hac hI h1.1 hpi fun p' φ'' ss' hq' hl' hs' hac' hI' => ?_
   exact ihq listed p' φ φ'' σ ss' hq' he (by rw [<- hl']; exact mem h1.1 hc hi) hB0 hb hs' hac' hI' h
 | cons jb js ihj =>
  obtain ⟨j, bb⟩ := jb
  intro l
  match l with
  | [] => intro q listed p φ φ' σ ss hq he; simp at he
  | (j', o, b') :: l =>
  cases bb with
  | true =>
   intro q listed p φ φ' σ ss hq he hc hB hb hsame hac hI h
   simp only [List.map_cons, List.cons.injEq, Prod.mk.injEq] at he
   obtain ⟨⟨rfl, ho, rfl⟩, he⟩ := he
   simp only [mixA, Bool.and_eq_true, Bool.not_eq_true'] at hB
   obtain ⟨⟨⟨hB1, hB2⟩, hB3⟩, hB4⟩ := hB
   have hs := allP_spec hB1 p
   rw [lst_restrict] at hs
   simp only [Bool.and_eq_true] at hs
   obtain ⟨d, hy, hK⟩ := h
   obtain ⟨t1, t2⟩ := okTmp_spec ho hB3
   have hr : j ∈ Region.ready md ops (lst A p listed) := by simpa using hs.1
   have hjs : j < ops.size := (Array.getElem?_eq_some_iff.1 ho).1
   rw [show (List.length ((j, true) :: js)) + q + js2.length = (js.length + q + js2.length) + 1 by simp; omega]
   refine anyI_first ho hzl (by omega) _ (lst A p listed) φ' (σ ++ ss) hc (Region.free_spec ho hs.2) hr (fun σ hσ => (hy σ hσ).same fun t ht => hsame t (t1 t ht)) hI ?_
   rw [lst_set hB2]
   exact ihj l q _ p _ _ σ ss hq he (by rw [<- lst_set hB2]; exact hc.step hr) hB4 hb (hsame.upd _ _) (hac.upd t2) hI hK
  | false =>
   intro q
   induction q with
   | zero =>
    intro listed p φ φ' σ ss hq he hc hB hb hsame hac hI h
    have he0 := he
    simp only [List.map_cons, List.cons.injEq, Prod.mk.injEq] at he
    obtain ⟨⟨rfl, ho, rfl⟩, he⟩ := he
    simp only [mixA, Bool.and_eq_true, Bool.not_eq_true'] at hB
    obtain ⟨⟨⟨hB1, hB2⟩, hB3⟩, hB4⟩ := hB
    have hs := allP_spec hB1 p
    rw [lst_restrict] at hs
    simp only [Bool.and_eq_true] at hs
    obtain ⟨hd, hw, hK⟩ := h
    obtain ⟨t1, t2⟩ := okTmp_spec ho hB3
    have hr : j ∈ Region.ready md ops (lst A p listed) := by simpa using hs.1
    rw [show (List.length ((j, false) :: js)) + 0 + js2.length = (js.length + 0 + js2.length) + 1 by simp; omega]
    refine ⟨fun h0 => (by rw [h0] at hr; cases hr), fun i hi => ?_⟩
    have h1 := List.all_eq_true.1 hs.2 i hi
    simp only [Bool.or_eq_true, Bool.and_eq_true] at h1
    rcases h1 with h1 | ⟨h1, h2⟩
    ·obtain rfl := Nat.eq_of_beq_eq_true h1
     refine ⟨o, ho, hd, .inl ⟨hw.same fun t ht => hsame t (t1 t ht), ((hK ss hac.1).same fun x hx => ?_).mono fun d τ ⟨σ', e1, e2, e3, e4⟩ => ?_⟩⟩
     ·cases x with
      | tmp t => exact hsame t (t1 t (List.mem_append_left _ (List.mem_filterMap.2 ⟨.tmp t, by simpa using hx, rfl⟩)))
      | _ => rfl
     ·refine ⟨fun _ => e3, ?_⟩
      subst e1
      rw [lst_set hB2]
      exact ihj l 0 _ p _ _ σ' ss hq he (by rw [<- lst_set hB2]; exact hc.step hi) hB4 (e2.trans hb) (hsame.upd _ _) (hac.upd t2) e3 e4
    ·exfalso
     have hpi : p i = false := by rw [h1] at h2; simpa using h2
     obtain ⟨q, hq'⟩ := pos p i h1 hpi
     omega
   | succ q ihq =>
    intro listed p φ φ' σ ss hq he hc hB hb hsame hac hI h
    have he0 := he
    have hB0 := hB
    have h0 := h
    simp only [List.map_cons, List.cons.injEq, Prod.mk.injEq] at he
    obtain ⟨⟨rfl, ho, rfl⟩, he⟩ := he
    simp only [mixA, Bool.and_eq_true, Bool.not_eq_true'] at hB
    obtain ⟨⟨⟨hB1, hB2⟩, hB3⟩, hB4⟩ := hB
    have hs := allP_spec hB1 p
    rw [lst_restrict] at hs
    simp only [Bool.and_eq_true] at hs
    obtain ⟨hd, hw, hK⟩ := h
    obtain ⟨t1, t2⟩ := okTmp_spec ho hB3
    have hr : j ∈ Region.ready md ops (lst A p listed) := by simpa using hs.1
    rw [show (List.length ((j, false) :: js)) + (q + 1) + js2.length = (js.length + (q + 1) + js2.length) + 1 by simp; omega]
    refine ⟨fun h0 => (by rw [h0] at hr; cases hr), fun i hi => ?_⟩
    have h1 := List.all_eq_true.1 hs.2 i hi
    simp only [Bool.or_eq_true, Bool.and_eq_true] at h1
    rcases h1 with h1 | ⟨h1, h2⟩
    ·obtain rfl := Nat.eq_of_beq_eq_true h1
     refine ⟨o, ho, hd, .inl ⟨hw.same fun t ht => hsame t (t1 t ht), ((hK ss hac.1).same fun x hx => ?_).mono fun d τ ⟨σ', e1, e2, e3, e4⟩ => ?_⟩⟩
     ·cases x with
      | tmp t => exact hsame t (t1 t (List.mem_append_left _ (List.mem_filterMap.2 ⟨.tmp t, by simpa using hx, rfl⟩)))
      | _ => rfl
     ·refine ⟨fun _ => e3, ?_⟩
      subst e1
      rw [lst_set hB2]
      exact ihj l (q + 1) _ p _ _ σ' ss hq he (by rw [<- lst_set hB2]; exact hc.step hi) hB4 (e2.trans hb) (hsame.upd _ _) (hac.upd t2) e3 e4
    ·have hpi : p i = false := by rw [h1] at h2; simpa using h2
     rw [show js.length + (q + 1) + js2.length = (js.length + 1 + q + js2.length) by omega]
     refine alloc _ q listed p φ φ' σ ss i hq hb hsame hac hI h1 hpi fun p' φ'' ss' hq' hl' hs' hac' hI' => ?_
     have := ihq listed p' φ φ'' σ ss' hq' he0 (by rw [<- hl']; exact mem h1 hc hi) hB0 hb hs' hac' hI' h0
     simpa [Nat.add_assoc, Nat.add_comm, Nat.add_left_comm] using this
variable {E : AX} {N : ASt -> Prop} {xs : List (Nat × (ASt -> Prop))} {R : ASt -> Prop} {σ : List ABlk} {t : Fr}
theorem allocOk_of {B : Nat} {i tm : Nat} {ty : TypeId} {zs : List Value} {type : TypeId} {pos : String} {after : Array Edge} [hz : TyZ P ty zs] (h : ops[i]? = some ⟨some tm, .alloc ty, type, pos, after, none⟩) (hn : Nat.blt tm n = true) : AllocOk P G B n ops ⟨i, tm, zs⟩ :=
 ⟨Nat.ble_eq.mp hn, _, h, rfl, rfl, fun φ σ k K hk kk => s_alloc_at hk kk⟩
theorem r_drawa {ι : Type} (I : ι -> List ABlk) (w : ι -> Nat -> ABlk -> ι) (A : List AE) (js js2 : List (Nat × Bool)) {id : Nat} {l : List Oper} {m m2 : List (Nat × Oper × Bool)} (hp : pickI l js = some m) (hp2 : pickI l js2 = some m2) (hl : Nat.beq (js.length + A.length + js2.length) l.length = true) (hm : P.follows .mixedOrders = true)
  (hB : mixA .any l.toArray A js js2 (Array.replicate l.toArray.size false) = true) (hnd : (A.map AE.idx).Nodup) (hndt : (A.map AE.tmp).Nodup) (hI : ∃ p, σ ++ List.replicate A.length .gone = I p) (hw : ∀ p k B, (I p).set (k + σ.length) B = I (w p k B))
  (hA : ∀ a ∈ A, AllocOk P G E.N n l.toArray a)
  (h : PMix P G E.N n l.toArray (fun σ => ∃ p, σ = I p) A (fun φ σ' => ∀ φ' ss, Same A φ φ' -> AC E.N σ.length A (fun _ => true) φ' ss -> (∃ p, σ' ++ ss = I p) -> IMix P G E.N n l.toArray (fun φ σ => ∃ t', (∀ i, Ws t' i = .any \/ Ws t' i = φ i) /\ N ⟨t', σ⟩) (fun σ => ∃ p, σ = I p) l.toArray.size m2 φ' (σ' ++ ss)) m (Ws t) σ) : WB P G E n (.region id l.toArray true) N xs R ⟨t, σ⟩ := fun a wd hr => by
 have hr' : RelF G E n (Ws t) (σ ++ List.replicate A.length .gone) a { wd with drawn := wd.drawn + 1 } := by
  obtain ⟨X, e1, e2, e3, e4, e5, e6, e7, e8⟩ := hr
  have hk := Keep.drew X.w
  subst e1
  have hgo : ∀ (k : Nat) (B : ABlk), (X.σ ++ List.replicate A.length .gone)[k]? = some B -> B = .gone \/ X.σ[k]? = some B := fun k B hB => by
   rw [List.getElem?_append] at hB
   split at hB
   ·exact .inr hB
   ·exact .inl (by
     have := List.mem_of_getElem? hB
     exact List.eq_of_mem_replicate this)
  have hlv : ∀ (k : Nat) (g : Nat), ((X.σ ++ List.replicate A.length .gone)[k]?).bind ABlk.gen? = some g -> X.live k g := fun k g hg => by
   cases hB : (X.σ ++ List.replicate A.length .gone)[k]? with
   | none => simp [hB] at hg
   | some B =>
    rw [hB] at hg
    rcases hgo k B hB with rfl | h'
    ·cases hg
    ·unfold AX.live; rw [h']; exact hg
  have hx := WExt.shrink (X := X) hlv
  have hS := e3.shrink hgo
  have e2 : X.σ = σ := e2
  subst e2
  let Z : AX := { X with σ := X.σ ++ List.replicate A.length .gone }
  have hk' : Keep Z.w Z.w.drew := hk
  have hxZ : WExt X Z := hx
  exact ⟨Z.inW Z.w.drew, rfl, rfl, Sto.inW (X := Z) hS hk', (e4.trans hxZ).trans (WExt.inW hk'), (e5.ext hxZ).ext (WExt.inW hk'), e6, e7, fun i => ((e8 i).ext hxZ).ext (WExt.inW hk')⟩
 have hcl : Closed .any l.toArray (lst A (fun _ => false) (Array.replicate l.toArray.size false)) := fun j o _ hl => by
  simp only [Array.getD_eq_getD_getElem?, lst_get] at hl
  cases hj : (Array.replicate l.toArray.size false)[j]? with
  | none => rw [hj] at hl; simp at hl
  | some b =>
   rw [hj] at hl
   have hb : b = false := by
    have := Array.mem_of_getElem? hj
    exact (Array.mem_replicate.1 this).2
   subst hb
   simp at hl
 have hz : lastB .any l.toArray l.toArray.size = true := by unfold lastB; rw [Array.getElem?_eq_none (Nat.le_refl _)]
 have hany := anyI_pmix (md := .any) (Fin := fun φ σ => ∃ t', (∀ i, Ws t' i = .any \/ Ws t' i = φ i) /\ N ⟨t', σ⟩) (Inv := fun σ => ∃ p, σ = I p) (js2 := js2) (b := σ.length) hA hnd hndt
  (fun σ' k B ⟨p, hp⟩ => ⟨w p k B, by rw [hp]; exact hw p k B⟩)
  (fun listed φ φ' σ' ss hN hb hs hac hI hc hB => anyI_mix hz js2 m2 _ φ' (σ' ++ ss) (pickI_eq hp2) hc hB (fun _ => hI) (hN φ' ss hs hac hI))
  js m A.length (Array.replicate l.toArray.size false) (fun _ => false) (Ws t) (Ws t) σ (List.replicate A.length .gone) (by simp [pend]) (pickI_eq hp) hcl hB rfl (fun _ _ => rfl)
  ⟨by simp, fun j a ha => ⟨fun h => (by cases h), fun _ => (by rw [List.getElem?_replicate, if_pos (List.getElem?_eq_some_iff.1 ha).1])⟩⟩ hI h
 have hlst0 : lst A (fun _ => false) (Array.replicate l.toArray.size false) = Array.replicate l.toArray.size false := by
  apply Array.ext_getElem?
  intro j
  rw [lst_get]
  cases (Array.replicate l.toArray.size false)[j]? with
  | none => rfl
  | some b => simp
 rw [hlst0, Nat.eq_of_beq_eq_true hl, show l.length = l.toArray.size from by simp] at hany
 refine wp_mono (wp_region_any hm (anyI_run _ _ _ _ hany a _ hr')) fun e a' w' ⟨he, φ, σ', ⟨X, e1, e2, e3, e4, e5, e6, e7, e8⟩, t', ht', hN⟩ => ?_
 subst he
 refine ⟨⟨t', σ'⟩, ⟨X, e1, e2, e3, e4, e5, e6, e7, fun i => ?_⟩, hN⟩
 rcases ht' i with h' | h'
 ·rw [h']; exact .any _
 ·rw [h']; exact e8 i
variable {B : Nat} {l : List (Nat × Oper × Bool)} {ι : Type} {I : ι -> List ABlk} {j : Nat} {A : List AE} {Nx : (Nat -> DV) -> List ABlk -> Prop}
theorem p_st {i : Tmp} {op : Op} {type : TypeId} {pos : String} {after : Array Edge} {d : DV} (hd : Nat.blt i n = true) (h : ∀ p, OpSem P G B ⟨some i, op, type, pos, after, none⟩ (aev G t) (I p) (fun d' s => d' = d /\ s = I p)) (k : PMix P G B n ops (fun σ => ∃ p, σ = I p) A Nx l (Ws ((i, d) :: t)) σ) :
  PMix P G B n ops (fun σ => ∃ p, σ = I p) A Nx ((j, ⟨some i, op, type, pos, after, none⟩, true) :: l) (Ws t) σ := by
 refine ⟨d, fun σ' ⟨p, hp⟩ => ⟨fun j hj => (by cases hj; exact Nat.ble_eq.mp hd), .inl ⟨rfl, by rw [Zr, hp]; exact h p⟩⟩, ?_⟩
 rw [qe] at k; exact k
theorem p_ef {i : Tmp} {op : Op} {type : TypeId} {pos : String} {after : Array Edge} (hd : Nat.blt i n = true) (h : ∀ ss, ss.length = A.length -> OpSem P G B ⟨some i, op, type, pos, after, none⟩ (aev G t) (σ ++ ss) (fun d τ => ∃ σ', τ = σ' ++ ss /\ σ'.length = σ.length /\ (∃ p, τ = I p) /\ PMix P G B n ops (fun σ => ∃ p, σ = I p) A Nx l (Ws ((i, d) :: t)) σ')) :
  PMix P G B n ops (fun σ => ∃ p, σ = I p) A Nx ((j, ⟨some i, op, type, pos, after, none⟩, false) :: l) (Ws t) σ := by
 refine ⟨fun j hj => by cases hj; exact Nat.ble_eq.mp hd, rfl, fun ss hss => ?_⟩
 rw [Zr]
 exact (h ss hss).mono fun d τ ⟨σ', k1, k2, k3, k⟩ => ⟨σ', k1, k2, k3, by rw [qe] at k; exact k⟩
theorem p_nil3 {b : Nat} {i1 i2 i3 t1 t2 t3 : Nat} {z1 z2 z3 : List Value} {F : (Nat -> DV) -> List ABlk -> Prop} (h12 : Nat.beq t1 t2 = false) (h13 : Nat.beq t1 t3 = false) (h23 : Nat.beq t2 t3 = false)
  (h : ∀ g1 g2 g3, B < g1 -> B < g2 -> B < g3 -> F (Ws ((t3, .ptr (b + 2) g3 0) :: (t2, .ptr (b + 1) g2 0) :: (t1, .ptr b g1 0) :: t)) (σ ++ [.row g1 (z1.map .sc), .row g2 (z2.map .sc), .row g3 (z3.map .sc)])) :
  PMix P G B n ops (fun σ => ∃ p, σ = I p) [⟨i1, t1, z1⟩, ⟨i2, t2, z2⟩, ⟨i3, t3, z3⟩] (fun φ σ' => ∀ φ' ss, Same [⟨i1, t1, z1⟩, ⟨i2, t2, z2⟩, ⟨i3, t3, z3⟩] φ φ' -> AC B b [⟨i1, t1, z1⟩, ⟨i2, t2, z2⟩, ⟨i3, t3, z3⟩] (fun _ => true) φ' ss -> (∃ p, σ' ++ ss = I p) -> F φ' (σ' ++ ss)) [] (Ws t) σ := by
 intro φ' ss hs ⟨hl, hac⟩ _
 obtain ⟨g1, k1, p1, s1⟩ := (hac 0 _ rfl).1 rfl
 obtain ⟨g2, k2, p2, s2⟩ := (hac 1 _ rfl).1 rfl
 obtain ⟨g3, k3, p3, s3⟩ := (hac 2 _ rfl).1 rfl
 have hss : ss = [.row g1 (z1.map .sc), .row g2 (z2.map .sc), .row g3 (z3.map .sc)] := by
  match ss, hl with
  | [a, b, c], _ => simp at s1 s2 s3; rw [s1, s2, s3]
 have hφ : φ' = Ws ((t3, .ptr (b + 2) g3 0) :: (t2, .ptr (b + 1) g2 0) :: (t1, .ptr b g1 0) :: t) := by
  funext i
  simp only [Ws]
  cases e3 : Nat.beq t3 i with
  | true => have := Nat.eq_of_beq_eq_true e3; subst this; exact p3
  | false =>
   cases e2 : Nat.beq t2 i with
   | true => have := Nat.eq_of_beq_eq_true e2; subst this; exact p2
   | false =>
    cases e1 : Nat.beq t1 i with
    | true => have := Nat.eq_of_beq_eq_true e1; subst this; exact p1
    | false =>
     refine hs i ?_
     have n3 : i ≠ t3 := fun e => by subst e; simp at e3
     have n2 : i ≠ t2 := fun e => by subst e; simp at e2
     have n1 : i ≠ t1 := fun e => by subst e; simp at e1
     simp [n1, n2, n3]
 rw [hφ, hss]
 exact h g1 g2 g3 k1 k2 k3
end
end Go.Av
end
section
namespace Go.Proofs
open Go.Av
variable {G : Nat -> DV}
attribute [local irreducible] OpSem WB WQ WW ACalls Zo QY RV
open Go.Bl
def WG (k n m : Int) (l : List Int) (M : List (Int × Int)) : Int × List (Int × Int) :=
 if k = 4 then (if l = [] /\ -8 <= n /\ n <= 7 then 0 else -1, M)
 else if k = 5 then (if l = [] /\ (n = 0 \/ n = 1) then 1 else -1, M)
 else if k = 6 then (if l = [] /\ 0 <= n /\ n <= 63 /\ (m = 0 \/ m = 1) then (if (W8 M n).isSome = true /\ (W8 M n).getD 0 ≠ m then (-1, M) else (m, putI M n m)) else (-1, M))
 else if k = 9 then (if 0 <= n /\ n < 12 /\ l = [0, 0] then (if truthM n = true then 1 else 0) else if (n = 12 \/ n = 13) /\ l = [1, 1] then 1 else -1, M)
 else if k = 10 then (if n = 0 /\ l = [1] then 1 else -1, M)
 else if k = 29 then (if n = 0 /\ l.length = 3 /\ l.getD 0 0 = 1 /\ l.getD 1 0 = l.getD 2 0 then l.getD 1 0 else -1, M)
 else (-1, M)
mutual
def Wq : Nd -> List (Int × Int) -> Int × List (Int × Int)
 | .mk k n m ks, M => if m ≠ 0 /\ k ≠ 6 then (-1, M) else match Wx ks M with
  | (none, M') => (-1, M')
  | (some l, M') => WG k n m l M'
def Wx : List Nd -> List (Int × Int) -> Option (List Int) × List (Int × Int)
 | [], M => (some [], M)
 | x :: r, M => if (Wq x M).1 < 0 then (none, (Wq x M).2) else match Wx r (Wq x M).2 with
  | (none, M') => (none, M')
  | (some l, M') => (some ((Wq x M).1 :: l), M')
end
theorem ctyL_snoc (x : Nd) : ∀ (a : List Nd) (M : List (Int × Int)), Wx (a ++ [x]) M = match Wx a M with
  | (none, M') => (none, M')
  | (some l, M') => if (Wq x M').1 < 0 then (none, (Wq x M').2) else (some (l ++ [(Wq x M').1]), (Wq x M').2)
 | [], M => by
  simp only [List.nil_append, Wx]
 | y :: r, M => by
  rw [List.cons_append, Wx, Wx]
  split
  ·rfl
  ·rw [ctyL_snoc x r]
   rcases Wx r (Wq y M).2 with ⟨_ | l, M'⟩
   ·rfl
   ·show _ = (if (Wq x M').1 < 0 then ((none : Option (List Int)), (Wq x M').2) else (some (((Wq y M).1 :: l) ++ [(Wq x M').1]), (Wq x M').2))
    by_cases h : (Wq x M').1 < 0
    ·simp only [if_pos h]
    ·simp only [if_neg h]; rfl
theorem ZI : ∀ (a : List Nd) (M : List (Int × Int)) (l : List Int) (M' : List (Int × Int)), Wx a M = (some l, M') -> l.length = a.length
 | [], M, l, M', h => by cases h; rfl
 | y :: r, M, l, M', h => by
  rw [Wx] at h
  split at h
  ·cases h
  ·rcases he : Wx r (Wq y M).2 with ⟨_ | l', M''⟩
   ·rw [he] at h; cases h
   ·rw [he] at h
    cases h
    rw [List.length_cons, List.length_cons, ZI r _ l' _ he]
theorem ctyL_none {a : List Nd} {M M' : List (Int × Int)} (h : Wx a M = (none, M')) (b : List Nd) : Wx (a ++ b) M = (none, M') := by
 induction a generalizing M with
 | nil => cases h
 | cons y r ih =>
  rw [List.cons_append, Wx]
  rw [Wx] at h
  split
  ·rename_i h1
   rw [if_pos h1] at h
   exact h
  ·rename_i h1
   rw [if_neg h1] at h
   rcases he : Wx r (Wq y M).2 with ⟨_ | l', M''⟩
   ·rw [he] at h
    cases h
    rw [ih he]
   ·rw [he] at h; cases h
def Q6 (ks : List Nd) (M : List (Int × Int)) (i : Nat) : List Int := ((Wx (ks.take i) M).1.getD []) ++ List.replicate (ks.length - i) 0
theorem ZD {ks : List Nd} {M : List (Int × Int)} {i : Nat} (hi : i <= ks.length) (h : (Wx (ks.take i) M).1.isSome = true) : (Q6 ks M i).length = ks.length := by
 unfold Q6
 rcases he : Wx (ks.take i) M with ⟨_ | l, M'⟩
 ·rw [he] at h; cases h
 ·have := ZI _ _ _ _ he
  rw [List.length_take] at this
  simp; omega
theorem Z0 {ks : List Nd} {M : List (Int × Int)} {i : Nat} (hi : i < ks.length) (h : (Wx (ks.take i) M).1.isSome = true) :
  ((Wq ks[i] (Wx (ks.take i) M).2).1 < 0 -> Wx ks M = (none, (Wq ks[i] (Wx (ks.take i) M).2).2)) /\
  (¬ (Wq ks[i] (Wx (ks.take i) M).2).1 < 0 -> (Wx (ks.take (i + 1)) M).1.isSome = true /\ (Wx (ks.take (i + 1)) M).2 = (Wq ks[i] (Wx (ks.take i) M).2).2 /\ Q6 ks M (i + 1) = (Q6 ks M i).set i (Wq ks[i] (Wx (ks.take i) M).2).1) := by
 have hs := ctyL_snoc ks[i] (ks.take i) M
 rw [<- List.take_succ_eq_append_getElem hi] at hs
 rcases he : Wx (ks.take i) M with ⟨_ | l, M'⟩
 ·rw [he] at h; cases h
 rw [he] at hs
 have hs : Wx (ks.take (i + 1)) M = if (Wq ks[i] M').1 < 0 then (none, (Wq ks[i] M').2) else (some (l ++ [(Wq ks[i] M').1]), (Wq ks[i] M').2) := hs
 constructor
 ·intro hn
  rw [if_pos hn] at hs
  have := ctyL_none hs (ks.drop (i + 1))
  rwa [List.take_append_drop] at this
 ·intro hn
  rw [if_neg hn] at hs
  have hl := ZI _ _ _ _ he
  rw [List.length_take, Nat.min_eq_left (by omega)] at hl
  refine ⟨by rw [hs]; rfl, by rw [hs], ?_⟩
  unfold Q6
  rw [hs, he]
  simp only [Option.getD_some]
  rw [show ks.length - i = (ks.length - (i + 1)) + 1 by omega, List.replicate_succ, List.append_assoc]
  subst hl
  rw [List.set_append_right _ _ (Nat.le_refl _)]
  simp
theorem Zc : ∀ n : Nat, WS [Value.int .i64 0] n = Qt (List.replicate n (0 : Int))
 | 0 => rfl
 | n + 1 => by
  rw [List.replicate_succ, WM, <- Zc n]
  rfl
theorem ctypes_4 (hG : G 0 = qE) (n : Int) (ks : List Nd)  (ih : ∀ x ∈ ks, Fit x -> ∀ M : List (Int × Int), TM Tryd.prog G 64 (fun g => [.mp 0 g, .agg (Enc.enc x)]) M (.i (Wq x M).1) (Wq x M).2) (hfit : Fit (.mk 4 n 0 ks)) (M : List (Int × Int)) :
  TM Tryd.prog G 64 (fun g => [.mp 0 g, .agg (Enc.enc (Nd.mk 4 n 0 ks))]) M (.i (Wq (.mk 4 n 0 ks) M).1) (Wq (.mk 4 n 0 ks) M).2 := by
 intro g B b1
 have hks := hfit.len
 rw [Q9]
 refine Qc Tryd.func64 rfl Tryd.ntmps64 rfl (t := [(0, .mp 0 g), (1, .agg [.i 4, .i n, .i 0, QG ks])]) rfl fun E hE => ?_
 have hM : Wq (.mk 4 n 0 ks) M = (match Wx ks M with | (none, M') => (-1, M') | (some l, M') => WG 4 n 0 l M') := by (rw [Wq, if_neg (fun h => h.1 rfl)]; try rfl)
 have hz : WS [Value.int .i64 0] (ks.length : Int).toNat = Qt (Q6 ks M 0) := by
  show _ = Qt (List.replicate ks.length (0 : Int))
  rw [show (ks.length : Int).toNat = ks.length from rfl]
  exact Zc _
 (repeat' first | refine Qu rfl ?_ | refine QA rfl ?_ | refine Qb rfl rfl rfl ?_ | refine Wu rfl rfl ?_ | refine Qj rfl ?_ | refine Wm rfl rfl ?_ | refine Qd rfl rfl ?_ | refine s_make rfl rfl rfl (by omega) (by omega) (by omega) (by omega) (fun _ _ => ?_) | refine QU rfl rfl (fun _ _ => ?_) | refine Qe ?_ | refine Qs rfl ?_ | refine W3 rfl rfl rfl rfl ?_ | refine Qg ?_ | (refine QK [0, 1, 2, 3, 4, 5, 6, 7, 8, 9, 23, 24, 25] rfl ?_; refine Qa ?_) | refine Qf ?_ | refine Qk ?_ | refine Qo rfl ?_)
 all_goals
  rename_i gt hgt gk hgk
  refine Wv (fun (i : Nat) => ⟨[(0, .mp 0 g), (3, .ptr 1 gt 0), (5, .ref 2 gk 0 ks.length (Enc.es Int)), (23, QG ks), (24, .i ks.length), (25, .i i)], [.mapb g (Wp (Zv (Wx (ks.take i) M).2)), .row gt [.i 4, .i n, .i 0, QG ks], .row gk (Qt (Q6 ks M i))]⟩) (fun i => i <= ks.length /\ (Wx (ks.take i) M).1.isSome = true) (fun i => ks.length - i) 0 ?_ ⟨by omega, rfl⟩ ?_
  ·rw [<- hz]
   exact zal rfl
  intro i ⟨hi, hok⟩
  have hkl := ZD hi hok
  (repeat' first | refine QL rfl rfl ?_ | refine Qe ?_ | refine Qs rfl ?_ | refine Qg ?_ | (refine QK [0, 1, 2, 3, 4, 5, 6, 7, 8, 9, 23, 24, 25] rfl ?_; refine Qa ?_))
  refine QE rfl (fun h => ?_) (fun h => ?_)
  ·have hil : i < ks.length := by omega
   have htm := ih _ (List.getElem_mem hil) (hfit.kids _ (List.getElem_mem hil)) (Wx (ks.take i) M).2
   obtain ⟨hst1, hst2⟩ := Z0 hil hok
   have hik : i < (Q6 ks M i).length := by omega
   have hik2 : i < ((Q6 ks M i).set i (Wq ks[i] (Wx (ks.take i) M).2).1).length := by rw [List.length_set]; omega
   have hget : ((Q6 ks M i).set i (Wq ks[i] (Wx (ks.take i) M).2).1)[i] = (Wq ks[i] (Wx (ks.take i) M).2).1 := List.getElem_set_self ..
   clear ih hfit hz
   (repeat' first | refine Qu rfl ?_ | refine QA rfl ?_ | refine Qm rfl rfl (by first | exact Enc.len _ | rfl) ?_ | refine QC rfl ?_ | refine Wj rfl rfl rfl (by first | assumption | omega) rfl ?_ | refine Ql rfl rfl (by first | assumption | omega | (simp; done) | (simp; omega)) ?_ | refine WF rfl rfl rfl (by omega) ?_ | refine QL rfl rfl ?_ | refine s_ctm 0 (htm) rfl rfl rfl ?_ | refine Qi rfl rfl rfl (by first | exact Enc.len _ | rfl) (by first | exact Enc.len _ | rfl) (by rfl) ?_ | refine Wk rfl rfl rfl rfl rfl (by first | assumption | omega) rfl ?_ | refine QH (fun _ _ => ?_) | refine Qe ?_ | refine Qs rfl ?_ | refine QZ ?_ | refine Qg ?_ | (refine QK [0, 1, 2, 3, 4, 5, 6, 7, 8, 9, 23, 24, 25] rfl ?_; refine Qa ?_) | refine Qf ?_ | refine Qk ?_)
   refine QE rfl (fun hn => ?_) (fun hn => ?_)
   ·rw [hget] at hn
    rw [hM, hst1 hn]
    (repeat' first | refine QA rfl ?_ | refine Qe ?_ | refine Qs rfl ?_ | refine Qg ?_ | (refine QK [0, 1, 2, 3, 4, 5, 6, 7, 8, 9, 23, 24, 25] rfl ?_; refine Qa ?_) | refine Qq ?_)
    exact e_1 (Tryd.results64) (Qh rfl) (Qy (σ := [_]) (r := [_, _, _]) ⟨rfl, rfl⟩)
   ·rw [hget] at hn
    obtain ⟨k1, k2, k3⟩ := hst2 hn
    (repeat' first | refine Qu rfl ?_ | refine Q5 rfl rfl (by omega) ?_ | refine Qe ?_ | refine Qs rfl ?_ | (refine QK [0, 1, 2, 3, 4, 5, 6, 7, 8, 9, 23, 24, 25] rfl ?_; refine Qa ?_) | refine Qk ?_)
    refine ⟨i + 1, ⟨by omega, k1⟩, by omega, ?_⟩
    rw [k2, k3]
    exact zal rfl
  ·have hil : i = ks.length := by omega
   subst hil
   refine Q2 rfl ?_
   refine r_pub 5 rfl rfl (by rw [Qz, hkl]) rfl ?_
   rw [List.take_length] at hok ⊢
   obtain ⟨l, M', hl⟩ : ∃ l M', Wx ks M = (some l, M') := by
    rcases he : Wx ks M with ⟨_ | l, M'⟩
    ·rw [he] at hok; cases hok
    ·exact ⟨l, M', rfl⟩
   have hkt : Q6 ks M ks.length = l := by unfold Q6; rw [List.take_length, hl]; simp
   have hll := ZI _ _ _ _ hl
   rw [hl] at hM
   rw [hM, hl, hkt]
   have hM2 : (match (some l, M') with | (none, M') => (-1, M') | (some l, M') => WG 4 n 0 l M' : Int × List (Int × Int)) = WG 4 n 0 l M' := rfl
   rw [hM2]
   have hq0 := Wt (G := G) l [0, 0] (by omega) (by decide)
   have hq1 := Wt (G := G) l [1, 1] (by omega) (by decide)
   have hq2 := Wt (G := G) l [1] (by omega) (by decide)
   clear hM hM2 hkt hkl hok hz ih hl hfit
   have hnil : l.length = 0 -> l = [] := List.length_eq_zero_iff.1
   have hnil' : l = [] -> l.length = 0 := List.length_eq_zero_iff.2
   clear hq0 hq1 hq2
   by_cases hc1 : l.length = 0
   ·by_cases hc2 : -8 <= n
    ·by_cases hc3 : n <= 7
     ·rw [show WG 4 n 0 l M' = (0, M') by unfold WG; rw [if_pos rfl, if_pos ⟨hnil hc1, hc2, hc3⟩]]
      (repeat' first | refine Qu rfl ?_ | refine QA rfl ?_ | refine Qb rfl rfl rfl ?_ | refine ZN rfl rfl ?_ | refine Wh rfl rfl ?_ | refine QJ rfl rfl ?_ | refine Qj rfl ?_ | refine WI rfl rfl ?_ | refine Qd rfl rfl ?_ | refine Qe ?_ | refine Qs rfl ?_ | refine WK rfl rfl rfl rfl ?_ | refine Wg rfl rfl (by omega) ?_ | refine Qg ?_ | (refine QK [0, 1, 2, 3, 4, 5, 6, 7, 8, 9, 23, 24, 25] rfl ?_; refine Qa ?_) | refine Qf ?_ | refine Qp rfl (by omega) ?_ | refine Qq ?_)
      all_goals exact e_1 (Tryd.results64) (Qh rfl) (Qy (σ := [_]) (r := [_, _]) ⟨rfl, rfl⟩)
     ·rw [show WG 4 n 0 l M' = (-1, M') by unfold WG; rw [if_pos rfl, if_neg (fun h => hc3 h.2.2)]]
      (repeat' first | refine Qu rfl ?_ | refine QA rfl ?_ | refine Qb rfl rfl rfl ?_ | refine ZN rfl rfl ?_ | refine Wh rfl rfl ?_ | refine QJ rfl rfl ?_ | refine Qj rfl ?_ | refine WI rfl rfl ?_ | refine Wm rfl rfl ?_ | refine Qd rfl rfl ?_ | refine x_gn rfl rfl rfl rfl ?_ | refine Qe ?_ | refine Qs rfl ?_ | refine WK rfl rfl rfl rfl ?_ | refine W3 rfl rfl rfl rfl ?_ | refine o_gu rfl rfl rfl rfl rfl ?_ | refine Wg rfl rfl (by omega) ?_ | refine Qg ?_ | (refine QK [0, 1, 2, 3, 4, 5, 6, 7, 8, 9, 23, 24, 25] rfl ?_; refine Qa ?_) | refine Qf ?_ | (refine Q0 ?_; refine QK [0, 1, 2, 3, 4, 5, 6, 7, 8, 9, 23, 24, 25] rfl ?_; first | refine WD (by rfl) (by kernel_rfl) (by kernel_rfl) rfl ?_ | refine QP (by kernel_rfl) (by kernel_rfl) ?_) | refine Qk ?_ | refine Qo rfl ?_ | refine Qr rfl (by omega) ?_ | refine Qq ?_ | refine qb rfl (by (repeat' first | refine Qu rfl ?_ | refine QA rfl ?_ | refine Qb rfl rfl rfl ?_ | refine QJ rfl rfl ?_ | refine Wm rfl rfl ?_ | refine Qd rfl rfl ?_ | exact ⟨rfl, rfl⟩)) ?_ | refine Zs ?_)
      all_goals exact e_1 (Tryd.results64) (Qh rfl) (Qy (σ := [_]) (r := [_, _]) ⟨rfl, rfl⟩)
    ·rw [show WG 4 n 0 l M' = (-1, M') by unfold WG; rw [if_pos rfl, if_neg (fun h => hc2 h.2.1)]]
     (repeat' first | refine Qu rfl ?_ | refine QA rfl ?_ | refine Qb rfl rfl rfl ?_ | refine Wh rfl rfl ?_ | refine QJ rfl rfl ?_ | refine Qj rfl ?_ | refine WI rfl rfl ?_ | refine Wm rfl rfl ?_ | refine Qd rfl rfl ?_ | refine x_gn rfl rfl rfl rfl ?_ | refine Qe ?_ | refine Qs rfl ?_ | refine WK rfl rfl rfl rfl ?_ | refine W3 rfl rfl rfl rfl ?_ | refine o_gu rfl rfl rfl rfl rfl ?_ | refine Wg rfl rfl (by omega) ?_ | refine Wc rfl rfl (by omega) ?_ | refine Qg ?_ | (refine QK [0, 1, 2, 3, 4, 5, 6, 7, 8, 9, 23, 24, 25] rfl ?_; refine Qa ?_) | refine Qf ?_ | (refine Q0 ?_; refine QK [0, 1, 2, 3, 4, 5, 6, 7, 8, 9, 23, 24, 25] rfl ?_; first | refine WD (by rfl) (by kernel_rfl) (by kernel_rfl) rfl ?_ | refine QP (by kernel_rfl) (by kernel_rfl) ?_) | refine Qk ?_ | refine Qo rfl ?_ | refine Qq ?_ | refine qb rfl (by (repeat' first | refine Qu rfl ?_ | refine QA rfl ?_ | refine Qb rfl rfl rfl ?_ | refine QJ rfl rfl ?_ | refine Wm rfl rfl ?_ | refine Qd rfl rfl ?_ | exact ⟨rfl, rfl⟩)) ?_ | refine Zs ?_)
     all_goals exact e_1 (Tryd.results64) (Qh rfl) (Qy (σ := [_]) (r := [_, _]) ⟨rfl, rfl⟩)
   ·rw [show WG 4 n 0 l M' = (-1, M') by unfold WG; rw [if_pos rfl, if_neg (fun h => hc1 (hnil' h.1))]]
    (repeat' first | refine Qu rfl ?_ | refine QA rfl ?_ | refine Qb rfl rfl rfl ?_ | refine QJ rfl rfl ?_ | refine Qj rfl ?_ | refine WI rfl rfl ?_ | refine Wm rfl rfl ?_ | refine Qd rfl rfl ?_ | refine x_gn rfl rfl rfl rfl ?_ | refine Qe ?_ | refine Qs rfl ?_ | refine WK rfl rfl rfl rfl ?_ | refine W3 rfl rfl rfl rfl ?_ | refine o_gu rfl rfl rfl rfl rfl ?_ | refine Wc rfl rfl (by omega) ?_ | refine Qg ?_ | (refine QK [0, 1, 2, 3, 4, 5, 6, 7, 8, 9, 23, 24, 25] rfl ?_; refine Qa ?_) | refine Qf ?_ | (refine Q0 ?_; refine QK [0, 1, 2, 3, 4, 5, 6, 7, 8, 9, 23, 24, 25] rfl ?_; first | refine WD (by rfl) (by kernel_rfl) (by kernel_rfl) rfl ?_ | refine QP (by kernel_rfl) (by kernel_rfl) ?_) | refine Qk ?_ | refine Qo rfl ?_ | refine Qq ?_ | refine qb rfl (by (repeat' first | refine Qu rfl ?_ | refine QA rfl ?_ | refine Qb rfl rfl rfl ?_ | refine QJ rfl rfl ?_ | refine Wm rfl rfl ?_ | refine Qd rfl rfl ?_ | exact ⟨rfl, rfl⟩)) ?_ | refine Zs ?_)
    all_goals exact e_1 (Tryd.results64) (Qh rfl) (Qy (σ := [_]) (r := [_, _]) ⟨rfl, rfl⟩)
end Go.Proofs
end
