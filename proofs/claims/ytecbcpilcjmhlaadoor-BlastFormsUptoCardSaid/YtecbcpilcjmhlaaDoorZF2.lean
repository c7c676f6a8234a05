/-
  Part 2 of the proof: B2 B3 B4 B5 B6 B7 B8 Laid N0 B9 M0 M1 B10 B11 B12.
-/
import Derived.Shelf.Strconv.Itoa0
import Derived.Shelf.Strconv.Itoa1
import Derived.Shelf.LaysM
import Derived.Shelf.Strconv.Itoa2
import Derived.Shelf.Strconv.Itoa3
import Derived.Test.YtecbcpilcjmhlaaDoorProg
import Derived.Test.YtecbcpilcjmhlaaDoorZF1
set_option linter.unusedSimpArgs false
set_option linter.unusedVariables false
set_option maxRecDepth 10000
set_option maxHeartbeats 4000000
section
namespace Go.Proofs
open Go.Av
variable {G : Nat -> DV}
attribute [local irreducible] OpSem WB WQ WW ACalls Zo QY RV
theorem indexI_c (l : List Int) (v : Int) (hl : l.length <= 4611686018427387904) : Go.Av.Pure Tryd.prog G 82 [QG l, .i v] (.i (Ord.findI (fun x => decide (v = x)) l)) := fun B => by
 refine Qc Tryd.func82 rfl Tryd.ntmps82 rfl (t := [(0, QG l), (1, .i v)]) rfl fun E hE => ?_
 (repeat' first | refine Qu rfl ?_ | refine QA rfl ?_ | refine Qj rfl ?_ | refine Qe ?_ | refine Qs rfl ?_ | refine Qg ?_ | refine Qa ?_ | refine Qf ?_)
 refine Wv (fun k : Nat => ⟨[(0, QG l), (1, .i v), (7, .i l.length), (8, .i k)], []⟩) (fun k => k <= l.length /\ ∀ j (h : j < l.length), j < k -> decide (v = l[j]) = false) (fun k => l.length - k) 0 ?_ ⟨by omega, fun j h hj => by omega⟩ ?_
 ·exact zal rfl
 intro k ⟨hk, hno⟩
 (repeat' first | refine QL rfl rfl ?_ | refine Qe ?_ | refine Qs rfl ?_ | refine Qg ?_ | refine Qa ?_)
 refine QE rfl (fun h => ?_) (fun h => ?_)
 ·have hk' : k < l.length := by omega
  (repeat' first | refine Qu rfl ?_ | refine QA rfl ?_ | refine Qv rfl ?_ | refine Ql rfl rfl (by first | assumption | omega | (simp; done) | (simp; omega)) ?_ | refine QJ rfl rfl ?_ | refine Qe ?_ | refine Qs rfl ?_ | refine Qg ?_ | refine Qa ?_ | refine Qf ?_ | refine Qk ?_)
  refine QE rfl (fun hb => ?_) (fun hb => ?_)
  ·(repeat' first | refine Qu rfl ?_ | refine QA rfl ?_ | refine Qe ?_ | refine Qs rfl ?_ | refine Qg ?_ | refine Qa ?_ | refine Qq ?_)
   refine e_1 Tryd.results82 (Qh rfl) (QD ?_)
   rw [Ord.findI_some hk' (decide_eq_true hb) hno]
  ·(repeat' first | refine Qu rfl ?_ | refine Q5 rfl rfl (by omega) ?_ | refine Qe ?_ | refine Qs rfl ?_ | refine Qa ?_ | refine Qk ?_)
   refine ⟨k + 1, ⟨hk', fun j hj hjk => ?_⟩, by omega, ?_⟩
   ·rcases Nat.lt_or_ge j k with h' | h'
    ·exact hno j hj h'
    ·have : j = k := by omega
     subst this; exact decide_eq_false hb
   ·exact zal rfl
 ·have hk' : k = l.length := by omega
  (repeat' first | refine QA rfl ?_ | refine Qe ?_ | refine Qs rfl ?_ | refine Qg ?_ | refine Qa ?_ | refine Q2 rfl ?_ | refine Qq ?_)
  refine e_1 Tryd.results82 (Qh rfl) (QD ?_)
  rw [Ord.findI_none fun j hj => hno j hj (by omega)]
theorem containsI_c (l : List Int) (v : Int) (hl : l.length <= 4611686018427387904) : Go.Av.Pure Tryd.prog G 67 [QG l, .i v] (.b (l.contains v)) := fun B => by
 have hk1 := indexI_c (G := G) l v hl
 refine Qc Tryd.func67 rfl Tryd.ntmps67 rfl (t := [(0, QG l), (1, .i v)]) rfl fun E hE => ?_
 (repeat' first | refine Qu rfl ?_ | refine QA rfl ?_ | refine Wh rfl rfl ?_ | refine Wa rfl rfl (hk1) ?_ | refine Qe ?_ | refine Qs rfl ?_ | refine Qg ?_ | refine Qa ?_ | refine Qq ?_)
 refine e_1 Tryd.results67 (Qh rfl) (QD ?_)
 rw [Ord.findI_any]
 exact congrArg DV.b (by rw [Bool.eq_iff_iff, List.any_eq_true, List.contains_iff_mem]; exact ⟨fun ⟨x, h1, h2⟩ => by rw [of_decide_eq_true h2]; exact h1, fun h => ⟨v, h, decide_eq_true rfl⟩⟩)
theorem deleteFuncI_c (l : List Int) (fid : FuncId) (first cap : List DV) (p : Int -> Bool) [FnOk Tryd.prog fid] (hl : l.length <= 4611686018427387904) (hp : ∀ x ∈ l, Go.Av.Pure Tryd.prog G fid (first ++ [.i x] ++ cap) (.b (p x))) (g : Nat) :
  Mut1 Tryd.prog G 68 g [.ref 0 g 0 l.length 1, .fn (.func fid) first cap] (Qt l) (fun g' => .ref 0 g' 0 (l.filter fun x => !p x).length 1) (Qt (l.filter fun x => !p x)) true := fun B hB => by
 refine Qc Tryd.func68 rfl Tryd.ntmps68 rfl (t := [(0, .ref 0 g 0 l.length 1), (1, .fn (.func fid) first cap)]) rfl fun E hE => ?_
 (repeat' first | refine Qu rfl ?_ | refine QA rfl ?_ | refine Qe ?_ | refine Qs rfl ?_ | refine Qg ?_ | refine Qa ?_)
 refine s_call_v rfl rfl (.ref rfl (Qz l).symm (Qn l) (.same .nil)) (indexFuncI_c l fid first cap p hl hp) rfl ?_
 (repeat' first | refine Qu rfl ?_ | refine QA rfl ?_ | refine QJ rfl rfl ?_ | refine Qe ?_ | refine Qs rfl ?_ | refine Qg ?_ | refine Qa ?_)
 refine QE rfl (fun h => ?_) (fun h => ?_)
 ·have hno := Ord.findI_neg h
  have hf : l.filter (fun x => !p x) = l := List.filter_eq_self.2 fun x hx => by rw [hno x hx]; rfl
  (repeat' first | refine Qu rfl ?_ | refine QA rfl ?_ | refine Qe ?_ | refine Qs rfl ?_ | refine Qg ?_ | refine Qa ?_ | refine Qq ?_)
  rw [hf]
  exact e_1 (Tryd.results68) (Qh rfl) (Zg ⟨g, .inl rfl, rfl, rfl⟩)
 obtain ⟨i0, hi0, hil, hpi, hno⟩ := Ord.findI_pos h
 have hf0 : (l.take i0).filter (fun x => !p x) = l.take i0 := List.filter_eq_self.2 fun x hx => by rw [hno x hx]; rfl
 have hf1 : (l.take (i0 + 1)).filter (fun x => !p x) = l.take i0 := by rw [Ord.filter_take_succ hil, if_neg (by rw [hpi]; simp), hf0]
 rw [hi0]
 (repeat' first | refine Qu rfl ?_ | refine QA rfl ?_ | refine Q5 rfl rfl (by omega) ?_ | refine Qe ?_ | refine Qs rfl ?_ | refine Qg ?_ | refine Qa ?_ | refine Qf ?_ | refine Qk ?_)
 refine ZV (fun (j : Nat) (r : List Int) => ⟨[(0, .ref 0 g 0 l.length 1), (1, .fn (.func fid) first cap), (5, .i ((l.take j).filter fun x => !p x).length), (6, .i j)], [.row g (Qt r)]⟩) (fun j r => j <= l.length /\ r.length = l.length /\ ((l.take j).filter fun x => !p x).length < j /\ r.take ((l.take j).filter fun x => !p x).length = (l.take j).filter (fun x => !p x) /\ r.drop j = l.drop j) (fun j _ => l.length - j) (i0 + 1) l ?_ ⟨by omega, rfl, by rw [hf1, List.length_take]; omega, by rw [hf1, List.length_take, Nat.min_eq_left (by omega)], rfl⟩ ?_
 ·rw [hf1, List.length_take, Nat.min_eq_left (by omega)]
  exact zal rfl
 intro j r ⟨hj, hr, hlt, htk, hdr⟩
 (repeat' first | refine Qu rfl ?_ | refine QL rfl rfl ?_ | refine s_len_ref rfl rfl ?_ | refine Qe ?_ | refine Qs rfl ?_ | refine Qg ?_ | refine Qa ?_)
 refine QE rfl (fun h => ?_) (fun h => ?_)
 ·have hjl : j < l.length := by omega
  have hjr : j < r.length := by omega
  have hrj : r[j] = l[j] := by
   have := congrArg (·[0]?) hdr
   simpa [hjl, hjr] using this
  have hpj := hp _ (List.getElem_mem hjl)
  rw [<- hrj] at hpj
  have hfs := Ord.filter_take_succ (p := fun x => !p x) hjl
  have hdr' : r.drop (j + 1) = l.drop (j + 1) := by
   have := congrArg (·.drop 1) hdr
   simpa [List.drop_drop, Nat.add_comm] using this
  (repeat' first | refine Qu rfl ?_ | refine QA rfl ?_ | refine Wj rfl rfl rfl (by first | assumption | omega) rfl ?_ | refine WF rfl rfl rfl (by omega) ?_ | refine WU rfl (hpj) (by repeat' first | exact Qx | exact QV _ | exact We (Qn _) | exact Qn _ | refine W5 ?_ ?_ | refine W2 ?_ | refine Wo ?_ | refine Qw ?_ | exact QW | refine QF ?_ ?_ | refine We ?_) ?_ | refine WC rfl ?_ | refine Qe ?_ | refine Qs rfl ?_ | refine Qg ?_ | refine Qa ?_ | refine Qf ?_ | refine Qk ?_)
  refine r_cond rfl (fun hb => ?_) (fun hb => ?_)
  ·have hfs' := hfs
   rw [if_pos (by rw [<- hrj]; exact hb)] at hfs'
   have hlen : ((l.take (j + 1)).filter fun x => !p x).length = ((l.take j).filter fun x => !p x).length + 1 := by rw [hfs', List.length_append]; rfl
   have hfr : ((l.take j).filter fun x => !p x).length < r.length := by omega
   (repeat' first | refine Qu rfl ?_ | refine QA rfl ?_ | refine WF rfl rfl rfl (by omega) ?_ | refine Q5 rfl rfl (by omega) ?_ | refine Wk rfl rfl rfl rfl rfl (by first | assumption | omega) rfl ?_ | refine Qe ?_ | refine Qs rfl ?_ | refine QZ ?_ | refine Qg ?_ | refine Qa ?_)
   refine ⟨j + 1, r.set ((l.take j).filter fun x => !p x).length r[j], ⟨by omega, by rw [List.length_set, hr], by omega, ?_, ?_⟩, by omega, ?_⟩
   ·rw [hlen, Ord.take_set_succ hfr, htk, hfs', hrj]
   ·rw [List.drop_set_of_lt (by omega), hdr']
   ·rw [hlen]
    exact zal rfl
  ·have hfs' := hfs
   rw [if_neg (by rw [<- hrj, hb]; exact Bool.noConfusion)] at hfs'
   (repeat' first | refine Qu rfl ?_ | refine QA rfl ?_ | refine Q5 rfl rfl (by omega) ?_ | refine Qe ?_ | refine Qs rfl ?_ | refine Qa ?_ | refine Qk ?_)
   refine ⟨j + 1, r, ⟨by omega, hr, by rw [hfs']; omega, by rw [hfs', htk], hdr'⟩, by omega, ?_⟩
   rw [hfs']
   exact zal rfl
 ·have hjl : j = l.length := by omega
  subst hjl
  rw [List.take_length] at htk hlt ⊢
  (repeat' first | refine Qu rfl ?_ | refine QA rfl ?_ | refine s_clear_tail rfl rfl rfl rfl rfl (by omega) (by omega) (by rfl) ?_ | refine s_slice_rh rfl rfl rfl (by omega) ?_ | refine s_slice_rl rfl rfl rfl (by omega) ?_ | refine Qe ?_ | refine Qs rfl ?_ | refine QZ ?_ | refine Qg ?_ | refine Qa ?_ | refine Q2 rfl ?_ | refine Qq ?_)
  rw [htk]
  exact e_1 (Tryd.results68) (Qh rfl) (Zg ⟨g, .inl rfl, rfl, rfl⟩)
theorem cloneI_c (l : List Int) (hl : l.length <= 1073741824) : Own Tryd.prog G 108 [QG l] l.length (Enc.es Int) (Qt l) := fun B => by
 refine Qc Tryd.func108 rfl Tryd.ntmps108 rfl (t := [(0, QG l)]) rfl fun E hE => ?_
 (repeat' first | refine Qu rfl ?_ | refine QA rfl ?_ | refine s_eq_nil_d rfl rfl (fun _ => ?_) ?_ | refine s_app_z rfl rfl rfl rfl rfl (by first | omega | (simp; omega)) (by first | omega | (simp; omega)) (fun _ => rfl) (fun _ _ => ?_) | refine s_bslice_none rfl (fun _ _ => ?_) | refine Qe ?_ | refine Qs rfl ?_ | refine Qg ?_ | refine Qa ?_ | refine Qk ?_ | refine QB rfl ?_ | refine Qo rfl ?_ | refine Qq ?_)
 ·rename_i h
  have : l = [] := by
   cases l with
   | nil => rfl
   | cons x l => simp [WM, Enc.enc] at h
  subst this
  exact e_1 (Tryd.results108) (Qh rfl) (c_own_nil hE)
 ·exact e_1 Tryd.results108 (Qh rfl) (c_ownedB hE rfl rfl rfl rfl)
theorem add1_c (x : Int) : Go.Av.Pure Tryd.prog G 69 [.i x] (.b (decide (x = -1))) := fun B => by
 refine Qc Tryd.func69 rfl Tryd.ntmps69 rfl (t := [(0, .i x)]) rfl fun E hE => ?_
 (repeat' first | refine Qu rfl ?_ | refine QA rfl ?_ | refine QJ rfl rfl ?_ | refine Qe ?_ | refine Qs rfl ?_ | refine Qg ?_ | refine Qa ?_ | refine Qq ?_)
 refine e_1 Tryd.results69 (Qh rfl) (QD ?_)
 rfl
end Go.Proofs
end
section
namespace Go.Proofs
open Go.Av
variable {G : Nat -> DV}
attribute [local irreducible] OpSem WB WQ WW ACalls Zo QY RV
open Go.Bl
theorem fresh_c (s : St) (hs : Ok s) : BM Tryd.prog G 38 [] s.vars s.cl (.i (s.vars + 1)) (fresh s) := fun g0 g1 g2 g3 c2 c3 c4 m sn h2 h3 h4 hm hsn B b0 b1 b2 b3 => by
 have hv0 := hs.v0
 have hv1 := hs.v1
 refine Qc Tryd.func38 rfl Tryd.ntmps38 rfl (t := [(0, .ptr 0 g0 0)]) rfl fun E hE => ?_
 (repeat' first | refine Qu rfl ?_ | refine QA rfl ?_ | refine Qb rfl rfl rfl ?_ | refine Q5 rfl rfl (by omega) ?_ | refine Qd rfl rfl ?_ | refine Wb rfl rfl rfl rfl (by rfl) (by rfl) (by rfl) ?_ | refine Q7 rfl rfl ?_ | refine Qe ?_ | refine Qs rfl ?_ | refine QZ ?_ | refine Qg ?_ | refine Qa ?_ | refine Qq ?_)
 exact e_1 (Tryd.results38) (Qh rfl) (Zg ⟨rfl, g1, .inl rfl, rfl⟩)
theorem full_c (s : St) (hs : Ok s) : BM Tryd.prog G 42 [] s.vars s.cl (.b (ZH s)) s := fun g0 g1 g2 g3 c2 c3 c4 m sn h2 h3 h4 hm hsn B b0 b1 b2 b3 => by
 have hc := hs.c
 refine Qc Tryd.func42 rfl Tryd.ntmps42 rfl (t := [(0, .ptr 0 g0 0)]) rfl fun E hE => ?_
 (repeat' first | refine Qu rfl ?_ | refine QA rfl ?_ | refine Qb rfl rfl rfl ?_ | refine s_gtr rfl rfl ?_ | refine s_len_ref rfl rfl ?_ | refine WI rfl rfl ?_ | refine Wm rfl rfl ?_ | refine Qd rfl rfl ?_ | refine Q7 rfl rfl ?_ | refine Qe ?_ | refine Qs rfl ?_ | refine WK rfl rfl rfl rfl ?_ | refine W3 rfl rfl rfl rfl ?_ | refine o_sp_d rfl rfl (fun _ => ?_) (fun _ => ?_) | refine Qg ?_ | refine Qa ?_ | refine Qq ?_)
 ·rename_i h
  exact e_1 (Tryd.results42) (Qh rfl) (Zg ⟨by unfold ZH; rw [decide_eq_true h]; rfl, g1, .inl rfl, rfl⟩)
 ·rename_i h
  exact e_1 (Tryd.results42) (Qh rfl) (Zg ⟨by unfold ZH; rw [decide_eq_false h]; rfl, g1, .inl rfl, rfl⟩)
theorem add_c (s : St) (hs : Ok s) (l : List Int) (hl : l.length <= 1048576) : BA Tryd.prog G 40 l s.vars s.cl (add s l) := fun g0 g1 g2 g3 gl c2 c3 c4 m sn h2 h3 h4 hm hsn B b0 b1 b2 b3 b4 => by
 have hc := hs.c
 refine Qc Tryd.func40 rfl Tryd.ntmps40 rfl (t := [(0, .ptr 0 g0 0), (1, .ref 4 gl 0 l.length 1)]) rfl fun E hE => ?_
 (repeat' first | refine Qu rfl ?_ | refine s_call_v rfl rfl (.ref rfl (Qz l).symm (Qn l) (.same .nil)) (containsI_c l 1 (by omega)) rfl ?_ | refine Zk rfl rfl (full_c s hs) rfl (fun _ _ => ?_) | refine WI rfl rfl ?_ | refine Wm rfl rfl ?_ | refine Qe ?_ | refine Qs rfl ?_ | refine WK rfl rfl rfl rfl ?_ | refine W3 rfl rfl rfl rfl ?_ | refine o_sp rfl rfl (fun _ => ?_) (fun _ => ?_) | refine Qg ?_ | refine Qa ?_ | refine QB rfl ?_ | refine Qq ?_)
 ·rename_i gg hg hf
  have e : add s l = s := by unfold add; rw [hf]; rfl
  rw [e]
  exact e_0 (Tryd.results40) (c_gone 4 rfl (Zg ⟨rfl, gg, by omega, rfl⟩))
 rename_i gg hg hf
 refine r_cond rfl (fun h1 => ?_) (fun h1 => ?_)
 ·have e : add s l = s := by unfold add; rw [h1, Bool.or_true]; rfl
  rw [e]
  (repeat' first | refine Qq ?_)
  exact e_0 (Tryd.results40) (c_gone 4 rfl (Zg ⟨rfl, gg, by omega, rfl⟩))
 ·have e : add s l = ⟨s.vars, s.cl ++ [kept l]⟩ := by unfold add; rw [h1, hf]; rfl
  rw [e]
  have hd := deleteFuncI_c (G := G) l 69 [] [] (fun x => decide (x = -1)) (by omega) (fun x _ => add1_c x) gl
  have hk : (l.filter fun x => !decide (x = -1)) = kept l := rfl
  rw [hk] at hd
  (repeat' first | refine s_call_m rfl rfl (hd) rfl (by repeat' first | exact .nil | refine .cons .ref ?_ | refine .cons (.clo (by repeat' first | exact Qx | exact QV _ | exact We (Qn _) | exact Qn _ | refine W5 ?_ ?_ | refine W2 ?_ | refine Wo ?_ | refine Qw ?_ | exact QW | refine QF ?_ ?_ | refine We ?_)) ?_) (by first | exact .ref | exact .clo (by repeat' first | exact Qx | exact QV _ | exact We (Qn _) | exact Qn _ | refine W5 ?_ ?_ | refine W2 ?_ | refine Wo ?_ | refine Qw ?_ | exact QW | refine QF ?_ ?_ | refine We ?_)) (Qn _) (Qn _) (by rfl) ?_ | refine Z5 rfl rfl rfl rfl rfl rfl rfl (by first | omega | (simp; omega)) (by first | omega | (simp; omega)) (fun _ => rfl) (fun _ _ => ?_) | refine Wb rfl rfl rfl rfl (by rfl) (by rfl) (by rfl) ?_ | refine s_bslice_pub rfl rfl (by first | rfl | exact (Qz _).symm) rfl ?_ | refine Wi rfl rfl (by decide) rfl ?_ | (refine Q0 ?_; first | (refine Wf (fun p => .row g0 [.sc (.int .i64 s.vars), .ref 1 gg 0 s.cl.length 1, c2, c3, c4, .mp 2 g2, .mp 3 g3] :: p) 13 [(0, true), (1, true), (2, true), (3, true), (4, true), (5, true), (6, true), (7, false), (8, false), (9, false), (10, true), (11, true), (12, true), (13, false)] (by rfl) (by rfl) (by kernel_rfl) (by decide +kernel) (by decide +kernel) ⟨_, rfl⟩ ?_) | refine Q3 (by rfl) (by kernel_rfl) (by kernel_rfl) ?_ | refine QP (by kernel_rfl) (by kernel_rfl) ?_) | refine Qk ?_ | refine i_nil ?_ | refine i_z0 ?_ | refine i_st rfl rfl (fun _ => (by (repeat' first | refine Qu rfl ?_ | refine Qb rfl rfl rfl ?_ | refine Qd rfl rfl ?_ | refine Q7 rfl rfl ?_ | exact ⟨rfl, rfl⟩))) ?_ | refine i_ef rfl ?_ | refine And.intro (Exists.intro (_) rfl) ?_)
  rename_i gg2 hg2
  exact e_0 (Tryd.results40) (Zg ⟨rfl, gg2, by omega, rfl⟩)
theorem and_c (s : St) (hs : Ok s) (hv : s.vars < 1099511627776) (x y : Int) (hx : Lim s x) (hy : Lim s y) : BM Tryd.prog G 98 [.i x, .i y] s.vars s.cl (.i (and s x y).1) (and s x y).2 := fun g0 g1 g2 g3 c2 c3 c4 m sn h2 h3 h4 hm hsn B b0 b1 b2 b3 => by
 have hv0 := hs.v0
 have hv1 := hs.v1
 obtain ⟨hx1, hx2⟩ := hx
 obtain ⟨hy1, hy2⟩ := hy
 have hs1 := fresh_ok hs hv
 have hs2 := add_ok hs1 [-x, -y, s.vars + 1]
 have hs3 := add_ok hs2 [x, -(s.vars + 1)]
 refine Qc Tryd.func98 rfl Tryd.ntmps98 rfl (t := [(0, .ptr 0 g0 0), (1, .i x), (2, .i y)]) rfl fun E hE => ?_
 (repeat' first | refine Qu rfl ?_ | refine QA rfl ?_ | refine QJ rfl rfl ?_ | refine WI rfl rfl ?_ | refine Wm rfl rfl ?_ | refine Qe ?_ | refine Qs rfl ?_ | refine WK rfl rfl rfl rfl ?_ | refine W3 rfl rfl rfl rfl ?_ | refine o_sp_d rfl rfl (fun _ => ?_) (fun _ => ?_) | refine Qg ?_ | refine Qa ?_ | refine Qf ?_ | refine QB rfl ?_ | refine Qq ?_)
 ·rename_i h
  rw [show and s x y = (y, s) from if_pos (.inl h)]
  exact e_1 (Tryd.results98) (Qh rfl) (Zg ⟨rfl, g1, .inl rfl, rfl⟩)
 rename_i h1
 refine QE rfl (fun h => ?_) (fun h2' => ?_)
 ·rw [show and s x y = (y, s) from if_pos (.inr h)]
  (repeat' first | refine Qu rfl ?_ | refine QA rfl ?_ | refine Qe ?_ | refine Qs rfl ?_ | refine Qg ?_ | refine Qa ?_ | refine Qq ?_)
  exact e_1 (Tryd.results98) (Qh rfl) (Zg ⟨rfl, g1, .inl rfl, rfl⟩)
 have e1 : and s x y = if y = 1 then (x, s) else if x = -1 \/ y = -1 \/ x = -y then (-1, s) else (s.vars + 1, add (add (add (fresh s) [-x, -y, s.vars + 1]) [x, -(s.vars + 1)]) [y, -(s.vars + 1)]) := if_neg (by omega)
 (repeat' first | refine Qu rfl ?_ | refine QA rfl ?_ | refine QJ rfl rfl ?_ | refine Qe ?_ | refine Qs rfl ?_ | refine Qg ?_ | refine Qa ?_)
 refine QE rfl (fun h => ?_) (fun h3' => ?_)
 ·rw [e1, if_pos h]
  (repeat' first | refine Qu rfl ?_ | refine QA rfl ?_ | refine Qe ?_ | refine Qs rfl ?_ | refine Qg ?_ | refine Qa ?_ | refine Qq ?_)
  exact e_1 (Tryd.results98) (Qh rfl) (Zg ⟨rfl, g1, .inl rfl, rfl⟩)
 rw [if_neg h3'] at e1
 (repeat' first | refine Qu rfl ?_ | refine QA rfl ?_ | refine QJ rfl rfl ?_ | refine WI rfl rfl ?_ | refine Wm rfl rfl ?_ | refine s_neg rfl (by omega) ?_ | refine Qe ?_ | refine Qs rfl ?_ | refine WK rfl rfl rfl rfl ?_ | refine W3 rfl rfl rfl rfl ?_ | refine o_sp_d rfl rfl (fun _ => ?_) (fun _ => ?_) | refine Qg ?_ | refine Qa ?_ | refine QB rfl ?_ | refine Qq ?_)
 ·rename_i h
  rw [e1, if_pos (.inl h)]
  exact e_1 (Tryd.results98) (Qh rfl) (Zg ⟨rfl, g1, .inl rfl, rfl⟩)
 ·rename_i h
  rw [e1, if_pos (.inr (.inl h))]
  exact e_1 (Tryd.results98) (Qh rfl) (Zg ⟨rfl, g1, .inl rfl, rfl⟩)
 rename_i h4 h5
 refine QE rfl (fun h => ?_) (fun h6 => ?_)
 ·rw [e1, if_pos (.inr (.inr h))]
  (repeat' first | refine QA rfl ?_ | refine Qe ?_ | refine Qs rfl ?_ | refine Qg ?_ | refine Qa ?_ | refine Qq ?_)
  exact e_1 (Tryd.results98) (Qh rfl) (Zg ⟨rfl, g1, .inl rfl, rfl⟩)
 rw [e1, if_neg (by omega)]
 (repeat' first | refine Qu rfl ?_ | refine QA rfl ?_ | refine Zk rfl rfl (fresh_c s hs) rfl (fun _ _ => ?_) | refine qw rfl rfl (add_c _ hs1 [-x, -y, s.vars + 1] (by simp)) rfl (by assumption) (by assumption) (by assumption) (by assumption) (by assumption) (by rfl) (by rfl) (by rfl) (by rfl) (by rfl) (by rfl) (fun _ _ => ?_) | refine qw rfl rfl (add_c _ hs2 [x, -(s.vars + 1)] (by simp)) rfl (by assumption) (by assumption) (by assumption) (by assumption) (by assumption) (by rfl) (by rfl) (by rfl) (by rfl) (by rfl) (by rfl) (fun _ _ => ?_) | refine qw rfl rfl (add_c _ hs3 [y, -(s.vars + 1)] (by simp)) rfl (by assumption) (by assumption) (by assumption) (by assumption) (by assumption) (by rfl) (by rfl) (by rfl) (by rfl) (by rfl) (by rfl) (fun _ _ => ?_) | refine qx rfl rfl (by decide) rfl rfl (fun _ _ => ?_) | refine s_neg rfl (by omega) ?_ | refine Qe ?_ | refine Qs rfl ?_ | refine Qg ?_ | refine Qa ?_ | refine Qk ?_ | refine Qq ?_)
 exact e_1 (Tryd.results98) (Qh rfl) (Qy (σ := [_, _, _, _]) (r := [_, _, _]) ⟨rfl, _, by omega, rfl⟩)
theorem or_c (s : St) (hs : Ok s) (hv : s.vars < 1099511627776) (x y : Int) (hx : Lim s x) (hy : Lim s y) : BM Tryd.prog G 97 [.i x, .i y] s.vars s.cl (.i (or s x y).1) (or s x y).2 := fun g0 g1 g2 g3 c2 c3 c4 m sn h2 h3 h4 hm hsn B b0 b1 b2 b3 => by
 have hv0 := hs.v0
 have hv1 := hs.v1
 obtain ⟨hx1, hx2⟩ := hx
 obtain ⟨hy1, hy2⟩ := hy
 have hx' : Lim s (-x) := ⟨by omega, by omega⟩
 have hy' : Lim s (-y) := ⟨by omega, by omega⟩
 obtain ⟨hl1, hl2⟩ := ZF (s := s) hx' hy' hv0
 refine Qc Tryd.func97 rfl Tryd.ntmps97 rfl (t := [(0, .ptr 0 g0 0), (1, .i x), (2, .i y)]) rfl fun E hE => ?_
 (repeat' first | refine Qu rfl ?_ | refine QA rfl ?_ | refine Zk rfl rfl (and_c s hs hv (-x) (-y) hx' hy') rfl (fun _ _ => ?_) | refine s_neg rfl (by omega) ?_ | refine Qe ?_ | refine Qs rfl ?_ | refine Qg ?_ | refine Qa ?_ | refine Qq ?_)
 exact e_1 (Tryd.results97) (Qh rfl) (Zg ⟨rfl, _, by omega, rfl⟩)
theorem xor_c (s : St) (hs : Ok s) (hv : s.vars < 1099511627776) (x y : Int) (hx : Lim s x) (hy : Lim s y) : BM Tryd.prog G 102 [.i x, .i y] s.vars s.cl (.i (xor s x y).1) (xor s x y).2 := fun g0 g1 g2 g3 c2 c3 c4 m sn h2 h3 h4 hm hsn B b0 b1 b2 b3 => by
 have hv0 := hs.v0
 have hv1 := hs.v1
 obtain ⟨hx1, hx2⟩ := hx
 obtain ⟨hy1, hy2⟩ := hy
 have hs1 := fresh_ok hs hv
 have hs2 := add_ok hs1 [-x, -y, -(s.vars + 1)]
 have hs3 := add_ok hs2 [x, y, -(s.vars + 1)]
 have hs4 := add_ok hs3 [-x, y, s.vars + 1]
 refine Qc Tryd.func102 rfl Tryd.ntmps102 rfl (t := [(0, .ptr 0 g0 0), (1, .i x), (2, .i y)]) rfl fun E hE => ?_
 (repeat' first | refine Qu rfl ?_ | refine QA rfl ?_ | refine QJ rfl rfl ?_ | refine Qe ?_ | refine Qs rfl ?_ | refine Qg ?_ | refine Qa ?_ | refine Qf ?_)
 refine QE rfl (fun h => ?_) (fun n1 => ?_)
 ·rw [show xor s x y = (-1, s) from if_pos h]
  (repeat' first | refine QA rfl ?_ | refine Qe ?_ | refine Qs rfl ?_ | refine Qg ?_ | refine Qa ?_ | refine Qq ?_)
  exact e_1 (Tryd.results102) (Qh rfl) (Zg ⟨rfl, g1, .inl rfl, rfl⟩)
 have e1 : xor s x y = _ := if_neg n1
 (repeat' first | refine Qu rfl ?_ | refine QA rfl ?_ | refine QJ rfl rfl ?_ | refine s_neg rfl (by omega) ?_ | refine Qe ?_ | refine Qs rfl ?_ | refine Qg ?_ | refine Qa ?_)
 refine QE rfl (fun h => ?_) (fun n2 => ?_)
 ·rw [e1, if_pos h]
  (repeat' first | refine QA rfl ?_ | refine Qe ?_ | refine Qs rfl ?_ | refine Qg ?_ | refine Qa ?_ | refine Qq ?_)
  exact e_1 (Tryd.results102) (Qh rfl) (Zg ⟨rfl, g1, .inl rfl, rfl⟩)
 rw [if_neg n2] at e1
 (repeat' first | refine Qu rfl ?_ | refine QA rfl ?_ | refine s_mul rfl rfl (by subst_vars; omega) ?_ | refine QJ rfl rfl ?_ | refine WI rfl rfl ?_ | refine Wm rfl rfl ?_ | refine s_neg rfl (by omega) ?_ | refine Qe ?_ | refine Qs rfl ?_ | refine WK rfl rfl rfl rfl ?_ | refine W3 rfl rfl rfl rfl ?_ | refine o_sp_d rfl rfl (fun _ => ?_) (fun _ => ?_) | refine Qg ?_ | refine Qa ?_ | refine QB rfl ?_ | refine Qq ?_)
 ·rename_i h
  rw [e1, if_pos (.inl h)]
  exact e_1 (Tryd.results102) (Qh rfl) (Zg ⟨rfl, g1, .inl rfl, rfl⟩)
 rename_i n3
 refine QE rfl (fun h => ?_) (fun n4 => ?_)
 ·rw [e1, if_pos (.inr h)]
  (repeat' first | refine Qu rfl ?_ | refine QA rfl ?_ | refine s_mul rfl rfl (by subst_vars; omega) ?_ | refine s_neg rfl (by omega) ?_ | refine Qe ?_ | refine Qs rfl ?_ | refine Qg ?_ | refine Qa ?_ | refine Qq ?_)
  exact e_1 (Tryd.results102) (Qh rfl) (Zg ⟨rfl, g1, .inl rfl, rfl⟩)
 rw [if_neg (by omega)] at e1
 (repeat' first | refine Qu rfl ?_ | refine QA rfl ?_ | refine s_mul rfl rfl (by subst_vars; omega) ?_ | refine QJ rfl rfl ?_ | refine WI rfl rfl ?_ | refine Wm rfl rfl ?_ | refine s_neg rfl (by omega) ?_ | refine Qe ?_ | refine Qs rfl ?_ | refine WK rfl rfl rfl rfl ?_ | refine W3 rfl rfl rfl rfl ?_ | refine o_sp_d rfl rfl (fun _ => ?_) (fun _ => ?_) | refine Qg ?_ | refine Qa ?_ | refine QB rfl ?_ | refine Qq ?_)
 ·rename_i h
  rw [e1, if_pos (.inl h)]
  exact e_1 (Tryd.results102) (Qh rfl) (Zg ⟨rfl, g1, .inl rfl, rfl⟩)
 rename_i n5
 refine QE rfl (fun h => ?_) (fun n6 => ?_)
 ·rw [e1, if_pos (.inr h)]
  (repeat' first | refine Qu rfl ?_ | refine QA rfl ?_ | refine s_mul rfl rfl (by subst_vars; omega) ?_ | refine s_neg rfl (by omega) ?_ | refine Qe ?_ | refine Qs rfl ?_ | refine Qg ?_ | refine Qa ?_ | refine Qq ?_)
  exact e_1 (Tryd.results102) (Qh rfl) (Zg ⟨rfl, g1, .inl rfl, rfl⟩)
 rw [if_neg (by omega)] at e1
 rw [e1]
 (repeat' first | refine Qu rfl ?_ | refine QA rfl ?_ | refine Zk rfl rfl (fresh_c s hs) rfl (fun _ _ => ?_) | refine qw rfl rfl (add_c _ hs1 [-x, -y, -(s.vars + 1)] (by simp)) rfl (by assumption) (by assumption) (by assumption) (by assumption) (by assumption) (by rfl) (by rfl) (by rfl) (by rfl) (by rfl) (by rfl) (fun _ _ => ?_) | refine qw rfl rfl (add_c _ hs2 [x, y, -(s.vars + 1)] (by simp)) rfl (by assumption) (by assumption) (by assumption) (by assumption) (by assumption) (by rfl) (by rfl) (by rfl) (by rfl) (by rfl) (by rfl) (fun _ _ => ?_) | refine qw rfl rfl (add_c _ hs3 [-x, y, s.vars + 1] (by simp)) rfl (by assumption) (by assumption) (by assumption) (by assumption) (by assumption) (by rfl) (by rfl) (by rfl) (by rfl) (by rfl) (by rfl) (fun _ _ => ?_) | refine qw rfl rfl (add_c _ hs4 [x, -y, s.vars + 1] (by simp)) rfl (by assumption) (by assumption) (by assumption) (by assumption) (by assumption) (by rfl) (by rfl) (by rfl) (by rfl) (by rfl) (by rfl) (fun _ _ => ?_) | refine qx rfl rfl (by decide) rfl rfl (fun _ _ => ?_) | refine s_neg rfl (by omega) ?_ | refine Qe ?_ | refine Qs rfl ?_ | refine Qg ?_ | refine Qa ?_ | refine Qk ?_ | refine Qq ?_)
 exact e_1 (Tryd.results102) (Qh rfl) (Qy (σ := [_, _, _, _]) (r := [_, _, _, _]) ⟨rfl, _, by omega, rfl⟩)
theorem less_c (s : St) (hs : Ok s) (hv : s.vars + 100 < 1099511627776) (x y : List Int) (hxl : x.length = 4) (hyl : y.length = 4) (hx : ∀ v ∈ x, Lim s v) (hy : ∀ v ∈ y, Lim s v) : BM Tryd.prog G 104 [.agg (Qt x), .agg (Qt y)] s.vars s.cl (.i (less s x y).1) (less s x y).2 := fun g0 g1 g2 g3 c2 c3 c4 m sn h2 h3 h4 hm hsn B b0 b1 b2 b3 => by
 have hv0 := hs.v0
 have hv1 := hs.v1
 refine Qc Tryd.func104 rfl Tryd.ntmps104 rfl (t := [(0, .ptr 0 g0 0), (1, .agg (Qt x)), (2, .agg (Qt y))]) rfl fun E hE => ?_
 have e3x : x.getD 3 0 = x[3] := Ord.getD_lt (by omega) 0
 have e3y : y.getD 3 0 = y[3] := Ord.getD_lt (by omega) 0
 have hX : ∀ v ∈ Z9 x y, Lim s v := fun v h => by
  rcases List.mem_or_eq_of_mem_set h with h | rfl
  ·exact hx v h
  ·exact Wr hy hv0 3
 have hY : ∀ v ∈ Z9 y x, Lim s v := fun v h => by
  rcases List.mem_or_eq_of_mem_set h with h | rfl
  ·exact hy v h
  ·exact Wr hx hv0 3
 have hXl : (Z9 x y).length = 4 := by unfold Z9; rw [List.length_set, hxl]
 have hYl : (Z9 y x).length = 4 := by unfold Z9; rw [List.length_set, hyl]
 have eX : x.set 3 y[3] = Z9 x y := by unfold Z9; rw [e3y]
 have eY : y.set 3 x[3] = Z9 y x := by unfold Z9; rw [e3x]
 have hlt := fun i hi => lessTo_gate hs hv hX hY i hi
 (repeat' first | refine Qu rfl ?_ | refine QA rfl ?_ | refine Wj rfl rfl rfl (by first | assumption | omega) rfl ?_ | refine Zx rfl rfl rfl (by omega) (by omega) ?_ | refine Wk rfl rfl rfl rfl rfl (by first | assumption | omega) rfl ?_ | refine QU rfl rfl (fun _ _ => ?_) | refine Qe ?_ | refine Qs rfl ?_ | refine QZ ?_ | refine Qg ?_ | refine Qa ?_ | refine Qf ?_)
 rename_i gx hgx gy hgy
 have er : less s x y = Zq s (Z9 x y) (Z9 y x) 4 := rfl
 rw [er]
 refine ZV (fun (i gc : Nat) => ⟨[(0, .ptr 0 g0 0), (4, .ptr 4 gx 0), (5, .ptr 5 gy 0), (7, .i (Zq s (Z9 x y) (Z9 y x) i).1), (15, .i i)], [.row g0 [.sc (.int .i64 (Zq s (Z9 x y) (Z9 y x) i).2.vars), .ref 1 gc 0 (Zq s (Z9 x y) (Z9 y x) i).2.cl.length 1, c2, c3, c4, .mp 2 g2, .mp 3 g3], .row gc (Qt (Zq s (Z9 x y) (Z9 y x) i).2.cl), .mapb g2 (Wp m), .mapb g3 sn, .row gx (Qt (Z9 x y)), .row gy (Qt (Z9 y x))]⟩) (fun i gc => i <= 4 /\ (gc = g1 \/ E.N < gc)) (fun i _ => 4 - i) 0 g1 ?_ ⟨by omega, .inl rfl⟩ ?_
 ·rw [<- eX, <- eY]
  exact zal rfl
 clear eX eY
 generalize Z9 x y = X at *
 generalize Z9 y x = Y at *
 intro i gc ⟨hi, hgc⟩
 obtain ⟨hg, hl⟩ := hlt i (by omega)
 have hsucc : Zq s X Y (i + 1) = lessAt (Zq s X Y i).2 (X.getD i 0) (Y.getD i 0) (Zq s X Y i).1 := rfl
 (repeat' first | refine QL rfl rfl ?_ | refine Qe ?_ | refine Qs rfl ?_ | refine Qg ?_ | refine Qa ?_)
 refine QE rfl (fun h => ?_) (fun h => ?_)
 ·have hiX : i < X.length := by omega
  have hiY : i < Y.length := by omega
  rw [Ord.getD_lt hiX 0, Ord.getD_lt hiY 0] at hsucc
  have ho := hg.ok
  have hh := hg.hi
  have hov : (Zq s X Y i).2.vars < 1099511627776 := by omega
  have ha : Lim (Zq s X Y i).2 X[i] := (hX _ (List.getElem_mem hiX)).mono hg.lo
  have hb : Lim (Zq s X Y i).2 Y[i] := (hY _ (List.getElem_mem hiY)).mono hg.lo
  clear hlt er
  generalize Zq s X Y i = o at *
  have q1 := Zn ho hov (-X[i]) Y[i]
  have l1 := ZF (s := o.2) ha.neg hb ho.v0
  have k1 := q1.hi
  have hov1 : (and o.2 (-X[i]) Y[i]).2.vars < 1099511627776 := by omega
  have q2 := xor_gate q1.ok hov1 X[i] Y[i]
  have l2 := (xor_lim (s := (and o.2 (-X[i]) Y[i]).2) (ha.mono q1.lo) (hb.mono q1.lo) q1.ok.v0).neg.mono q2.lo
  have l2' := hl.mono (Int.le_trans q1.lo q2.lo)
  have k2 := q2.hi
  have hov2 : (xor (and o.2 (-X[i]) Y[i]).2 X[i] Y[i]).2.vars < 1099511627776 := by omega
  have q3 := Zn q2.ok hov2 (-(xor (and o.2 (-X[i]) Y[i]).2 X[i] Y[i]).1) o.1
  have k3 := q3.hi
  have hov3 : (and (xor (and o.2 (-X[i]) Y[i]).2 X[i] Y[i]).2 (-(xor (and o.2 (-X[i]) Y[i]).2 X[i] Y[i]).1) o.1).2.vars < 1099511627776 := by omega
  have l4 := (l1.mono (q1.lo)).mono (Int.le_trans q2.lo q3.lo)
  have l4' := (ZF l2 l2' q2.ok.v0).mono q3.lo
  have ha1 := ha.1
  have ha2 := ha.2
  have hb1 := l2.1
  have hb2 := l2.2
  (repeat' first | refine Qu rfl ?_ | refine QA rfl ?_ | refine Q5 rfl rfl (by omega) ?_ | refine Zk rfl rfl (and_c _ ho hov _ _ ha.neg hb) rfl (fun _ _ => ?_) | refine Zk rfl rfl (xor_c _ q1.ok hov1 _ _ (ha.mono q1.lo) (hb.mono q1.lo)) rfl (fun _ _ => ?_) | refine Zk rfl rfl (and_c _ q2.ok hov2 _ _ l2 l2') rfl (fun _ _ => ?_) | refine Zk rfl rfl (or_c _ q3.ok hov3 _ _ l4 l4') rfl (fun _ _ => ?_) | refine Qe ?_ | refine Qs rfl ?_ | refine Qg ?_ | refine Qa ?_ | refine Qf ?_ | (refine Q0 ?_; first | (refine Wf (fun p => p.1 :: p.2.1 :: p.2.2.1 :: p.2.2.2.1 :: .row gx (Qt X) :: .row gy (Qt Y) :: p.2.2.2.2) 24 [(0, true), (1, true), (2, true), (3, true), (4, true), (5, true), (6, true), (7, true), (8, true), (10, true), (11, true), (12, true), (13, true), (14, true), (15, true), (16, true), (17, true), (20, true), (9, false), (18, false), (19, true), (21, false), (22, false), (23, true)] (by rfl) (by rfl) (by kernel_rfl) (by decide +kernel) (by decide +kernel) ⟨(_, _, _, _, _), rfl⟩ ?_) | refine Q3 (by rfl) (by kernel_rfl) (by kernel_rfl) ?_ | refine QP (by kernel_rfl) (by kernel_rfl) ?_) | refine Qk ?_ | refine i_nil ?_ | refine i_st rfl rfl (fun _ => (by (repeat' first | refine Qu rfl ?_ | refine QA rfl ?_ | refine Wj rfl rfl rfl (by first | assumption | omega) rfl ?_ | refine WE rfl rfl rfl (by omega) ?_ | refine s_neg rfl (by omega) ?_ | exact ⟨rfl, rfl⟩))) ?_ | refine i_ef rfl ?_ | refine And.intro (Exists.intro ((_, _, _, _, _)) rfl) ?_)
  rename_i ga hga gb hgb gd hgd ge hge
  refine ⟨i + 1, ge, ⟨by omega, by omega⟩, by omega, ?_⟩
  rw [hsucc]
  exact zal rfl
 ·have hi4 : i = 4 := by omega
  subst hi4
  (repeat' first | refine Qu rfl ?_ | refine QA rfl ?_ | refine Qe ?_ | refine Qs rfl ?_ | refine Qg ?_ | refine Qa ?_ | refine Q2 rfl ?_ | refine Qq ?_)
  exact e_1 (Tryd.results104) (Qh rfl) (Qy (σ := [_, _, _, _]) (r := [_, _]) ⟨rfl, gc, by omega, rfl⟩)
theorem _root_.Go.Bl.wbits_eq (n : Int) : ZJ n = n % 16 := by
 show IntKind.i64.wrap ((BitVec.ofInt 64 n &&& BitVec.ofInt 64 15).toNat : Int) = _
 rw [BitVec.toNat_and, BitVec.toNat_ofInt, show (BitVec.ofInt 64 15).toNat = 2 ^ 4 - 1 from rfl, Nat.and_two_pow_sub_one_eq_mod]
 have h0 : 0 <= n % ((2 ^ 64 : Nat) : Int) := Int.emod_nonneg _ (by decide)
 have h1 : (((n % ((2 ^ 64 : Nat) : Int)).toNat % 2 ^ 4 : Nat) : Int) = n % 16 := by
  rw [Int.natCast_emod, Int.toNat_of_nonneg h0]
  omega
 rw [h1]
 exact wrap_i64 (by omega)
theorem _root_.Go.Bl.wbits_bound (n : Int) : 0 <= ZJ n /\ ZJ n <= 15 := by
 rw [wbits_eq]; omega
theorem wBits_c (n : Int) : Go.Av.Pure Tryd.prog G 96 [.i n] (.i (ZJ n)) := fun B => by
 refine Qc Tryd.func96 rfl Tryd.ntmps96 rfl (t := [(0, .i n)]) rfl fun E hE => ?_
 (repeat' first | refine Qu rfl ?_ | refine QA rfl ?_ | refine s_and rfl rfl ?_ | refine Qe ?_ | refine Qs rfl ?_ | refine Qg ?_ | refine Qa ?_ | refine Qq ?_)
 refine e_1 Tryd.results96 (Qh rfl) (QD ?_)
 rfl
theorem width_c (k : Int) : Go.Av.Pure Tryd.prog G 39 [.i k] (.i (width k)) := fun B => by
 refine Qc Tryd.func39 rfl Tryd.ntmps39 rfl (t := [(0, .i k)]) rfl fun E hE => ?_
 (repeat' first | refine Qu rfl ?_ | refine QA rfl ?_ | refine QJ rfl rfl ?_ | refine Qe ?_ | refine Qs rfl ?_ | refine Qg ?_ | refine Qa ?_)
 refine QE rfl (fun h => ?_) (fun h => ?_)
 ·(repeat' first | refine QA rfl ?_ | refine Qe ?_ | refine Qs rfl ?_ | refine Qg ?_ | refine Qa ?_ | refine Qq ?_)
  refine e_1 Tryd.results39 (Qh rfl) (QD ?_)
  unfold width; rw [if_pos h]
 ·(repeat' first | refine QA rfl ?_ | refine Qe ?_ | refine Qs rfl ?_ | refine Qg ?_ | refine Qa ?_ | refine Qk ?_ | refine Qq ?_)
  refine e_1 Tryd.results39 (Qh rfl) (QD ?_)
  unfold width; rw [if_neg h]
theorem number_c (n : Int) : Go.Av.Pure Tryd.prog G 84 [.i n] (.agg (Qt (qy n))) := fun B => by
 refine Qc Tryd.func84 rfl Tryd.ntmps84 rfl (t := [(0, .i n)]) rfl fun E hE => ?_
 (repeat' first | refine Qu rfl ?_ | refine QH (fun _ _ => ?_) | refine Qe ?_ | refine Qs rfl ?_ | refine Qg ?_ | refine Qa ?_ | refine Qf ?_)
 rename_i ga hga gb hgb
 refine Wv (fun (i : Nat) => ⟨[(0, .i n), (2, .ptr 0 ga 0), (3, .ptr 1 gb 0), (5, .i i)], [.row ga [.i 0, .i 0, .i 0, .i 0], .row gb (Qt (Za n i))]⟩) (fun i => i <= 4) (fun i => 4 - i) 0 ?_ (by omega) ?_
 ·exact zal rfl
 intro i hi
 have hl : (Za n i).length = 4 := Z6 n i
 (repeat' first | refine QL rfl rfl ?_ | refine Qe ?_ | refine Qs rfl ?_ | refine Qg ?_ | refine Qa ?_)
 refine QE rfl (fun h => ?_) (fun h => ?_)
 ·have hw := wbits_bound n
  have hil : i < (Za n i).length := by omega
  have hs1 : Za n (i + 1) = ((Za n i).set i (-1)).set i (if bitAt n i then 1 else -1) := by rw [Za, List.set_set]
  have hil2 : i < ((Za n i).set i (-1)).length := by rw [List.length_set]; omega
  (repeat' first | refine Qu rfl ?_ | refine QA rfl ?_ | refine WE rfl rfl rfl (by omega) ?_ | refine QJ rfl rfl ?_ | refine s_and rfl rfl ?_ | refine s_shr rfl rfl (by omega) ?_ | refine Wa rfl rfl (wBits_c _) ?_ | refine Wk rfl rfl rfl rfl rfl (by first | assumption | omega) rfl ?_ | refine Qe ?_ | refine Qs rfl ?_ | refine QZ ?_ | refine Qg ?_ | refine Qa ?_ | refine Qf ?_ | refine Qk ?_)
  refine QE rfl (fun hb => ?_) (fun hb => ?_)
  ·rw [if_pos (show bitAt n i from hb)] at hs1
   (repeat' first | refine Qu rfl ?_ | refine WE rfl rfl rfl (by omega) ?_ | refine Q5 rfl rfl (by omega) ?_ | refine Wk rfl rfl rfl rfl rfl (by first | assumption | omega) rfl ?_ | refine Qe ?_ | refine Qs rfl ?_ | refine QZ ?_ | refine Qa ?_)
   refine ⟨i + 1, by omega, by omega, ?_⟩
   rw [hs1]
   exact zal rfl
  ·have hs2 : Za n (i + 1) = (Za n i).set i (-1) := by rw [Za, if_neg (show ¬ bitAt n i from hb)]
   (repeat' first | refine Qu rfl ?_ | refine Q5 rfl rfl (by omega) ?_ | refine Qe ?_ | refine Qs rfl ?_ | refine Qa ?_ | refine Qk ?_)
   refine ⟨i + 1, by omega, by omega, ?_⟩
   rw [hs2]
   exact zal rfl
 ·have hi4 : i = 4 := by omega
  subst hi4
  (repeat' first | refine s_load_rowa rfl rfl (by rfl) (by rfl) ?_ | refine Wb rfl rfl rfl rfl (by rfl) (by rfl) (by rfl) ?_ | refine Qe ?_ | refine Qs rfl ?_ | refine QZ ?_ | refine Qg ?_ | refine Qa ?_ | refine Q2 rfl ?_ | refine Qq ?_)
  exact e_1 (Tryd.results84) (QR (size := 4) rfl rfl rfl rfl) (QD rfl)
end Go.Proofs
end
section
namespace Go.Proofs
open Go.Shelf
def Tryd.laysM171_ren : Go.Shelf.Ren := ⟨fun | 171 => 83 | 243 => 95 | 246 => 107 | 283 => 109 | 284 => 110 | 285 => 111 | 286 => 112 | 129 => 114 | 317 => 113 | 318 => 115 | 319 => 116 | 320 => 117 | 337 => 118 | 338 => 119 | n => n, fun | 3 => 3 | 9 => 9 | 2 => 2 | 4 => 4 | 171 => 125 | 0 => 0 | 53 => 126 | 37 => 129 | 5 => 5 | 173 => 130 | 212 => 132 | 51 => 133 | 20 => 20 | 213 => 134 | 46 => 123 | 232 => 137 | 233 => 138 | n => n, fun | 17 => 1 | 18 => 2 | 19 => 3 | n => n⟩
def Tryd.lays171_ren : Go.Shelf.Ren := ⟨fun | 171 => 83 | 243 => 95 | 246 => 107 | 283 => 109 | 284 => 110 | 285 => 111 | 286 => 112 | 129 => 114 | 317 => 113 | 318 => 115 | 319 => 116 | 320 => 117 | 337 => 118 | 338 => 119 | n => n, fun | 3 => 3 | 9 => 9 | 2 => 2 | 4 => 4 | 171 => 125 | 0 => 0 | 53 => 126 | 37 => 129 | 5 => 5 | 173 => 130 | 212 => 132 | 51 => 133 | 20 => 20 | 213 => 134 | 46 => 123 | 232 => 137 | 233 => 138 | n => n, fun | 17 => 1 | 18 => 2 | 19 => 3 | n => n⟩
theorem Tryd.lays171 : Go.Proofs.Lays.n171 Tryd.prog Tryd.lays171_ren := {
 mixed := by kernel_rfl
 f129 := Tryd.func114.trans (congrArg some (by kernel_rfl))
 f171 := Tryd.func83.trans (congrArg some (by kernel_rfl))
 f243 := Tryd.func95.trans (congrArg some (by kernel_rfl))
 f246 := Tryd.func107.trans (congrArg some (by kernel_rfl))
 f283 := Tryd.func109.trans (congrArg some (by kernel_rfl))
 f284 := Tryd.func110.trans (congrArg some (by kernel_rfl))
 f285 := Tryd.func111.trans (congrArg some (by kernel_rfl))
 f286 := Tryd.func112.trans (congrArg some (by kernel_rfl))
 f317 := Tryd.func113.trans (congrArg some (by kernel_rfl))
 f318 := Tryd.func115.trans (congrArg some (by kernel_rfl))
 f319 := Tryd.func116.trans (congrArg some (by kernel_rfl))
 f320 := Tryd.func117.trans (congrArg some (by kernel_rfl))
 f337 := Tryd.func118.trans (congrArg some (by kernel_rfl))
 f338 := Tryd.func119.trans (congrArg some (by kernel_rfl))
 t0 := Tryd.underlying0
 a0 := Tryd.isAgg0
 z0 := Tryd.sizeOf0
 v0 := Tryd.zeroValue0
 t2 := Tryd.underlying2
 a2 := Tryd.isAgg2
 z2 := Tryd.sizeOf2
 v2 := Tryd.zeroValue2
 t3 := Tryd.underlying3
 a3 := Tryd.isAgg3
 z3 := Tryd.sizeOf3
 v3 := Tryd.zeroValue3
 t4 := Tryd.underlying4
 a4 := Tryd.isAgg4
 z4 := Tryd.sizeOf4
 v4 := Tryd.zeroValue4
 t5 := Tryd.underlying5
 a5 := Tryd.isAgg5
 z5 := Tryd.sizeOf5
 v5 := Tryd.zeroValue5
 t9 := Tryd.underlying9
 a9 := Tryd.isAgg9
 z9 := Tryd.sizeOf9
 v9 := Tryd.zeroValue9
 t20 := Tryd.underlying20
 a20 := Tryd.isAgg20
 z20 := Tryd.sizeOf20
 v20 := Tryd.zeroValue20
 t37 := Tryd.underlying129
 a37 := Tryd.isAgg129
 z37 := Tryd.sizeOf129
 v37 := Tryd.zeroValue129
 t46 := Tryd.underlying123
 a46 := Tryd.isAgg123
 z46 := Tryd.sizeOf123
 v46 := Tryd.zeroValue123
 t51 := Tryd.underlying133
 a51 := Tryd.isAgg133
 z51 := Tryd.sizeOf133
 v51 := Tryd.zeroValue133
 t53 := Tryd.underlying126
 a53 := Tryd.isAgg126
 z53 := Tryd.sizeOf126
 v53 := Tryd.zeroValue126
 t171 := Tryd.underlying125
 a171 := Tryd.isAgg125
 z171 := Tryd.sizeOf125
 v171 := Tryd.zeroValue125
 t173 := Tryd.underlying130
 a173 := Tryd.isAgg130
 z173 := Tryd.sizeOf130
 v173 := Tryd.zeroValue130
 t212 := Tryd.underlying132
 a212 := Tryd.isAgg132
 z212 := Tryd.sizeOf132
 v212 := Tryd.zeroValue132
 t213 := Tryd.underlying134
 a213 := Tryd.isAgg134
 z213 := Tryd.sizeOf134
 t232 := Tryd.underlying137
 a232 := Tryd.isAgg137
 z232 := Tryd.sizeOf137
 v232 := Tryd.zeroValue137
 t233 := Tryd.underlying138
 a233 := Tryd.isAgg138
 z233 := Tryd.sizeOf138
 v233 := Tryd.zeroValue138
 g17 := by kernel_rfl
 g18 := by kernel_rfl
 g19 := by kernel_rfl }
open Go.RowKit Go.Sort Go.Lib in
theorem Tryd.strconv_Itoa_small (i : Nat) (hi : i < 100) (w : World) :
  Calls Tryd.prog 83 #[.int .i64 i] w fun e w' => e = .returned (.string ⟨(Lib.decDigits i).toArray⟩) /\ w' = w := Any.strconv_Itoa_small Tryd.lays171 i hi w
end Go.Proofs
end
section
namespace Go.Bl
open Go.Av
inductive Nd where
 | mk (k n m : Int) (kids : List Nd)
mutual
def Nd.cells : Nd -> List DV
 | .mk k n m ks => [.i k, .i n, .i m, .sl 4 (cellsL ks)]
def cellsL : List Nd -> List DV
 | [] => []
 | x :: r => x.cells ++ cellsL r
end
mutual
theorem cells_clo : ∀ t : Nd, ∀ d ∈ t.cells, d.clo = true
 | .mk k n m ks, d, hd => by
  simp only [Nd.cells, List.mem_cons, List.not_mem_nil, or_false] at hd
  rcases hd with rfl | rfl | rfl | rfl
  ·exact Qx
  ·exact Qx
  ·exact Qx
  ·exact We (cellsL_clo ks)
theorem cellsL_clo : ∀ l : List Nd, ∀ d ∈ cellsL l, d.clo = true
 | [], d, hd => by simp [cellsL] at hd
 | x :: r, d, hd => by
  rw [cellsL, List.mem_append] at hd
  rcases hd with hd | hd
  ·exact cells_clo x d hd
  ·exact cellsL_clo r d hd
end
theorem cells_len : ∀ t : Nd, t.cells.length = 4
 | .mk _ _ _ _ => rfl
instance : Enc Nd where
 enc := Nd.cells
 es := 4
 len := cells_len
 one t d hd := by
  cases t
  simp only [Nd.cells, List.mem_cons, List.not_mem_nil, or_false] at hd
  rcases hd with rfl | rfl | rfl | rfl <;> rfl
 clo := cells_clo
 pos := by decide
theorem cellsL_eq : ∀ l : List Nd, cellsL l = Qt l
 | [] => rfl
 | x :: r => by rw [cellsL, cellsL_eq r]; rfl
theorem Q9 (k n m : Int) (ks : List Nd) : (Enc.enc (Nd.mk k n m ks) : List DV) = [.i k, .i n, .i m, QG ks] := by
 show [DV.i k, .i n, .i m, .sl 4 (cellsL ks)] = _
 rw [cellsL_eq]; rfl
theorem Nd.ind {Q : Nd -> Prop} (h : ∀ k n m ks, (∀ x ∈ ks, Q x) -> Q (.mk k n m ks)) : ∀ t, Q t
 | .mk k n m ks => h k n m ks fun x hx => Nd.ind h x
termination_by t => SizeOf.sizeOf t
decreasing_by
 have := List.sizeOf_lt_of_mem hx
 simp; omega
abbrev strD (l : List UInt8) : DV := .sc (.string ⟨l.toArray⟩)
end Go.Bl
namespace Go.Av
open Go.Bl
section
variable {P : Program} {G : Nat -> DV} {B : Nat} {f : Operand -> DV} {σ : List ABlk} {K : DV -> List ABlk -> Prop} {dst : Option Tmp} {type : TypeId} {pos : String} {after : Array Edge} {gd : Option (Nat × Bool)}
theorem bytes_append (a b : List UInt8) : ((⟨a.toArray⟩ : ByteArray) ++ ⟨b.toArray⟩) = ⟨(a ++ b).toArray⟩ := by
 apply ByteArray.ext
 simp [ByteArray.data_append]
theorem s_add_s {t t' : TypeId} {g1 : Bool} {z1 : Nat} {x y : Operand} {a b : List UInt8} [ht : TyI P t .string g1 z1] (hx : f x = .sc (.string ⟨a.toArray⟩)) (hy : f y = .sc (.string ⟨b.toArray⟩)) (hl : a.length + b.length <= 9223372036854775807)
  (k : K (strD (a ++ b)) σ) : OpSem P G B ⟨dst, .binOp .add t x y t', type, pos, after, gd⟩ f σ K :=
 s_bin hx hy (fun w => by
  have : (eqGuard .add t x y (.string ⟨a.toArray⟩) (.string ⟨b.toArray⟩)).run P w = .ok () w := by unfold eqGuard; rfl
  rw [Sem.run_bind, this]
  have h2 : ¬ IntKind.i64.max < ((ByteArray.size ⟨a.toArray⟩ + ByteArray.size ⟨b.toArray⟩ : Nat) : Int) := by
   have e : IntKind.i64.max = 9223372036854775807 := rfl
   rw [e]
   show ¬ (9223372036854775807 : Int) < ((a.toArray.size + b.toArray.size : Nat) : Int)
   simp; omega
  simp [binOp, run_underlying ht.u, Op.stringOp, h2, bytes_append]
  show ((a.toArray.size : Nat) : Int) + ((b.toArray.size : Nat) : Int) <= 9223372036854775807
  simp; omega) k
end
end Go.Av
namespace Go.Proofs
open Go.Av Go.Bl
variable {G : Nat -> DV}
theorem itoa_small (i : Nat) (hi : i < 100) : Go.Av.Pure Tryd.prog G 83 [.i i] (strD (Lib.decDigits i)) := fun B X vs hS hσ hB hG hv => by
 have hvs : vs = #[.int .i64 i] := by
  obtain ⟨h1, h2⟩ := hv
  have := VRep.sc_eq (h2 0 _ rfl)
  apply Array.ext
  ·simpa using h1
  ·intro j hj1 hj2
   have hj : j = 0 := by simp at hj2; omega
   subst hj
   simpa [Array.getD_eq_getD_getElem?, hj1] using this
 subst hvs
 refine (Tryd.strconv_Itoa_small i hi X.w).mono ?_
 rintro e w' ⟨rfl, rfl⟩
 exact ⟨_, rfl, X, rfl, hS, WExt.refl X, _, .sc _, rfl, hσ⟩
end Go.Proofs
end
section
namespace Go.Proofs
open Go.Av
variable {G : Nat -> DV}
attribute [local irreducible] OpSem WB WQ WW ACalls Zo QY RV
open Go.Bl
end Go.Proofs
end
section
namespace Go.Av
def Zv (M : List (Int × Int)) : List (Int × DV) := M.map fun p => (p.1, .i p.2)
def idxI (M : List (Int × Int)) (x : Int) : Option Nat := M.findIdx? fun p => decide (p.1 = x)
def W8 (M : List (Int × Int)) (x : Int) : Option Int := (idxI M x).map fun j => (M.getD j (0, 0)).2
def putI (M : List (Int × Int)) (x v : Int) : List (Int × Int) := match idxI M x with
 | some j => M.set j (x, v)
 | none => M ++ [(x, v)]
theorem mapI_put (M : List (Int × Int)) (x v : Int) : iput (Zv M) x (.i v) = Zv (putI M x v) := by
 have e : ifind (Zv M) x = idxI M x := by unfold ifind Zv idxI; rw [List.findIdx?_map]; rfl
 unfold iput putI
 rw [e]
 cases idxI M x with
 | none => simp [Zv]
 | some j => simp [Zv, List.map_set]
theorem ZG {M : List (Int × Int)} : ∀ p ∈ Wp (Zv M), p.2.clo = true := fun p hp => by
 simp only [Wp, Zv, List.map_map, List.mem_map] at hp
 obtain ⟨x, _, rfl⟩ := hp
 simp [DV.clo]
section
variable {P : Program} {G : Nat -> DV} {B : Nat} {f : Operand -> DV} {σ : List ABlk} {K : DV -> List ABlk -> Prop} {dst : Option Tmp} {type : TypeId} {pos : String} {after : Array Edge} {gd : Option (Nat × Bool)}
theorem run_lookup_i {X : AX} {t kt et : TypeId} {agg a1 : Bool} {size s1 k g : Nat} {M : List (Int × Int)} {x : Int} {vm vk : Value} (ok : Bool) (ht : TyI P t (.map kt et) agg size) (hkt : TyI P kt (.int .i64) a1 s1) (hz : (P.info? et).bind (·.zero) = some (.int .i64 0)) (hS : Sto X) (e1 : VRep X.lay (.mp k g) vm) (hσk : X.σ[k]? = some (.mapb g (Wp (Zv M)))) (e2 : vk = .int .i64 x) :
  (Instr.lookup t vm vk ok).run P X.w = .ok (if ok then .tuple #[.int .i64 ((W8 M x).getD 0), .bool (W8 M x).isSome] else .int .i64 ((W8 M x).getD 0)) X.w := by
 subst e2
 obtain ⟨b, n, es, clock, hρ, hb, hl, _, hes⟩ := hS.map hσk
 have e1 := VRep.mp_inv hσk e1 hρ
 subst e1
 obtain ⟨hl', hkey⟩ := map_keys hl hes
 have hls : es.toList.length = M.length := by simpa [Zv] using hl'
 have hke : ∀ j (hj : j < es.toList.length), es.toList[j].key = .int .i64 (M[j]'(by omega)).1 /\ es.toList[j].val = .int .i64 (M[j]'(by omega)).2 := fun j hj => by
  obtain ⟨h1, h2⟩ := hkey j (by simp [Zv]; omega) hj
  refine ⟨by rw [h1]; simp [Zv], ?_⟩
  have e : ((Zv M)[j]'(by simp [Zv]; omega)).2 = .sc (.int .i64 (M[j]'(by omega)).2) := by simp [Zv]
  rw [e] at h2
  exact VRep.sc_eq h2
 cases hfi : idxI M x with
 | none =>
  have hno := List.findIdx?_eq_none_iff.1 hfi
  have hg : W8 M x = none := by unfold W8; rw [hfi]; rfl
  have hf := findNow_none (K := .i64) (x := x) es.toList 0 fun e he => by
   obtain ⟨j, hj, rfl⟩ := List.getElem_of_mem he
   exact ⟨_, of_decide_eq_false (hno _ (List.getElem_mem (show j < M.length by omega))), (hke j hj).1⟩
  have h1 : (zeroValue et).run P X.w = .ok (.int .i64 0) X.w := by
   cases hi : P.info? et with
   | none => simp [hi] at hz
   | some i =>
    simp [hi] at hz
    simp [zeroValue, typeInfo, hi, hz, Result.andThen]
  rw [hg]
  cases ok <;> simp [Instr.lookup, run_underlying ht.u, MapKept.run_getObj_map hb, MapKept.run_checkKey hkt.u (k := .int .i64 x) rfl, MapKept.run_findKey hkt.u hf, Result.andThen, h1]
 | some j =>
  obtain ⟨h1, h2, h3⟩ := List.findIdx?_eq_some_iff_getElem.1 hfi
  have hj : j < es.toList.length := by omega
  have e : M[j].1 = x := of_decide_eq_true h2
  have hg : W8 M x = some M[j].2 := by
   unfold W8; rw [hfi, Option.map_some, List.getD_eq_getElem?_getD, List.getElem?_eq_getElem h1]; rfl
  have hf := findNow_some (K := .i64) (x := x) es.toList 0 j hj (by rw [(hke j hj).1, e]) fun i hi => ⟨_, fun e => h3 i hi (decide_eq_true e), (hke i (by omega)).1⟩
  rw [hg]
  have hv := (hke j hj).2
  cases ok <;> simp [Instr.lookup, run_underlying ht.u, MapKept.run_getObj_map hb, MapKept.run_checkKey hkt.u (k := .int .i64 x) rfl, MapKept.run_findKey hkt.u hf, Result.andThen] <;> simpa using hv
theorem qv {t kt et : TypeId} {agg a1 : Bool} {size s1 : Nat} {m ix : Operand} {k g : Nat} {M : List (Int × Int)} {x : Int} [ht : TyI P t (.map kt et) agg size] [hkt : TyI P kt (.int .i64) a1 s1] (hm : f m = .mp k g) (hσk : σ[k]? = some (.mapb g (Wp (Zv M)))) (hx : f ix = .sc (.int .i64 x)) (hz : (P.info? et).bind (·.zero) = some (.int .i64 0))
  (kk : K (.tup [.i ((W8 M x).getD 0), .b (W8 M x).isSome]) σ) : OpSem P G B ⟨dst, .lookup t m ix true, type, pos, after, gd⟩ f σ K := fun X ρ hS hσ hB _ hf => by
 subst hσ
 have e1 := hf m (by simp [Op.operands]); rw [hm] at e1
 have e2 := hf ix (by simp [Op.operands]); rw [hx] at e2
 have := run_lookup_i true ht hkt hz hS e1 hσk (VRep.sc_eq e2)
 simp only [execOp, this, Sem.run_bind, Sem.run_pure, Result.andThen_ok, if_true]
 refine ⟨X, rfl, hS, WExt.refl X, _, .tup _ _ rfl fun j d hj => ?_, kk⟩
 match j, hj with
 | 0, hj => cases hj; exact .sc _
 | 1, hj => cases hj; exact .sc _
 | j + 2, hj => simp at hj
theorem s_lookup_i {t kt et : TypeId} {agg a1 : Bool} {size s1 : Nat} {m ix : Operand} {k g : Nat} {M : List (Int × Int)} {x : Int} [ht : TyI P t (.map kt et) agg size] [hkt : TyI P kt (.int .i64) a1 s1] (hm : f m = .mp k g) (hσk : σ[k]? = some (.mapb g (Wp (Zv M)))) (hx : f ix = .sc (.int .i64 x)) (hz : (P.info? et).bind (·.zero) = some (.int .i64 0))
  (kk : K (.i ((W8 M x).getD 0)) σ) : OpSem P G B ⟨dst, .lookup t m ix false, type, pos, after, gd⟩ f σ K := fun X ρ hS hσ hB _ hf => by
 subst hσ
 have e1 := hf m (by simp [Op.operands]); rw [hm] at e1
 have e2 := hf ix (by simp [Op.operands]); rw [hx] at e2
 have := run_lookup_i false ht hkt hz hS e1 hσk (VRep.sc_eq e2)
 simp only [execOp, this, Sem.run_bind, Sem.run_pure, Result.andThen_ok, Bool.false_eq_true, if_false]
 exact ⟨X, rfl, hS, WExt.refl X, _, .sc _, kk⟩
theorem qk {t kt et : TypeId} {agg a1 : Bool} {size s1 : Nat} {m ix y : Operand} {k g : Nat} {M : List (Int × Int)} {x v : Int} {σ' : List ABlk} [ht : TyI P t (.map kt et) agg size] [hkt : TyI P kt (.int .i64) a1 s1] (hm : f m = .mp k g) (hσk : σ[k]? = some (.mapb g (Wp (Zv M)))) (hx : f ix = .sc (.int .i64 x)) (hy : f y = .sc (.int .i64 v))
  (hσ' : setA σ k (.mapb g (Wp (Zv (putI M x v)))) = some σ') (kk : K (.sc undef) σ') : OpSem P G B ⟨dst, .mapUpdate t m ix y, type, pos, after, gd⟩ f σ K := s_mapupd hm hσk hx hy (by rw [mapI_put]; exact hσ') kk
theorem s_mkmap_i {t : TypeId} (k : ∀ g, B < g -> K (.mp σ.length g) (σ ++ [.mapb g (Wp (Zv []))])) : OpSem P G B ⟨dst, .makeMap t none, type, pos, after, gd⟩ f σ K := s_mkmap k
end
section
variable {P : Program} {G : Nat -> DV}
def TM (P : Program) (G : Nat -> DV) (f : FuncId) (args : Nat -> List DV) (M : List (Int × Int)) (res : DV) (M' : List (Int × Int)) : Prop :=
 ∀ g B, g <= B -> ACalls P G B f (args g) [.mapb g (Wp (Zv M))] (fun d τ => d = res /\ τ = [.mapb g (Wp (Zv M'))])
def CM (P : Program) (G : Nat -> DV) (f : FuncId) (args : Nat -> List DV) (M : List (Int × Int)) (res : DV) (M' : List (Int × Int)) : Prop :=
 ∀ gp g B, gp <= B -> g <= B -> ACalls P G B f (args gp) [.row gp [.mp 1 g], .mapb g (Wp (Zv M))] (fun d τ => d = res /\ τ = [.row gp [.mp 1 g], .mapb g (Wp (Zv M'))])
theorem TM.lift {f : FuncId} {args : Nat -> List DV} {M M' : List (Int × Int)} {res : DV} (h : TM P G f args M res M') {B k g : Nat} {es : List DV} {σ σ' : List ABlk} (hargs : RenL (RenD (qf [k] σ.length)) es (args g)) (hk : σ[k]? = some (.mapb g (Wp (Zv M)))) (hres : res.clo = true)
  (hσ' : setA σ k (.mapb g (Wp (Zv M'))) = some σ') : ACalls P G B f es σ (fun d s => d = res /\ s = σ') := by
 refine ACalls.sub (R := fun _ d τ => d = res /\ τ = [.mapb g (Wp (Zv M'))]) (ps := [k]) hargs (by simp) (τ := [.mapb g (Wp (Zv M))]) rfl (fun i hi => ?_) (fun B' hB hg => h g B' (hg 0 _ _ rfl rfl)) ?_
 ·have : i = 0 := by simpa using hi
  subst this
  exact ⟨_, _, hk, rfl, .map ZG⟩
 ·rintro B' d' τ' hB ⟨rfl, rfl⟩
  exact ⟨d', σ', Out.of (bs := [.mapb g (Wp (Zv M'))]) (.s (.clo hres)) (by simp) rfl (.cons (.map ZG) .nil) (by simp [setAll, hσ']), rfl, rfl⟩
theorem CM.lift {f : FuncId} {args : Nat -> List DV} {M M' : List (Int × Int)} {res : DV} (h : CM P G f args M res M') {B kp k gp g : Nat} {es : List DV} {σ σ' : List ABlk} (hargs : RenL (RenD (qf [kp, k] σ.length)) es (args gp)) (hp : σ[kp]? = some (.row gp [.mp k g])) (hk : σ[k]? = some (.mapb g (Wp (Zv M)))) (hne : Nat.beq kp k = false) (hres : res.clo = true)
  (hσ' : setA σ k (.mapb g (Wp (Zv M'))) = some σ') : ACalls P G B f es σ (fun d s => d = res /\ s = σ') := by
 have hne' : kp ≠ k := fun e => by rw [e, Nat.beq_refl] at hne; cases hne
 have hq : ∀ n, qf [kp, k] n 1 = k := fun n => rfl
 refine ACalls.sub (R := fun _ d τ => d = res /\ τ = [.row gp [.mp 1 g], .mapb g (Wp (Zv M'))]) (ps := [kp, k]) hargs (by simp [hne']) (τ := [.row gp [.mp 1 g], .mapb g (Wp (Zv M))]) rfl (fun i hi => ?_) (fun B' hB hg => h gp g B' (hg 0 _ _ rfl rfl) (hg 1 _ _ rfl rfl)) ?_
 ·match i, hi with
  | 0, _ => exact ⟨_, _, hp, rfl, .row (.cons (.mp rfl) .nil)⟩
  | 1, _ => exact ⟨_, _, hk, rfl, .map ZG⟩
  | i + 2, hi => exact absurd hi (by simp)
 ·rintro B' d' τ' hB ⟨rfl, rfl⟩
  have hset : setA σ kp (.row gp [.mp k g]) = some σ := by
   have : ∀ (l : List ABlk) (i : Nat) (b : ABlk), l[i]? = some b -> setA l i b = some l := fun l => by
    induction l with
    | nil => intro i b h; simp at h
    | cons a r ih =>
     intro i b h
     cases i with
     | zero => simp at h; subst h; rfl
     | succ i => simp at h; simp [setA, ih i b h]
   exact this σ kp _ hp
  exact ⟨d', σ', Out.of (bs := [.row gp [.mp k g], .mapb g (Wp (Zv M'))]) (.s (.clo hres)) (by simp [hne']) rfl (.cons (.row (.cons (.mp rfl) .nil)) (.cons (.map ZG) .nil)) (by simp [setAll, hset, hσ']), rfl, rfl⟩
variable {B : Nat} {f : Operand -> DV} {σ : List ABlk} {K : DV -> List ABlk -> Prop} {dst : Option Tmp} {type : TypeId} {pos : String} {after : Array Edge} {gd : Option (Nat × Bool)}
theorem s_call_tm {args : Array Operand} {ts : Array TypeId} {fid : FuncId} {ars : Nat -> List DV} {es : List DV} {M M' : List (Int × Int)} {res : DV} {k g : Nat} {σ' : List ABlk} [FnOk P fid] (h : TM P G fid ars M res M') (hx : f (.func fid) = .fn (.func fid) [] []) (hds : reL (args.toList.map f) = some es) (hk : σ[k]? = some (.mapb g (Wp (Zv M)))) (hargs : RenL (RenD (qf [k] σ.length)) es (ars g)) (hres : res.clo = true)
  (hσ' : setA σ k (.mapb g (Wp (Zv M'))) = some σ') (kk : K res σ') : OpSem P G B ⟨dst, .call ⟨.value (.func fid), args, ts⟩, type, pos, after, gd⟩ f σ K := s_call hx hds ((h.lift hargs hk hres hσ').mono fun _ _ ⟨h1, h2⟩ => by rw [h1, h2]; exact kk)
theorem s_callv_cm {x : Operand} {args : Array Operand} {ts : Array TypeId} {fid : FuncId} {first cap : List DV} {ars : Nat -> List DV} {es : List DV} {M M' : List (Int × Int)} {res : DV} {kp k gp g : Nat} {σ' : List ABlk} [FnOk P fid] (h : CM P G fid ars M res M') (hx : f x = .fn (.func fid) first cap) (hds : reL (first ++ args.toList.map f ++ cap) = some es) (hp : σ[kp]? = some (.row gp [.mp k g])) (hk : σ[k]? = some (.mapb g (Wp (Zv M)))) (hne : Nat.beq kp k = false) (hargs : RenL (RenD (qf [kp, k] σ.length)) es (ars gp)) (hres : res.clo = true)
  (hσ' : setA σ k (.mapb g (Wp (Zv M'))) = some σ') (kk : K res σ') : OpSem P G B ⟨dst, .call ⟨.value x, args, ts⟩, type, pos, after, gd⟩ f σ K := s_callv hx hds ((h.lift hargs hp hk hne hres hσ').mono fun _ _ ⟨h1, h2⟩ => by rw [h1, h2]; exact kk)
theorem s_call_cm {args : Array Operand} {ts : Array TypeId} {fid : FuncId} {ars : Nat -> List DV} {es : List DV} {M M' : List (Int × Int)} {res : DV} {kp k gp g : Nat} {σ' : List ABlk} [FnOk P fid] (h : CM P G fid ars M res M') (hx : f (.func fid) = .fn (.func fid) [] []) (hds : reL (args.toList.map f) = some es) (hp : σ[kp]? = some (.row gp [.mp k g])) (hk : σ[k]? = some (.mapb g (Wp (Zv M)))) (hne : Nat.beq kp k = false) (hargs : RenL (RenD (qf [kp, k] σ.length)) es (ars gp)) (hres : res.clo = true)
  (hσ' : setA σ k (.mapb g (Wp (Zv M'))) = some σ') (kk : K res σ') : OpSem P G B ⟨dst, .call ⟨.value (.func fid), args, ts⟩, type, pos, after, gd⟩ f σ K := s_call hx hds ((h.lift hargs hp hk hne hres hσ').mono fun _ _ ⟨h1, h2⟩ => by rw [h1, h2]; exact kk)
end
section
theorem s_ctm (k : Nat) {P : Program} {G : Nat -> DV} {B : Nat} {f : Operand -> DV} {σ : List ABlk} {K : DV -> List ABlk -> Prop} {dst : Option Tmp} {type : TypeId} {pos : String} {after : Array Edge} {gd : Option (Nat × Bool)} {args : Array Operand} {ts : Array TypeId} {fid : FuncId} {ars : Nat -> List DV} {es : List DV} {M M' : List (Int × Int)} {res : DV} {g : Nat} {σ' : List ABlk} [FnOk P fid] (h : TM P G fid ars M res M') (hx : f (.func fid) = .fn (.func fid) [] []) (hds : reL (args.toList.map f) = some es) (hk : σ[k]? = some (.mapb g (Wp (Zv M)))) (kk : K res σ') (hargs : RenL (RenD (qf [k] σ.length)) es (ars g) := by repeat' first | exact .nil | refine .cons ?_ ?_ | exact .s (.mp rfl) | exact .s (.ptr rfl) | exact .s (.ref rfl) | exact .fn (by repeat' first | exact .nil | refine .cons ?_ ?_ | exact .ptr rfl | exact .mp rfl | exact .clo Qx) (by repeat' first | exact .nil | refine .cons ?_ ?_ | exact .ptr rfl | exact .mp rfl | exact .clo Qx) | exact .s (.clo (by (repeat' first | exact Enc.clo _ | exact Qx | exact QV _ | exact We (Qn _) | exact Qn _ | refine W5 ?_ ?_ | refine W2 ?_ | refine Wo ?_ | refine Qw ?_ | exact QW | refine QF ?_ ?_ | refine We ?_); done))) (hres : res.clo = true := by repeat' first | exact Qx | exact QV _ | exact We (Qn _) | exact Qn _ | refine W5 ?_ ?_ | refine W2 ?_ | refine Wo ?_ | refine Qw ?_ | exact QW | refine QF ?_ ?_ | refine We ?_)
  (hσ' : setA σ k (.mapb g (Wp (Zv M'))) = some σ' := by rfl) : OpSem P G B ⟨dst, .call ⟨.value (.func fid), args, ts⟩, type, pos, after, gd⟩ f σ K := s_call_tm h hx hds hk hargs hres hσ' kk
end
end Go.Av
end
section
namespace Go.Proofs
open Go.Av
variable {G : Nat -> DV}
attribute [local irreducible] OpSem WB WQ WW ACalls Zo QY RV
open Go.Bl
mutual
def WY : Nd -> List (Int × Int) -> Bool × List (Int × Int)
 | .mk k n m ks, M => if k = 6 /\ (W8 M n).isSome = true /\ (W8 M n).getD 0 ≠ m then (false, M) else Q1 ks (if k = 6 then putI M n m else M)
def Q1 : List Nd -> List (Int × Int) -> Bool × List (Int × Int)
 | [], M => (true, M)
 | x :: r, M => if (WY x M).1 = true then Q1 r (WY x M).2 else (false, (WY x M).2)
end
theorem typesL_snoc (x : Nd) : ∀ (a : List Nd) (M : List (Int × Int)), Q1 (a ++ [x]) M = if (Q1 a M).1 = true then WY x (Q1 a M).2 else Q1 a M
 | [], M => by
  simp only [List.nil_append, Q1, if_true]
  cases h : (WY x M).1
  ·rw [if_neg (by simp)]; rw [<- h]
  ·rw [if_pos rfl]; rw [<- h]
 | y :: r, M => by
  rw [List.cons_append, Q1, Q1]
  split
  ·exact typesL_snoc x r _
  ·rw [if_neg (by simp)]
theorem typesL_false {a : List Nd} {M : List (Int × Int)} (h : (Q1 a M).1 = false) (b : List Nd) : Q1 (a ++ b) M = Q1 a M := by
 induction a generalizing M with
 | nil => simp [Q1] at h
 | cons y r ih =>
  rw [List.cons_append, Q1, Q1] at *
  split
  ·rename_i h1
   rw [if_pos h1] at h
   exact ih h
  ·rfl
theorem typesL_take {ks : List Nd} {M : List (Int × Int)} {i : Nat} (hi : i < ks.length) (h : (Q1 (ks.take i) M).1 = true) : Q1 (ks.take (i + 1)) M = WY ks[i] (Q1 (ks.take i) M).2 := by
 rw [List.take_succ_eq_append_getElem hi, typesL_snoc, if_pos h]
theorem typesL_bad {ks : List Nd} {M : List (Int × Int)} {i : Nat} (h : (Q1 (ks.take i) M).1 = false) : Q1 ks M = Q1 (ks.take i) M := by
 have := typesL_false h (ks.drop i)
 rwa [List.take_append_drop] at this
def idxT (ks : List Nd) (M : List (Int × Int)) : Int := match (List.range ks.length).find? fun i => !(Q1 (ks.take (i + 1)) M).1 with
 | some i => i
 | none => -1
theorem idxT_at {ks : List Nd} {M : List (Int × Int)} {i : Nat} (hi : i < ks.length) (h : (Q1 (ks.take i) M).1 = true) (h' : (Q1 (ks.take (i + 1)) M).1 = false) : idxT ks M = i := by
 unfold idxT
 have : (List.range ks.length).find? (fun i => !(Q1 (ks.take (i + 1)) M).1) = some i := by
  rw [List.find?_range_eq_some]
  refine ⟨by rw [h']; rfl, List.mem_range.2 hi, fun j hj => ?_⟩
  cases hb : (Q1 (ks.take (j + 1)) M).1
  ·have h1 : (Q1 ((ks.take i).take (j + 1)) M).1 = false := by rw [List.take_take, Nat.min_eq_left (by omega)]; exact hb
   have := typesL_bad h1
   rw [this, h1] at h; cases h
  ·rfl
 rw [this]
theorem typesL_first {ks : List Nd} {M : List (Int × Int)} (h : (Q1 ks M).1 = false) : ∃ i, i < ks.length /\ (Q1 (ks.take i) M).1 = true /\ (Q1 (ks.take (i + 1)) M).1 = false := by
 have key : ∀ n, n <= ks.length -> (Q1 (ks.take n) M).1 = true \/ ∃ i, i < n /\ (Q1 (ks.take i) M).1 = true /\ (Q1 (ks.take (i + 1)) M).1 = false := fun n => by
  induction n with
  | zero => intro _; exact .inl rfl
  | succ n ih =>
   intro hn
   rcases ih (by omega) with h1 | ⟨i, h1, h2⟩
   ·cases h2 : (Q1 (ks.take (n + 1)) M).1
    ·exact .inr ⟨n, by omega, h1, h2⟩
    ·exact .inl rfl
   ·exact .inr ⟨i, by omega, h2⟩
 rcases key ks.length (Nat.le_refl _) with h1 | ⟨i, h1, h2, h3⟩
 ·rw [List.take_length, h] at h1; cases h1
 ·exact ⟨i, h1, h2, h3⟩
theorem idxT_none {ks : List Nd} {M : List (Int × Int)} (h : (Q1 ks M).1 = true) : idxT ks M = -1 := by
 unfold idxT
 have : (List.range ks.length).find? (fun i => !(Q1 (ks.take (i + 1)) M).1) = none := by
  rw [List.find?_eq_none]
  intro i hi hb
  have hb : (Q1 (ks.take (i + 1)) M).1 = false := by simpa using hb
  rw [typesL_bad hb, hb] at h; cases h
 rw [this]
theorem indexFuncT_c (ks : List Nd) (hks : ks.length <= 1048576) (M : List (Int × Int)) (hcl : ∀ i (hi : i < ks.length) (M : List (Int × Int)), CM Tryd.prog G 66 (fun gp => [.agg (Enc.enc ks[i]), .ptr 0 gp 0]) M (.b (!(WY ks[i] M).1)) (WY ks[i] M).2) :
  CM Tryd.prog G 81 (fun gp => [QG ks, .fn (.func 66) [] [.ptr 0 gp 0]]) M (.i (idxT ks M)) (Q1 ks M).2 := fun gp g B b1 b2 => by
 refine Qc Tryd.func81 rfl Tryd.ntmps81 rfl (t := [(0, QG ks), (1, .fn (.func 66) [] [.ptr 0 gp 0])]) rfl fun E hE => ?_
 (repeat' first | refine Qu rfl ?_ | refine QA rfl ?_ | refine Qj rfl ?_ | refine Qe ?_ | refine Qs rfl ?_ | refine Qg ?_ | refine Qa ?_ | refine Qf ?_)
 refine Wv (fun (i : Nat) => ⟨[(0, QG ks), (1, .fn (.func 66) [] [.ptr 0 gp 0]), (7, .i ks.length), (8, .i i)], [.row gp [.mp 1 g], .mapb g (Wp (Zv (Q1 (ks.take i) M).2))]⟩) (fun i => i <= ks.length /\ (Q1 (ks.take i) M).1 = true) (fun i => ks.length - i) 0 ?_ ⟨by omega, rfl⟩ ?_
 ·exact zal rfl
 intro i ⟨hi, hok⟩
 (repeat' first | refine QL rfl rfl ?_ | refine Qe ?_ | refine Qs rfl ?_ | refine Qg ?_ | refine Qa ?_)
 refine QE rfl (fun h => ?_) (fun h => ?_)
 ·have hi2 : i < ks.length := by omega
  have ht := typesL_take hi2 hok
  (repeat' first | refine Qu rfl ?_ | refine QA rfl ?_ | refine QC rfl ?_ | refine Ql rfl rfl (by first | assumption | omega | (simp; done) | (simp; omega)) ?_ | refine s_callv_cm (kp := 0) (k := 1) (hcl i hi2 (Q1 (ks.take i) M).2) rfl rfl rfl rfl (by rfl) (by repeat' first | exact .nil | refine .cons ?_ ?_ | exact .s (.mp rfl) | exact .s (.ptr rfl) | exact .s (.ref rfl) | exact .fn (by repeat' first | exact .nil | refine .cons ?_ ?_ | exact .ptr rfl | exact .mp rfl | exact .clo Qx) (by repeat' first | exact .nil | refine .cons ?_ ?_ | exact .ptr rfl | exact .mp rfl | exact .clo Qx) | exact .s (.clo (by (repeat' first | exact Enc.clo _ | exact Qx | exact QV _ | exact We (Qn _) | exact Qn _ | refine W5 ?_ ?_ | refine W2 ?_ | refine Wo ?_ | refine Qw ?_ | exact QW | refine QF ?_ ?_ | refine We ?_); done))) (by repeat' first | exact Qx | exact QV _ | exact We (Qn _) | exact Qn _ | refine W5 ?_ ?_ | refine W2 ?_ | refine Wo ?_ | refine Qw ?_ | exact QW | refine QF ?_ ?_ | refine We ?_) (by rfl) ?_ | refine Qe ?_ | refine Qs rfl ?_ | refine Qg ?_ | refine Qa ?_ | refine Qf ?_ | refine Qk ?_)
  refine r_cond rfl (fun hb => ?_) (fun hb => ?_)
  ·have hf : (Q1 (ks.take (i + 1)) M).1 = false := by rw [ht]; simpa using hb
   rw [idxT_at hi2 hok hf, typesL_bad hf, ht]
   (repeat' first | refine Qu rfl ?_ | refine QA rfl ?_ | refine Qe ?_ | refine Qs rfl ?_ | refine Qg ?_ | refine Qa ?_ | refine Qq ?_)
   exact e_1 (Tryd.results81) (Qh rfl) (Zg ⟨rfl, rfl⟩)
  ·have hf : (Q1 (ks.take (i + 1)) M).1 = true := by rw [ht]; simpa using hb
   (repeat' first | refine Qu rfl ?_ | refine Q5 rfl rfl (by omega) ?_ | refine Qe ?_ | refine Qs rfl ?_ | refine Qa ?_ | refine Qk ?_)
   refine ⟨i + 1, ⟨by omega, hf⟩, by omega, ?_⟩
   rw [ht]
   exact zal rfl
 ·have hi2 : i = ks.length := by omega
  subst hi2
  rw [List.take_length] at hok ⊢
  rw [idxT_none hok]
  (repeat' first | refine QA rfl ?_ | refine Qe ?_ | refine Qs rfl ?_ | refine Qg ?_ | refine Qa ?_ | refine Q2 rfl ?_ | refine Qq ?_)
  exact e_1 (Tryd.results81) (Qh rfl) (Zg ⟨rfl, rfl⟩)
theorem containsFuncT_c (ks : List Nd) (hks : ks.length <= 1048576) (M : List (Int × Int)) (hcl : ∀ i (hi : i < ks.length) (M : List (Int × Int)), CM Tryd.prog G 66 (fun gp => [.agg (Enc.enc ks[i]), .ptr 0 gp 0]) M (.b (!(WY ks[i] M).1)) (WY ks[i] M).2) :
  CM Tryd.prog G 65 (fun gp => [QG ks, .fn (.func 66) [] [.ptr 0 gp 0]]) M (.b (!(Q1 ks M).1)) (Q1 ks M).2 := fun gp g B b1 b2 => by
 have hix := indexFuncT_c ks hks M hcl
 refine Qc Tryd.func65 rfl Tryd.ntmps65 rfl (t := [(0, QG ks), (1, .fn (.func 66) [] [.ptr 0 gp 0])]) rfl fun E hE => ?_
 (repeat' first | refine Qu rfl ?_ | refine QA rfl ?_ | refine Wh rfl rfl ?_ | refine s_call_cm (kp := 0) (k := 1) (hix) rfl rfl rfl rfl (by rfl) (by repeat' first | exact .nil | refine .cons ?_ ?_ | exact .s (.mp rfl) | exact .s (.ptr rfl) | exact .s (.ref rfl) | exact .fn (by repeat' first | exact .nil | refine .cons ?_ ?_ | exact .ptr rfl | exact .mp rfl | exact .clo Qx) (by repeat' first | exact .nil | refine .cons ?_ ?_ | exact .ptr rfl | exact .mp rfl | exact .clo Qx) | exact .s (.clo (by (repeat' first | exact Enc.clo _ | exact Qx | exact QV _ | exact We (Qn _) | exact Qn _ | refine W5 ?_ ?_ | refine W2 ?_ | refine Wo ?_ | refine Qw ?_ | exact QW | refine QF ?_ ?_ | refine We ?_); done))) (by repeat' first | exact Qx | exact QV _ | exact We (Qn _) | exact Qn _ | refine W5 ?_ ?_ | refine W2 ?_ | refine Wo ?_ | refine Qw ?_ | exact QW | refine QF ?_ ?_ | refine We ?_) (by rfl) ?_ | refine Qe ?_ | refine Qs rfl ?_ | refine Qg ?_ | refine Qa ?_ | refine Qq ?_)
 exact e_1 (Tryd.results65) (Qh rfl) (Zg ⟨congrArg DV.b (by
  cases h : (Q1 ks M).1
  ·obtain ⟨i, hi, h1, h2⟩ := typesL_first h
   rw [idxT_at hi h1 h2]; simp
  ·rw [idxT_none h]; rfl), rfl⟩)
inductive Fit : Nd -> Prop
 | mk {k n m : Int} {ks : List Nd} : ks.length <= 1048576 -> (∀ x ∈ ks, Fit x) -> Fit (.mk k n m ks)
theorem Fit.len {k n m : Int} {ks : List Nd} (h : Fit (.mk k n m ks)) : ks.length <= 1048576 := by cases h; assumption
theorem Fit.kids {k n m : Int} {ks : List Nd} (h : Fit (.mk k n m ks)) : ∀ x ∈ ks, Fit x := by cases h; assumption
theorem types1_c (x : Nd) (M : List (Int × Int)) (htm : TM Tryd.prog G 37 (fun g => [.agg (Enc.enc x), .mp 0 g]) M (.b (WY x M).1) (WY x M).2) :
  CM Tryd.prog G 66 (fun gp => [.agg (Enc.enc x), .ptr 0 gp 0]) M (.b (!(WY x M).1)) (WY x M).2 := fun gp g B b1 b2 => by
 refine Qc Tryd.func66 rfl Tryd.ntmps66 rfl (t := [(0, .agg (Enc.enc x)), (1, .ptr 0 gp 0)]) rfl fun E hE => ?_
 (repeat' first | refine QA rfl ?_ | refine Qm rfl rfl (by first | exact Enc.len _ | rfl) ?_ | refine Qb rfl rfl rfl ?_ | refine s_ctm 1 (htm) rfl rfl rfl ?_ | refine WC rfl ?_ | refine QU rfl rfl (fun _ _ => ?_) | refine Qe ?_ | refine Qs rfl ?_ | refine Qg ?_ | refine Qa ?_ | refine Qq ?_)
 exact e_1 (Tryd.results66) (Qh rfl) (Qy (σ := [_, _]) (r := [_]) ⟨rfl, rfl⟩)
theorem types_c (t : Nd) : Fit t -> ∀ M : List (Int × Int), TM Tryd.prog G 37 (fun g => [.agg (Enc.enc t), .mp 0 g]) M (.b (WY t M).1) (WY t M).2 := by
 induction t using Nd.ind with
 | h k n m ks ih =>
 intro hfit M g B b1
 have hks := hfit.len
 have hcf : ∀ M, _ := fun M => containsFuncT_c (G := G) ks hks M fun i hi M => types1_c ks[i] M (ih _ (List.getElem_mem hi) (hfit.kids _ (List.getElem_mem hi)) M)
 rw [Q9]
 refine Qc Tryd.func37 rfl Tryd.ntmps37 rfl (t := [(0, .agg [.i k, .i n, .i m, QG ks]), (1, .mp 0 g)]) rfl fun E hE => ?_
 have e0 : ¬ (k = 6 /\ (W8 M n).isSome = true /\ (W8 M n).getD 0 ≠ m) -> WY (.mk k n m ks) M = Q1 ks (if k = 6 then putI M n m else M) := fun h => by rw [WY, if_neg h]
 (repeat' first | refine Qu rfl ?_ | refine QA rfl ?_ | refine Qb rfl rfl rfl ?_ | refine QJ rfl rfl ?_ | refine Wu rfl rfl ?_ | refine s_call_cm (kp := 2) (k := 0) (hcf _) rfl rfl rfl rfl (by rfl) (by repeat' first | exact .nil | refine .cons ?_ ?_ | exact .s (.mp rfl) | exact .s (.ptr rfl) | exact .s (.ref rfl) | exact .fn (by repeat' first | exact .nil | refine .cons ?_ ?_ | exact .ptr rfl | exact .mp rfl | exact .clo Qx) (by repeat' first | exact .nil | refine .cons ?_ ?_ | exact .ptr rfl | exact .mp rfl | exact .clo Qx) | exact .s (.clo (by (repeat' first | exact Enc.clo _ | exact Qx | exact QV _ | exact We (Qn _) | exact Qn _ | refine W5 ?_ ?_ | refine W2 ?_ | refine Wo ?_ | refine Qw ?_ | exact QW | refine QF ?_ ?_ | refine We ?_); done))) (by repeat' first | exact Qx | exact QV _ | exact We (Qn _) | exact Qn _ | refine W5 ?_ ?_ | refine W2 ?_ | refine Wo ?_ | refine Qw ?_ | exact QW | refine QF ?_ ?_ | refine We ?_) (by rfl) ?_ | refine WI rfl rfl ?_ | refine Wm rfl rfl ?_ | refine qv rfl rfl rfl (by kernel_rfl) ?_ | refine qk rfl rfl rfl rfl rfl ?_ | refine WC rfl ?_ | refine Qd rfl rfl ?_ | refine Q4 rfl rfl rfl ?_ | refine ZA rfl rfl ?_ | refine QU rfl rfl (fun _ _ => ?_) | refine Qe ?_ | refine Qs rfl ?_ | refine QZ ?_ | refine WK rfl rfl rfl rfl ?_ | refine W3 rfl rfl rfl rfl ?_ | refine o_sp_d rfl rfl (fun _ => ?_) (fun _ => ?_) | refine o_sp rfl rfl (fun _ => ?_) (fun _ => ?_) | refine Qg ?_ | refine Qa ?_ | refine Qk ?_ | refine Qo rfl ?_ | refine Qp rfl (by omega) ?_ | refine Qr rfl (by omega) ?_ | refine Qq ?_)
 ·rename_i h6 hs
  refine QE rfl (fun h => ?_) (fun h => ?_)
  ·rw [show WY (.mk k n m ks) M = (false, M) by rw [WY, if_pos ⟨h6, hs, h⟩]]
   (repeat' first | refine QA rfl ?_ | refine Qe ?_ | refine Qs rfl ?_ | refine Qg ?_ | refine Qa ?_ | refine Qq ?_)
   exact e_1 (Tryd.results37) (Qh rfl) (Qy (σ := [_]) (r := [_, _]) ⟨rfl, rfl⟩)
  ·rw [e0 fun hh => h hh.2.2, if_pos h6]
   (repeat' first | refine QA rfl ?_ | refine Qb rfl rfl rfl ?_ | refine QJ rfl rfl ?_ | refine s_call_cm (kp := 2) (k := 0) (hcf _) rfl rfl rfl rfl (by rfl) (by repeat' first | exact .nil | refine .cons ?_ ?_ | exact .s (.mp rfl) | exact .s (.ptr rfl) | exact .s (.ref rfl) | exact .fn (by repeat' first | exact .nil | refine .cons ?_ ?_ | exact .ptr rfl | exact .mp rfl | exact .clo Qx) (by repeat' first | exact .nil | refine .cons ?_ ?_ | exact .ptr rfl | exact .mp rfl | exact .clo Qx) | exact .s (.clo (by (repeat' first | exact Enc.clo _ | exact Qx | exact QV _ | exact We (Qn _) | exact Qn _ | refine W5 ?_ ?_ | refine W2 ?_ | refine Wo ?_ | refine Qw ?_ | exact QW | refine QF ?_ ?_ | refine We ?_); done))) (by repeat' first | exact Qx | exact QV _ | exact We (Qn _) | exact Qn _ | refine W5 ?_ ?_ | refine W2 ?_ | refine Wo ?_ | refine Qw ?_ | exact QW | refine QF ?_ ?_ | refine We ?_) (by rfl) ?_ | refine qk rfl rfl rfl rfl rfl ?_ | refine WC rfl ?_ | refine Qd rfl rfl ?_ | refine ZA rfl rfl ?_ | refine Qe ?_ | refine Qs rfl ?_ | refine QZ ?_ | refine Qg ?_ | refine Qa ?_ | refine Qk ?_ | refine Qp rfl (by omega) ?_ | refine Qq ?_)
   exact e_1 (Tryd.results37) (Qh rfl) (Qy (σ := [_]) (r := [_, _]) ⟨congrArg DV.b (Bool.not_not _), rfl⟩)
 ·rename_i h6 hs
  rw [e0 fun hh => by rw [hs] at hh; exact absurd hh.2.1 (by simp), if_pos h6]
  exact e_1 (Tryd.results37) (Qh rfl) (Qy (σ := [_]) (r := [_, _]) ⟨congrArg DV.b (Bool.not_not _), rfl⟩)
 ·rename_i h6
  rw [e0 fun hh => h6 hh.1, if_neg h6]
  exact e_1 (Tryd.results37) (Qh rfl) (Qy (σ := [_]) (r := [_, _]) ⟨congrArg DV.b (Bool.not_not _), rfl⟩)
theorem sameInts_c (a b : List Int) (ha : a.length <= 4611686018427387904) (hb : b.length <= 4611686018427387904) : Go.Av.Pure Tryd.prog G 23 [QG a, QG b] (.b (decide (a = b))) := fun B => by
 refine Qc Tryd.func23 rfl Tryd.ntmps23 rfl (t := [(0, QG a), (1, QG b)]) rfl fun E hE => ?_
 (repeat' first | refine Qu rfl ?_ | refine QA rfl ?_ | refine Wu rfl rfl ?_ | refine Qj rfl ?_ | refine Qe ?_ | refine Qs rfl ?_ | refine Qg ?_ | refine Qa ?_)
 refine QE rfl (fun h => ?_) (fun h => ?_)
 ·(repeat' first | refine QA rfl ?_ | refine Qe ?_ | refine Qs rfl ?_ | refine Qg ?_ | refine Qa ?_ | refine Qq ?_)
  refine e_1 Tryd.results23 (Qh rfl) (QD ?_)
  rw [decide_eq_false (p := a = b) (fun e => h (by rw [e]))]
 have hl : a.length = b.length := by omega
 (repeat' first | refine QA rfl ?_ | refine Qe ?_ | refine Qs rfl ?_ | refine Qg ?_ | refine Qa ?_ | refine Qf ?_ | refine Qk ?_)
 refine Wv (fun k : Nat => ⟨[(0, QG a), (1, QG b), (5, .i k)], []⟩) (fun k => k <= a.length /\ a.take k = b.take k) (fun k => a.length - k) 0 ?_ ⟨by omega, by simp⟩ ?_
 ·exact zal rfl
 intro k ⟨hk, hall⟩
 (repeat' first | refine Qu rfl ?_ | refine QL rfl rfl ?_ | refine Qj rfl ?_ | refine Qe ?_ | refine Qs rfl ?_ | refine Qg ?_ | refine Qa ?_)
 refine QE rfl (fun h => ?_) (fun h => ?_)
 ·have hk' : k < a.length := by omega
  have hk'' : k < b.length := by omega
  (repeat' first | refine Qe ?_ | refine Qg ?_ | refine Qf ?_ | (refine Q0 ?_; first | refine Q3 (by rfl) (by kernel_rfl) (by kernel_rfl) ?_ | refine QP (by kernel_rfl) (by kernel_rfl) ?_) | refine Qk ?_ | refine qb rfl (by (repeat' first | refine Qu rfl ?_ | refine Qv rfl ?_ | refine Ql rfl rfl (by first | assumption | omega | (simp; done) | (simp; omega)) ?_ | refine Wu rfl rfl ?_ | exact ⟨rfl, rfl⟩)) ?_ | refine ZS ?_)
  refine QE rfl (fun h => ?_) (fun h => ?_)
  ·(repeat' first | refine QA rfl ?_ | refine Qe ?_ | refine Qs rfl ?_ | refine Qg ?_ | refine Qa ?_ | refine Qq ?_)
   refine e_1 Tryd.results23 (Qh rfl) (QD ?_)
   rw [decide_eq_false (p := a = b) (fun e => h (by subst e; rfl))]
  ·(repeat' first | refine Qu rfl ?_ | refine QA rfl ?_ | refine Q5 rfl rfl (by omega) ?_ | refine Qe ?_ | refine Qs rfl ?_ | refine Qa ?_ | refine Qk ?_)
   refine ⟨k + 1, ⟨hk', ?_⟩, by omega, ?_⟩
   ·rw [List.take_succ_eq_append_getElem hk', List.take_succ_eq_append_getElem hk'', hall, Decidable.not_not.1 h]
   ·exact zal rfl
 ·(repeat' first | refine QA rfl ?_ | refine Qe ?_ | refine Qs rfl ?_ | refine Qg ?_ | refine Qa ?_ | refine Q2 rfl ?_ | refine Qq ?_)
  refine e_1 Tryd.results23 (Qh rfl) (QD ?_)
  rw [List.take_of_length_le (by omega), List.take_of_length_le (by omega)] at hall
  rw [decide_eq_true hall]
theorem Wt (a b : List Int) (ha : a.length <= 4611686018427387904) (hb : b.length <= 4611686018427387904) : Go.Av.Pure Tryd.prog G 79 [QG a, QG b] (.b (decide (a = b))) := fun B => by
 refine Qc Tryd.func79 rfl Tryd.ntmps79 rfl (t := [(0, QG a), (1, QG b)]) rfl fun E hE => ?_
 (repeat' first | refine Qu rfl ?_ | refine QA rfl ?_ | refine Wu rfl rfl ?_ | refine Qj rfl ?_ | refine Qe ?_ | refine Qs rfl ?_ | refine Qg ?_ | refine Qa ?_)
 refine QE rfl (fun h => ?_) (fun h => ?_)
 ·(repeat' first | refine QA rfl ?_ | refine Qe ?_ | refine Qs rfl ?_ | refine Qg ?_ | refine Qa ?_ | refine Qq ?_)
  refine e_1 Tryd.results79 (Qh rfl) (QD ?_)
  rw [decide_eq_false (p := a = b) (fun e => h (by rw [e]))]
 have hl : a.length = b.length := by omega
 (repeat' first | refine Qu rfl ?_ | refine Qj rfl ?_ | refine Qe ?_ | refine Qs rfl ?_ | refine Qg ?_ | refine Qa ?_ | refine Qf ?_ | refine Qk ?_)
 refine Wv (fun k : Nat => ⟨[(0, QG a), (1, QG b), (12, .i a.length), (13, .i k)], []⟩) (fun k => k <= a.length /\ a.take k = b.take k) (fun k => a.length - k) 0 ?_ ⟨by omega, by simp⟩ ?_
 ·exact zal rfl
 intro k ⟨hk, hall⟩
 (repeat' first | refine QL rfl rfl ?_ | refine Qe ?_ | refine Qs rfl ?_ | refine Qg ?_ | refine Qa ?_)
 refine QE rfl (fun h => ?_) (fun h => ?_)
 ·have hk' : k < a.length := by omega
  have hk'' : k < b.length := by omega
  (repeat' first | refine Qu rfl ?_ | refine QA rfl ?_ | refine Qe ?_ | refine Qs rfl ?_ | refine Qg ?_ | refine Qa ?_ | refine Qf ?_ | (refine Q0 ?_; first | refine Q3 (by rfl) (by kernel_rfl) (by kernel_rfl) ?_ | refine QP (by kernel_rfl) (by kernel_rfl) ?_) | refine Qk ?_ | refine qb rfl (by (repeat' first | refine Qu rfl ?_ | refine Qv rfl ?_ | refine Ql rfl rfl (by first | assumption | omega | (simp; done) | (simp; omega)) ?_ | refine Wu rfl rfl ?_ | exact ⟨rfl, rfl⟩)) ?_ | refine ZS ?_)
  refine QE rfl (fun h => ?_) (fun h => ?_)
  ·(repeat' first | refine QA rfl ?_ | refine Qe ?_ | refine Qs rfl ?_ | refine Qg ?_ | refine Qa ?_ | refine Qq ?_)
   refine e_1 Tryd.results79 (Qh rfl) (QD ?_)
   rw [decide_eq_false (p := a = b) (fun e => h (by subst e; rfl))]
  ·(repeat' first | refine Qu rfl ?_ | refine Q5 rfl rfl (by omega) ?_ | refine Qe ?_ | refine Qs rfl ?_ | refine Qa ?_ | refine Qk ?_)
   refine ⟨k + 1, ⟨hk', ?_⟩, by omega, ?_⟩
   ·rw [List.take_succ_eq_append_getElem hk', List.take_succ_eq_append_getElem hk'', hall, Decidable.not_not.1 h]
   ·exact zal rfl
 ·(repeat' first | refine QA rfl ?_ | refine Qe ?_ | refine Qs rfl ?_ | refine Qg ?_ | refine Qa ?_ | refine Q2 rfl ?_ | refine Qq ?_)
  refine e_1 Tryd.results79 (Qh rfl) (QD ?_)
  rw [List.take_of_length_le (by omega), List.take_of_length_le (by omega)] at hall
  rw [decide_eq_true hall]
def qE : DV := .ep [.fn (.func 136) [] [], .b false, .b false, .fn (.func 137) [] [], .b false, .b false, .fn (.func 138) [] [], .b false, .b false, .fn (.func 139) [] [], .b true, .b false, .fn (.func 140) [] [], .b true, .b false,
 .fn (.func 141) [] [], .b false, .b false, .fn (.func 142) [] [], .b false, .b false, .fn (.func 143) [] [], .b false, .b false, .fn (.func 144) [] [], .b false, .b false, .fn (.func 146) [] [], .b false, .b false,
 .fn (.func 147) [] [], .b false, .b true, .fn (.func 149) [] [], .b false, .b true, .fn (.func 150) [] [], .b false, .b true, .fn (.func 151) [] [], .b false, .b true]
def truthM (op : Int) : Bool := decide (10 <= op /\ op <= 13)
theorem wTruth_c (hG : G 0 = qE) (op : Int) : Go.Av.Pure Tryd.prog G 80 [.i op] (.b (truthM op)) := fun B => by
 by_cases hop : 0 <= op /\ op < 14
 ·have : op = 0 \/ op = 1 \/ op = 2 \/ op = 3 \/ op = 4 \/ op = 5 \/ op = 6 \/ op = 7 \/ op = 8 \/ op = 9 \/ op = 10 \/ op = 11 \/ op = 12 \/ op = 13 := by omega
  rcases this with rfl | rfl | rfl | rfl | rfl | rfl | rfl | rfl | rfl | rfl | rfl | rfl | rfl | rfl
  all_goals
   refine Qc Tryd.func80 rfl Tryd.ntmps80 rfl (t := [(0, .i _)]) rfl fun E hE => ?_
   (repeat' first | refine Qu rfl ?_ | refine QA rfl ?_ | refine Qv rfl ?_ | refine W4 hG rfl (by omega) (by omega) ?_ | refine QL rfl rfl ?_ | refine Wh rfl rfl ?_ | refine WI rfl rfl ?_ | refine s_fld_ep rfl rfl ?_ | refine Qe ?_ | refine Qs rfl ?_ | refine WK rfl rfl rfl rfl ?_ | refine Qg ?_ | refine Qa ?_ | refine Qq ?_)
   refine e_1 Tryd.results80 (Qh rfl) (QD ?_)
   rfl
 ·refine Qc Tryd.func80 rfl Tryd.ntmps80 rfl (t := [(0, .i op)]) rfl fun E hE => ?_
  have e : truthM op = false := decide_eq_false (by omega)
  rw [e]
  (repeat' first | refine Qu rfl ?_ | refine QA rfl ?_ | refine QL rfl rfl ?_ | refine Wh rfl rfl ?_ | refine WI rfl rfl ?_ | refine Wm rfl rfl ?_ | refine Qe ?_ | refine Qs rfl ?_ | refine WK rfl rfl rfl rfl ?_ | refine W3 rfl rfl rfl rfl ?_ | refine Wc rfl rfl (by omega) ?_ | refine o_sp_d rfl rfl (fun _ => ?_) (fun _ => ?_) | refine Qg ?_ | refine Qa ?_ | refine Qq ?_)
  all_goals
   refine e_1 Tryd.results80 (Qh rfl) (QD ?_)
   rfl
end Go.Proofs
end
