/-
  Part 4 of the proof: D3 D4 E2 E3 E4 M2 AvP Ev0 Ev1 Ev2 Ev3.
-/
import Derived.Laws.BytesArg
import Derived.Test.YtecbcpilcjmhlaaDoorZF1
import Derived.Test.YtecbcpilcjmhlaaDoorZF2
import Derived.Test.YtecbcpilcjmhlaaDoorZF3
set_option linter.unusedSimpArgs false
set_option linter.unusedVariables false
set_option maxRecDepth 10000
set_option maxHeartbeats 4000000
section
namespace Go.Proofs
open Go.Av
variable {G : Nat -> DV}
attribute [local irreducible] OpSem WB WQ WW ACalls Zo QY RV
open Go.Bl
def movedM (x : List Int) (k : Int) : Int := if 4 <= k then x.getD 3 0 else if 0 <= k then x.getD k.toNat 0 else -1
def QT (s : St) (x : List Int) (c n : Int) : Nat -> List Int × St
 | 0 => ([0, 0, 0, 0], s)
 | i + 1 => ((QT s x c n i).1.set i (muxM (QT s x c n i).2 c (movedM x ((i : Int) - n)) (x.getD i 0)).1, (muxM (QT s x c n i).2 c (movedM x ((i : Int) - n)) (x.getD i 0)).2)
theorem Zj (s : St) (x : List Int) (c n : Int) : ∀ i, (QT s x c n i).1.length = 4
 | 0 => rfl
 | i + 1 => by
  show ((QT s x c n i).1.set i _).length = 4
  rw [List.length_set, Zj s x c n i]
theorem moved_lim {s : St} (hs : Ok s) {x : List Int} (hx : ∀ v ∈ x, Lim s v) (k : Int) : Lim s (movedM x k) := by
 unfold movedM
 split
 ·exact Wr hx hs.v0 3
 ·split
  ·exact Wr hx hs.v0 _
  ·have := hs.v0
   exact ⟨by omega, by omega⟩
theorem Z3 {s : St} (hs : Ok s) (hv : s.vars + 100 < 1099511627776) {x : List Int} {c : Int} (n : Int) (hx : ∀ v ∈ x, Lim s v) (hc : Lim s c) : ∀ i : Nat, i <= 8 -> Gate s (QT s x c n i).2 (3 * i) /\ ∀ v ∈ (QT s x c n i).1, Lim (QT s x c n i).2 v
 | 0, _ => ⟨⟨hs, Int.le_refl _, by show s.vars <= _; omega⟩, fun v h => by
   have hv : v = 0 := by
    have h : v ∈ [(0 : Int), 0, 0, 0] := h
    simpa using h
   subst hv
   have := hs.v0
   exact ⟨by show -(s.vars + 1) <= 0; omega, by show 0 <= s.vars + 1; omega⟩⟩
 | i + 1, hi => by
  obtain ⟨h1, h3⟩ := Z3 hs hv n hx hc i (by omega)
  have hh := h1.hi
  obtain ⟨g1, l1⟩ := mux_gate (c := c) (x := movedM x ((i : Int) - n)) (y := x.getD i 0) h1.ok (by omega) (hc.mono h1.lo) ((moved_lim hs hx _).mono h1.lo) ((Wr hx hs.v0 i).mono h1.lo)
  refine ⟨by have := h1.trans g1; rwa [show (3 : Int) * (i : Int) + 3 = 3 * ((i + 1 : Nat) : Int) by omega] at this, fun v hv => ?_⟩
  rcases List.mem_or_eq_of_mem_set hv with hv | rfl
  ·exact (h3 v hv).mono g1.lo
  ·exact l1
theorem shifted_c (s : St) (hs : Ok s) (hv : s.vars + 100 < 1099511627776) (x : List Int) (c n : Int) (hxl : x.length = 4) (hx : ∀ v ∈ x, Lim s v) (hc : Lim s c) (hn : -8 <= n /\ n <= 8) : BM Tryd.prog G 103 [.agg (Qt x), .i c, .i n] s.vars s.cl (.agg (Qt (QT s x c n 4).1)) (QT s x c n 4).2 := fun g0 g1 g2 g3 c2 c3 c4 m sn h2 h3 h4 hm hsn B b0 b1 b2 b3 => by
 have hv0 := hs.v0
 have hv1 := hs.v1
 refine Qc Tryd.func103 rfl Tryd.ntmps103 rfl (t := [(0, .ptr 0 g0 0), (1, .agg (Qt x)), (2, .i c), (3, .i n)]) rfl fun E hE => ?_
 have hlt := fun i hi => Z3 hs hv n hx hc i hi
 (repeat' first | refine Qu rfl ?_ | refine QH (fun _ _ => ?_) | refine QU rfl rfl (fun _ _ => ?_) | refine Qe ?_ | refine Qs rfl ?_ | refine Qg ?_ | refine Qa ?_ | refine Qf ?_)
 rename_i gx hgx gr hgr go hgo
 refine ZV (fun (i gc : Nat) => ⟨[(0, .ptr 0 g0 0), (2, .i c), (3, .i n), (5, .ptr 4 gx 0), (8, .ptr 5 gr 0), (9, .ptr 6 go 0), (13, .i i)], [.row g0 [.sc (.int .i64 (QT s x c n i).2.vars), .ref 1 gc 0 (QT s x c n i).2.cl.length 1, c2, c3, c4, .mp 2 g2, .mp 3 g3], .row gc (Qt (QT s x c n i).2.cl), .mapb g2 (Wp m), .mapb g3 sn, .row gx (Qt x), .row gr [.i 0, .i 0, .i 0, .i 0], .row go (Qt (QT s x c n i).1)]⟩) (fun i gc => i <= 4 /\ (gc = g1 \/ E.N < gc)) (fun i _ => 4 - i) 0 g1 ?_ ⟨by omega, .inl rfl⟩ ?_
 ·exact zal rfl
 intro i gc ⟨hi, hgc⟩
 obtain ⟨hg, hlo⟩ := hlt i (by omega)
 have hol := Zj s x c n i
 (repeat' first | refine QL rfl rfl ?_ | refine Qe ?_ | refine Qs rfl ?_ | refine Qg ?_ | refine Qa ?_)
 refine QE rfl (fun h => ?_) (fun h => ?_)
 ·have hiX : i < x.length := by omega
  have h3X : 3 < x.length := by omega
  have hs1 : QT s x c n (i + 1) = ((QT s x c n i).1.set i (muxM (QT s x c n i).2 c (movedM x ((i : Int) - n)) x[i]).1, (muxM (QT s x c n i).2 c (movedM x ((i : Int) - n)) x[i]).2) := by
   rw [<- Ord.getD_lt hiX 0]; rfl
  have ho := hg.ok
  have hh := hg.hi
  have ha := (moved_lim hs hx ((i : Int) - n)).mono hg.lo
  have hb : Lim (QT s x c n i).2 x[i] := (hx _ (List.getElem_mem hiX)).mono hg.lo
  have hc1 := hc.mono hg.lo
  clear hlt hlo
  generalize QT s x c n i = p at *
  have hiP : i < p.1.length := by omega
  have hk1 := mux_c (G := G) p.2 ho (by omega) _ _ _ hc1 ha hb
  have hmv : movedM x ((i : Int) - n) = if 4 <= (i : Int) - n then x.getD 3 0 else if 0 <= (i : Int) - n then x.getD ((i : Int) - n).toNat 0 else -1 := rfl
  generalize muxM p.2 c (movedM x ((i : Int) - n)) x[i] = q at *
  clear hx hs hg ho ha hb hh hc
  by_cases q1 : 4 <= (i : Int) - n
  ·rw [if_pos q1, Ord.getD_lt h3X] at hmv
   rw [hmv] at hk1
   (repeat' first | refine Qu rfl ?_ | refine QA rfl ?_ | refine Wj rfl rfl rfl (by first | assumption | omega) rfl ?_ | refine WE rfl rfl rfl (by omega) ?_ | refine Zx rfl rfl rfl (by omega) (by omega) ?_ | refine Wh rfl rfl ?_ | refine Q5 rfl rfl (by omega) ?_ | refine qd rfl rfl (by omega) ?_ | refine Zk rfl rfl (hk1) rfl (fun _ _ => ?_) | refine Wk rfl rfl rfl rfl rfl (by first | assumption | omega) rfl ?_ | refine Qe ?_ | refine Qs rfl ?_ | refine QZ ?_ | refine Qg ?_ | refine Qa ?_ | refine Qf ?_ | refine Qk ?_ | refine Qp rfl (by omega) ?_)
   rename_i ga hga
   refine ⟨i + 1, ga, ⟨by omega, by omega⟩, by omega, ?_⟩
   rw [hs1]
   exact zal rfl
  ·by_cases q2 : 0 <= (i : Int) - n
   ·have hkX : ((i : Int) - n).toNat < x.length := by omega
    have hkX2 : 0 + ((i : Int) - n).toNat * 1 < x.length := by omega
    have e2 : x[((i : Int) - n).toNat]'hkX = x[0 + ((i : Int) - n).toNat * 1]'hkX2 := by simp
    rw [if_neg q1, if_pos q2, Ord.getD_lt hkX, e2] at hmv
    rw [hmv] at hk1
    (repeat' first | refine Qu rfl ?_ | refine QA rfl ?_ | refine Wj rfl rfl rfl (by first | assumption | omega) rfl ?_ | refine WE rfl rfl rfl (by omega) ?_ | refine Zx rfl rfl rfl (by omega) (by omega) ?_ | refine Wh rfl rfl ?_ | refine Q5 rfl rfl (by omega) ?_ | refine qd rfl rfl (by omega) ?_ | refine Zk rfl rfl (hk1) rfl (fun _ _ => ?_) | refine Wk rfl rfl rfl rfl rfl (by first | assumption | omega) rfl ?_ | refine Qe ?_ | refine Qs rfl ?_ | refine QZ ?_ | refine Qg ?_ | refine Qa ?_ | refine Qf ?_ | refine Qk ?_ | refine Qp rfl (by omega) ?_ | refine Qr rfl (by omega) ?_)
    rename_i ga hga
    refine ⟨i + 1, ga, ⟨by omega, by omega⟩, by omega, ?_⟩
    rw [hs1]
    exact zal rfl
   ·rw [if_neg q1, if_neg q2] at hmv
    rw [hmv] at hk1
    (repeat' first | refine Qu rfl ?_ | refine QA rfl ?_ | refine Wj rfl rfl rfl (by first | assumption | omega) rfl ?_ | refine WE rfl rfl rfl (by omega) ?_ | refine Wh rfl rfl ?_ | refine Q5 rfl rfl (by omega) ?_ | refine qd rfl rfl (by omega) ?_ | refine Zk rfl rfl (hk1) rfl (fun _ _ => ?_) | refine Wk rfl rfl rfl rfl rfl (by first | assumption | omega) rfl ?_ | refine Qe ?_ | refine Qs rfl ?_ | refine QZ ?_ | refine Qg ?_ | refine Qa ?_ | refine Qf ?_ | refine Qk ?_ | refine Qr rfl (by omega) ?_)
    rename_i ga hga
    refine ⟨i + 1, ga, ⟨by omega, by omega⟩, by omega, ?_⟩
    rw [hs1]
    exact zal rfl
 ·have hi4 : i = 4 := by omega
  subst hi4
  (repeat' first | refine s_load_rowa rfl rfl (by rfl) (by rfl) ?_ | refine Wb rfl rfl rfl rfl (by rfl) (by rfl) (by rfl) ?_ | refine Qe ?_ | refine Qs rfl ?_ | refine QZ ?_ | refine Qg ?_ | refine Qa ?_ | refine Q2 rfl ?_ | refine Qq ?_)
  exact e_1 (Tryd.results103) (QR (size := 4) rfl rfl rfl rfl) (Qy (σ := [_, _, _, _]) (r := [_, _, _]) ⟨rfl, gc, by omega, rfl⟩)
def WA (s : St) (x : List Int) (b : Int) (i : Nat) : Nat -> List Int × St
 | 0 => (qy 0, s)
 | k + 1 => ((WA s x b i k).1.set (i + k) (and (WA s x b i k).2 (x.getD k 0) b).1, (and (WA s x b i k).2 (x.getD k 0) b).2)
def WL (s : St) (x y : List Int) : Nat -> List Int × St
 | 0 => (qy 0, s)
 | i + 1 => ((Wn (WA (WL s x y i).2 x (y.getD i 0) i (4 - i)).2 (WL s x y i).1 (WA (WL s x y i).2 x (y.getD i 0) i (4 - i)).1 (-1) 4).1, (Wn (WA (WL s x y i).2 x (y.getD i 0) i (4 - i)).2 (WL s x y i).1 (WA (WL s x y i).2 x (y.getD i 0) i (4 - i)).1 (-1) 4).2.2)
theorem number0 : qy 0 = [-1, -1, -1, -1] := by decide +kernel
theorem partTo_len (s : St) (x : List Int) (b : Int) (i : Nat) : ∀ k, (WA s x b i k).1.length = 4
 | 0 => rfl
 | k + 1 => by
  show ((WA s x b i k).1.set _ _).length = 4
  rw [List.length_set, partTo_len s x b i k]
theorem prodTo_len (s : St) (x y : List Int) : ∀ i, (WL s x y i).1.length = 4
 | 0 => rfl
 | i + 1 => ZK _ _ _ _ 4
theorem minus_lim {s : St} (hs : Ok s) : ∀ v ∈ qy 0, Lim s v := fun v hv => by
 rw [number0] at hv
 have : v = -1 := by simpa using hv
 subst this
 have := hs.v0
 exact ⟨by omega, by omega⟩
theorem partTo_gate {s : St} (hs : Ok s) (hv : s.vars + 20 < 1099511627776) {x : List Int} {b : Int} (i : Nat) (hx : ∀ v ∈ x, Lim s v) (hb : Lim s b) : ∀ k : Nat, k <= 4 -> Gate s (WA s x b i k).2 k /\ ∀ v ∈ (WA s x b i k).1, Lim (WA s x b i k).2 v
 | 0, _ => ⟨⟨hs, Int.le_refl _, by show s.vars <= _; omega⟩, minus_lim hs⟩
 | k + 1, hi => by
  obtain ⟨h1, h3⟩ := partTo_gate hs hv i hx hb k (by omega)
  have hh := h1.hi
  have hxk := (Wr hx hs.v0 k).mono h1.lo
  have hb1 := hb.mono h1.lo
  have g1 := Zn h1.ok (by omega) (x.getD k 0) b
  have l1 := (ZF hxk hb1 h1.ok.v0).mono g1.lo
  refine ⟨by have := h1.trans g1; rwa [show (k : Int) + 1 = ((k + 1 : Nat) : Int) by omega] at this, fun v hv => ?_⟩
  rcases List.mem_or_eq_of_mem_set hv with hv | rfl
  ·exact (h3 v hv).mono g1.lo
  ·exact l1
theorem prodTo_gate {s : St} (hs : Ok s) (hv : s.vars + 300 < 1099511627776) {x y : List Int} (hx : ∀ v ∈ x, Lim s v) (hy : ∀ v ∈ y, Lim s v) : ∀ i : Nat, i <= 4 -> Gate s (WL s x y i).2 (24 * i) /\ ∀ v ∈ (WL s x y i).1, Lim (WL s x y i).2 v
 | 0, _ => ⟨⟨hs, Int.le_refl _, by show s.vars <= _; omega⟩, minus_lim hs⟩
 | i + 1, hi => by
  obtain ⟨h1, h3⟩ := prodTo_gate hs hv hx hy i (by omega)
  have hh := h1.hi
  obtain ⟨g1, l1⟩ := partTo_gate h1.ok (by omega) i (fun v hv => (hx v hv).mono h1.lo) ((Wr hy hs.v0 i).mono h1.lo) (4 - i) (by omega)
  have k1 := g1.hi
  have hm : Lim (WA (WL s x y i).2 x (y.getD i 0) i (4 - i)).2 (-1) := by
   have := g1.ok.v0
   exact ⟨by omega, by omega⟩
  obtain ⟨g2, _, l2⟩ := sumTo_gate g1.ok (by omega) (fun v hv => (h3 v hv).mono g1.lo) l1 hm 4 (by omega)
  have k2 := g2.hi
  have l01 := h1.lo
  have l02 := g1.lo
  have l03 := g2.lo
  refine ⟨⟨g2.ok, ?_, ?_⟩, l2⟩
  ·show s.vars <= (Wn _ _ _ _ 4).2.2.vars
   omega
  ·show (Wn _ _ _ _ 4).2.2.vars <= _
   omega
theorem product_c (s : St) (hs : Ok s) (hv : s.vars + 300 < 1099511627776) (x y : List Int) (hxl : x.length = 4) (hyl : y.length = 4) (hx : ∀ v ∈ x, Lim s v) (hy : ∀ v ∈ y, Lim s v) : BM Tryd.prog G 101 [.agg (Qt x), .agg (Qt y)] s.vars s.cl (.agg (Qt (WL s x y 4).1)) (WL s x y 4).2 := fun g0 g1 g2 g3 c2 c3 c4 m sn h2 h3 h4 hm hsn B b0 b1 b2 b3 => by
 have hv0 := hs.v0
 have hv1 := hs.v1
 have hn0 := number_c (G := G) 0
 refine Qc Tryd.func101 rfl Tryd.ntmps101 rfl (t := [(0, .ptr 0 g0 0), (1, .agg (Qt x)), (2, .agg (Qt y))]) rfl fun E hE => ?_
 have hlt := fun i hi => prodTo_gate hs hv hx hy i hi
 (repeat' first | refine Qu rfl ?_ | refine Wa rfl rfl (hn0) ?_ | refine Qi rfl rfl rfl (by first | assumption | rfl) (by first | assumption | rfl) rfl ?_ | refine QH (fun _ _ => ?_) | refine QU rfl rfl (fun _ _ => ?_) | refine Qe ?_ | refine Qs rfl ?_ | refine QZ ?_ | refine Qg ?_ | refine Qa ?_ | refine Qf ?_)
 rename_i gx hgx gy hgy gr hgr go hgo
 refine ZV (fun (i gc : Nat) => ⟨[(0, .ptr 0 g0 0), (4, .ptr 4 gx 0), (5, .ptr 5 gy 0), (6, .ptr 6 gr 0), (7, .ptr 7 go 0), (12, .i i)], [.row g0 [.sc (.int .i64 (WL s x y i).2.vars), .ref 1 gc 0 (WL s x y i).2.cl.length 1, c2, c3, c4, .mp 2 g2, .mp 3 g3], .row gc (Qt (WL s x y i).2.cl), .mapb g2 (Wp m), .mapb g3 sn, .row gx (Qt x), .row gy (Qt y), .row gr [.i 0, .i 0, .i 0, .i 0], .row go (Qt (WL s x y i).1)]⟩) (fun i gc => i <= 4 /\ (gc = g1 \/ E.N < gc)) (fun i _ => 4 - i) 0 g1 ?_ ⟨by omega, .inl rfl⟩ ?_
 ·exact zal rfl
 intro i gc ⟨hi, hgc⟩
 obtain ⟨hg, hlo⟩ := hlt i (by omega)
 have hol := prodTo_len s x y i
 (repeat' first | refine QL rfl rfl ?_ | refine Qe ?_ | refine Qs rfl ?_ | refine Qg ?_ | refine Qa ?_)
 refine QE rfl (fun h => ?_) (fun h => ?_)
 ·have hiY : i < y.length := by omega
  have hb : Lim (WL s x y i).2 y[i] := (hy _ (List.getElem_mem hiY)).mono hg.lo
  have hX : ∀ v ∈ x, Lim (WL s x y i).2 v := fun v hv => (hx v hv).mono hg.lo
  have ho := hg.ok
  have hh := hg.hi
  have hs1 : WL s x y (i + 1) = ((Wn (WA (WL s x y i).2 x y[i] i (4 - i)).2 (WL s x y i).1 (WA (WL s x y i).2 x y[i] i (4 - i)).1 (-1) 4).1, (Wn (WA (WL s x y i).2 x y[i] i (4 - i)).2 (WL s x y i).1 (WA (WL s x y i).2 x y[i] i (4 - i)).1 (-1) 4).2.2) := by
   rw [<- Ord.getD_lt hiY 0]; rfl
  clear hlt hs hx hy hg
  generalize WL s x y i = p at *
  have hpt := fun k hk => partTo_gate ho (by omega) i hX hb k hk
  (repeat' first | refine Qu rfl ?_ | refine QA rfl ?_ | refine Wa rfl rfl (hn0) ?_ | refine Qi rfl rfl rfl (by first | assumption | rfl) (by first | assumption | rfl) rfl ?_ | refine QH (fun _ _ => ?_) | refine Qe ?_ | refine Qs rfl ?_ | refine QZ ?_ | refine Qg ?_ | refine Qa ?_ | refine Qf ?_ | refine Qk ?_)
  rename_i gp hgp
  refine ZV (fun (j gd : Nat) => ⟨[(0, .ptr 0 g0 0), (4, .ptr 4 gx 0), (5, .ptr 5 gy 0), (6, .ptr 6 gr 0), (7, .ptr 7 go 0), (8, .i i), (9, .ptr 8 gp 0), (10, .i ((i + j : Nat) : Int)), (12, .i i)], [.row g0 [.sc (.int .i64 (WA p.2 x y[i] i j).2.vars), .ref 1 gd 0 (WA p.2 x y[i] i j).2.cl.length 1, c2, c3, c4, .mp 2 g2, .mp 3 g3], .row gd (Qt (WA p.2 x y[i] i j).2.cl), .mapb g2 (Wp m), .mapb g3 sn, .row gx (Qt x), .row gy (Qt y), .row gr [.i 0, .i 0, .i 0, .i 0], .row go (Qt p.1), .row gp (Qt (WA p.2 x y[i] i j).1)]⟩) (fun j gd => i + j <= 4 /\ (gd = g1 \/ E.N < gd)) (fun j _ => 4 - j) 0 gc ?_ ⟨by omega, hgc⟩ ?_
  ·exact zal rfl
  intro j gd ⟨hj, hgd⟩
  obtain ⟨hg, hpl⟩ := hpt j (by omega)
  have hjl := partTo_len p.2 x y[i] i j
  have hjh := hg.hi
  (repeat' first | refine Qu rfl ?_ | refine QL rfl rfl ?_ | refine Qe ?_ | refine Qs rfl ?_ | refine Qg ?_ | refine Qa ?_)
  refine QE rfl (fun h => ?_) (fun h => ?_)
  ·have hjX : j < x.length := by omega
   have e0 : (((i + j : Nat) : Int) - (i : Int)).toNat = j := by omega
   have hjX2 : 0 + (((i + j : Nat) : Int) - (i : Int)).toNat * 1 < x.length := by omega
   have e2 : x[j]'hjX = x[0 + (((i + j : Nat) : Int) - (i : Int)).toNat * 1]'hjX2 := by simp only [e0]; simp
   have hss : WA p.2 x y[i] i (j + 1) = ((WA p.2 x y[i] i j).1.set (i + j) (and (WA p.2 x y[i] i j).2 x[j] y[i]).1, (and (WA p.2 x y[i] i j).2 x[j] y[i]).2) := by
    rw [<- Ord.getD_lt hjX 0]; rfl
   have hk1 := and_c (G := G) (WA p.2 x y[i] i j).2 hg.ok (by omega) x[j] y[i] ((hX _ (List.getElem_mem hjX)).mono hg.lo) (hb.mono hg.lo)
   clear hpt hpl hX hb hs1
   generalize WA p.2 x y[i] i j = w at *
   generalize and w.2 x[j] y[i] = q at *
   have hij : i + j < w.1.length := by omega
   rw [e2] at hk1
   (repeat' first | refine Qu rfl ?_ | refine QA rfl ?_ | refine WE rfl rfl rfl (by omega) ?_ | refine Q5 rfl rfl (by omega) ?_ | refine Zk rfl rfl (hk1) rfl (fun _ _ => ?_) | refine Wk rfl rfl rfl rfl rfl (by first | assumption | omega) rfl ?_ | refine Qe ?_ | refine Qs rfl ?_ | refine Qg ?_ | refine Qa ?_ | refine Qf ?_ | (refine Q0 ?_; first | (refine Wf (fun p => p.1 :: p.2.1 :: p.2.2.1 :: p.2.2.2.1 :: .row gx (Qt x) :: .row gy (Qt y) :: p.2.2.2.2) 13 [(0, true), (1, true), (2, true), (3, true), (4, true), (5, true), (6, true), (7, true), (8, true), (9, true), (10, false), (11, false), (12, false)] (by rfl) (by rfl) (by kernel_rfl) (by decide +kernel) (by decide +kernel) ⟨(_, _, _, _, _), rfl⟩ ?_) | refine Q3 (by rfl) (by kernel_rfl) (by kernel_rfl) ?_ | refine QP (by kernel_rfl) (by kernel_rfl) ?_) | refine Qk ?_ | refine i_nil ?_ | refine i_st rfl rfl (fun _ => (by (repeat' first | refine Qu rfl ?_ | refine Wj rfl rfl rfl (by first | assumption | omega) rfl ?_ | refine WE rfl rfl rfl (by omega) ?_ | refine Zx rfl rfl rfl (by omega) (by omega) ?_ | refine qd rfl rfl (by omega) ?_ | exact ⟨rfl, rfl⟩))) ?_ | refine i_ef rfl ?_ | refine i_ef0 ?_ | refine And.intro (Exists.intro ((_, _, _, _, _)) rfl) ?_)
   rename_i ga hga
   refine ⟨j + 1, ga, ⟨by omega, by omega⟩, by omega, ?_⟩
   rw [hss]
   exact zal rfl
  ·have hj4 : j = 4 - i := by omega
   subst hj4
   have hm1 : Lim (WA p.2 x y[i] i (4 - i)).2 (-1) := by
    have := hg.ok.v0
    exact ⟨by omega, by omega⟩
   have hk2 := sum_c (G := G) (WA p.2 x y[i] i (4 - i)).2 hg.ok (by omega) p.1 (WA p.2 x y[i] i (4 - i)).1 (-1) hol hjl (fun v hv => (hlo v hv).mono hg.lo) hpl hm1
   have hzl := ZK (WA p.2 x y[i] i (4 - i)).2 p.1 (WA p.2 x y[i] i (4 - i)).1 (-1) 4
   generalize Wn (WA p.2 x y[i] i (4 - i)).2 p.1 (WA p.2 x y[i] i (4 - i)).1 (-1) 4 = z at *
   have hpl := 0
   clear hpt hX hb hlo hm1
   generalize WA p.2 x y[i] i (4 - i) = w at *
   have w1 : (Qt p.1).length = 4 := by rw [Qz, hol]; rfl
   have w2 : (Qt w.1).length = 4 := by rw [Qz, hjl]; rfl
   have w3 : (Qt z.1).length = 4 := by rw [Qz, hzl]; rfl
   (repeat' first | refine Qu rfl ?_ | refine Qm rfl rfl (by first | assumption | rfl) ?_ | refine Q5 rfl rfl (by omega) ?_ | refine Zk rfl rfl (hk2) rfl (fun _ _ => ?_) | refine Qi rfl rfl rfl (by first | assumption | rfl) (by first | assumption | rfl) rfl ?_ | refine Qe ?_ | refine Qs rfl ?_ | refine QZ ?_ | refine Qa ?_ | refine Q2 rfl ?_)
   rename_i ga hga
   refine ⟨i + 1, ga, ⟨by omega, by omega⟩, by omega, ?_⟩
   rw [hs1]
   exact zal rfl
 ·have hi4 : i = 4 := by omega
  subst hi4
  have w1 : (Qt (WL s x y 4).1).length = 4 := by rw [Qz, hol]; rfl
  (repeat' first | refine Qm rfl rfl (by first | assumption | rfl) ?_ | refine Qi rfl rfl rfl (by first | assumption | rfl) (by first | assumption | rfl) rfl ?_ | refine Qe ?_ | refine Qs rfl ?_ | refine QZ ?_ | refine Qg ?_ | refine Qa ?_ | refine Q2 rfl ?_ | refine Qq ?_)
  exact e_1 (Tryd.results101) (QR (size := 4) rfl rfl rfl w1) (Qy (σ := [_, _, _, _]) (r := [_, _, _, _]) ⟨rfl, gc, by omega, rfl⟩)
section
variable {P : Program}
def _root_.Go.Av.BMg (P : Program) (G : Nat -> DV) (f : FuncId) (args : Nat -> List DV) (v : Int) (cl : List (List Int)) (res : DV) (s' : St) : Prop :=
 ∀ (g0 g1 g2 g3 : Nat) (c2 c3 c4 : DV) (m : List (Int × DV)) (sn : List (Value × DV)), c2.clo = true -> c3.clo = true -> c4.clo = true -> (∀ p ∈ Wp m, p.2.clo = true) -> (∀ p ∈ sn, p.2.clo = true) -> ∀ B, g0 <= B -> g1 <= B -> g2 <= B -> g3 <= B ->
  ACalls P G B f (args g0) [.row g0 [.sc (.int .i64 v), .ref 1 g1 0 cl.length 1, c2, c3, c4, .mp 2 g2, .mp 3 g3], .row g1 (Qt cl), .mapb g2 (Wp m), .mapb g3 sn]
   (fun d' τ' => d' = res /\ ∃ g1', (g1' = g1 \/ B < g1') /\ τ' = [.row g0 [.sc (.int .i64 s'.vars), .ref 1 g1' 0 s'.cl.length 1, c2, c3, c4, .mp 2 g2, .mp 3 g3], .row g1' (Qt s'.cl), .mapb g2 (Wp m), .mapb g3 sn])
variable {B : Nat} {f : Operand -> DV} {σ : List ABlk} {K : DV -> List ABlk -> Prop} {dst : Option Tmp} {type : TypeId} {pos : String} {after : Array Edge} {gd : Option (Nat × Bool)}
theorem s_callv_sub {x : Operand} {args : Array Operand} {ts : Array TypeId} {fid : FuncId} {first cap es ds : List DV} {τ cs : List ABlk} {R : Nat -> DV -> List ABlk -> Prop} [FnOk P fid] (ps : List Nat) (hx : f x = .fn (.func fid) first cap) (hds : reL (first ++ args.toList.map f ++ cap) = some es) (hargs : RenL (RenD (qf ps σ.length)) es ds) (hps : ps.Nodup)
  (hcs : pickA σ ps = some cs) (hτ : RenBs (qf ps σ.length) cs τ) (h : ∀ B', B <= B' -> (∀ (i : Nat) (b : ABlk) (g : Nat), τ[i]? = some b -> b.gen? = some g -> g <= B') -> ACalls P G B' fid ds τ (R B'))
  (k : ∀ B' d' τ', B <= B' -> R B' d' τ' -> ∃ d bs σ', RenD (qf ps σ.length) d d' /\ RenBs (qf ps σ.length) bs τ' /\ setAll σ ps bs = some σ' /\ K d σ') : OpSem P G B ⟨dst, .call ⟨.value x, args, ts⟩, type, pos, after, gd⟩ f σ K := by
 obtain ⟨h1, h2⟩ := pickA_eq hcs
 obtain ⟨h3, h4⟩ := hτ.get
 refine s_callv hx hds (ACalls.sub hargs hps (by omega) (fun i hi => ?_) h fun B' d' τ' hB hR => ?_)
 ·obtain ⟨b, e1, e2⟩ := h2 i hi
  have e3 := List.getElem?_eq_getElem (show i < τ.length by omega)
  exact ⟨b, _, e1, e3, h4 i b _ e2 e3⟩
 ·obtain ⟨d, bs, σ', k1, k2, k3, k4⟩ := k B' d' τ' hB hR
  exact ⟨d, σ', Out.of k1 hps (by omega) k2 k3, k4⟩
theorem s_callv_bm {x : Operand} {args : Array Operand} {ts : Array TypeId} {fid : FuncId} {first cap ds : List DV} {v : Int} {cl : List (List Int)} {res : DV} {s' : St} {g0 g1 g2 g3 : Nat} {c2 c3 c4 : DV} {m : List (Int × DV)} {sn : List (Value × DV)} {rest : List ABlk} [FnOk P fid]
  (hx : f x = .fn (.func fid) first cap) (hds : reL (first ++ args.toList.map f ++ cap) = some (.ptr 0 g0 0 :: ds)) (h : BM P G fid ds v cl res s')
  (hσ : σ = .row g0 [.sc (.int .i64 v), .ref 1 g1 0 cl.length 1, c2, c3, c4, .mp 2 g2, .mp 3 g3] :: .row g1 (Qt cl) :: .mapb g2 (Wp m) :: .mapb g3 sn :: rest)
  (h2 : c2.clo = true) (h3 : c3.clo = true) (h4 : c4.clo = true) (hm : ∀ p ∈ Wp m, p.2.clo = true) (hsn : ∀ p ∈ sn, p.2.clo = true) (hdc : ∀ d ∈ ds, d.clo = true) (hres : res.clo = true)
  (k : ∀ g1', (g1' = g1 \/ B < g1') -> K res (.row g0 [.sc (.int .i64 s'.vars), .ref 1 g1' 0 s'.cl.length 1, c2, c3, c4, .mp 2 g2, .mp 3 g3] :: .row g1' (Qt s'.cl) :: .mapb g2 (Wp m) :: .mapb g3 sn :: rest)) :
  OpSem P G B ⟨dst, .call ⟨.value x, args, ts⟩, type, pos, after, gd⟩ f σ K := by
 subst hσ
 have hrow : ∀ {n : Nat} {v : Int} {g1 l : Nat}, RenB (qf [0, 1, 2, 3] n) (.row g0 [.sc (.int .i64 v), .ref 1 g1 0 l 1, c2, c3, c4, .mp 2 g2, .mp 3 g3]) (.row g0 [.sc (.int .i64 v), .ref 1 g1 0 l 1, c2, c3, c4, .mp 2 g2, .mp 3 g3]) := fun {n v g1 l} =>
  .row (.cons (.clo (by simp [DV.clo])) (.cons (.ref rfl) (.cons (.clo h2) (.cons (.clo h3) (.cons (.clo h4) (.cons (.mp rfl) (.cons (.mp rfl) .nil)))))))
 have hbs : ∀ {n : Nat} {v : Int} {cl : List (List Int)} {g1 : Nat}, RenBs (qf [0, 1, 2, 3] n) [.row g0 [.sc (.int .i64 v), .ref 1 g1 0 cl.length 1, c2, c3, c4, .mp 2 g2, .mp 3 g3], .row g1 (Qt cl), .mapb g2 (Wp m), .mapb g3 sn] [.row g0 [.sc (.int .i64 v), .ref 1 g1 0 cl.length 1, c2, c3, c4, .mp 2 g2, .mp 3 g3], .row g1 (Qt cl), .mapb g2 (Wp m), .mapb g3 sn] := fun {n v cl g1} =>
  .cons hrow (.cons (.rowc (Qn cl)) (.cons (.map hm) (.cons (.map hsn) .nil)))
 refine s_callv_sub (R := fun B d' τ' => d' = res /\ ∃ g1', (g1' = g1 \/ B < g1') /\ τ' = [.row g0 [.sc (.int .i64 s'.vars), .ref 1 g1' 0 s'.cl.length 1, c2, c3, c4, .mp 2 g2, .mp 3 g3], .row g1' (Qt s'.cl), .mapb g2 (Wp m), .mapb g3 sn]) [0, 1, 2, 3] hx hds (.cons (.s (.ptr rfl)) (renl_clo hdc)) (by decide) rfl hbs (fun B' hB hg => h g0 g1 g2 g3 c2 c3 c4 m sn h2 h3 h4 hm hsn B' (hg 0 _ _ rfl rfl) (hg 1 _ _ rfl rfl) (hg 2 _ _ rfl rfl) (hg 3 _ _ rfl rfl)) ?_
 rintro B' d' τ' hB ⟨rfl, g1', hg, rfl⟩
 exact ⟨d', _, _, .s (.clo hres), hbs, rfl, k g1' (by omega)⟩
theorem s_call_bmg {args : Array Operand} {ts : Array TypeId} {fid : FuncId} {asg : Nat -> List DV} {es : List DV} {v : Int} {cl : List (List Int)} {res : DV} {s' : St} {g0 g1 g2 g3 : Nat} {c2 c3 c4 : DV} {m : List (Int × DV)} {sn : List (Value × DV)} {rest : List ABlk} [FnOk P fid]
  (hx : f (.func fid) = .fn (.func fid) [] []) (hds : reL (args.toList.map f) = some es) (h : BMg P G fid asg v cl res s')
  (hσ : σ = .row g0 [.sc (.int .i64 v), .ref 1 g1 0 cl.length 1, c2, c3, c4, .mp 2 g2, .mp 3 g3] :: .row g1 (Qt cl) :: .mapb g2 (Wp m) :: .mapb g3 sn :: rest)
  (h2 : c2.clo = true) (h3 : c3.clo = true) (h4 : c4.clo = true) (hm : ∀ p ∈ Wp m, p.2.clo = true) (hsn : ∀ p ∈ sn, p.2.clo = true) (hargs : ∀ n, RenL (RenD (qf [0, 1, 2, 3] n)) es (asg g0)) (hres : res.clo = true)
  (k : ∀ g1', (g1' = g1 \/ B < g1') -> K res (.row g0 [.sc (.int .i64 s'.vars), .ref 1 g1' 0 s'.cl.length 1, c2, c3, c4, .mp 2 g2, .mp 3 g3] :: .row g1' (Qt s'.cl) :: .mapb g2 (Wp m) :: .mapb g3 sn :: rest)) :
  OpSem P G B ⟨dst, .call ⟨.value (.func fid), args, ts⟩, type, pos, after, gd⟩ f σ K := by
 subst hσ
 have hrow : ∀ {n : Nat} {v : Int} {g1 l : Nat}, RenB (qf [0, 1, 2, 3] n) (.row g0 [.sc (.int .i64 v), .ref 1 g1 0 l 1, c2, c3, c4, .mp 2 g2, .mp 3 g3]) (.row g0 [.sc (.int .i64 v), .ref 1 g1 0 l 1, c2, c3, c4, .mp 2 g2, .mp 3 g3]) := fun {n v g1 l} =>
  .row (.cons (.clo (by simp [DV.clo])) (.cons (.ref rfl) (.cons (.clo h2) (.cons (.clo h3) (.cons (.clo h4) (.cons (.mp rfl) (.cons (.mp rfl) .nil)))))))
 have hbs : ∀ {n : Nat} {v : Int} {cl : List (List Int)} {g1 : Nat}, RenBs (qf [0, 1, 2, 3] n) [.row g0 [.sc (.int .i64 v), .ref 1 g1 0 cl.length 1, c2, c3, c4, .mp 2 g2, .mp 3 g3], .row g1 (Qt cl), .mapb g2 (Wp m), .mapb g3 sn] [.row g0 [.sc (.int .i64 v), .ref 1 g1 0 cl.length 1, c2, c3, c4, .mp 2 g2, .mp 3 g3], .row g1 (Qt cl), .mapb g2 (Wp m), .mapb g3 sn] := fun {n v cl g1} =>
  .cons hrow (.cons (.rowc (Qn cl)) (.cons (.map hm) (.cons (.map hsn) .nil)))
 refine Zd (R := fun B d' τ' => d' = res /\ ∃ g1', (g1' = g1 \/ B < g1') /\ τ' = [.row g0 [.sc (.int .i64 s'.vars), .ref 1 g1' 0 s'.cl.length 1, c2, c3, c4, .mp 2 g2, .mp 3 g3], .row g1' (Qt s'.cl), .mapb g2 (Wp m), .mapb g3 sn]) [0, 1, 2, 3] hx hds (hargs _) (by decide) rfl hbs (fun B' hB hg => h g0 g1 g2 g3 c2 c3 c4 m sn h2 h3 h4 hm hsn B' (hg 0 _ _ rfl rfl) (hg 1 _ _ rfl rfl) (hg 2 _ _ rfl rfl) (hg 3 _ _ rfl rfl)) ?_
 rintro B' d' τ' hB ⟨rfl, g1', hg, rfl⟩
 exact ⟨d', _, _, .s (.clo hres), hbs, rfl, k g1' (by omega)⟩
end
def _root_.Go.Bl.eachTo (gm : St -> Int -> Int -> Int × St) (s : St) (x y : List Int) : Nat -> List Int × St
 | 0 => (x, s)
 | i + 1 => ((eachTo gm s x y i).1.set i (gm (eachTo gm s x y i).2 ((eachTo gm s x y i).1.getD i 0) (y.getD i 0)).1, (gm (eachTo gm s x y i).2 ((eachTo gm s x y i).1.getD i 0) (y.getD i 0)).2)
theorem _root_.Go.Bl.eachTo_len (gm : St -> Int -> Int -> Int × St) (s : St) {x : List Int} (y : List Int) (hx : x.length = 4) : ∀ i, (eachTo gm s x y i).1.length = 4
 | 0 => hx
 | i + 1 => by
  show ((eachTo gm s x y i).1.set i _).length = 4
  rw [List.length_set, eachTo_len gm s y hx i]
def _root_.Go.Bl.GateOk (gm : St -> Int -> Int -> Int × St) : Prop := ∀ s x y, Ok s -> s.vars + 4 < 1099511627776 -> Lim s x -> Lim s y -> Gate s (gm s x y).2 3 /\ Lim (gm s x y).2 (gm s x y).1
theorem _root_.Go.Bl.eachTo_gate {gm : St -> Int -> Int -> Int × St} (hgm : GateOk gm) {s : St} (hs : Ok s) (hv : s.vars + 100 < 1099511627776) {x y : List Int} (hx : ∀ v ∈ x, Lim s v) (hy : ∀ v ∈ y, Lim s v) : ∀ i : Nat, i <= 8 -> Gate s (eachTo gm s x y i).2 (3 * i) /\ ∀ v ∈ (eachTo gm s x y i).1, Lim (eachTo gm s x y i).2 v
 | 0, _ => ⟨⟨hs, Int.le_refl _, by show s.vars <= _; omega⟩, hx⟩
 | i + 1, hi => by
  obtain ⟨h1, h3⟩ := eachTo_gate hgm hs hv hx hy i (by omega)
  have hh := h1.hi
  obtain ⟨g1, l1⟩ := hgm (eachTo gm s x y i).2 ((eachTo gm s x y i).1.getD i 0) (y.getD i 0) h1.ok (by omega) (Wr h3 h1.ok.v0 i) ((Wr hy hs.v0 i).mono h1.lo)
  refine ⟨by have := h1.trans g1; rwa [show (3 : Int) * (i : Int) + 3 = 3 * ((i + 1 : Nat) : Int) by omega] at this, fun v hv => ?_⟩
  rcases List.mem_or_eq_of_mem_set hv with hv | rfl
  ·exact (h3 v hv).mono g1.lo
  ·exact l1
theorem each_c {fid : FuncId} [hfo : FnOk Tryd.prog fid] {gm : St -> Int -> Int -> Int × St} (hgm : GateOk gm) (hgc : ∀ s x y, Ok s -> s.vars + 4 < 1099511627776 -> Lim s x -> Lim s y -> BM Tryd.prog G fid [.i x, .i y] s.vars s.cl (.i (gm s x y).1) (gm s x y).2)
  (s : St) (hs : Ok s) (hv : s.vars + 100 < 1099511627776) (x y : List Int) (hxl : x.length = 4) (hyl : y.length = 4) (hx : ∀ v ∈ x, Lim s v) (hy : ∀ v ∈ y, Lim s v) : BMg Tryd.prog G 86 (fun g0 => [.agg (Qt x), .agg (Qt y), .fn (.func fid) [.ptr 0 g0 0] []]) s.vars s.cl (.agg (Qt (eachTo gm s x y 4).1)) (eachTo gm s x y 4).2 := fun g0 g1 g2 g3 c2 c3 c4 m sn h2 h3 h4 hm hsn B b0 b1 b2 b3 => by
 have hv0 := hs.v0
 have hv1 := hs.v1
 refine Qc Tryd.func86 rfl Tryd.ntmps86 rfl (t := [(0, .agg (Qt x)), (1, .agg (Qt y)), (2, .fn (.func fid) [.ptr 0 g0 0] [])]) rfl fun E hE => ?_
 have hlt := fun i hi => eachTo_gate hgm hs hv hx hy i hi
 (repeat' first | refine Qu rfl ?_ | refine QH (fun _ _ => ?_) | refine QU rfl rfl (fun _ _ => ?_) | refine Qe ?_ | refine Qs rfl ?_ | refine Qg ?_ | refine Qa ?_ | refine Qf ?_)
 rename_i gx hgx gy hgy gr hgr
 refine ZV (fun (i gc : Nat) => ⟨[(2, .fn (.func fid) [.ptr 0 g0 0] []), (3, .ptr 4 gx 0), (4, .ptr 5 gy 0), (6, .ptr 6 gr 0), (8, .i i)], [.row g0 [.sc (.int .i64 (eachTo gm s x y i).2.vars), .ref 1 gc 0 (eachTo gm s x y i).2.cl.length 1, c2, c3, c4, .mp 2 g2, .mp 3 g3], .row gc (Qt (eachTo gm s x y i).2.cl), .mapb g2 (Wp m), .mapb g3 sn, .row gx (Qt (eachTo gm s x y i).1), .row gy (Qt y), .row gr [.i 0, .i 0, .i 0, .i 0]]⟩) (fun i gc => i <= 4 /\ (gc = g1 \/ E.N < gc)) (fun i _ => 4 - i) 0 g1 ?_ ⟨by omega, .inl rfl⟩ ?_
 ·exact zal rfl
 intro i gc ⟨hi, hgc'⟩
 obtain ⟨hg, hlo⟩ := hlt i (by omega)
 have hol := eachTo_len gm s y hxl i
 (repeat' first | refine QL rfl rfl ?_ | refine Qe ?_ | refine Qs rfl ?_ | refine Qg ?_ | refine Qa ?_)
 refine QE rfl (fun h => ?_) (fun h => ?_)
 ·have hiY : i < y.length := by omega
  have hs1 : eachTo gm s x y (i + 1) = ((eachTo gm s x y i).1.set i (gm (eachTo gm s x y i).2 ((eachTo gm s x y i).1.getD i 0) y[i]).1, (gm (eachTo gm s x y i).2 ((eachTo gm s x y i).1.getD i 0) y[i]).2) := by
   rw [<- Ord.getD_lt hiY 0]; rfl
  have ho := hg.ok
  have hh := hg.hi
  have hb : Lim (eachTo gm s x y i).2 y[i] := (hy _ (List.getElem_mem hiY)).mono hg.lo
  clear hlt
  generalize eachTo gm s x y i = q at *
  have hiQ : i < q.1.length := by omega
  rw [Ord.getD_lt hiQ] at hs1
  have hcall := hgc q.2 q.1[i] y[i] ho (by omega) (hlo _ (List.getElem_mem hiQ)) hb
  generalize gm q.2 q.1[i] y[i] = z at *
  clear hx hs hg ho hb hh hlo hgm hgc
  (repeat' first | refine Qu rfl ?_ | refine QA rfl ?_ | refine Q5 rfl rfl (by omega) ?_ | refine s_callv_bm rfl rfl hcall rfl (by assumption) (by assumption) (by assumption) (by assumption) (by assumption) (by repeat' first | exact QW | refine QF ?_ ?_ | exact Qx) Qx (fun _ _ => ?_) | refine Wk rfl rfl rfl rfl rfl (by first | assumption | omega) rfl ?_ | refine Qe ?_ | refine Qs rfl ?_ | refine Qg ?_ | refine Qa ?_ | refine Qf ?_ | (refine Q0 ?_; first | (refine Wf (fun p => p.1 :: p.2.1 :: p.2.2.1 :: p.2.2.2.1 :: .row gx (Qt q.1) :: .row gy (Qt y) :: p.2.2.2.2) 10 [(0, true), (1, true), (2, true), (3, true), (4, true), (5, true), (6, true), (7, true), (8, false), (9, true), (10, false)] (by rfl) (by rfl) (by kernel_rfl) (by decide +kernel) (by decide +kernel) ⟨(_, _, _, _, _), rfl⟩ ?_) | refine Q3 (by rfl) (by kernel_rfl) (by kernel_rfl) ?_ | refine QP (by kernel_rfl) (by kernel_rfl) ?_) | refine Qk ?_ | refine i_nil ?_ | refine i_z0 ?_ | refine i_st rfl rfl (fun _ => (by (repeat' first | refine Qu rfl ?_ | refine Wj rfl rfl rfl (by first | assumption | omega) rfl ?_ | refine WE rfl rfl rfl (by omega) ?_ | exact ⟨rfl, rfl⟩))) ?_ | refine i_ef rfl ?_ | refine And.intro (Exists.intro ((_, _, _, _, _)) rfl) ?_)
  rename_i ga hga
  refine ⟨i + 1, ga, ⟨by omega, by omega⟩, by omega, ?_⟩
  rw [hs1]
  exact zal rfl
 ·have hi4 : i = 4 := by omega
  subst hi4
  have w1 : (Qt (eachTo gm s x y 4).1).length = 4 := by rw [Qz, hol]; rfl
  clear hlt hlo hg
  generalize eachTo gm s x y 4 = q at *
  (repeat' first | refine Qm rfl rfl (by first | assumption | rfl) ?_ | refine Qi rfl rfl rfl (by first | assumption | rfl) (by first | assumption | rfl) rfl ?_ | refine Qe ?_ | refine Qs rfl ?_ | refine QZ ?_ | refine Qg ?_ | refine Qa ?_ | refine Q2 rfl ?_ | refine Qq ?_)
  exact e_1 (Tryd.results86) (QR (size := 4) rfl rfl (QS w1) w1) (Qy (σ := [_, _, _, _]) (r := [_, _, _]) ⟨rfl, gc, by omega, rfl⟩)
theorem and_gok : GateOk and := fun s x y hs hv hx hy => by
 have h := Zn hs (by omega) x y
 exact ⟨⟨h.ok, h.lo, by have := h.hi; omega⟩, (ZF hx hy hs.v0).mono h.lo⟩
theorem or_gok : GateOk or := fun s x y hs hv hx hy => by
 have h := or_gate hs (by omega) x y
 exact ⟨⟨h.ok, h.lo, by have := h.hi; omega⟩, (or_lim hx hy hs.v0).mono h.lo⟩
theorem xor_gok : GateOk xor := fun s x y hs hv hx hy => by
 have h := xor_gate hs (by omega) x y
 exact ⟨⟨h.ok, h.lo, by have := h.hi; omega⟩, (xor_lim hx hy hs.v0).mono h.lo⟩
def one4 (p : Int × St) : List Int × St := ([p.1, 0, 0, 0], p.2)
def ZC (op : Int) (s : St) (x y : List Int) : List Int × St :=
 if op = 0 then ((Wn s x y (-1) 4).1, (Wn s x y (-1) 4).2.2) else
 if op = 1 then ((Wn s x (qa y 4) 1 4).1, (Wn s x (qa y 4) 1 4).2.2) else
 if op = 2 then WL s x y 4 else
 if op = 5 then eachTo and s x y 4 else
 if op = 6 then eachTo or s x y 4 else
 if op = 7 then eachTo xor s x y 4 else
 if op = 8 then QT (QT s x (y.getD 0 0) 1 4).2 (QT s x (y.getD 0 0) 1 4).1 (y.getD 1 0) 2 4 else
 if op = 9 then QT (QT s x (y.getD 0 0) (-1) 4).2 (QT s x (y.getD 0 0) (-1) 4).1 (y.getD 1 0) (-2) 4 else
 if op = 10 then one4 (less s x y) else
 if op = 11 then one4 (Zb s x y 4) else
 if op = 12 then one4 (and s (x.getD 0 0) (y.getD 0 0)) else
 if op = 13 then one4 (or s (x.getD 0 0) (y.getD 0 0)) else
 ((freshTo s 4).1, tableTo (freshTo s 4).2 op x y (freshTo s 4).1 256)
theorem operation_0 (hG : G 0 = qE) (s : St) (hs : Ok s) (hv : s.vars + 300 < 1099511627776) (x y : List Int) (hxl : x.length = 4) (hyl : y.length = 4) (hx : ∀ v ∈ x, Lim s v) (hy : ∀ v ∈ y, Lim s v) : BM Tryd.prog G 88 [.i 0, .agg (Qt x), .agg (Qt y)] s.vars s.cl (.agg (Qt (ZC 0 s x y).1)) (ZC 0 s x y).2 := fun g0 g1 g2 g3 c2 c3 c4 m sn h2 h3 h4 hm hsn B b0 b1 b2 b3 => by
 have hv0 := hs.v0
 have hv1 := hs.v1
 have hlx : (Qt x).length = 4 := by rw [Qz, hxl]; rfl
 have hly : (Qt y).length = 4 := by rw [Qz, hyl]; rfl
 have hk1 := sum_c (G := G) s hs (by omega) x y (-1) hxl hyl hx hy ⟨by omega, by omega⟩
 have er : ZC 0 s x y = ((Wn s x y (-1) 4).1, (Wn s x y (-1) 4).2.2) := rfl
 have w1 := ZK s x y (-1) 4
 rw [er]
 generalize Wn s x y (-1) 4 = z at *
 have w2 : (Qt z.1).length = 4 := by rw [Qz, w1]; rfl
 refine Qc Tryd.func88 rfl Tryd.ntmps88 rfl (t := [(0, .ptr 0 g0 0), (1, .i 0), (2, .agg (Qt x)), (3, .agg (Qt y))]) rfl fun E hE => ?_
 (repeat' first | refine Qu rfl ?_ | refine QA rfl ?_ | refine Qm rfl rfl (by first | assumption | rfl) ?_ | refine QJ rfl rfl ?_ | refine Zk rfl rfl (hk1) rfl (fun _ _ => ?_) | refine QU (ds := Qt x) rfl rfl (fun gx hgx => ?_) | refine QU (ds := Qt y) rfl rfl (fun gy hgy => ?_) | refine Qi rfl rfl rfl (by first | assumption | rfl) (by first | assumption | rfl) rfl ?_ | refine QH (fun _ _ => ?_) | refine Qe ?_ | refine Qs rfl ?_ | refine QZ ?_ | refine Qg ?_ | refine Qa ?_ | refine Qf ?_ | refine QB rfl ?_ | refine Qq ?_)
 exact e_1 (Tryd.results88) (QR (size := 4) rfl rfl (QS w2) w2) (Qy (σ := [_, _, _, _]) (r := [_, _, _]) ⟨rfl, _, by omega, rfl⟩)
theorem operation_1 (hG : G 0 = qE) (s : St) (hs : Ok s) (hv : s.vars + 300 < 1099511627776) (x y : List Int) (hxl : x.length = 4) (hyl : y.length = 4) (hx : ∀ v ∈ x, Lim s v) (hy : ∀ v ∈ y, Lim s v) : BM Tryd.prog G 88 [.i 1, .agg (Qt x), .agg (Qt y)] s.vars s.cl (.agg (Qt (ZC 1 s x y).1)) (ZC 1 s x y).2 := fun g0 g1 g2 g3 c2 c3 c4 m sn h2 h3 h4 hm hsn B b0 b1 b2 b3 => by
 have hv0 := hs.v0
 have hv1 := hs.v1
 have hlx : (Qt x).length = 4 := by rw [Qz, hxl]; rfl
 have hly : (Qt y).length = 4 := by rw [Qz, hyl]; rfl
 have hnl : (qa y 4).length = 4 := (notTo_len y 4).trans hyl
 have hnot := not_c (G := G) y hyl (fun v hv => by obtain ⟨q1, q2⟩ := hy v hv; exact ⟨by omega, by omega⟩)
 have hk1 := sum_c (G := G) s hs (by omega) x (qa y 4) 1 hxl hnl hx (fun v hv => notTo_bd (M := s.vars + 1) (by omega) (fun v h => hy v h) 4 v hv) ⟨by omega, by omega⟩
 have er : ZC 1 s x y = ((Wn s x (qa y 4) 1 4).1, (Wn s x (qa y 4) 1 4).2.2) := rfl
 have w1 := ZK s x (qa y 4) 1 4
 rw [er]
 generalize Wn s x (qa y 4) 1 4 = z at *
 have w2 : (Qt z.1).length = 4 := by rw [Qz, w1]; rfl
 refine Qc Tryd.func88 rfl Tryd.ntmps88 rfl (t := [(0, .ptr 0 g0 0), (1, .i 1), (2, .agg (Qt x)), (3, .agg (Qt y))]) rfl fun E hE => ?_
 (repeat' first | refine Qu rfl ?_ | refine QA rfl ?_ | refine QJ rfl rfl ?_ | refine Zk rfl rfl (hk1) rfl (fun _ _ => ?_) | refine QU (ds := Qt x) rfl rfl (fun gx hgx => ?_) | refine QU (ds := Qt y) rfl rfl (fun gy hgy => ?_) | refine Qi rfl rfl rfl (by first | assumption | rfl) (by first | assumption | rfl) rfl ?_ | refine QH (fun _ _ => ?_) | refine Qe ?_ | refine Qs rfl ?_ | refine Qg ?_ | refine Qa ?_ | refine Qf ?_ | (refine Q0 ?_; first | (refine Wf (fun p => p.1 :: p.2.1 :: p.2.2.1 :: p.2.2.2.1 :: .row gx (Qt x) :: .row gy (Qt y) :: p.2.2.2.2) 10 [(0, true), (1, true), (2, true), (3, true), (4, true), (6, true), (7, true), (5, false), (8, false), (9, false)] (by rfl) (by rfl) (by kernel_rfl) (by decide +kernel) (by decide +kernel) ⟨(_, _, _, _, _), rfl⟩ ?_) | (refine Wf (fun p => p.1 :: p.2.1 :: p.2.2.1 :: p.2.2.2.1 :: .row gx (Qt x) :: .row gy (Qt y) :: p.2.2.2.2) 6 [(0, true), (1, true), (2, true), (3, true), (4, false), (5, false)] (by rfl) (by rfl) (by kernel_rfl) (by decide +kernel) (by decide +kernel) ⟨(_, _, _, _, _), rfl⟩ ?_) | refine Q3 (by rfl) (by kernel_rfl) (by kernel_rfl) ?_ | refine QP (by kernel_rfl) (by kernel_rfl) ?_) | refine QB rfl ?_ | refine Qo rfl ?_ | refine Qq ?_ | refine i_nil ?_ | refine i_st rfl rfl (fun _ => (by (repeat' first | refine Qu rfl ?_ | refine Qm rfl rfl (by first | assumption | rfl) ?_ | refine Wa rfl rfl (hnot) ?_ | exact ⟨rfl, rfl⟩))) ?_ | refine i_ef rfl ?_ | refine i_ef0 ?_ | refine And.intro (Exists.intro ((_, _, _, _, _)) rfl) ?_)
 exact e_1 (Tryd.results88) (QR (size := 4) rfl rfl (QS w2) w2) (Qy (σ := [_, _, _, _]) (r := [_, _, _]) ⟨rfl, _, by omega, rfl⟩)
theorem operation_2 (hG : G 0 = qE) (s : St) (hs : Ok s) (hv : s.vars + 300 < 1099511627776) (x y : List Int) (hxl : x.length = 4) (hyl : y.length = 4) (hx : ∀ v ∈ x, Lim s v) (hy : ∀ v ∈ y, Lim s v) : BM Tryd.prog G 88 [.i 2, .agg (Qt x), .agg (Qt y)] s.vars s.cl (.agg (Qt (ZC 2 s x y).1)) (ZC 2 s x y).2 := fun g0 g1 g2 g3 c2 c3 c4 m sn h2 h3 h4 hm hsn B b0 b1 b2 b3 => by
 have hv0 := hs.v0
 have hv1 := hs.v1
 have hlx : (Qt x).length = 4 := by rw [Qz, hxl]; rfl
 have hly : (Qt y).length = 4 := by rw [Qz, hyl]; rfl
 have hk1 := product_c (G := G) s hs (by omega) x y hxl hyl hx hy
 have er : ZC 2 s x y = WL s x y 4 := rfl
 have w1 := prodTo_len s x y 4
 rw [er]
 generalize WL s x y 4 = z at *
 have w2 : (Qt z.1).length = 4 := by rw [Qz, w1]; rfl
 refine Qc Tryd.func88 rfl Tryd.ntmps88 rfl (t := [(0, .ptr 0 g0 0), (1, .i 2), (2, .agg (Qt x)), (3, .agg (Qt y))]) rfl fun E hE => ?_
 (repeat' first | refine Qu rfl ?_ | refine QA rfl ?_ | refine Qm rfl rfl (by first | assumption | rfl) ?_ | refine QJ rfl rfl ?_ | refine Zk rfl rfl (hk1) rfl (fun _ _ => ?_) | refine QU (ds := Qt x) rfl rfl (fun gx hgx => ?_) | refine QU (ds := Qt y) rfl rfl (fun gy hgy => ?_) | refine Qi rfl rfl rfl (by first | assumption | rfl) (by first | assumption | rfl) rfl ?_ | refine QH (fun _ _ => ?_) | refine Qe ?_ | refine Qs rfl ?_ | refine QZ ?_ | refine Qg ?_ | refine Qa ?_ | refine Qf ?_ | refine QB rfl ?_ | refine Qo rfl ?_ | refine Qq ?_)
 exact e_1 (Tryd.results88) (QR (size := 4) rfl rfl (QS w2) w2) (Qy (σ := [_, _, _, _]) (r := [_, _, _]) ⟨rfl, _, by omega, rfl⟩)
theorem operation_3 (hG : G 0 = qE) (s : St) (hs : Ok s) (hv : s.vars + 300 < 1099511627776) (x y : List Int) (hxl : x.length = 4) (hyl : y.length = 4) (hx : ∀ v ∈ x, Lim s v) (hy : ∀ v ∈ y, Lim s v) : BM Tryd.prog G 88 [.i 3, .agg (Qt x), .agg (Qt y)] s.vars s.cl (.agg (Qt (ZC 3 s x y).1)) (ZC 3 s x y).2 := fun g0 g1 g2 g3 c2 c3 c4 m sn h2 h3 h4 hm hsn B b0 b1 b2 b3 => by
 have hv0 := hs.v0
 have hv1 := hs.v1
 have hlx : (Qt x).length = 4 := by rw [Qz, hxl]; rfl
 have hly : (Qt y).length = 4 := by rw [Qz, hyl]; rfl
 have hk1 := table_c hG s hs (by omega) 3 ⟨by omega, by omega⟩ x y hxl hyl hx hy
 have er : ZC 3 s x y = ((freshTo s 4).1, tableTo (freshTo s 4).2 3 x y (freshTo s 4).1 256) := rfl
 have w1 := freshTo_len s 4
 rw [er]
 clear er
 generalize tableTo (freshTo s 4).2 3 x y (freshTo s 4).1 256 = z at *
 generalize (freshTo s 4).1 = r at *
 have w2 : (Qt r).length = 4 := by rw [Qz, w1]; rfl
 refine Qc Tryd.func88 rfl Tryd.ntmps88 rfl (t := [(0, .ptr 0 g0 0), (1, .i 3), (2, .agg (Qt x)), (3, .agg (Qt y))]) rfl fun E hE => ?_
 (repeat' first | refine Qu rfl ?_ | refine QA rfl ?_ | refine Qm rfl rfl (by first | assumption | rfl) ?_ | refine QJ rfl rfl ?_ | refine Zk rfl rfl (hk1) rfl (fun _ _ => ?_) | refine QU (ds := Qt x) rfl rfl (fun gx hgx => ?_) | refine QU (ds := Qt y) rfl rfl (fun gy hgy => ?_) | refine Qi rfl rfl rfl (by first | assumption | rfl) (by first | assumption | rfl) rfl ?_ | refine QH (fun _ _ => ?_) | refine Qe ?_ | refine Qs rfl ?_ | refine QZ ?_ | refine Qg ?_ | refine Qa ?_ | refine Qf ?_ | refine Qk ?_ | refine Qo rfl ?_ | refine Qq ?_)
 exact e_1 (Tryd.results88) (QR (size := 4) rfl rfl (QS w2) w2) (Qy (σ := [_, _, _, _]) (r := [_, _, _]) ⟨rfl, _, by omega, rfl⟩)
theorem operation_4 (hG : G 0 = qE) (s : St) (hs : Ok s) (hv : s.vars + 300 < 1099511627776) (x y : List Int) (hxl : x.length = 4) (hyl : y.length = 4) (hx : ∀ v ∈ x, Lim s v) (hy : ∀ v ∈ y, Lim s v) : BM Tryd.prog G 88 [.i 4, .agg (Qt x), .agg (Qt y)] s.vars s.cl (.agg (Qt (ZC 4 s x y).1)) (ZC 4 s x y).2 := fun g0 g1 g2 g3 c2 c3 c4 m sn h2 h3 h4 hm hsn B b0 b1 b2 b3 => by
 have hv0 := hs.v0
 have hv1 := hs.v1
 have hlx : (Qt x).length = 4 := by rw [Qz, hxl]; rfl
 have hly : (Qt y).length = 4 := by rw [Qz, hyl]; rfl
 have hk1 := table_c hG s hs (by omega) 4 ⟨by omega, by omega⟩ x y hxl hyl hx hy
 have er : ZC 4 s x y = ((freshTo s 4).1, tableTo (freshTo s 4).2 4 x y (freshTo s 4).1 256) := rfl
 have w1 := freshTo_len s 4
 rw [er]
 clear er
 generalize tableTo (freshTo s 4).2 4 x y (freshTo s 4).1 256 = z at *
 generalize (freshTo s 4).1 = r at *
 have w2 : (Qt r).length = 4 := by rw [Qz, w1]; rfl
 refine Qc Tryd.func88 rfl Tryd.ntmps88 rfl (t := [(0, .ptr 0 g0 0), (1, .i 4), (2, .agg (Qt x)), (3, .agg (Qt y))]) rfl fun E hE => ?_
 (repeat' first | refine Qu rfl ?_ | refine QA rfl ?_ | refine Qm rfl rfl (by first | assumption | rfl) ?_ | refine QJ rfl rfl ?_ | refine Zk rfl rfl (hk1) rfl (fun _ _ => ?_) | refine QU (ds := Qt x) rfl rfl (fun gx hgx => ?_) | refine QU (ds := Qt y) rfl rfl (fun gy hgy => ?_) | refine Qi rfl rfl rfl (by first | assumption | rfl) (by first | assumption | rfl) rfl ?_ | refine QH (fun _ _ => ?_) | refine Qe ?_ | refine Qs rfl ?_ | refine QZ ?_ | refine Qg ?_ | refine Qa ?_ | refine Qf ?_ | refine Qk ?_ | refine Qo rfl ?_ | refine Qq ?_)
 exact e_1 (Tryd.results88) (QR (size := 4) rfl rfl (QS w2) w2) (Qy (σ := [_, _, _, _]) (r := [_, _, _]) ⟨rfl, _, by omega, rfl⟩)
theorem operation_5 (hG : G 0 = qE) (s : St) (hs : Ok s) (hv : s.vars + 300 < 1099511627776) (x y : List Int) (hxl : x.length = 4) (hyl : y.length = 4) (hx : ∀ v ∈ x, Lim s v) (hy : ∀ v ∈ y, Lim s v) : BM Tryd.prog G 88 [.i 5, .agg (Qt x), .agg (Qt y)] s.vars s.cl (.agg (Qt (ZC 5 s x y).1)) (ZC 5 s x y).2 := fun g0 g1 g2 g3 c2 c3 c4 m sn h2 h3 h4 hm hsn B b0 b1 b2 b3 => by
 have hv0 := hs.v0
 have hv1 := hs.v1
 have hlx : (Qt x).length = 4 := by rw [Qz, hxl]; rfl
 have hly : (Qt y).length = 4 := by rw [Qz, hyl]; rfl
 have hk3 := each_c (G := G) (fid := 98) and_gok (fun s x y hs hv hx hy => and_c s hs (by omega) x y hx hy) s hs (by omega) x y hxl hyl hx hy
 have er : ZC 5 s x y = eachTo and s x y 4 := rfl
 have w1 := eachTo_len and s y hxl 4
 rw [er]
 generalize eachTo and s x y 4 = z at *
 have w2 : (Qt z.1).length = 4 := by rw [Qz, w1]; rfl
 refine Qc Tryd.func88 rfl Tryd.ntmps88 rfl (t := [(0, .ptr 0 g0 0), (1, .i 5), (2, .agg (Qt x)), (3, .agg (Qt y))]) rfl fun E hE => ?_
 (repeat' first | refine Qu rfl ?_ | refine QA rfl ?_ | refine Qm rfl rfl (by first | assumption | rfl) ?_ | refine QJ rfl rfl ?_ | refine s_call_bmg rfl rfl hk3 rfl (by assumption) (by assumption) (by assumption) (by assumption) (by assumption) (fun _ => .cons (.s (.clo (Qw (Qn _)))) (.cons (.s (.clo (Qw (Qn _)))) (.cons (.fn (.cons (.ptr rfl) .nil) .nil) .nil))) (Qw (Qn _)) (fun _ _ => ?_) | refine QU (ds := Qt x) rfl rfl (fun gx hgx => ?_) | refine QU (ds := Qt y) rfl rfl (fun gy hgy => ?_) | refine Qi rfl rfl rfl (by first | assumption | rfl) (by first | assumption | rfl) rfl ?_ | refine ZA rfl rfl ?_ | refine QH (fun _ _ => ?_) | refine Qe ?_ | refine Qs rfl ?_ | refine QZ ?_ | refine Qg ?_ | refine Qa ?_ | refine Qf ?_ | refine QB rfl ?_ | refine Qo rfl ?_ | refine Qq ?_)
 exact e_1 (Tryd.results88) (QR (size := 4) rfl rfl (QS w2) w2) (Qy (σ := [_, _, _, _]) (r := [_, _, _]) ⟨rfl, _, by omega, rfl⟩)
theorem operation_6 (hG : G 0 = qE) (s : St) (hs : Ok s) (hv : s.vars + 300 < 1099511627776) (x y : List Int) (hxl : x.length = 4) (hyl : y.length = 4) (hx : ∀ v ∈ x, Lim s v) (hy : ∀ v ∈ y, Lim s v) : BM Tryd.prog G 88 [.i 6, .agg (Qt x), .agg (Qt y)] s.vars s.cl (.agg (Qt (ZC 6 s x y).1)) (ZC 6 s x y).2 := fun g0 g1 g2 g3 c2 c3 c4 m sn h2 h3 h4 hm hsn B b0 b1 b2 b3 => by
 have hv0 := hs.v0
 have hv1 := hs.v1
 have hlx : (Qt x).length = 4 := by rw [Qz, hxl]; rfl
 have hly : (Qt y).length = 4 := by rw [Qz, hyl]; rfl
 have hk3 := each_c (G := G) (fid := 97) or_gok (fun s x y hs hv hx hy => or_c s hs (by omega) x y hx hy) s hs (by omega) x y hxl hyl hx hy
 have er : ZC 6 s x y = eachTo or s x y 4 := rfl
 have w1 := eachTo_len or s y hxl 4
 rw [er]
 generalize eachTo or s x y 4 = z at *
 have w2 : (Qt z.1).length = 4 := by rw [Qz, w1]; rfl
 refine Qc Tryd.func88 rfl Tryd.ntmps88 rfl (t := [(0, .ptr 0 g0 0), (1, .i 6), (2, .agg (Qt x)), (3, .agg (Qt y))]) rfl fun E hE => ?_
 (repeat' first | refine Qu rfl ?_ | refine QA rfl ?_ | refine Qm rfl rfl (by first | assumption | rfl) ?_ | refine QJ rfl rfl ?_ | refine s_call_bmg rfl rfl hk3 rfl (by assumption) (by assumption) (by assumption) (by assumption) (by assumption) (fun _ => .cons (.s (.clo (Qw (Qn _)))) (.cons (.s (.clo (Qw (Qn _)))) (.cons (.fn (.cons (.ptr rfl) .nil) .nil) .nil))) (Qw (Qn _)) (fun _ _ => ?_) | refine QU (ds := Qt x) rfl rfl (fun gx hgx => ?_) | refine QU (ds := Qt y) rfl rfl (fun gy hgy => ?_) | refine Qi rfl rfl rfl (by first | assumption | rfl) (by first | assumption | rfl) rfl ?_ | refine ZA rfl rfl ?_ | refine QH (fun _ _ => ?_) | refine Qe ?_ | refine Qs rfl ?_ | refine QZ ?_ | refine Qg ?_ | refine Qa ?_ | refine Qf ?_ | refine QB rfl ?_ | refine Qo rfl ?_ | refine Qq ?_)
 exact e_1 (Tryd.results88) (QR (size := 4) rfl rfl (QS w2) w2) (Qy (σ := [_, _, _, _]) (r := [_, _, _]) ⟨rfl, _, by omega, rfl⟩)
theorem operation_7 (hG : G 0 = qE) (s : St) (hs : Ok s) (hv : s.vars + 300 < 1099511627776) (x y : List Int) (hxl : x.length = 4) (hyl : y.length = 4) (hx : ∀ v ∈ x, Lim s v) (hy : ∀ v ∈ y, Lim s v) : BM Tryd.prog G 88 [.i 7, .agg (Qt x), .agg (Qt y)] s.vars s.cl (.agg (Qt (ZC 7 s x y).1)) (ZC 7 s x y).2 := fun g0 g1 g2 g3 c2 c3 c4 m sn h2 h3 h4 hm hsn B b0 b1 b2 b3 => by
 have hv0 := hs.v0
 have hv1 := hs.v1
 have hlx : (Qt x).length = 4 := by rw [Qz, hxl]; rfl
 have hly : (Qt y).length = 4 := by rw [Qz, hyl]; rfl
 have hk3 := each_c (G := G) (fid := 102) xor_gok (fun s x y hs hv hx hy => xor_c s hs (by omega) x y hx hy) s hs (by omega) x y hxl hyl hx hy
 have er : ZC 7 s x y = eachTo xor s x y 4 := rfl
 have w1 := eachTo_len xor s y hxl 4
 rw [er]
 generalize eachTo xor s x y 4 = z at *
 have w2 : (Qt z.1).length = 4 := by rw [Qz, w1]; rfl
 refine Qc Tryd.func88 rfl Tryd.ntmps88 rfl (t := [(0, .ptr 0 g0 0), (1, .i 7), (2, .agg (Qt x)), (3, .agg (Qt y))]) rfl fun E hE => ?_
 (repeat' first | refine Qu rfl ?_ | refine QA rfl ?_ | refine Qm rfl rfl (by first | assumption | rfl) ?_ | refine QJ rfl rfl ?_ | refine s_call_bmg rfl rfl hk3 rfl (by assumption) (by assumption) (by assumption) (by assumption) (by assumption) (fun _ => .cons (.s (.clo (Qw (Qn _)))) (.cons (.s (.clo (Qw (Qn _)))) (.cons (.fn (.cons (.ptr rfl) .nil) .nil) .nil))) (Qw (Qn _)) (fun _ _ => ?_) | refine QU (ds := Qt x) rfl rfl (fun gx hgx => ?_) | refine QU (ds := Qt y) rfl rfl (fun gy hgy => ?_) | refine Qi rfl rfl rfl (by first | assumption | rfl) (by first | assumption | rfl) rfl ?_ | refine ZA rfl rfl ?_ | refine QH (fun _ _ => ?_) | refine Qe ?_ | refine Qs rfl ?_ | refine QZ ?_ | refine Qg ?_ | refine Qa ?_ | refine Qf ?_ | refine QB rfl ?_ | refine Qo rfl ?_ | refine Qq ?_)
 exact e_1 (Tryd.results88) (QR (size := 4) rfl rfl (QS w2) w2) (Qy (σ := [_, _, _, _]) (r := [_, _, _]) ⟨rfl, _, by omega, rfl⟩)
theorem operation_8 (hG : G 0 = qE) (s : St) (hs : Ok s) (hv : s.vars + 300 < 1099511627776) (x y : List Int) (hxl : x.length = 4) (hyl : y.length = 4) (hx : ∀ v ∈ x, Lim s v) (hy : ∀ v ∈ y, Lim s v) : BM Tryd.prog G 88 [.i 8, .agg (Qt x), .agg (Qt y)] s.vars s.cl (.agg (Qt (ZC 8 s x y).1)) (ZC 8 s x y).2 := fun g0 g1 g2 g3 c2 c3 c4 m sn h2 h3 h4 hm hsn B b0 b1 b2 b3 => by
 have hv0 := hs.v0
 have hv1 := hs.v1
 have hlx : (Qt x).length = 4 := by rw [Qz, hxl]; rfl
 have hly : (Qt y).length = 4 := by rw [Qz, hyl]; rfl
 have h0Y : 0 < y.length := by omega
 have h1Y : 1 < y.length := by omega
 obtain ⟨t1, t2⟩ := Z3 hs (by omega) (c := y[0]) 1 hx (hy _ (List.getElem_mem h0Y)) 4 (by omega)
 have t3 := t1.hi
 have hk1 := shifted_c (G := G) s hs (by omega) x y[0] 1 hxl hx (hy _ (List.getElem_mem h0Y)) ⟨by omega, by omega⟩
 have hk2 := shifted_c (G := G) (QT s x y[0] 1 4).2 t1.ok (by omega) (QT s x y[0] 1 4).1 y[1] 2 (Zj s x y[0] 1 4) t2 ((hy _ (List.getElem_mem h1Y)).mono t1.lo) ⟨by omega, by omega⟩
 have er : ZC 8 s x y = QT (QT s x y[0] 1 4).2 (QT s x y[0] 1 4).1 y[1] 2 4 := by rw [<- Ord.getD_lt h0Y 0, <- Ord.getD_lt h1Y 0]; rfl
 have w1 := Zj (QT s x y[0] 1 4).2 (QT s x y[0] 1 4).1 y[1] 2 4
 rw [er]
 clear t1 t2 t3 er hx hy
 generalize QT s x y[0] 1 4 = r at *
 generalize QT r.2 r.1 y[1] 2 4 = z at *
 have w2 : (Qt z.1).length = 4 := by rw [Qz, w1]; rfl
 refine Qc Tryd.func88 rfl Tryd.ntmps88 rfl (t := [(0, .ptr 0 g0 0), (1, .i 8), (2, .agg (Qt x)), (3, .agg (Qt y))]) rfl fun E hE => ?_
 (repeat' first | refine Qu rfl ?_ | refine QA rfl ?_ | refine QJ rfl rfl ?_ | refine Zk rfl rfl (hk1) rfl (fun _ _ => ?_) | refine Zk rfl rfl (hk2) rfl (fun _ _ => ?_) | refine QU (ds := Qt x) rfl rfl (fun gx hgx => ?_) | refine QU (ds := Qt y) rfl rfl (fun gy hgy => ?_) | refine Qi rfl rfl rfl (by first | assumption | rfl) (by first | assumption | rfl) rfl ?_ | refine QH (fun _ _ => ?_) | refine Qe ?_ | refine Qs rfl ?_ | refine Qg ?_ | refine Qa ?_ | refine Qf ?_ | (refine Q0 ?_; first | (refine Wf (fun p => p.1 :: p.2.1 :: p.2.2.1 :: p.2.2.2.1 :: .row gx (Qt x) :: .row gy (Qt y) :: p.2.2.2.2) 10 [(0, true), (1, true), (2, true), (3, true), (4, true), (6, true), (7, true), (5, false), (8, false), (9, false)] (by rfl) (by rfl) (by kernel_rfl) (by decide +kernel) (by decide +kernel) ⟨(_, _, _, _, _), rfl⟩ ?_) | (refine Wf (fun p => p.1 :: p.2.1 :: p.2.2.1 :: p.2.2.2.1 :: .row gx (Qt x) :: .row gy (Qt y) :: p.2.2.2.2) 6 [(0, true), (1, true), (2, true), (3, true), (4, false), (5, false)] (by rfl) (by rfl) (by kernel_rfl) (by decide +kernel) (by decide +kernel) ⟨(_, _, _, _, _), rfl⟩ ?_) | refine Q3 (by rfl) (by kernel_rfl) (by kernel_rfl) ?_ | refine QP (by kernel_rfl) (by kernel_rfl) ?_) | refine QB rfl ?_ | refine Qo rfl ?_ | refine Qq ?_ | refine i_nil ?_ | refine i_st rfl rfl (fun _ => (by (repeat' first | refine Qu rfl ?_ | refine Qm rfl rfl (by first | assumption | rfl) ?_ | refine Wj rfl rfl rfl (by first | assumption | omega) rfl ?_ | refine Zx rfl rfl rfl (by omega) (by omega) ?_ | exact ⟨rfl, rfl⟩))) ?_ | refine i_ef rfl ?_ | refine i_ef0 ?_ | refine And.intro (Exists.intro ((_, _, _, _, _)) rfl) ?_)
 exact e_1 (Tryd.results88) (QR (size := 4) rfl rfl (QS w2) w2) (Qy (σ := [_, _, _, _]) (r := [_, _, _]) ⟨rfl, _, by omega, rfl⟩)
theorem operation_9 (hG : G 0 = qE) (s : St) (hs : Ok s) (hv : s.vars + 300 < 1099511627776) (x y : List Int) (hxl : x.length = 4) (hyl : y.length = 4) (hx : ∀ v ∈ x, Lim s v) (hy : ∀ v ∈ y, Lim s v) : BM Tryd.prog G 88 [.i 9, .agg (Qt x), .agg (Qt y)] s.vars s.cl (.agg (Qt (ZC 9 s x y).1)) (ZC 9 s x y).2 := fun g0 g1 g2 g3 c2 c3 c4 m sn h2 h3 h4 hm hsn B b0 b1 b2 b3 => by
 have hv0 := hs.v0
 have hv1 := hs.v1
 have hlx : (Qt x).length = 4 := by rw [Qz, hxl]; rfl
 have hly : (Qt y).length = 4 := by rw [Qz, hyl]; rfl
 have h0Y : 0 < y.length := by omega
 have h1Y : 1 < y.length := by omega
 obtain ⟨t1, t2⟩ := Z3 hs (by omega) (c := y[0]) (-1) hx (hy _ (List.getElem_mem h0Y)) 4 (by omega)
 have t3 := t1.hi
 have hk1 := shifted_c (G := G) s hs (by omega) x y[0] (-1) hxl hx (hy _ (List.getElem_mem h0Y)) ⟨by omega, by omega⟩
 have hk2 := shifted_c (G := G) (QT s x y[0] (-1) 4).2 t1.ok (by omega) (QT s x y[0] (-1) 4).1 y[1] (-2) (Zj s x y[0] (-1) 4) t2 ((hy _ (List.getElem_mem h1Y)).mono t1.lo) ⟨by omega, by omega⟩
 have er : ZC 9 s x y = QT (QT s x y[0] (-1) 4).2 (QT s x y[0] (-1) 4).1 y[1] (-2) 4 := by rw [<- Ord.getD_lt h0Y 0, <- Ord.getD_lt h1Y 0]; rfl
 have w1 := Zj (QT s x y[0] (-1) 4).2 (QT s x y[0] (-1) 4).1 y[1] (-2) 4
 rw [er]
 clear t1 t2 t3 er hx hy
 generalize QT s x y[0] (-1) 4 = r at *
 generalize QT r.2 r.1 y[1] (-2) 4 = z at *
 have w2 : (Qt z.1).length = 4 := by rw [Qz, w1]; rfl
 refine Qc Tryd.func88 rfl Tryd.ntmps88 rfl (t := [(0, .ptr 0 g0 0), (1, .i 9), (2, .agg (Qt x)), (3, .agg (Qt y))]) rfl fun E hE => ?_
 (repeat' first | refine Qu rfl ?_ | refine QA rfl ?_ | refine QJ rfl rfl ?_ | refine Zk rfl rfl (hk1) rfl (fun _ _ => ?_) | refine Zk rfl rfl (hk2) rfl (fun _ _ => ?_) | refine QU (ds := Qt x) rfl rfl (fun gx hgx => ?_) | refine QU (ds := Qt y) rfl rfl (fun gy hgy => ?_) | refine Qi rfl rfl rfl (by first | assumption | rfl) (by first | assumption | rfl) rfl ?_ | refine QH (fun _ _ => ?_) | refine Qe ?_ | refine Qs rfl ?_ | refine Qg ?_ | refine Qa ?_ | refine Qf ?_ | (refine Q0 ?_; first | (refine Wf (fun p => p.1 :: p.2.1 :: p.2.2.1 :: p.2.2.2.1 :: .row gx (Qt x) :: .row gy (Qt y) :: p.2.2.2.2) 10 [(0, true), (1, true), (2, true), (3, true), (4, true), (6, true), (7, true), (5, false), (8, false), (9, false)] (by rfl) (by rfl) (by kernel_rfl) (by decide +kernel) (by decide +kernel) ⟨(_, _, _, _, _), rfl⟩ ?_) | (refine Wf (fun p => p.1 :: p.2.1 :: p.2.2.1 :: p.2.2.2.1 :: .row gx (Qt x) :: .row gy (Qt y) :: p.2.2.2.2) 6 [(0, true), (1, true), (2, true), (3, true), (4, false), (5, false)] (by rfl) (by rfl) (by kernel_rfl) (by decide +kernel) (by decide +kernel) ⟨(_, _, _, _, _), rfl⟩ ?_) | refine Q3 (by rfl) (by kernel_rfl) (by kernel_rfl) ?_ | refine QP (by kernel_rfl) (by kernel_rfl) ?_) | refine QB rfl ?_ | refine Qo rfl ?_ | refine Qq ?_ | refine i_nil ?_ | refine i_st rfl rfl (fun _ => (by (repeat' first | refine Qu rfl ?_ | refine Qm rfl rfl (by first | assumption | rfl) ?_ | refine Wj rfl rfl rfl (by first | assumption | omega) rfl ?_ | refine Zx rfl rfl rfl (by omega) (by omega) ?_ | exact ⟨rfl, rfl⟩))) ?_ | refine i_ef rfl ?_ | refine i_ef0 ?_ | refine And.intro (Exists.intro ((_, _, _, _, _)) rfl) ?_)
 exact e_1 (Tryd.results88) (QR (size := 4) rfl rfl (QS w2) w2) (Qy (σ := [_, _, _, _]) (r := [_, _, _]) ⟨rfl, _, by omega, rfl⟩)
theorem operation_10 (hG : G 0 = qE) (s : St) (hs : Ok s) (hv : s.vars + 300 < 1099511627776) (x y : List Int) (hxl : x.length = 4) (hyl : y.length = 4) (hx : ∀ v ∈ x, Lim s v) (hy : ∀ v ∈ y, Lim s v) : BM Tryd.prog G 88 [.i 10, .agg (Qt x), .agg (Qt y)] s.vars s.cl (.agg (Qt (ZC 10 s x y).1)) (ZC 10 s x y).2 := fun g0 g1 g2 g3 c2 c3 c4 m sn h2 h3 h4 hm hsn B b0 b1 b2 b3 => by
 have hv0 := hs.v0
 have hv1 := hs.v1
 have hlx : (Qt x).length = 4 := by rw [Qz, hxl]; rfl
 have hly : (Qt y).length = 4 := by rw [Qz, hyl]; rfl
 have hk1 := less_c (G := G) s hs (by omega) x y hxl hyl hx hy
 have er : ZC 10 s x y = one4 (less s x y) := rfl
 rw [er]
 generalize less s x y = z at *
 refine Qc Tryd.func88 rfl Tryd.ntmps88 rfl (t := [(0, .ptr 0 g0 0), (1, .i 10), (2, .agg (Qt x)), (3, .agg (Qt y))]) rfl fun E hE => ?_
 (repeat' first | refine Qu rfl ?_ | refine QA rfl ?_ | refine Qm rfl rfl (by first | assumption | rfl) ?_ | refine QJ rfl rfl ?_ | refine Zk rfl rfl (hk1) rfl (fun _ _ => ?_) | refine QU (ds := Qt x) rfl rfl (fun gx hgx => ?_) | refine QU (ds := Qt y) rfl rfl (fun gy hgy => ?_) | refine Qi rfl rfl rfl (by first | assumption | rfl) (by first | assumption | rfl) rfl ?_ | refine s_build_a rfl rfl ?_ | refine QH (fun _ _ => ?_) | refine Qe ?_ | refine Qs rfl ?_ | refine QZ ?_ | refine Qg ?_ | refine Qa ?_ | refine Qf ?_ | refine QB rfl ?_ | refine Qo rfl ?_ | refine Qq ?_)
 exact e_1 (Tryd.results88) (QR (size := 4) rfl rfl rfl rfl) (Qy (σ := [_, _, _, _]) (r := [_, _, _]) ⟨rfl, _, by omega, rfl⟩)
theorem operation_11 (hG : G 0 = qE) (s : St) (hs : Ok s) (hv : s.vars + 300 < 1099511627776) (x y : List Int) (hxl : x.length = 4) (hyl : y.length = 4) (hx : ∀ v ∈ x, Lim s v) (hy : ∀ v ∈ y, Lim s v) : BM Tryd.prog G 88 [.i 11, .agg (Qt x), .agg (Qt y)] s.vars s.cl (.agg (Qt (ZC 11 s x y).1)) (ZC 11 s x y).2 := fun g0 g1 g2 g3 c2 c3 c4 m sn h2 h3 h4 hm hsn B b0 b1 b2 b3 => by
 have hv0 := hs.v0
 have hv1 := hs.v1
 have hlx : (Qt x).length = 4 := by rw [Qz, hxl]; rfl
 have hly : (Qt y).length = 4 := by rw [Qz, hyl]; rfl
 have hk1 := same_c (G := G) s hs (by omega) x y hxl hyl hx hy
 have er : ZC 11 s x y = one4 (Zb s x y 4) := rfl
 rw [er]
 generalize Zb s x y 4 = z at *
 refine Qc Tryd.func88 rfl Tryd.ntmps88 rfl (t := [(0, .ptr 0 g0 0), (1, .i 11), (2, .agg (Qt x)), (3, .agg (Qt y))]) rfl fun E hE => ?_
 (repeat' first | refine Qu rfl ?_ | refine QA rfl ?_ | refine Qm rfl rfl (by first | assumption | rfl) ?_ | refine QJ rfl rfl ?_ | refine Zk rfl rfl (hk1) rfl (fun _ _ => ?_) | refine QU (ds := Qt x) rfl rfl (fun gx hgx => ?_) | refine QU (ds := Qt y) rfl rfl (fun gy hgy => ?_) | refine Qi rfl rfl rfl (by first | assumption | rfl) (by first | assumption | rfl) rfl ?_ | refine s_build_a rfl rfl ?_ | refine QH (fun _ _ => ?_) | refine Qe ?_ | refine Qs rfl ?_ | refine QZ ?_ | refine Qg ?_ | refine Qa ?_ | refine Qf ?_ | refine QB rfl ?_ | refine Qo rfl ?_ | refine Qq ?_)
 exact e_1 (Tryd.results88) (QR (size := 4) rfl rfl rfl rfl) (Qy (σ := [_, _, _, _]) (r := [_, _, _]) ⟨rfl, _, by omega, rfl⟩)
theorem operation_12 (hG : G 0 = qE) (s : St) (hs : Ok s) (hv : s.vars + 300 < 1099511627776) (x y : List Int) (hxl : x.length = 4) (hyl : y.length = 4) (hx : ∀ v ∈ x, Lim s v) (hy : ∀ v ∈ y, Lim s v) : BM Tryd.prog G 88 [.i 12, .agg (Qt x), .agg (Qt y)] s.vars s.cl (.agg (Qt (ZC 12 s x y).1)) (ZC 12 s x y).2 := fun g0 g1 g2 g3 c2 c3 c4 m sn h2 h3 h4 hm hsn B b0 b1 b2 b3 => by
 have hv0 := hs.v0
 have hv1 := hs.v1
 have hlx : (Qt x).length = 4 := by rw [Qz, hxl]; rfl
 have hly : (Qt y).length = 4 := by rw [Qz, hyl]; rfl
 have h0X : 0 < x.length := by omega
 have h0Y : 0 < y.length := by omega
 have hk1 := and_c (G := G) s hs (by omega) x[0] y[0] (hx _ (List.getElem_mem h0X)) (hy _ (List.getElem_mem h0Y))
 have er : ZC 12 s x y = one4 (and s x[0] y[0]) := by rw [<- Ord.getD_lt h0X 0, <- Ord.getD_lt h0Y 0]; rfl
 rw [er]
 generalize and s x[0] y[0] = z at *
 refine Qc Tryd.func88 rfl Tryd.ntmps88 rfl (t := [(0, .ptr 0 g0 0), (1, .i 12), (2, .agg (Qt x)), (3, .agg (Qt y))]) rfl fun E hE => ?_
 (repeat' first | refine Qu rfl ?_ | refine QA rfl ?_ | refine Wj rfl rfl rfl (by first | assumption | omega) rfl ?_ | refine Zx rfl rfl rfl (by omega) (by omega) ?_ | refine QJ rfl rfl ?_ | refine Zk rfl rfl (hk1) rfl (fun _ _ => ?_) | refine QU (ds := Qt x) rfl rfl (fun gx hgx => ?_) | refine QU (ds := Qt y) rfl rfl (fun gy hgy => ?_) | refine Qi rfl rfl rfl (by first | assumption | rfl) (by first | assumption | rfl) rfl ?_ | refine s_build_a rfl rfl ?_ | refine QH (fun _ _ => ?_) | refine Qe ?_ | refine Qs rfl ?_ | refine QZ ?_ | refine Qg ?_ | refine Qa ?_ | refine Qf ?_ | refine QB rfl ?_ | refine Qo rfl ?_ | refine Qq ?_)
 exact e_1 (Tryd.results88) (QR (size := 4) rfl rfl rfl rfl) (Qy (σ := [_, _, _, _]) (r := [_, _, _]) ⟨rfl, _, by omega, rfl⟩)
theorem operation_13 (hG : G 0 = qE) (s : St) (hs : Ok s) (hv : s.vars + 300 < 1099511627776) (x y : List Int) (hxl : x.length = 4) (hyl : y.length = 4) (hx : ∀ v ∈ x, Lim s v) (hy : ∀ v ∈ y, Lim s v) : BM Tryd.prog G 88 [.i 13, .agg (Qt x), .agg (Qt y)] s.vars s.cl (.agg (Qt (ZC 13 s x y).1)) (ZC 13 s x y).2 := fun g0 g1 g2 g3 c2 c3 c4 m sn h2 h3 h4 hm hsn B b0 b1 b2 b3 => by
 have hv0 := hs.v0
 have hv1 := hs.v1
 have hlx : (Qt x).length = 4 := by rw [Qz, hxl]; rfl
 have hly : (Qt y).length = 4 := by rw [Qz, hyl]; rfl
 have h0X : 0 < x.length := by omega
 have h0Y : 0 < y.length := by omega
 have hk1 := or_c (G := G) s hs (by omega) x[0] y[0] (hx _ (List.getElem_mem h0X)) (hy _ (List.getElem_mem h0Y))
 have er : ZC 13 s x y = one4 (or s x[0] y[0]) := by rw [<- Ord.getD_lt h0X 0, <- Ord.getD_lt h0Y 0]; rfl
 rw [er]
 generalize or s x[0] y[0] = z at *
 refine Qc Tryd.func88 rfl Tryd.ntmps88 rfl (t := [(0, .ptr 0 g0 0), (1, .i 13), (2, .agg (Qt x)), (3, .agg (Qt y))]) rfl fun E hE => ?_
 (repeat' first | refine Qu rfl ?_ | refine QA rfl ?_ | refine Wj rfl rfl rfl (by first | assumption | omega) rfl ?_ | refine Zx rfl rfl rfl (by omega) (by omega) ?_ | refine QJ rfl rfl ?_ | refine Zk rfl rfl (hk1) rfl (fun _ _ => ?_) | refine QU (ds := Qt x) rfl rfl (fun gx hgx => ?_) | refine QU (ds := Qt y) rfl rfl (fun gy hgy => ?_) | refine Qi rfl rfl rfl (by first | assumption | rfl) (by first | assumption | rfl) rfl ?_ | refine s_build_a rfl rfl ?_ | refine QH (fun _ _ => ?_) | refine Qe ?_ | refine Qs rfl ?_ | refine QZ ?_ | refine Qg ?_ | refine Qa ?_ | refine Qf ?_ | refine QB rfl ?_ | refine Qo rfl ?_ | refine Qq ?_)
 exact e_1 (Tryd.results88) (QR (size := 4) rfl rfl rfl rfl) (Qy (σ := [_, _, _, _]) (r := [_, _, _]) ⟨rfl, _, by omega, rfl⟩)
theorem operation_c (hG : G 0 = qE) (op : Int) (hop : 0 <= op /\ op < 14) (s : St) (hs : Ok s) (hv : s.vars + 300 < 1099511627776) (x y : List Int) (hxl : x.length = 4) (hyl : y.length = 4) (hx : ∀ v ∈ x, Lim s v) (hy : ∀ v ∈ y, Lim s v) : BM Tryd.prog G 88 [.i op, .agg (Qt x), .agg (Qt y)] s.vars s.cl (.agg (Qt (ZC op s x y).1)) (ZC op s x y).2 := by
 have : op = 0 \/ op = 1 \/ op = 2 \/ op = 3 \/ op = 4 \/ op = 5 \/ op = 6 \/ op = 7 \/ op = 8 \/ op = 9 \/ op = 10 \/ op = 11 \/ op = 12 \/ op = 13 := by omega
 rcases this with rfl | rfl | rfl | rfl | rfl | rfl | rfl | rfl | rfl | rfl | rfl | rfl | rfl | rfl
 ·exact operation_0 hG s hs hv x y hxl hyl hx hy
 ·exact operation_1 hG s hs hv x y hxl hyl hx hy
 ·exact operation_2 hG s hs hv x y hxl hyl hx hy
 ·exact operation_3 hG s hs hv x y hxl hyl hx hy
 ·exact operation_4 hG s hs hv x y hxl hyl hx hy
 ·exact operation_5 hG s hs hv x y hxl hyl hx hy
 ·exact operation_6 hG s hs hv x y hxl hyl hx hy
 ·exact operation_7 hG s hs hv x y hxl hyl hx hy
 ·exact operation_8 hG s hs hv x y hxl hyl hx hy
 ·exact operation_9 hG s hs hv x y hxl hyl hx hy
 ·exact operation_10 hG s hs hv x y hxl hyl hx hy
 ·exact operation_11 hG s hs hv x y hxl hyl hx hy
 ·exact operation_12 hG s hs hv x y hxl hyl hx hy
 ·exact operation_13 hG s hs hv x y hxl hyl hx hy
theorem zero_lim {s : St} (hs : Ok s) : Lim s 0 := by
 have := hs.v0
 exact ⟨by omega, by omega⟩
theorem one4_lim {p : Int × St} (hg : Ok p.2) (hl : Lim p.2 p.1) : (one4 p).1.length = 4 /\ ∀ v ∈ (one4 p).1, Lim (one4 p).2 v := ⟨rfl, fun v hv => by
 have hv : v ∈ [p.1, 0, 0, 0] := hv
 simp only [List.mem_cons, List.not_mem_nil, or_false] at hv
 rcases hv with rfl | rfl | rfl | rfl
 ·exact hl
 all_goals exact zero_lim hg⟩
theorem qD {α : Type} {p : Prop} [Decidable p] {Q : α -> Prop} {a b : α} (ha : p -> Q a) (hb : ¬ p -> Q b) : Q (if p then a else b) := by
 by_cases h : p
 ·rw [if_pos h]; exact ha h
 ·rw [if_neg h]; exact hb h
def OpGood (s : St) (r : List Int × St) : Prop := Gate s r.2 100 /\ r.1.length = 4 /\ ∀ v ∈ r.1, Lim r.2 v
theorem table_good {s : St} (hs : Ok s) (hv : s.vars + 100 < 1099511627776) (op : Int) (x y : List Int) (n : Nat) : OpGood s ((freshTo s 4).1, tableTo (freshTo s 4).2 op x y (freshTo s 4).1 n) := by
 obtain ⟨g, l⟩ := freshTo_gate hs (by omega) 4 (by omega)
 obtain ⟨h1, h2⟩ := tableTo_ok g.ok op x y (freshTo s 4).1 n
 have k1 := g.lo
 have k2 := g.hi
 refine ⟨⟨h1, by show s.vars <= (tableTo _ _ _ _ _ n).vars; rw [h2]; exact k1, by show (tableTo _ _ _ _ _ n).vars <= _; rw [h2]; omega⟩, freshTo_len s 4, fun v hv => (l v hv).mono ?_⟩
 show (freshTo s 4).2.vars <= (tableTo _ _ _ _ _ n).vars
 rw [h2]; exact Int.le_refl _
theorem opNM_gate (op : Int) (s : St) (hs : Ok s) (hv : s.vars + 300 < 1099511627776) (x y : List Int) (hxl : x.length = 4) (hyl : y.length = 4) (hx : ∀ v ∈ x, Lim s v) (hy : ∀ v ∈ y, Lim s v) : OpGood s (ZC op s x y) := by
 have hv0 := hs.v0
 have w : ∀ {s' : St} {k : Int}, Gate s s' k -> k <= 100 -> Gate s s' 100 := fun h hk => ⟨h.ok, h.lo, by have := h.hi; omega⟩
 have m1 : Lim s (-1) := ⟨by omega, by omega⟩
 have p1 : Lim s 1 := ⟨by omega, by omega⟩
 unfold ZC
 refine qD (Q := OpGood s) (fun _ => ?_) (fun _ => ?_)
 ·obtain ⟨g, _, l⟩ := sumTo_gate hs (by omega) hx hy m1 4 (by omega)
  exact ⟨w g (by decide), ZK _ _ _ _ 4, l⟩
 refine qD (Q := OpGood s) (fun _ => ?_) (fun _ => ?_)
 ·obtain ⟨g, _, l⟩ := sumTo_gate hs (by omega) hx (y := qa y 4) (fun v hv => notTo_bd (M := s.vars + 1) (by omega) (fun v h => hy v h) 4 v hv) p1 4 (by omega)
  exact ⟨w g (by decide), ZK _ _ _ _ 4, l⟩
 refine qD (Q := OpGood s) (fun _ => ?_) (fun _ => ?_)
 ·obtain ⟨g, l⟩ := prodTo_gate hs hv hx hy 4 (by omega)
  exact ⟨w g (by decide), prodTo_len _ _ _ 4, l⟩
 refine qD (Q := OpGood s) (fun _ => ?_) (fun _ => ?_)
 ·obtain ⟨g, l⟩ := eachTo_gate and_gok hs (by omega) hx hy 4 (by omega)
  exact ⟨w g (by decide), eachTo_len _ _ _ hxl 4, l⟩
 refine qD (Q := OpGood s) (fun _ => ?_) (fun _ => ?_)
 ·obtain ⟨g, l⟩ := eachTo_gate or_gok hs (by omega) hx hy 4 (by omega)
  exact ⟨w g (by decide), eachTo_len _ _ _ hxl 4, l⟩
 refine qD (Q := OpGood s) (fun _ => ?_) (fun _ => ?_)
 ·obtain ⟨g, l⟩ := eachTo_gate xor_gok hs (by omega) hx hy 4 (by omega)
  exact ⟨w g (by decide), eachTo_len _ _ _ hxl 4, l⟩
 have sh : ∀ a b : Int, Gate s (QT (QT s x (y.getD 0 0) a 4).2 (QT s x (y.getD 0 0) a 4).1 (y.getD 1 0) b 4).2 100 /\ (QT (QT s x (y.getD 0 0) a 4).2 (QT s x (y.getD 0 0) a 4).1 (y.getD 1 0) b 4).1.length = 4 /\ ∀ v ∈ (QT (QT s x (y.getD 0 0) a 4).2 (QT s x (y.getD 0 0) a 4).1 (y.getD 1 0) b 4).1, Lim (QT (QT s x (y.getD 0 0) a 4).2 (QT s x (y.getD 0 0) a 4).1 (y.getD 1 0) b 4).2 v := fun a b => by
  obtain ⟨g1, l1⟩ := Z3 hs (by omega) a hx (Wr hy hs.v0 0) 4 (by omega)
  have k1 := g1.hi
  obtain ⟨g2, l2⟩ := Z3 g1.ok (by omega) b l1 ((Wr hy hs.v0 1).mono g1.lo) 4 (by omega)
  exact ⟨w (g1.trans g2) (by decide), Zj _ _ _ _ 4, l2⟩
 refine qD (Q := OpGood s) (fun _ => ?_) (fun _ => ?_)
 ·exact sh 1 2
 refine qD (Q := OpGood s) (fun _ => ?_) (fun _ => ?_)
 ·exact sh (-1) (-2)
 refine qD (Q := OpGood s) (fun _ => ?_) (fun _ => ?_)
 ·have hX : ∀ v ∈ Z9 x y, Lim s v := fun v h => by
   rcases List.mem_or_eq_of_mem_set h with h | rfl
   ·exact hx v h
   ·exact Wr hy hv0 3
  have hY : ∀ v ∈ Z9 y x, Lim s v := fun v h => by
   rcases List.mem_or_eq_of_mem_set h with h | rfl
   ·exact hy v h
   ·exact Wr hx hv0 3
  obtain ⟨g, l⟩ := lessTo_gate hs (by omega) hX hY 4 (by omega)
  exact ⟨w g (by decide), one4_lim g.ok l⟩
 refine qD (Q := OpGood s) (fun _ => ?_) (fun _ => ?_)
 ·obtain ⟨g, l⟩ := sameTo_gate hs (by omega) hx hy 4 (by omega)
  exact ⟨w g (by decide), one4_lim g.ok l⟩
 refine qD (Q := OpGood s) (fun _ => ?_) (fun _ => ?_)
 ·have g := Zn hs (by omega) (x.getD 0 0) (y.getD 0 0)
  exact ⟨w g (by decide), one4_lim g.ok ((ZF (Wr hx hv0 0) (Wr hy hv0 0) hv0).mono g.lo)⟩
 refine qD (Q := OpGood s) (fun _ => ?_) (fun _ => ?_)
 ·have g := or_gate hs (by omega) (x.getD 0 0) (y.getD 0 0)
  exact ⟨w g (by decide), one4_lim g.ok ((or_lim (Wr hx hv0 0) (Wr hy hv0 0) hv0).mono g.lo)⟩
 ·exact table_good hs (by omega) op x y 256
section
variable {P : Program}
def _root_.Go.Av.B6 (P : Program) (G : Nat -> DV) (f : FuncId) (args : Nat -> Nat -> List DV) (c : Int) (v : Int) (cl : List (List Int)) (res : DV) (s' : St) : Prop :=
 ∀ (g0 g1 g2 g3 gb gs : Nat) (c2 c3 c4 : DV) (m : List (Int × DV)) (sn : List (Value × DV)), c2.clo = true -> c3.clo = true -> c4.clo = true -> (∀ p ∈ Wp m, p.2.clo = true) -> (∀ p ∈ sn, p.2.clo = true) -> ∀ B, g0 <= B -> g1 <= B -> g2 <= B -> g3 <= B -> gb <= B -> gs <= B ->
  ACalls P G B f (args gb gs) [.row g0 [.sc (.int .i64 v), .ref 1 g1 0 cl.length 1, c2, c3, c4, .mp 2 g2, .mp 3 g3], .row g1 (Qt cl), .mapb g2 (Wp m), .mapb g3 sn, .row gb [.ptr 0 g0 0], .row gs [.i c]]
   (fun d' τ' => d' = res /\ ∃ g1', (g1' = g1 \/ B < g1') /\ τ' = [.row g0 [.sc (.int .i64 s'.vars), .ref 1 g1' 0 s'.cl.length 1, c2, c3, c4, .mp 2 g2, .mp 3 g3], .row g1' (Qt s'.cl), .mapb g2 (Wp m), .mapb g3 sn, .row gb [.ptr 0 g0 0], .row gs [.i c]])
variable {B : Nat} {f : Operand -> DV} {σ : List ABlk} {K : DV -> List ABlk -> Prop} {dst : Option Tmp} {type : TypeId} {pos : String} {after : Array Edge} {gd : Option (Nat × Bool)}
theorem s_callv_b6 {x : Operand} {args : Array Operand} {ts : Array TypeId} {fid : FuncId} {first cap ds : List DV} {c v : Int} {cl : List (List Int)} {res : DV} {s' : St} {g0 g1 g2 g3 gb gs : Nat} {c2 c3 c4 : DV} {m : List (Int × DV)} {sn : List (Value × DV)} {rest : List ABlk} [FnOk P fid]
  (hx : f x = .fn (.func fid) first cap) (hds : reL (first ++ args.toList.map f ++ cap) = some (ds ++ [.ptr 4 gb 0, .ptr 5 gs 0])) (h : B6 P G fid (fun gb gs => ds ++ [.ptr 4 gb 0, .ptr 5 gs 0]) c v cl res s')
  (hσ : σ = .row g0 [.sc (.int .i64 v), .ref 1 g1 0 cl.length 1, c2, c3, c4, .mp 2 g2, .mp 3 g3] :: .row g1 (Qt cl) :: .mapb g2 (Wp m) :: .mapb g3 sn :: .row gb [.ptr 0 g0 0] :: .row gs [.i c] :: rest)
  (h2 : c2.clo = true) (h3 : c3.clo = true) (h4 : c4.clo = true) (hm : ∀ p ∈ Wp m, p.2.clo = true) (hsn : ∀ p ∈ sn, p.2.clo = true) (hdc : ∀ d ∈ ds, d.clo = true) (hres : res.clo = true)
  (k : ∀ g1', (g1' = g1 \/ B < g1') -> K res (.row g0 [.sc (.int .i64 s'.vars), .ref 1 g1' 0 s'.cl.length 1, c2, c3, c4, .mp 2 g2, .mp 3 g3] :: .row g1' (Qt s'.cl) :: .mapb g2 (Wp m) :: .mapb g3 sn :: .row gb [.ptr 0 g0 0] :: .row gs [.i c] :: rest)) :
  OpSem P G B ⟨dst, .call ⟨.value x, args, ts⟩, type, pos, after, gd⟩ f σ K := by
 subst hσ
 have hrow : ∀ {n : Nat} {v : Int} {g1 l : Nat}, RenB (qf [0, 1, 2, 3, 4, 5] n) (.row g0 [.sc (.int .i64 v), .ref 1 g1 0 l 1, c2, c3, c4, .mp 2 g2, .mp 3 g3]) (.row g0 [.sc (.int .i64 v), .ref 1 g1 0 l 1, c2, c3, c4, .mp 2 g2, .mp 3 g3]) := fun {n v g1 l} =>
  .row (.cons (.clo (by simp [DV.clo])) (.cons (.ref rfl) (.cons (.clo h2) (.cons (.clo h3) (.cons (.clo h4) (.cons (.mp rfl) (.cons (.mp rfl) .nil)))))))
 have hbs : ∀ {n : Nat} {v : Int} {cl : List (List Int)} {g1 : Nat}, RenBs (qf [0, 1, 2, 3, 4, 5] n) [.row g0 [.sc (.int .i64 v), .ref 1 g1 0 cl.length 1, c2, c3, c4, .mp 2 g2, .mp 3 g3], .row g1 (Qt cl), .mapb g2 (Wp m), .mapb g3 sn, .row gb [.ptr 0 g0 0], .row gs [.i c]] [.row g0 [.sc (.int .i64 v), .ref 1 g1 0 cl.length 1, c2, c3, c4, .mp 2 g2, .mp 3 g3], .row g1 (Qt cl), .mapb g2 (Wp m), .mapb g3 sn, .row gb [.ptr 0 g0 0], .row gs [.i c]] := fun {n v cl g1} =>
  .cons hrow (.cons (.rowc (Qn cl)) (.cons (.map hm) (.cons (.map hsn) (.cons (.row (.cons (.ptr rfl) .nil)) (.cons (.row (.cons (.clo Qx) .nil)) .nil)))))
 have happ : ∀ {ds : List DV} {n : Nat}, (∀ d ∈ ds, d.clo = true) -> RenL (RenD (qf [0, 1, 2, 3, 4, 5] n)) (ds ++ [.ptr 4 gb 0, .ptr 5 gs 0]) (ds ++ [.ptr 4 gb 0, .ptr 5 gs 0]) := by
  intro ds n hd
  induction ds with
  | nil => exact .cons (.s (.ptr rfl)) (.cons (.s (.ptr rfl)) .nil)
  | cons d r ih => exact .cons (.s (.clo (hd d (by simp)))) (ih fun e he => hd e (by simp [he]))
 refine s_callv_sub (R := fun B d' τ' => d' = res /\ ∃ g1', (g1' = g1 \/ B < g1') /\ τ' = [.row g0 [.sc (.int .i64 s'.vars), .ref 1 g1' 0 s'.cl.length 1, c2, c3, c4, .mp 2 g2, .mp 3 g3], .row g1' (Qt s'.cl), .mapb g2 (Wp m), .mapb g3 sn, .row gb [.ptr 0 g0 0], .row gs [.i c]]) [0, 1, 2, 3, 4, 5] hx hds (happ hdc) (by decide) rfl hbs (fun B' hB hg => h g0 g1 g2 g3 gb gs c2 c3 c4 m sn h2 h3 h4 hm hsn B' (hg 0 _ _ rfl rfl) (hg 1 _ _ rfl rfl) (hg 2 _ _ rfl rfl) (hg 3 _ _ rfl rfl) (hg 4 _ _ rfl rfl) (hg 5 _ _ rfl rfl)) ?_
 rintro B' d' τ' hB ⟨rfl, g1', hg, rfl⟩
 exact ⟨d', _, _, .s (.clo hres), hbs, rfl, k g1' (by omega)⟩
theorem s_call_b6 {args : Array Operand} {ts : Array TypeId} {fid : FuncId} {asg : Nat -> Nat -> List DV} {es : List DV} {c v : Int} {cl : List (List Int)} {res : DV} {s' : St} {g0 g1 g2 g3 gb gs : Nat} {c2 c3 c4 : DV} {m : List (Int × DV)} {sn : List (Value × DV)} {b5 b6 : ABlk} {rest : List ABlk} [FnOk P fid]
  (hx : f (.func fid) = .fn (.func fid) [] []) (hds : reL (args.toList.map f) = some es) (h : B6 P G fid asg c v cl res s')
  (hσ : σ = .row g0 [.sc (.int .i64 v), .ref 1 g1 0 cl.length 1, c2, c3, c4, .mp 2 g2, .mp 3 g3] :: .row g1 (Qt cl) :: .mapb g2 (Wp m) :: .mapb g3 sn :: .row gb [.ptr 0 g0 0] :: b5 :: b6 :: .row gs [.i c] :: rest)
  (h2 : c2.clo = true) (h3 : c3.clo = true) (h4 : c4.clo = true) (hm : ∀ p ∈ Wp m, p.2.clo = true) (hsn : ∀ p ∈ sn, p.2.clo = true) (hargs : ∀ n, RenL (RenD (qf [0, 1, 2, 3, 4, 7] n)) es (asg gb gs)) (hres : res.clo = true)
  (k : ∀ g1', (g1' = g1 \/ B < g1') -> K res (.row g0 [.sc (.int .i64 s'.vars), .ref 1 g1' 0 s'.cl.length 1, c2, c3, c4, .mp 2 g2, .mp 3 g3] :: .row g1' (Qt s'.cl) :: .mapb g2 (Wp m) :: .mapb g3 sn :: .row gb [.ptr 0 g0 0] :: b5 :: b6 :: .row gs [.i c] :: rest)) :
  OpSem P G B ⟨dst, .call ⟨.value (.func fid), args, ts⟩, type, pos, after, gd⟩ f σ K := by
 subst hσ
 have hrow : ∀ {n : Nat} {v : Int} {g1 l : Nat}, RenB (qf [0, 1, 2, 3, 4, 7] n) (.row g0 [.sc (.int .i64 v), .ref 1 g1 0 l 1, c2, c3, c4, .mp 2 g2, .mp 3 g3]) (.row g0 [.sc (.int .i64 v), .ref 1 g1 0 l 1, c2, c3, c4, .mp 2 g2, .mp 3 g3]) := fun {n v g1 l} =>
  .row (.cons (.clo (by simp [DV.clo])) (.cons (.ref rfl) (.cons (.clo h2) (.cons (.clo h3) (.cons (.clo h4) (.cons (.mp rfl) (.cons (.mp rfl) .nil)))))))
 have hbs : ∀ {n : Nat} {v : Int} {cl : List (List Int)} {g1 : Nat}, RenBs (qf [0, 1, 2, 3, 4, 7] n) [.row g0 [.sc (.int .i64 v), .ref 1 g1 0 cl.length 1, c2, c3, c4, .mp 2 g2, .mp 3 g3], .row g1 (Qt cl), .mapb g2 (Wp m), .mapb g3 sn, .row gb [.ptr 0 g0 0], .row gs [.i c]] [.row g0 [.sc (.int .i64 v), .ref 1 g1 0 cl.length 1, c2, c3, c4, .mp 2 g2, .mp 3 g3], .row g1 (Qt cl), .mapb g2 (Wp m), .mapb g3 sn, .row gb [.ptr 0 g0 0], .row gs [.i c]] := fun {n v cl g1} =>
  .cons hrow (.cons (.rowc (Qn cl)) (.cons (.map hm) (.cons (.map hsn) (.cons (.row (.cons (.ptr rfl) .nil)) (.cons (.row (.cons (.clo Qx) .nil)) .nil)))))
 refine Zd (R := fun B d' τ' => d' = res /\ ∃ g1', (g1' = g1 \/ B < g1') /\ τ' = [.row g0 [.sc (.int .i64 s'.vars), .ref 1 g1' 0 s'.cl.length 1, c2, c3, c4, .mp 2 g2, .mp 3 g3], .row g1' (Qt s'.cl), .mapb g2 (Wp m), .mapb g3 sn, .row gb [.ptr 0 g0 0], .row gs [.i c]]) [0, 1, 2, 3, 4, 7] hx hds (hargs _) (by decide) rfl hbs (fun B' hB hg => h g0 g1 g2 g3 gb gs c2 c3 c4 m sn h2 h3 h4 hm hsn B' (hg 0 _ _ rfl rfl) (hg 1 _ _ rfl rfl) (hg 2 _ _ rfl rfl) (hg 3 _ _ rfl rfl) (hg 4 _ _ rfl rfl) (hg 5 _ _ rfl rfl)) ?_
 rintro B' d' τ' hB ⟨rfl, g1', hg, rfl⟩
 exact ⟨d', _, _, .s (.clo hres), hbs, rfl, k g1' (by omega)⟩
end
theorem made1_c (s : St) (hs : Ok s) (hv : s.vars + 4 < 1099511627776) (c x y : Int) (hc : Lim s c) (hx : Lim s x) (hy : Lim s y) : B6 Tryd.prog G 87 (fun gb gs => [.i x, .i y] ++ [.ptr 4 gb 0, .ptr 5 gs 0]) c s.vars s.cl (.i (muxM s c x y).1) (muxM s c x y).2 := fun g0 g1 g2 g3 gb gs c2 c3 c4 m sn h2 h3 h4 hm hsn B b0 b1 b2 b3 b4 b5 => by
 have hmux := mux_c (G := G) s hs (by omega) c x y hc hx hy
 refine Qc Tryd.func87 rfl Tryd.ntmps87 rfl (t := [(0, .i x), (1, .i y), (2, .ptr 4 gb 0), (3, .ptr 5 gs 0)]) rfl fun E hE => ?_
 (repeat' first | refine Qu rfl ?_ | refine QA rfl ?_ | refine Qb rfl rfl rfl ?_ | refine Zk rfl rfl (hmux) rfl (fun _ _ => ?_) | refine Qe ?_ | refine Qs rfl ?_ | refine Qg ?_ | refine Qa ?_ | refine Qq ?_)
 exact e_1 (Tryd.results87) (Qh rfl) (Zg ⟨rfl, _, by omega, rfl⟩)
def _root_.Go.Bl.muxG (c : Int) : St -> Int -> Int -> Int × St := fun s x y => muxM s c x y
theorem muxTo_gate {c : Int} {s : St} (hs : Ok s) (hv : s.vars + 100 < 1099511627776) {x y : List Int} (hc : Lim s c) (hx : ∀ v ∈ x, Lim s v) (hy : ∀ v ∈ y, Lim s v) : ∀ i : Nat, i <= 8 -> Gate s (eachTo (muxG c) s x y i).2 (3 * i) /\ ∀ v ∈ (eachTo (muxG c) s x y i).1, Lim (eachTo (muxG c) s x y i).2 v
 | 0, _ => ⟨⟨hs, Int.le_refl _, by show s.vars <= _; omega⟩, hx⟩
 | i + 1, hi => by
  obtain ⟨h1, h3⟩ := muxTo_gate hs hv hc hx hy i (by omega)
  have hh := h1.hi
  obtain ⟨g1, l1⟩ := mux_gate (x := (eachTo (muxG c) s x y i).1.getD i 0) (y := y.getD i 0) h1.ok (by omega) (hc.mono h1.lo) (Wr h3 h1.ok.v0 i) ((Wr hy hs.v0 i).mono h1.lo)
  refine ⟨by have := h1.trans g1; rwa [show (3 : Int) * (i : Int) + 3 = 3 * ((i + 1 : Nat) : Int) by omega] at this, fun v hv => ?_⟩
  rcases List.mem_or_eq_of_mem_set hv with hv | rfl
  ·exact (h3 v hv).mono g1.lo
  ·exact l1
theorem each6_c (s : St) (hs : Ok s) (hv : s.vars + 100 < 1099511627776) (c : Int) (x y : List Int) (hxl : x.length = 4) (hyl : y.length = 4) (hc : Lim s c) (hx : ∀ v ∈ x, Lim s v) (hy : ∀ v ∈ y, Lim s v) : B6 Tryd.prog G 86 (fun gb gs => [.agg (Qt x), .agg (Qt y), .fn (.func 87) [] [.ptr 4 gb 0, .ptr 5 gs 0]]) c s.vars s.cl (.agg (Qt (eachTo (muxG c) s x y 4).1)) (eachTo (muxG c) s x y 4).2 := fun g0 g1 g2 g3 gb gs c2 c3 c4 m sn h2 h3 h4 hm hsn B b0 b1 b2 b3 b4 b5 => by
 have hv0 := hs.v0
 have hv1 := hs.v1
 refine Qc Tryd.func86 rfl Tryd.ntmps86 rfl (t := [(0, .agg (Qt x)), (1, .agg (Qt y)), (2, .fn (.func 87) [] [.ptr 4 gb 0, .ptr 5 gs 0])]) rfl fun E hE => ?_
 have hlt := fun i hi => muxTo_gate hs hv hc hx hy i hi
 (repeat' first | refine Qu rfl ?_ | refine QH (fun _ _ => ?_) | refine QU rfl rfl (fun _ _ => ?_) | refine Qe ?_ | refine Qs rfl ?_ | refine Qg ?_ | refine Qa ?_ | refine Qf ?_)
 rename_i gx hgx gy hgy gr hgr
 refine ZV (fun (i gc : Nat) => ⟨[(2, .fn (.func 87) [] [.ptr 4 gb 0, .ptr 5 gs 0]), (3, .ptr 6 gx 0), (4, .ptr 7 gy 0), (6, .ptr 8 gr 0), (8, .i i)], [.row g0 [.sc (.int .i64 (eachTo (muxG c) s x y i).2.vars), .ref 1 gc 0 (eachTo (muxG c) s x y i).2.cl.length 1, c2, c3, c4, .mp 2 g2, .mp 3 g3], .row gc (Qt (eachTo (muxG c) s x y i).2.cl), .mapb g2 (Wp m), .mapb g3 sn, .row gb [.ptr 0 g0 0], .row gs [.i c], .row gx (Qt (eachTo (muxG c) s x y i).1), .row gy (Qt y), .row gr [.i 0, .i 0, .i 0, .i 0]]⟩) (fun i gc => i <= 4 /\ (gc = g1 \/ E.N < gc)) (fun i _ => 4 - i) 0 g1 ?_ ⟨by omega, .inl rfl⟩ ?_
 ·exact zal rfl
 intro i gc ⟨hi, hgc'⟩
 obtain ⟨hg, hlo⟩ := hlt i (by omega)
 have hol := eachTo_len (muxG c) s y hxl i
 (repeat' first | refine QL rfl rfl ?_ | refine Qe ?_ | refine Qs rfl ?_ | refine Qg ?_ | refine Qa ?_)
 refine QE rfl (fun h => ?_) (fun h => ?_)
 ·have hiY : i < y.length := by omega
  have hs1 : eachTo (muxG c) s x y (i + 1) = ((eachTo (muxG c) s x y i).1.set i (muxM (eachTo (muxG c) s x y i).2 c ((eachTo (muxG c) s x y i).1.getD i 0) y[i]).1, (muxM (eachTo (muxG c) s x y i).2 c ((eachTo (muxG c) s x y i).1.getD i 0) y[i]).2) := by
   rw [<- Ord.getD_lt hiY 0]; rfl
  have ho := hg.ok
  have hh := hg.hi
  have hb : Lim (eachTo (muxG c) s x y i).2 y[i] := (hy _ (List.getElem_mem hiY)).mono hg.lo
  have hcc := hc.mono hg.lo
  clear hlt
  generalize eachTo (muxG c) s x y i = q at *
  have hiQ : i < q.1.length := by omega
  rw [Ord.getD_lt hiQ] at hs1
  have hcall := made1_c (G := G) q.2 ho (by omega) c q.1[i] y[i] hcc (hlo _ (List.getElem_mem hiQ)) hb
  generalize muxM q.2 c q.1[i] y[i] = z at *
  clear hx hs hg ho hb hh hlo hcc hc
  (repeat' first | refine Qu rfl ?_ | refine QA rfl ?_ | refine Q5 rfl rfl (by omega) ?_ | refine s_callv_b6 rfl rfl hcall rfl (by assumption) (by assumption) (by assumption) (by assumption) (by assumption) (by repeat' first | exact QW | refine QF ?_ ?_ | exact Qx) Qx (fun _ _ => ?_) | refine Wk rfl rfl rfl rfl rfl (by first | assumption | omega) rfl ?_ | refine Qe ?_ | refine Qs rfl ?_ | refine Qg ?_ | refine Qa ?_ | refine Qf ?_ | (refine Q0 ?_; first | (refine Wf (fun p => p.1 :: p.2.1 :: p.2.2.1 :: p.2.2.2.1 :: p.2.2.2.2.1 :: p.2.2.2.2.2.1 :: .row gx (Qt q.1) :: .row gy (Qt y) :: p.2.2.2.2.2.2) 10 [(0, true), (1, true), (2, true), (3, true), (4, true), (5, true), (6, true), (7, true), (8, false), (9, true), (10, false)] (by rfl) (by rfl) (by kernel_rfl) (by decide +kernel) (by decide +kernel) ⟨(_, _, _, _, _, _, _), rfl⟩ ?_) | refine Q3 (by rfl) (by kernel_rfl) (by kernel_rfl) ?_ | refine QP (by kernel_rfl) (by kernel_rfl) ?_) | refine Qk ?_ | refine i_nil ?_ | refine i_z0 ?_ | refine i_st rfl rfl (fun _ => (by (repeat' first | refine Qu rfl ?_ | refine Wj rfl rfl rfl (by first | assumption | omega) rfl ?_ | refine WE rfl rfl rfl (by omega) ?_ | exact ⟨rfl, rfl⟩))) ?_ | refine i_ef rfl ?_ | refine And.intro (Exists.intro ((_, _, _, _, _, _, _)) rfl) ?_)
  rename_i ga hga
  refine ⟨i + 1, ga, ⟨by omega, by omega⟩, by omega, ?_⟩
  rw [hs1]
  exact zal rfl
 ·have hi4 : i = 4 := by omega
  subst hi4
  have w1 : (Qt (eachTo (muxG c) s x y 4).1).length = 4 := by rw [Qz, hol]; rfl
  clear hlt hlo hg
  generalize eachTo (muxG c) s x y 4 = q at *
  (repeat' first | refine Qm rfl rfl (by first | assumption | rfl) ?_ | refine Qi rfl rfl rfl (by first | assumption | rfl) (by first | assumption | rfl) rfl ?_ | refine Qe ?_ | refine Qs rfl ?_ | refine QZ ?_ | refine Qg ?_ | refine Qa ?_ | refine Q2 rfl ?_ | refine Qq ?_)
  exact e_1 (Tryd.results86) (QR (size := 4) rfl rfl (QS w1) w1) (Qy (σ := [_, _, _, _, _, _]) (r := [_, _, _]) ⟨rfl, gc, by omega, rfl⟩)
end Go.Proofs
end
section
namespace Go.Av
open Go.Bl
abbrev ZW := List (List UInt8 × List Int)
def Zw (S : ZW) : List (Value × DV) := S.map fun p => (.string ⟨p.1.toArray⟩, .agg (Qt p.2))
def idxS (S : ZW) (x : List UInt8) : Option Nat := S.findIdx? fun p => decide (p.1 = x)
def getS (S : ZW) (x : List UInt8) : Option (List Int) := (idxS S x).map fun j => (S.getD j ([], [])).2
def putS (S : ZW) (x : List UInt8) (v : List Int) : ZW := match idxS S x with
 | some j => S.set j (x, v)
 | none => S ++ [(x, v)]
theorem qu {S : ZW} : ∀ p ∈ Zw S, p.2.clo = true := fun p hp => by
 simp only [Zw, List.mem_map] at hp
 obtain ⟨x, _, rfl⟩ := hp
 exact Qw (Qn _)
theorem strv_beq (x y : List UInt8) : ((⟨x.toArray⟩ : ByteArray) == ⟨y.toArray⟩) = decide (x = y) := by
 show (x.toArray == y.toArray) = decide (x = y)
 rw [Bool.eq_iff_iff]
 simp
theorem findStr_none {x : List UInt8} : ∀ (es : List MapEntry) (i0 : Nat), (∀ e ∈ es, ∃ y : List UInt8, y ≠ x /\ e.key = .string ⟨y.toArray⟩) -> Instr.findNow .string (.string ⟨x.toArray⟩) es i0 = some none
 | [], _, _ => rfl
 | e :: r, i0, h => by
  obtain ⟨y, hy, hk⟩ := h e (by simp)
  have : ((⟨x.toArray⟩ : ByteArray) == ⟨y.toArray⟩) = false := by rw [strv_beq]; exact decide_eq_false fun e => hy e.symm
  simp only [Instr.findNow, hk, Instr.sameNow, this]
  exact findStr_none r _ fun e he => h e (by simp [he])
theorem findStr_some {x : List UInt8} : ∀ (es : List MapEntry) (i0 j : Nat) (hj : j < es.length), es[j].key = .string ⟨x.toArray⟩ -> (∀ i (hi : i < j), ∃ y : List UInt8, y ≠ x /\ (es[i]'(by omega)).key = .string ⟨y.toArray⟩) -> Instr.findNow .string (.string ⟨x.toArray⟩) es i0 = some (some (i0 + j, es[j].val))
 | [], _, _, hj, _, _ => by simp at hj
 | e :: r, i0, 0, _, hk, _ => by
  have hk : e.key = .string ⟨x.toArray⟩ := hk
  simp only [Instr.findNow, hk, Instr.sameNow, strv_beq, decide_true]
  rfl
 | e :: r, i0, j + 1, hj, hk, hno => by
  obtain ⟨y, hy, hke⟩ := hno 0 (by omega)
  have hke : e.key = .string ⟨y.toArray⟩ := hke
  have : ((⟨x.toArray⟩ : ByteArray) == ⟨y.toArray⟩) = false := by rw [strv_beq]; exact decide_eq_false fun e => hy e.symm
  simp only [Instr.findNow, hke, Instr.sameNow, this]
  have := findStr_some (x := x) r (i0 + 1) j (by simpa using hj) (by simpa using hk) (fun i hi => by have := hno (i + 1) (by omega); simpa using this)
  rw [this]
  simp; omega
section
variable {P : Program} {G : Nat -> DV} {B : Nat} {f : Operand -> DV} {σ : List ABlk} {K : DV -> List ABlk -> Prop} {dst : Option Tmp} {type : TypeId} {pos : String} {after : Array Edge} {gd : Option (Nat × Bool)}
theorem seen_keys {X : AX} {S : ZW} {es : Array MapEntry} (hl : es.size = (Zw S).length) (h : ∀ (j : Nat) (k : Value) (d : DV), (Zw S)[j]? = some (k, d) -> (es.getD j default).key = k /\ VRep X.lay d (es.getD j default).val) :
  es.toList.length = S.length /\ ∀ j (hj : j < S.length) (hj' : j < es.toList.length), es.toList[j].key = .string ⟨S[j].1.toArray⟩ /\ VRep X.lay (.agg (Qt S[j].2)) es.toList[j].val := by
 have hl' : es.size = S.length := by simpa [Zw] using hl
 refine ⟨by simpa using hl', fun j hj hj' => ?_⟩
 have := h j (.string ⟨S[j].1.toArray⟩) (.agg (Qt S[j].2)) (by simp [Zw, hj])
 have e : es.getD j default = es.toList[j] := by simp [Array.getD_eq_getD_getElem?, show j < es.size by omega]
 rwa [e] at this
theorem s_lookup_sok {t kt et : TypeId} {agg a1 : Bool} {size s1 : Nat} {m ix : Operand} {k g : Nat} {S : ZW} {x : List UInt8} [ht : TyI P t (.map kt et) agg size] [hkt : TyI P kt .string a1 s1] (hm : f m = .mp k g) (hσk : σ[k]? = some (.mapb g (Zw S))) (hx : f ix = .sc (.string ⟨x.toArray⟩)) (hz : (P.info? et).bind (·.zero) = some (.agg #[.int .i64 0, .int .i64 0, .int .i64 0, .int .i64 0]))
  (kk : K (.tup [.agg (Qt ((getS S x).getD [0, 0, 0, 0])), .b (getS S x).isSome]) σ) : OpSem P G B ⟨dst, .lookup t m ix true, type, pos, after, gd⟩ f σ K := fun X ρ hS hσ hB _ hf => by
 subst hσ
 have e1 := hf m (by simp [Op.operands]); rw [hm] at e1
 have e2 := hf ix (by simp [Op.operands]); rw [hx] at e2
 have e2 := VRep.sc_eq e2
 obtain ⟨b, n, es, clock, hρ, hb, hl, _, hes⟩ := hS.map hσk
 have e1 := VRep.mp_inv hσk e1 hρ
 obtain ⟨hls, hke⟩ := seen_keys hl hes
 have key : ∃ v, (Instr.lookup t (ρ m) (ρ ix) true).run P X.w = .ok (.tuple #[v, .bool (getS S x).isSome]) X.w /\ VRep X.lay (.agg (Qt ((getS S x).getD [0, 0, 0, 0]))) v := by
  rw [e1, e2]
  cases hfi : idxS S x with
  | none =>
   have hno := List.findIdx?_eq_none_iff.1 hfi
   have hg : getS S x = none := by unfold getS; rw [hfi]; rfl
   have hf := findStr_none (x := x) es.toList 0 fun e he => by
    obtain ⟨j, hj, rfl⟩ := List.getElem_of_mem he
    exact ⟨_, of_decide_eq_false (hno _ (List.getElem_mem (show j < S.length by omega))), (hke j (by omega) hj).1⟩
   have h1 : (zeroValue et).run P X.w = .ok (.agg #[.int .i64 0, .int .i64 0, .int .i64 0, .int .i64 0]) X.w := by
    cases hi : P.info? et with
    | none => simp [hi] at hz
    | some i =>
     simp [hi] at hz
     simp [zeroValue, typeInfo, hi, hz, Result.andThen]
   refine ⟨.agg #[.int .i64 0, .int .i64 0, .int .i64 0, .int .i64 0], ?_, ?_⟩
   ·rw [hg]
    simp [Instr.lookup, run_underlying ht.u, MapKept.run_getObj_map hb, MapKept.run_checkKey hkt.u (k := .string ⟨x.toArray⟩) trivial, MapKept.run_findKey hkt.u hf, Result.andThen, h1]
   ·rw [hg]
    refine .agg _ _ rfl (encs_one _) fun j d hj => ?_
    match j, hj with
    | 0, hj => cases hj; exact .sc _
    | 1, hj => cases hj; exact .sc _
    | 2, hj => cases hj; exact .sc _
    | 3, hj => cases hj; exact .sc _
    | j + 4, hj => exact absurd (show ([DV.i 0, .i 0, .i 0, .i 0] : List DV)[j + 4]? = some d from hj) (by simp)
  | some j =>
   obtain ⟨h1, h2, h3⟩ := List.findIdx?_eq_some_iff_getElem.1 hfi
   have hj : j < es.toList.length := by omega
   have e : S[j].1 = x := of_decide_eq_true h2
   have hg : getS S x = some S[j].2 := by
    unfold getS; rw [hfi, Option.map_some, List.getD_eq_getElem?_getD, List.getElem?_eq_getElem h1]; rfl
   have hf := findStr_some (x := x) es.toList 0 j hj (by rw [(hke j h1 hj).1, e]) fun i hi => ⟨_, fun e => h3 i hi (decide_eq_true e), (hke i (by omega) (by omega)).1⟩
   refine ⟨es.toList[j].val, ?_, by rw [hg]; exact (hke j h1 hj).2⟩
   rw [hg]
   simp [Instr.lookup, run_underlying ht.u, MapKept.run_getObj_map hb, MapKept.run_checkKey hkt.u (k := .string ⟨x.toArray⟩) trivial, MapKept.run_findKey hkt.u hf, Result.andThen]
 obtain ⟨v, hrun, hv⟩ := key
 simp only [execOp, hrun, Sem.run_bind, Sem.run_pure, Result.andThen_ok]
 refine ⟨X, rfl, hS, WExt.refl X, _, .tup _ _ rfl fun j d hj => ?_, kk⟩
 match j, hj with
 | 0, hj => cases hj; exact hv
 | 1, hj => cases hj; exact .sc _
 | j + 2, hj => simp at hj
theorem run_mapUpdateS_new {m kt et : TypeId} {w : World} {b clock : Nat} {es : Array MapEntry} {x : ByteArray} {v : Value} (hm : P.underlying m = some (.map kt et)) (hk : P.underlying kt = some .string) (hb : w.heap[b]? = some (.map es clock)) (hf : Instr.findNow .string (.string x) es.toList 0 = some none) :
  (Instr.mapUpdate m (.map (some b)) (.string x) v).run P w = .ok () { w with heap := w.heap.setIfInBounds b (.map (es.push { key := .string x, val := v, born := clock }) (clock + 1)) } := by
 simp [Instr.mapUpdate, run_underlying hm, MapKept.run_getObj_map hb, MapKept.run_checkKey hk (k := .string x) trivial, MapKept.run_findKey hk hf, MapKept.run_setObj_map _ hb, Result.andThen]
theorem run_mapUpdateS_old {m kt et : TypeId} {w : World} {b clock j : Nat} {es : Array MapEntry} {x : ByteArray} {v u : Value} (hm : P.underlying m = some (.map kt et)) (hk : P.underlying kt = some .string) (hb : w.heap[b]? = some (.map es clock)) (hf : Instr.findNow .string (.string x) es.toList 0 = some (some (j, u))) (hj : j < es.size) (hkey : es[j].key = .string x) :
  (Instr.mapUpdate m (.map (some b)) (.string x) v).run P w = .ok () { w with heap := w.heap.setIfInBounds b (.map (es.modify j fun e => { e with key := .string x, val := v }) clock) } := by
 have e : ((es[j]?.map (·.key)).getD (.string x)) = .string x := by simp [hj, hkey]
 have hxx : (x == x) = true := by show (x.data == x.data) = true; simp
 have hks : (Instr.keyThatStays (.string x) (.string x)).run P w = .ok (.string x) w := by simp [Instr.keyThatStays, Instr.sameBits, hxx]
 simp [Instr.mapUpdate, run_underlying hm, MapKept.run_getObj_map hb, MapKept.run_checkKey hk (k := .string x) trivial, MapKept.run_findKey hk hf, MapKept.run_setObj_map _ hb, Result.andThen, e, hks, hj, hkey]
theorem seen_put {t kt et : TypeId} {agg a1 : Bool} {size s1 : Nat} {k g : Nat} {l : ZW} {x : List UInt8} {u : List Int} {σ' : List ABlk} (ht : TyI P t (.map kt et) agg size) (hkt : TyI P kt .string a1 s1) {X : AX} (hS : Sto X) {vm vk v : Value} (e1 : VRep X.lay (.mp k g) vm) (hσk : X.σ[k]? = some (.mapb g (Zw l))) (e2 : vk = .string ⟨x.toArray⟩) (e3 : VRep X.lay (.agg (Qt u)) v)
  (hσ' : setA X.σ k (.mapb g (Zw (putS l x u))) = some σ') (kk : K (.sc undef) σ') : ∃ w', (Instr.mapUpdate t vm vk v).run P X.w = .ok () w' /\ APost X K undef w' := by
 subst e2
 obtain ⟨b, n, es, clock, hρ, hb, hl, hc, hes⟩ := hS.map hσk
 have e1 := VRep.mp_inv hσk e1 hρ
 subst e1
 obtain ⟨hlt, hkey⟩ := seen_keys hl hes
 have hl' : es.size = l.length := by simpa using hlt
 have hbl := lt_of_heap hb
 rw [ZU hσ'] at kk
 cases hfi : idxS l x with
 | none =>
  have hno := List.findIdx?_eq_none_iff.1 hfi
  have hf := findStr_none (x := x) es.toList 0 fun e he => by
   obtain ⟨j, hj, rfl⟩ := List.getElem_of_mem he
   exact ⟨_, of_decide_eq_false (hno _ (List.getElem_mem (show j < l.length by omega))), (hkey j (by omega) hj).1⟩
  refine ⟨_, run_mapUpdateS_new ht.u hkt.u hb hf, ?_⟩
  have hp : putS l x u = l ++ [(x, u)] := by unfold putS; rw [hfi]
  rw [hp] at kk
  refine post_map hS hσk hρ hbl (by simp [Zw, hl']) (fun e he => ?_) (fun j kv dd hj => ?_) kk
  ·rcases Array.mem_push.1 he with he | rfl
   ·exact Nat.lt_succ_of_lt (hc e he)
   ·exact Nat.lt_succ_self _
  ·have hjl : j < l.length + 1 := by have := (List.getElem?_eq_some_iff.1 hj).1; simpa [Zw] using this
   by_cases h : j < l.length
   ·have hj' : (Zw l)[j]? = some (kv, dd) := by
     rw [<- hj]; simp [Zw, List.getElem?_append, h]
    have := hes j kv dd hj'
    have e : (es.push { key := .string ⟨x.toArray⟩, val := v, born := clock }).getD j default = es.getD j default := by
     simp [Array.getD_eq_getD_getElem?, Array.getElem?_push, show j ≠ es.size by omega]
    rw [e]; exact this
   ·have hjj : j = l.length := by omega
    subst hjj
    simp [Zw] at hj
    obtain ⟨rfl, rfl⟩ := hj
    have e : (es.push { key := .string ⟨x.toArray⟩, val := v, born := clock }).getD l.length default = { key := .string ⟨x.toArray⟩, val := v, born := clock } := by
     rw [<- hl']; simp [Array.getD_eq_getD_getElem?]
    rw [e]; exact ⟨rfl, e3⟩
 | some j0 =>
  obtain ⟨h1, h2, h3⟩ := List.findIdx?_eq_some_iff_getElem.1 hfi
  have h2 : l[j0].1 = x := of_decide_eq_true h2
  have hj : j0 < es.toList.length := by omega
  have hk0 := (hkey j0 h1 hj).1
  rw [h2] at hk0
  have hf := findStr_some (x := x) es.toList 0 j0 hj hk0 fun i hi => ⟨_, fun e => h3 i hi (decide_eq_true e), (hkey i (by omega) (by omega)).1⟩
  refine ⟨_, run_mapUpdateS_old ht.u hkt.u hb (by simpa using hf) (by omega) (by simpa using hk0), ?_⟩
  have hp : putS l x u = l.set j0 (x, u) := by unfold putS; rw [hfi]
  rw [hp] at kk
  refine post_map hS hσk hρ hbl (by simp [Zw, hl']) (fun e he => ?_) (fun j kv dd hj' => ?_) kk
  ·obtain ⟨i, hi, rfl⟩ := Array.getElem_of_mem he
   rw [Array.getElem_modify]
   have hi' : i < es.size := by simpa using hi
   split
   ·exact hc es[i] (Array.getElem_mem hi')
   ·exact hc _ (Array.getElem_mem hi')
  ·have hjl : j < l.length := by have := (List.getElem?_eq_some_iff.1 hj').1; simpa [Zw] using this
   by_cases h : j = j0
   ·subst h
    simp [Zw, hjl] at hj'
    obtain ⟨rfl, rfl⟩ := hj'
    have e : ((es.modify j fun e => { e with key := .string ⟨x.toArray⟩, val := v }).getD j default).key = .string ⟨x.toArray⟩ /\ ((es.modify j fun e => { e with key := .string ⟨x.toArray⟩, val := v }).getD j default).val = v := by
     rw [Array.getD_eq_getD_getElem?, Array.getElem?_modify, if_pos rfl, Array.getElem?_eq_getElem (show j < es.size by omega)]
     exact ⟨rfl, rfl⟩
    rw [e.1, e.2]; exact ⟨rfl, e3⟩
   ·have hj2 : (Zw l)[j]? = some (kv, dd) := by
     rw [<- hj']; simp [Zw, List.getElem?_set, show ¬ j0 = j from fun e => h e.symm]
    have := hes j kv dd hj2
    have e : (es.modify j0 fun e => { e with key := .string ⟨x.toArray⟩, val := v }).getD j default = es.getD j default := by
     simp [Array.getD_eq_getD_getElem?, Array.getElem?_modify, show ¬ j0 = j from fun e => h e.symm]
    rw [e]; exact this
theorem s_mapupd_s {t kt et : TypeId} {agg a1 : Bool} {size s1 : Nat} {m ix y : Operand} {k g : Nat} {l : ZW} {x : List UInt8} {u : List Int} {σ' : List ABlk} [ht : TyI P t (.map kt et) agg size] [hkt : TyI P kt .string a1 s1] (hm : f m = .mp k g) (hσk : σ[k]? = some (.mapb g (Zw l))) (hx : f ix = .sc (.string ⟨x.toArray⟩)) (hy : f y = .agg (Qt u))
  (hσ' : setA σ k (.mapb g (Zw (putS l x u))) = some σ') (kk : K (.sc undef) σ') : OpSem P G B ⟨dst, .mapUpdate t m ix y, type, pos, after, gd⟩ f σ K := fun X ρ hS hσ hB _ hf => by
 subst hσ
 have e1 := hf m (by simp [Op.operands]); rw [hm] at e1
 have e2 := hf ix (by simp [Op.operands]); rw [hx] at e2
 have e3 := hf y (by simp [Op.operands]); rw [hy] at e3
 obtain ⟨w', h1, h2⟩ := seen_put (K := K) ht hkt hS e1 hσk (VRep.sc_eq e2) e3 hσ' kk
 simp only [execOp, h1, Sem.run_bind, Sem.run_pure, Result.andThen_ok]
 exact h2
end
section
variable {P : Program} {G : Nat -> DV} {B : Nat} {f : Operand -> DV} {σ : List ABlk} {K : DV -> List ABlk -> Prop} {dst : Option Tmp} {type : TypeId} {pos : String} {after : Array Edge} {gd : Option (Nat × Bool)}
theorem s_slice_arr {t e n es : Nat} {g1 g2 : Bool} {z1 : Nat} {td : TypeDesc} {x : Operand} {lo hi : Option Operand} {vlo vhi : Option Value} {m g l h : Nat} {cs : List DV} [ht : TyI P t (.array n e) g1 z1] [he : TyI P e td g2 es] (hx : f x = .ptr m g 0) (hm : σ[m]? = some (.row g cs))
  (hlo : optV f lo vlo) (hhi : optV f hi vhi) (hb : Bnd vlo vhi n l h) (hlh : l <= h) (hh : h <= n) (hn : n * es <= cs.length) (k : K (.ref m g (l * es) (h - l) es) σ) : OpSem P G B ⟨dst, .slice t x lo hi none, type, pos, after, gd⟩ f σ K := fun X ρ hS hσ _ _ hf => by
 subst hσ
 have e1 := hf x (by simp [Op.operands]); rw [hx] at e1
 have e2 := optV_eq (fun y hy => hf y (by simp [Op.operands]; simp at hy; simp [hy])) hlo
 have e3 := optV_eq (fun y hy => hf y (by simp [Op.operands]; simp at hy; simp [hy])) hhi
 obtain ⟨b, nn, hρ, e4⟩ := e1.ptr_inv hm
 obtain ⟨arr, T, fr, q1, q2, q3, _⟩ := hS.row hm hρ
 have hrun : (Instr.sliceAt t (.pointer (some ⟨b, 0, none⟩)) vlo vhi none).run P X.w = .ok (.slice (some (if n = l then ⟨b, 0, none⟩ else (⟨b, 0, none⟩ : Addr).add (l * es))) (h - l) (n - l)) X.w := by
  cases hb with
  | lh h1 h2 h3 =>
   subst h1; subst h2
   simp [Instr.sliceAt, run_underlying ht.u, Instr.sliceBounds, Instr.sliceBound, asIntOf, Wy he, Instr.sureAddr, hh, h3, Int.ofNat_le]
  | h h1 =>
   subst h1
   simp [Instr.sliceAt, run_underlying ht.u, Instr.sliceBounds, Instr.sliceBound, asIntOf, Wy he, Instr.sureAddr, hh, Int.ofNat_le]
  | l h1 h2 =>
   subst h1
   simp [Instr.sliceAt, run_underlying ht.u, Instr.sliceBounds, Instr.sliceBound, asIntOf, Wy he, Instr.sureAddr, h2, Int.ofNat_le]
  | all => simp [Instr.sliceAt, run_underlying ht.u, Instr.sliceBounds, Instr.sliceBound, asIntOf, Wy he, Instr.sureAddr]
 simp only [execOp, e4, e2, e3, Option.map_none, hrun, Sem.run_bind, Sem.run_pure, Result.andThen_ok]
 refine Q8 hS (.ref _ _ _ _ _ _ _ _ (hS.gen m g (Wz hm)) fun ob hob => ?_) k
 rw [AX.row_mk (Wz hm), hρ] at hob
 rw [<- Option.some.inj hob]
 refine ⟨_, n - l, rfl, by omega, ?_⟩
 by_cases hnl : n = l
 ·left; omega
 ·right
  refine ⟨by rw [if_neg hnl, ZR, Nat.zero_add], ?_⟩
  have : (n - l) * es = n * es - l * es := Nat.sub_mul _ _ _
  have : l * es <= n * es := Nat.mul_le_mul_right _ (by omega)
  omega
def u8s (l : List UInt8) : List DV := l.map fun b => .sc (.int .u8 (b.toNat : Int))
theorem s_conv_bytes {s d e : TypeId} {g1 g2 g3 : Bool} {z1 z2 z3 : Nat} {x : Operand} {m g off len : Nat} {cs : List DV} {l : List UInt8} [hs : TyI P s (.slice e) g1 z1] [he : TyI P e (.int .u8) g2 z2] [hd : TyI P d .string g3 z3]
  (hx : f x = .ref m g off len 1) (hm : σ[m]? = some (.row g cs)) (h0 : 0 < len) (hlen : l.length = len) (hl : (cs.drop off).take len = u8s l) (k : K (strD l) σ) : OpSem P G B ⟨dst, .convert s d x, type, pos, after, gd⟩ f σ K := fun X ρ hS hσ _ _ hf => by
 subst hσ
 have e1 := hf x (by simp [Op.operands]); rw [hx] at e1
 obtain ⟨a, cap, e4, h2, h3⟩ := e1.ref_slice hm
 obtain ⟨b, n, hρ, rfl, h5⟩ := h3 h0
 obtain ⟨arr, T, fr, q1, q2, q3, _⟩ := hS.row hm hρ
 have hcell : ∀ i, i < l.length -> X.w.cell? ⟨b, off + i, none⟩ = some (.int .u8 ((l.map fun b => (b.toNat : Int)).getD i 0)) := fun i hi => by
  have hi' : ((cs.drop off).take len)[i]? = some (.sc (.int .u8 (l[i].toNat : Int))) := by rw [hl]; simp [u8s, hi]
  have hil : i < len := by
   have := (List.getElem?_eq_some_iff.1 hi').1
   rw [List.length_take] at this; omega
  rw [List.getElem?_take_of_lt hil, List.getElem?_drop] at hi'
  obtain ⟨v, c1, c2, _⟩ := row_cell hS hm hρ hi'
  rw [c1, VRep.sc_eq c2]
  simp [List.getD_eq_getElem?_getD, hi]
 have hrun := run_convert_bytes_arg (P := P) X.w s e hs.u he.u b off len cap (l.map fun b => (b.toNat : Int)) (by simp [hlen]) (fun i hi => hcell i (by omega)) d hd.u
 have hstr : strOfNums (l.map fun b => (b.toNat : Int)) = ⟨l.toArray⟩ := by
  apply ByteArray.ext
  apply Array.toList_inj.1
  rw [strOfNums_data, List.map_map]
  show _ = l
  conv => rhs; rw [<- List.map_id l]
  apply List.map_congr_left
  intro x _
  simp
 rw [hstr] at hrun
 simp only [execOp, e4, hrun, Sem.run_bind, Sem.run_pure, Result.andThen_ok]
 exact Q8 hS (.sc _) k
theorem s_add_w {t t' : TypeId} {x y : Operand} {a b : Int} (hx : f x = .sc (.int .u32 a)) (hy : f y = .sc (.int .u32 b)) (k : K (.sc (.int .u32 (IntKind.u32.wrap (a + b)))) σ) : OpSem P G B ⟨dst, .binOp .add t x y t', type, pos, after, gd⟩ f σ K := s_addw hx hy k
theorem s_neg_u {t : TypeId} {x : Operand} {a b : Int} {k1 : IntKind} (hx : f x = .sc (.int k1 a)) (hw : k1.wrap (0 - a) = b) (k : K (.sc (.int k1 b)) σ) : OpSem P G B ⟨dst, .unOp .neg t x, type, pos, after, gd⟩ f σ K := s_negw hx (by rw [hw]; exact k)
end
end Go.Av
end
section
namespace Go.Av
open Classical
section
variable {Γ : List Nat}
end
section
variable {P : Program} {G : Nat -> DV} {B : Nat} {f fe : Operand -> DV} {σ : List ABlk} {K : DV -> List ABlk -> Prop} {dst : Option Tmp} {type : TypeId} {pos : String} {after : Array Edge} {gd : Option (Nat × Bool)}
theorem s_index_a {t e n sz : Nat} {d : TypeDesc} {g1 : Bool} {z1 : Nat} {x y : Operand} {cs : List DV} {kd : IntKind} {i : Nat} {e' : DV} [ht : TyI P t (.array n e) g1 z1] [he : TyI P e d false sz]
  (hx : f x = .agg cs) (hy : f y = .sc (.int kd (i : Nat))) (h1 : i < n) (hc : cs[i * sz]? = some e') (k : K e' σ) : OpSem P G B ⟨dst, .index t x y, type, pos, after, gd⟩ f σ K := fun X ρ hS hσ _ _ hf => by
 subst hσ
 have e1 := hf x (by simp [Op.operands, Call.operands]); rw [hx] at e1
 have e2 := hf y (by simp [Op.operands, Call.operands]); rw [hy] at e2
 obtain ⟨vs, e3, h2, h3, h4⟩ := e1.agg_inv
 have hlt : i * sz < vs.size := by rw [h2]; exact (List.getElem?_eq_some_iff.1 hc).1
 have hrun : (Instr.index t (.agg vs) (.int kd (i : Nat))).run P X.w = .ok (vs.getD (i * sz) undef) X.w := by
  simp [Instr.index, asIntOf, run_underlying ht.u, Wy he, h1, run_part he hlt]
 simp only [execOp, e3, VRep.sc_eq e2, hrun, Sem.run_bind, Sem.run_pure, Result.andThen_ok]
 exact Q8 hS (h4 _ _ hc) k
theorem s_index_s {t : TypeId} {g1 : Bool} {z1 : Nat} {x y : Operand} {l : List UInt8} {kd : IntKind} {i : Nat} {b : UInt8} [ht : TyI P t .string g1 z1]
  (hx : f x = .sc (.string ⟨⟨l⟩⟩)) (hy : f y = .sc (.int kd (i : Nat))) (hc : l[i]? = some b) (k : K (.sc (.int .u8 b.toNat)) σ) : OpSem P G B ⟨dst, .index t x y, type, pos, after, gd⟩ f σ K := fun X ρ hS hσ _ _ hf => by
 subst hσ
 have e1 := hf x (by simp [Op.operands, Call.operands]); rw [hx] at e1
 have e2 := hf y (by simp [Op.operands, Call.operands]); rw [hy] at e2
 have hg : (⟨⟨l⟩⟩ : ByteArray)[i]? = some b := by
  have hlt := (List.getElem?_eq_some_iff.1 hc).1
  have hlt' : i < (⟨⟨l⟩⟩ : ByteArray).size := hlt
  rw [getElem?_pos (⟨⟨l⟩⟩ : ByteArray) i hlt']
  exact congrArg some (List.getElem?_eq_some_iff.1 hc).2
 have hrun : (Instr.index t (.string ⟨⟨l⟩⟩) (.int kd (i : Nat))).run P X.w = .ok (.int .u8 b.toNat) X.w := by
  simp [Instr.index, asIntOf, run_underlying ht.u, hg]
 simp only [execOp, VRep.sc_eq e1, VRep.sc_eq e2, hrun, Sem.run_bind, Sem.run_pure, Result.andThen_ok]
 exact Q8 hS (.sc _) k
theorem s_max {ts : Array TypeId} {x y : Operand} {k1 : IntKind} {a b : Int} (hx : f x = .sc (.int k1 a)) (hy : f y = .sc (.int k1 b)) (k : K (.sc (.int k1 (if a < b then b else a))) σ) : OpSem P G B ⟨dst, .call ⟨.builtin .max, #[x, y], ts⟩, type, pos, after, gd⟩ f σ K := fun X ρ hS hσ _ _ hf => by
 subst hσ
 have e1 := hf x (by simp [Op.operands, Call.operands]); rw [hx] at e1
 have e2 := hf y (by simp [Op.operands, Call.operands]); rw [hy] at e2
 have : (Builtin.max_ ts type #[.int k1 a, .int k1 b]).run P X.w = .ok (.int k1 (if a < b then b else a)) X.w := by
  simp only [Builtin.max_, Builtin.max2, List.foldlM_cons, List.foldlM_nil, Sem.run_bind, Sem.run_pure, Result.andThen_ok]
 simp only [execOp, resolve, invoke, builtin, List.map_toArray, List.map_cons, List.map_nil, Sem.run_bind, Sem.run_pure, Result.andThen_ok, VRep.sc_eq e1, VRep.sc_eq e2, this]
 exact Q8 hS (.sc _) k
end
end Go.Av
end
