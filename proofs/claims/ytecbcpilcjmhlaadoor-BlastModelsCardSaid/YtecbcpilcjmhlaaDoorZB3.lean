/-
  Part 3 of the proof: E1 P3 E2 E3 E4 M2 AvP Ev0 Ev1 Ev2 Ev3 Ev4 Ev5 Ev6 Ev7 Ev8 Ev9 EvA AvO N1 KY AvQ.
-/
import Derived.Laws.BytesArg
import Derived.Test.YtecbcpilcjmhlaaDoorZB1
import Derived.Test.YtecbcpilcjmhlaaDoorZB2
set_option linter.unusedSimpArgs false
set_option linter.unusedVariables false
set_option maxRecDepth 10000
set_option maxHeartbeats 4000000
section
namespace Go.Proofs
open Go.Av
variable {G : Nat -> DV}
attribute [local irreducible] OpSem WE WY W0 ACalls ZE QV RV
open Go.Bl
abbrev _root_.Go.Bl.bitN (n : Int) (i : Nat) : Int := Av.bitsOf .and .i64 (n / 2 ^ min ((i : Int)).toNat 64) 1
def _root_.Go.Bl.freshTo (s : St) : Nat -> List Int × St
 | 0 => ([0, 0, 0, 0], s)
 | i + 1 => ((freshTo s i).1.set i ((freshTo s i).2.vars + 1), fresh (freshTo s i).2)
def _root_.Go.Bl.otherTo (x y : List Int) (u v : Int) : Nat -> List Int
 | 0 => []
 | i + 1 => otherTo x y u v i ++ [x.getD i 0 * (1 - 2 * bitN u i), y.getD i 0 * (1 - 2 * bitN v i)]
def _root_.Go.Bl.addTo (s : St) (out other : List Int) (r : Int) : Nat -> St
 | 0 => s
 | i + 1 => add (addTo s out other r i) (other ++ [out.getD i 0 * (2 * bitN (ZC r) i - 1)])
def _root_.Go.Bl.tableTo (s : St) (op : Int) (x y out : List Int) : Nat -> St
 | 0 => s
 | n + 1 => addTo (tableTo s op x y out n) out (otherTo x y ((n : Int) % 16) ((n : Int) / 16) 4) (opM op ((n : Int) % 16) ((n : Int) / 16)).1 4
theorem _root_.Go.Bl.bitN_01 (n : Int) (i : Nat) : bitN n i = 0 \/ bitN n i = 1 := by
 unfold bitN
 generalize n / 2 ^ min ((i : Int)).toNat 64 = w
 show IntKind.i64.wrap ((BitVec.ofInt 64 w &&& BitVec.ofInt 64 1).toNat : Int) = 0 \/ IntKind.i64.wrap ((BitVec.ofInt 64 w &&& BitVec.ofInt 64 1).toNat : Int) = 1
 rw [BitVec.toNat_and, show (BitVec.ofInt 64 1).toNat = 2 ^ 1 - 1 from rfl, Nat.and_two_pow_sub_one_eq_mod]
 rcases Nat.mod_two_eq_zero_or_one ((BitVec.ofInt 64 w).toNat) with h | h
 ·left; rw [show 2 ^ 1 = 2 from rfl, h]; decide
 ·right; rw [show 2 ^ 1 = 2 from rfl, h]; decide
theorem forceD_id : ∀ l : List DV, forceD l = some l
 | [] => rfl
 | d :: r => by simp only [forceD, forceD_id r]
theorem Q4 {ds : List DV} {n : Nat} (h : ds.length = n) : partD ds 0 n = some ds := by
 unfold partD
 rw [List.drop_zero, <- h, List.take_length]
 exact forceD_id _
theorem sgn_bd {a b : Int} (ha : -2000000000000 <= a /\ a <= 2000000000000) (hb : b = 0 \/ b = 1) : -9223372036854775808 <= a * (1 - 2 * b) /\ a * (1 - 2 * b) <= 9223372036854775807 := by
 rcases hb with rfl | rfl <;> omega
theorem sgn_bd' {a b : Int} (ha : -2000000000000 <= a /\ a <= 2000000000000) (hb : b = 0 \/ b = 1) : -9223372036854775808 <= a * (2 * b - 1) /\ a * (2 * b - 1) <= 9223372036854775807 := by
 rcases hb with rfl | rfl <;> omega
theorem two_bd {b : Int} (hb : b = 0 \/ b = 1) : -9223372036854775808 <= 2 * b /\ 2 * b <= 9223372036854775807 := by
 rcases hb with rfl | rfl <;> omega
theorem _root_.Go.Bl.freshTo_len (s : St) : ∀ i, (freshTo s i).1.length = 4
 | 0 => rfl
 | i + 1 => by
  show ((freshTo s i).1.set _ _).length = 4
  rw [List.length_set, freshTo_len s i]
theorem _root_.Go.Bl.otherTo_len (x y : List Int) (u v : Int) : ∀ i, (otherTo x y u v i).length = 2 * i
 | 0 => rfl
 | i + 1 => by
  show (otherTo x y u v i ++ [_, _]).length = _
  rw [List.length_append, otherTo_len x y u v i]
  show 2 * i + 2 = _
  omega
theorem _root_.Go.Bl.freshTo_gate {s : St} (hs : Ok s) (hv : s.vars + 20 < 1099511627776) : ∀ i : Nat, i <= 4 -> Gate s (freshTo s i).2 i /\ ∀ v ∈ (freshTo s i).1, Lim (freshTo s i).2 v
 | 0, _ => ⟨⟨hs, Int.le_refl _, by show s.vars <= _; omega⟩, fun v h => by
   have hv : v = 0 := by
    have h : v ∈ [(0 : Int), 0, 0, 0] := h
    simpa using h
   subst hv
   have := hs.v0
   exact ⟨by show -(s.vars + 1) <= 0; omega, by show 0 <= s.vars + 1; omega⟩⟩
 | i + 1, hi => by
  obtain ⟨h1, h3⟩ := freshTo_gate hs hv i (by omega)
  have hh := h1.hi
  have hf : (fresh (freshTo s i).2).vars = (freshTo s i).2.vars + 1 := rfl
  have hl := h1.lo
  have h0 := h1.ok.v0
  refine ⟨⟨fresh_ok h1.ok (by omega), by show s.vars <= (freshTo s i).2.vars + 1; omega, by show (freshTo s i).2.vars + 1 <= _; omega⟩, fun v hv => ?_⟩
  rcases List.mem_or_eq_of_mem_set hv with hv | rfl
  ·exact (h3 v hv).mono (by show (freshTo s i).2.vars <= (freshTo s i).2.vars + 1; omega)
  ·exact ⟨by show -((freshTo s i).2.vars + 1 + 1) <= (freshTo s i).2.vars + 1; omega, by show _ <= (freshTo s i).2.vars + 1 + 1; omega⟩
theorem _root_.Go.Bl.addTo_ok {s : St} (hs : Ok s) (out other : List Int) (r : Int) : ∀ i, Ok (addTo s out other r i) /\ (addTo s out other r i).vars = s.vars
 | 0 => ⟨hs, rfl⟩
 | i + 1 => by
  obtain ⟨h1, h2⟩ := addTo_ok hs out other r i
  exact ⟨add_ok h1 _, by show (add _ _).vars = _; rw [WG, h2]⟩
theorem _root_.Go.Bl.tableTo_ok {s : St} (hs : Ok s) (op : Int) (x y out : List Int) : ∀ n, Ok (tableTo s op x y out n) /\ (tableTo s op x y out n).vars = s.vars
 | 0 => ⟨hs, rfl⟩
 | n + 1 => by
  obtain ⟨h1, h2⟩ := tableTo_ok hs op x y out n
  obtain ⟨h3, h4⟩ := addTo_ok h1 out (otherTo x y ((n : Int) % 16) ((n : Int) / 16) 4) (opM op ((n : Int) % 16) ((n : Int) / 16)).1 4
  exact ⟨h3, by show (addTo _ _ _ _ 4).vars = _; rw [h4, h2]⟩
theorem _root_.Go.Bl.Lim.big {s : St} (hs : Ok s) {v : Int} (h : Lim s v) : -2000000000000 <= v /\ v <= 2000000000000 := by
 have := hs.v1
 obtain ⟨h1, h2⟩ := h
 exact ⟨by omega, by omega⟩
theorem table_c (hG : G 0 = opsD) (s : St) (hs : Ok s) (hv : s.vars + 100 < 1099511627776) (op : Int) (hop : 0 <= op /\ op < 14) (x y : List Int) (hxl : x.length = 4) (hyl : y.length = 4) (hx : ∀ v ∈ x, Lim s v) (hy : ∀ v ∈ y, Lim s v) : BM Tryd.prog G 106 [.i op, .agg (Qq x), .agg (Qq y)] s.vars s.cl (.agg (Qq (freshTo s 4).1)) (tableTo (freshTo s 4).2 op x y (freshTo s 4).1 256) := fun g0 g1 g2 g3 c2 c3 c4 m sn h2 h3 h4 hm hsn B b0 b1 b2 b3 => by
 have hv0 := hs.v0
 have hv1 := hs.v1
 refine Qb Tryd.func106 rfl Tryd.ntmps106 rfl (t := [(0, .ptr 0 g0 0), (1, .i op), (2, .agg (Qq x)), (3, .agg (Qq y))]) rfl fun E hE => ?_
 have hlt := fun i hi => freshTo_gate hs (by omega) i hi
 (repeat' first | refine Qt rfl ?_ | refine QJ (fun _ _ => ?_) | refine Q5 rfl rfl (fun _ _ => ?_) | refine Qe ?_ | refine Qp rfl ?_ | refine Qf ?_ | refine Qa ?_ | refine Qg ?_)
 rename_i gx hgx gy hgy gr hgr go hgo
 refine qb (fun (i gc : Nat) => ⟨[(0, .ptr 0 g0 0), (1, .i op), (6, .ptr 4 gx 0), (7, .ptr 5 gy 0), (8, .ptr 6 gr 0), (9, .ptr 7 go 0), (19, .i i)], [.row g0 [.sc (.int .i64 (freshTo s i).2.vars), .ref 1 gc 0 (freshTo s i).2.cl.length 1, c2, c3, c4, .mp 2 g2, .mp 3 g3], .row gc (Qq (freshTo s i).2.cl), .mapb g2 (Wg m), .mapb g3 sn, .row gx (Qq x), .row gy (Qq y), .row gr [.i 0, .i 0, .i 0, .i 0], .row go (Qq (freshTo s i).1)]⟩) (fun i gc => i <= 4 /\ (gc = g1 \/ E.N < gc)) (fun i _ => 4 - i) 0 g1 ?_ ⟨by omega, .inl rfl⟩ ?_
 ·exact zal rfl
 intro i gc ⟨hi, hgc⟩
 obtain ⟨hg, hlo⟩ := hlt i (by omega)
 have hol := freshTo_len s i
 have hok := hg.ok
 (repeat' first | refine QG rfl rfl ?_ | refine Qe ?_ | refine Qp rfl ?_ | refine Qf ?_ | refine Qa ?_)
 refine QE rfl (fun h => ?_) (fun h => ?_)
 ·have hs1 : freshTo s (i + 1) = ((freshTo s i).1.set i ((freshTo s i).2.vars + 1), fresh (freshTo s i).2) := rfl
  clear hlt
  generalize freshTo s i = p at *
  (repeat' first | refine Qt rfl ?_ | refine Qv rfl ?_ | refine WB rfl rfl rfl (by omega) ?_ | refine QS rfl rfl (by omega) ?_ | refine Zd rfl rfl (fresh_c _ hok) rfl (fun _ _ => ?_) | refine Q2 rfl rfl rfl rfl rfl (by first | assumption | omega) rfl ?_ | refine Qe ?_ | refine Qp rfl ?_ | refine Q0 ?_ | refine Qf ?_ | refine Qa ?_ | refine Qg ?_ | refine Qj ?_)
  rename_i ga hga
  refine ⟨i + 1, ga, ⟨by omega, by omega⟩, by omega, ?_⟩
  rw [hs1]
  exact zal rfl
 have hi4 : i = 4 := by omega
 subst hi4
 clear hlt
 have hXx : ∀ v ∈ x, Lim (freshTo s 4).2 v := fun v h => (hx v h).mono hg.lo
 have hYy : ∀ v ∈ y, Lim (freshTo s 4).2 v := fun v h => (hy v h).mono hg.lo
 obtain ⟨out, hout⟩ : ∃ out, out = (freshTo s 4).1 := ⟨_, rfl⟩
 obtain ⟨s4, hs4⟩ : ∃ s4, s4 = (freshTo s 4).2 := ⟨_, rfl⟩
 rw [<- hout] at hol hlo
 rw [<- hs4] at hXx hYy hok hlo
 rw [<- hout, <- hs4]
 have hok4 := hok
 clear hout hs4 hx hy hg
 have htb := fun n => tableTo_ok hok op x y out n
 (repeat' first | refine Qt rfl ?_ | refine Qe ?_ | refine Qp rfl ?_ | refine Qf ?_ | refine Qa ?_ | refine Qg ?_ | refine QU rfl ?_)
 refine qb (fun (n gc : Nat) => ⟨[(0, .ptr 0 g0 0), (1, .i op), (6, .ptr 4 gx 0), (7, .ptr 5 gy 0), (8, .ptr 6 gr 0), (9, .ptr 7 go 0), (27, .i n)], [.row g0 [.sc (.int .i64 (tableTo s4 op x y out n).vars), .ref 1 gc 0 (tableTo s4 op x y out n).cl.length 1, c2, c3, c4, .mp 2 g2, .mp 3 g3], .row gc (Qq (tableTo s4 op x y out n).cl), .mapb g2 (Wg m), .mapb g3 sn, .row gx (Qq x), .row gy (Qq y), .row gr [.i 0, .i 0, .i 0, .i 0], .row go (Qq out)]⟩) (fun n gc => n <= 256 /\ (gc = g1 \/ E.N < gc)) (fun n _ => 256 - n) 0 gc ?_ ⟨by omega, hgc⟩ ?_
 ·exact zal rfl
 intro n gd ⟨hn, hgd⟩
 obtain ⟨hokn, hvn⟩ := htb n
 (repeat' first | refine QG rfl rfl ?_ | refine Qe ?_ | refine Qp rfl ?_ | refine Qf ?_ | refine Qa ?_)
 refine QE rfl (fun h => ?_) (fun h => ?_)
 ·have e16 : (n : Int) / 2 ^ min (Int.toNat 4) IntKind.i64.bits = (n : Int) / 16 := rfl
  have hs1 : tableTo s4 op x y out (n + 1) = addTo (tableTo s4 op x y out n) out (otherTo x y ((n : Int) % 16) ((n : Int) / 16) 4) (opM op ((n : Int) % 16) ((n : Int) / 16)).1 4 := rfl
  have hu0 : 0 <= (n : Int) % 16 /\ (n : Int) % 16 <= 15 := by omega
  have hv0' : 0 <= (n : Int) / 16 /\ (n : Int) / 16 <= 15 := by omega
  (repeat' first | refine Qt rfl ?_ | refine Qv rfl ?_ | refine s_rem rfl rfl (by first | omega | exact nn_shr (by omega)) (by omega) ?_ | refine s_shr rfl rfl (by omega) ?_ | refine Qe ?_ | refine Qp rfl ?_ | refine Qf ?_ | refine Qa ?_ | refine Qg ?_ | refine Qj ?_)
  rw [e16]
  generalize (n : Int) % 16 = u at *
  generalize (n : Int) / 16 = v at *
  refine r_own 14 1 rfl fun gt0 hgt0 => ?_
  refine r_loopg (fun (i : Nat) g => ⟨[(0, .ptr 0 g0 0), (1, .i op), (6, .ptr 4 gx 0), (7, .ptr 5 gy 0), (8, .ptr 6 gr 0), (9, .ptr 7 go 0), (27, .i n), (12, .i u), (13, .i v), (34, .i i), (14, .ref 8 g 0 (otherTo x y u v i).length 1)], [.row g0 [.sc (.int .i64 (tableTo s4 op x y out n).vars), .ref 1 gd 0 (tableTo s4 op x y out n).cl.length 1, c2, c3, c4, .mp 2 g2, .mp 3 g3], .row gd (Qq (tableTo s4 op x y out n).cl), .mapb g2 (Wg m), .mapb g3 sn, .row gx (Qq x), .row gy (Qq y), .row gr [.i 0, .i 0, .i 0, .i 0], .row go (Qq out), .row g (Qq (otherTo x y u v i))]⟩) (fun i => i <= 4) (fun i => 4 - i) 0 gt0 hgt0 ?_ (by omega) ?_
  ·exact zal rfl
  intro i gt hgt hi
  have hotl := otherTo_len x y u v i
  (repeat' first | refine QG rfl rfl ?_ | refine Qe ?_ | refine Qp rfl ?_ | refine Qf ?_ | refine Qa ?_)
  refine QE rfl (fun h => ?_) (fun h => ?_)
  ·have hiX : i < x.length := by omega
   have hiY : i < y.length := by omega
   have hss : otherTo x y u v (i + 1) = otherTo x y u v i ++ [x[i] * (1 - 2 * bitN u i), y[i] * (1 - 2 * bitN v i)] := by
    rw [<- Ord.getD_lt hiX 0, <- Ord.getD_lt hiY 0]; rfl
   have bx := sgn_bd ((hXx _ (List.getElem_mem hiX)).big hok) (bitN_01 u i)
   have by' := sgn_bd ((hYy _ (List.getElem_mem hiY)).big hok) (bitN_01 v i)
   have tx := two_bd (bitN_01 u i)
   have ty := two_bd (bitN_01 v i)
   have sx : -9223372036854775808 <= 1 - 2 * bitN u i /\ 1 - 2 * bitN u i <= 9223372036854775807 := by rcases bitN_01 u i with h | h <;> rw [h] <;> omega
   have sy : -9223372036854775808 <= 1 - 2 * bitN v i /\ 1 - 2 * bitN v i <= 9223372036854775807 := by rcases bitN_01 v i with h | h <;> rw [h] <;> omega
   generalize otherTo x y u v i = ot at *
   generalize tableTo s4 op x y out n = p at *
   clear htb hs1 hlo hXx hYy
   (repeat' first | refine Qt rfl ?_ | refine Qv rfl ?_ | refine QS rfl rfl (by omega) ?_ | refine s_app_r (xs := [x[i]'hiX * (1 - 2 * bitN u i), y[i]'hiY * (1 - 2 * bitN v i)]) rfl rfl rfl rfl rfl rfl rfl (by first | omega | (simp; omega)) (by first | omega | (simp; omega)) (fun _ => rfl) (fun _ _ => ?_) | refine Wl rfl rfl (by decide) rfl ?_ | refine Qe ?_ | refine Qp rfl ?_ | refine Qf ?_ | refine Qa ?_ | refine Qg ?_ | (refine Wa ?_; first | (refine Wu (fun p => p.1 :: p.2.1 :: p.2.2.1 :: p.2.2.2.1 :: .row gx (Qq x) :: .row gy (Qq y) :: p.2.2.2.2.1 :: .row go (Qq out) :: p.2.2.2.2.2) 17 [(0, true), (1, true), (3, true), (4, true), (5, true), (6, true), (8, true), (2, false), (7, true), (9, true), (10, true), (11, true), (12, true), (13, true), (14, true), (15, false), (16, false)] (by rfl) (by rfl) (by kernel_rfl) (by decide +kernel) (by decide +kernel) ⟨(_, _, _, _, _, _), rfl⟩ ?_) | (refine Wu (fun p => p.1 :: p.2.1 :: p.2.2.1 :: p.2.2.2.1 :: .row gx (Qq x) :: .row gy (Qq y) :: p.2.2.2.2.1 :: .row go (Qq out) :: p.2.2.2.2.2) 24 [(0, true), (1, true), (2, true), (3, true), (4, true), (5, true), (6, true), (7, true), (8, true), (9, true), (10, true), (11, true), (12, true), (13, true), (14, true), (15, true), (16, true), (17, true), (18, true), (19, true), (20, true), (21, false), (22, false), (23, true)] (by rfl) (by rfl) (by kernel_rfl) (by decide +kernel) (by decide +kernel) ⟨(_, _, _, _, _, _), rfl⟩ ?_) | refine Wj (by rfl) (by kernel_rfl) (by kernel_rfl) ?_ | refine QT (by kernel_rfl) (by kernel_rfl) ?_) | refine Qj ?_ | refine i_nil ?_ | refine i_st rfl rfl (fun _ => (by (repeat' first | refine Qt rfl ?_ | refine Qv rfl ?_ | refine Q9 rfl rfl rfl (by first | assumption | omega) rfl ?_ | refine WB rfl rfl rfl (by omega) ?_ | refine Z2 rfl rfl (by assumption) ?_ | refine Zn rfl rfl (by assumption) ?_ | refine s_and rfl rfl ?_ | refine s_shr rfl rfl (by omega) ?_ | exact ⟨rfl, rfl⟩))) ?_ | refine i_ef rfl ?_ | refine And.intro (Exists.intro ((_, _, _, _, _, _)) rfl) ?_)
   rename_i gz hgz
   refine ⟨i + 1, gz, by omega, by omega, by omega, ?_⟩
   rw [hss]
   exact zal rfl
  have hi4 : i = 4 := by omega
  subst hi4
  have hcl := addTo_ok hokn out (otherTo x y u v 4) (opM op u v).1
  refine r_pub 14 rfl rfl (by rw [Qz]; rfl) rfl ?_
  have hop := wOp_c (G := G) hG op u v hop
  have hot := otherTo_len x y u v 4
  (repeat' first | refine Qt rfl ?_ | refine Qv rfl ?_ | refine QZ rfl rfl (hop) ?_ | refine Wh rfl rfl rfl ?_ | refine Qe ?_ | refine Qp rfl ?_ | refine Qf ?_ | refine Qa ?_ | refine Qg ?_ | refine QU rfl ?_)
  generalize otherTo x y u v 4 = other at *
  generalize (opM op u v).1 = r at *
  generalize tableTo s4 op x y out n = p at *
  clear htb hXx hYy hop
  refine qb (fun (i gc : Nat) => ⟨[(0, .ptr 0 g0 0), (1, .i op), (6, .ptr 4 gx 0), (7, .ptr 5 gy 0), (8, .ptr 6 gr 0), (9, .ptr 7 go 0), (27, .i n), (14, Qy other), (16, .i r), (68, .i i)], [.row g0 [.sc (.int .i64 (addTo p out other r i).vars), .ref 1 gc 0 (addTo p out other r i).cl.length 1, c2, c3, c4, .mp 2 g2, .mp 3 g3], .row gc (Qq (addTo p out other r i).cl), .mapb g2 (Wg m), .mapb g3 sn, .row gx (Qq x), .row gy (Qq y), .row gr [.i 0, .i 0, .i 0, .i 0], .row go (Qq out), .gone]⟩) (fun i gc => i <= 4 /\ (gc = g1 \/ E.N < gc)) (fun i _ => 4 - i) 0 gd ?_ ⟨by omega, hgd⟩ ?_
  ·exact zal rfl
  intro i ge ⟨hi, hge⟩
  obtain ⟨hok, hvi⟩ := hcl i
  (repeat' first | refine QG rfl rfl ?_ | refine Qe ?_ | refine Qp rfl ?_ | refine Qf ?_ | refine Qa ?_)
  refine QE rfl (fun h => ?_) (fun h => ?_)
  ·have hiO : i < out.length := by omega
   have hss : addTo p out other r (i + 1) = add (addTo p out other r i) (other ++ [out[i] * (2 * bitN (ZC r) i - 1)]) := by
    rw [<- Ord.getD_lt hiO 0]; rfl
   have bo := sgn_bd' ((hlo _ (List.getElem_mem hiO)).big hok4) (bitN_01 (ZC r) i)
   have t1 := two_bd (bitN_01 (ZC r) i)
   have t2 : -9223372036854775808 <= 2 * bitN (ZC r) i - 1 /\ 2 * bitN (ZC r) i - 1 <= 9223372036854775807 := by rcases bitN_01 (ZC r) i with h | h <;> rw [h] <;> omega
   have hwr := wbits_bound r
   have hol2 : other.length <= 1073741824 := by omega
   have hol3 : (other ++ [out[i] * (2 * bitN (ZC r) i - 1)]).length <= 1048576 := by rw [List.length_append, hot]; show 2 * 4 + 1 <= 1048576; omega
   generalize addTo p out other r i = q at *
   clear hlo hcl
   (repeat' first | refine Qt rfl ?_ | refine Qv rfl ?_ | refine QS rfl rfl (by omega) ?_ | refine s_app1 rfl rfl rfl rfl rfl rfl rfl (by first | omega | (simp; omega)) (by first | omega | (simp; omega)) (fun _ => rfl) (fun _ _ => ?_) | refine s_call_o rfl rfl (cloneI_c _ hol2) (by first | exact Qk _) (fun _ _ => ?_) | refine qn rfl rfl (add_c _ hok _ hol3) rfl (by assumption) (by assumption) (by assumption) (by assumption) (by assumption) (by rfl) (by rfl) (by rfl) (by rfl) (by rfl) (by rfl) (fun _ _ => ?_) | refine Qe ?_ | refine Qp rfl ?_ | refine Qf ?_ | refine Qa ?_ | refine Qg ?_ | (refine Wa ?_; first | (refine Wu (fun p => p.1 :: p.2.1 :: p.2.2.1 :: p.2.2.2.1 :: .row gx (Qq x) :: .row gy (Qq y) :: p.2.2.2.2.1 :: .row go (Qq out) :: p.2.2.2.2.2) 17 [(0, true), (1, true), (3, true), (4, true), (5, true), (6, true), (8, true), (2, false), (7, true), (9, true), (10, true), (11, true), (12, true), (13, true), (14, true), (15, false), (16, false)] (by rfl) (by rfl) (by kernel_rfl) (by decide +kernel) (by decide +kernel) ⟨(_, _, _, _, _, _), rfl⟩ ?_) | (refine Wu (fun p => p.1 :: p.2.1 :: p.2.2.1 :: p.2.2.2.1 :: .row gx (Qq x) :: .row gy (Qq y) :: p.2.2.2.2.1 :: .row go (Qq out) :: p.2.2.2.2.2) 24 [(0, true), (1, true), (2, true), (3, true), (4, true), (5, true), (6, true), (7, true), (8, true), (9, true), (10, true), (11, true), (12, true), (13, true), (14, true), (15, true), (16, true), (17, true), (18, true), (19, true), (20, true), (21, false), (22, false), (23, true)] (by rfl) (by rfl) (by kernel_rfl) (by decide +kernel) (by decide +kernel) ⟨(_, _, _, _, _, _), rfl⟩ ?_) | refine Wj (by rfl) (by kernel_rfl) (by kernel_rfl) ?_ | refine QT (by kernel_rfl) (by kernel_rfl) ?_) | refine Qj ?_ | refine i_nil ?_ | refine i_st rfl rfl (fun _ => (by (repeat' first | refine Qt rfl ?_ | refine Q9 rfl rfl rfl (by first | assumption | omega) rfl ?_ | refine WB rfl rfl rfl (by omega) ?_ | refine Z2 rfl rfl (by assumption) ?_ | refine Zn rfl rfl (by assumption) ?_ | refine s_and rfl rfl ?_ | refine s_shr rfl rfl (by omega) ?_ | refine QZ rfl rfl (wBits_c _) ?_ | refine Wl rfl rfl (by decide) rfl ?_ | exact ⟨rfl, rfl⟩))) ?_ | refine i_ef rfl ?_ | refine And.intro (Exists.intro ((_, _, _, _, _, _)) rfl) ?_)
   rename_i ga hga
   refine ⟨i + 1, ga, ⟨by omega, by omega⟩, by omega, ?_⟩
   rw [hss]
   exact zal rfl
  ·have hi4 : i = 4 := by omega
   subst hi4
   (repeat' first | refine Qt rfl ?_ | refine QS rfl rfl (by omega) ?_ | refine Qe ?_ | refine Qp rfl ?_ | refine Qa ?_ | refine QU rfl ?_)
   refine ⟨n + 1, ge, ⟨by omega, by omega⟩, by omega, ?_⟩
   rw [hs1]
   exact zal rfl
 ·have hn4 : n = 256 := by omega
  subst hn4
  have w1 : (Qq out).length = 4 := by rw [Qz, hol]; rfl
  clear htb
  generalize tableTo s4 op x y out 256 = pq at *
  (repeat' first | refine Qu rfl rfl (by first | assumption | rfl) ?_ | refine Ql rfl rfl rfl (by first | assumption | rfl) (by first | assumption | rfl) rfl ?_ | refine Qe ?_ | refine Qp rfl ?_ | refine Q0 ?_ | refine Qf ?_ | refine Qa ?_ | refine QU rfl ?_ | refine Qm ?_)
  exact e_1 (Tryd.results106) (QY (size := 4) rfl rfl (Q4 w1) w1) (QC (σ := [_, _, _, _]) (r := [_, _, _, _]) ⟨rfl, gd, by omega, rfl⟩)
end Go.Proofs
end
section
namespace Go.Proofs
open Go.Bl
section
variable {base : Int -> Prop} {p : Prop}
theorem _root_.Go.Bl.GoodB.fresh2 {a : Nat -> Bool} {s : St} {f : Int} (h : GoodB base p f a s) (hf : f <= s.vars) (b : Bool) : GoodB base p f (WH a (s.vars + 1) b) (fresh s) := by
 have hag : Agree s.vars a (WH a (s.vars + 1) b) := ZJ
 have h1 := h.v1
 refine ⟨by show 1 <= s.vars + 1; omega, by rw [hag 1 (by omega)]; exact h.t, fun c hc hp => ?_, fun c hc y hy => (h.lits c hc y hy).mono (by show s.vars <= s.vars + 1; omega), fun v hv1 hv2 => (h.force v hv1 hv2).imp id fun hf => ?_⟩
 ·obtain ⟨y, hy, ht⟩ := h.sat c hc hp
  exact ⟨y, hy, by rw [Zr hag (h.lits c hc y hy)]; exact ht⟩
 ·obtain ⟨c, hc, hm, ho⟩ := hf
  have e : al (WH a (s.vars + 1) b) v = al a v := by unfold al; rw [hag v.toNat (by omega)]
  refine ⟨c, hc, by rw [e]; exact hm, fun y hy => ?_⟩
  rw [e, Zr hag (h.lits c hc y hy)]
  exact ho y hy
def Mat (f : Nat -> Bool) (u : Int) : Prop := ∀ i, i < 4 -> f i = decide (bitN u i = 1)
def valB (f : Nat -> Bool) : Int := (if f 0 = true then 1 else 0) + (if f 1 = true then 2 else 0) + (if f 2 = true then 4 else 0) + (if f 3 = true then 8 else 0)
theorem valB_bd (f : Nat -> Bool) : 0 <= valB f /\ valB f < 16 := by
 unfold valB
 split <;> split <;> split <;> split <;> omega
theorem mat_val (f : Nat -> Bool) : Mat f (valB f) := fun i hi => by
 have h : i = 0 \/ i = 1 \/ i = 2 \/ i = 3 := by omega
 unfold valB
 cases h0 : f 0 <;> cases h1 : f 1 <;> cases h2 : f 2 <;> cases h3 : f 3 <;> rcases h with rfl | rfl | rfl | rfl <;> first | (rw [h0]; decide) | (rw [h1]; decide) | (rw [h2]; decide) | (rw [h3]; decide)
theorem val_mat {f : Nat -> Bool} {u : Int} (hu : 0 <= u /\ u < 16) (h : Mat f u) : u = valB f := by
 have h0 := h 0 (by omega)
 have h1 := h 1 (by omega)
 have h2 := h 2 (by omega)
 have h3 := h 3 (by omega)
 unfold valB
 rw [h0, h1, h2, h3]
 have : u = 0 \/ u = 1 \/ u = 2 \/ u = 3 \/ u = 4 \/ u = 5 \/ u = 6 \/ u = 7 \/ u = 8 \/ u = 9 \/ u = 10 \/ u = 11 \/ u = 12 \/ u = 13 \/ u = 14 \/ u = 15 := by omega
 clear h h0 h1 h2 h3 hu
 rcases this with rfl | rfl | rfl | rfl | rfl | rfl | rfl | rfl | rfl | rfl | rfl | rfl | rfl | rfl | rfl | rfl <;> decide
theorem lit_sem {a : Nat -> Bool} {n x b : Int} {v : Bool} (hx : Lt n x /\ ltv a x = v) (hb : b = 0 \/ b = 1) : Lt n (x * (1 - 2 * b)) /\ ltv a (x * (1 - 2 * b)) = (v != decide (b = 1)) := by
 obtain ⟨h1, h2⟩ := hx
 rcases hb with rfl | rfl
 ·rw [show x * (1 - 2 * 0) = x by omega]
  exact ⟨h1, by rw [h2]; cases v <;> rfl⟩
 ·rw [show x * (1 - 2 * 1) = -x by omega]
  exact ⟨h1.neg, by rw [WS h1.1, h2]; cases v <;> rfl⟩
theorem other_eq (x y : List Int) (u v : Int) : otherTo x y u v 4 = [x.getD 0 0 * (1 - 2 * bitN u 0), y.getD 0 0 * (1 - 2 * bitN v 0), x.getD 1 0 * (1 - 2 * bitN u 1), y.getD 1 0 * (1 - 2 * bitN v 1), x.getD 2 0 * (1 - 2 * bitN u 2), y.getD 2 0 * (1 - 2 * bitN v 2), x.getD 3 0 * (1 - 2 * bitN u 3), y.getD 3 0 * (1 - 2 * bitN v 3)] := rfl
theorem other_mem {x y : List Int} {u v z : Int} : z ∈ otherTo x y u v 4 ↔ ∃ i, i < 4 /\ (z = x.getD i 0 * (1 - 2 * bitN u i) \/ z = y.getD i 0 * (1 - 2 * bitN v i)) := by
 rw [other_eq]
 simp only [List.mem_cons, List.not_mem_nil, or_false]
 constructor
 ·rintro (h | h | h | h | h | h | h | h)
  ·exact ⟨0, by omega, .inl h⟩
  ·exact ⟨0, by omega, .inr h⟩
  ·exact ⟨1, by omega, .inl h⟩
  ·exact ⟨1, by omega, .inr h⟩
  ·exact ⟨2, by omega, .inl h⟩
  ·exact ⟨2, by omega, .inr h⟩
  ·exact ⟨3, by omega, .inl h⟩
  ·exact ⟨3, by omega, .inr h⟩
 ·rintro ⟨i, hi, h⟩
  have hi : i = 0 \/ i = 1 \/ i = 2 \/ i = 3 := by omega
  rcases hi with rfl | rfl | rfl | rfl <;> rcases h with h | h <;> simp [h]
theorem other_lt {a : Nat -> Bool} {n : Int} {x y : List Int} {f h : Nat -> Bool} (hx : Bits4 a n x f) (hy : Bits4 a n y h) {u v z : Int} (hz : z ∈ otherTo x y u v 4) : Lt n z := by
 obtain ⟨i, hi, rfl | rfl⟩ := other_mem.1 hz
 ·exact (lit_sem (hx i hi) (bitN_01 u i)).1
 ·exact (lit_sem (hy i hi) (bitN_01 v i)).1
theorem other_false {a : Nat -> Bool} {n : Int} {x y : List Int} {f h : Nat -> Bool} (hx : Bits4 a n x f) (hy : Bits4 a n y h) {u v z : Int} (hu : Mat f u) (hv : Mat h v) (hz : z ∈ otherTo x y u v 4) : ltv a z = false := by
 obtain ⟨i, hi, rfl | rfl⟩ := other_mem.1 hz
 ·rw [(lit_sem (hx i hi) (bitN_01 u i)).2, hu i hi]; simp
 ·rw [(lit_sem (hy i hi) (bitN_01 v i)).2, hv i hi]; simp
theorem other_true {a : Nat -> Bool} {n : Int} {x y : List Int} {f h : Nat -> Bool} (hx : Bits4 a n x f) (hy : Bits4 a n y h) {u v : Int} (hn : ¬(Mat f u /\ Mat h v)) : ∃ z ∈ otherTo x y u v 4, ltv a z = true := by
 apply Classical.byContradiction
 intro hno
 refine hn ⟨fun i hi => ?_, fun i hi => ?_⟩
 ·have := (lit_sem (hx i hi) (bitN_01 u i)).2
  have h2 : ltv a (x.getD i 0 * (1 - 2 * bitN u i)) ≠ true := fun e => hno ⟨_, other_mem.2 ⟨i, hi, .inl rfl⟩, e⟩
  rw [this] at h2
  revert h2
  cases f i <;> cases decide (bitN u i = 1) <;> simp
 ·have := (lit_sem (hy i hi) (bitN_01 v i)).2
  have h2 : ltv a (y.getD i 0 * (1 - 2 * bitN v i)) ≠ true := fun e => hno ⟨_, other_mem.2 ⟨i, hi, .inr rfl⟩, e⟩
  rw [this] at h2
  revert h2
  cases h i <;> cases decide (bitN v i = 1) <;> simp
def tabB (op : Int) (f h : Nat -> Bool) (i : Nat) : Bool := decide (bitN (ZC (opM op (valB f) (valB h)).1) i = 1)
theorem addTo_le (s : St) (out other : List Int) (r : Int) : ∀ i, Le s (addTo s out other r i)
 | 0 => .refl s
 | i + 1 => (addTo_le s out other r i).trans (Z9 _ _)
theorem addTo_vars (s : St) (out other : List Int) (r : Int) : ∀ i, (addTo s out other r i).vars = s.vars
 | 0 => rfl
 | i + 1 => (WG _ _).trans (addTo_vars s out other r i)
theorem addTo_sub (s : St) (out other : List Int) (r : Int) : ∀ i, ∀ c ∈ s.cl, c ∈ (addTo s out other r i).cl
 | 0, c, h => h
 | i + 1, c, h => Z8 _ _ c (addTo_sub s out other r i c h)
theorem tableTo_vars (s : St) (op : Int) (x y out : List Int) : ∀ n, (tableTo s op x y out n).vars = s.vars
 | 0 => rfl
 | n + 1 => (addTo_vars _ _ _ _ _).trans (tableTo_vars s op x y out n)
theorem bit_lit {b : Int} (hb : b = 0 \/ b = 1) (v : Int) : v * (2 * b - 1) = if b = 1 then v else -v := by
 rcases hb with rfl | rfl
 ·rw [if_neg (by decide)]; omega
 ·rw [if_pos rfl]; omega
theorem addTo_sem {a : Nat -> Bool} {s : St} {g0 : Int} {out other : List Int} {r : Int} {m : Bool} (g : GoodB base p g0 a s) (hg0 : g0 <= s.vars) (h2 : 1 <= g0)
  (hout : ∀ i : Nat, i < 4 -> out.getD i 0 = g0 + 1 + (i : Int) /\ g0 + 1 + (i : Int) <= s.vars) (hol : ∀ z ∈ other, Lt g0 z)
  (hm : if m = true then (∀ z ∈ other, ltv a z = false) /\ ∀ i : Nat, i < 4 -> ltv a (g0 + 1 + (i : Int)) = decide (bitN (ZC r) i = 1) else ∃ z ∈ other, ltv a z = true) :
  ∀ i, i <= 4 -> Zy (addTo s out other r i) = false -> GoodB base p g0 a (addTo s out other r i) /\ (m = true -> ∀ j : Nat, j < i -> Forced a (addTo s out other r i).cl (g0 + 1 + (j : Int)))
 | 0, _, nf => ⟨g, fun _ j hj => absurd hj (by omega)⟩
 | i + 1, hi, nf => by
  have n0 : Zy (addTo s out other r i) = false := (Z9 _ _).nf nf
  obtain ⟨ih1, ih2⟩ := addTo_sem g hg0 h2 hout hol hm i (by omega) n0
  have hv := addTo_vars s out other r i
  obtain ⟨ho1, ho2⟩ := hout i (by omega)
  have hb := bitN_01 (ZC r) i
  have hlit := bit_lit hb (g0 + 1 + (i : Int))
  show GoodB base p g0 a (Bl.add _ _) /\ _
  rw [ho1]
  have hL : ∀ z ∈ other ++ [(g0 + 1 + (i : Int)) * (2 * bitN (ZC r) i - 1)], Lt s.vars z := fun z hz => by
   rcases List.mem_append.1 hz with hz | hz
   ·exact (hol z hz).mono hg0
   ·rw [List.mem_singleton.1 hz, hlit]
    split
    ·exact ⟨by omega, by omega, by omega⟩
    ·exact ⟨by omega, by omega, by omega⟩
  have hT : m = true -> ltv a ((g0 + 1 + (i : Int)) * (2 * bitN (ZC r) i - 1)) = true /\ (g0 + 1 + (i : Int)) * (2 * bitN (ZC r) i - 1) = al a (g0 + 1 + (i : Int)) := fun hmt => by
   rw [if_pos hmt] at hm
   have hvi := hm.2 i (by omega)
   rw [hlit, al_of (by omega), hvi]
   by_cases hb1 : bitN (ZC r) i = 1
   ·rw [if_pos hb1, if_pos (decide_eq_true hb1), hvi]
    exact ⟨decide_eq_true hb1, rfl⟩
   ·rw [if_neg hb1, if_neg (by simp [hb1]), WS (by omega), hvi]
    exact ⟨by simp [hb1], rfl⟩
  refine ⟨ih1.add n0 (fun z hz => by rw [hv]; exact hL z hz) fun _ => ?_, fun hmt j hj => ?_⟩
  ·cases hmv : m with
   | true => exact ⟨_, List.mem_append.2 (.inr (List.mem_singleton.2 rfl)), (hT hmv).1⟩
   | false =>
    rw [hmv, if_neg (by decide)] at hm
    obtain ⟨z, hz, hzt⟩ := hm
    exact ⟨z, List.mem_append.2 (.inl hz), hzt⟩
  ·show Forced a (Bl.add (addTo s out other r i) (other ++ [out.getD i 0 * (2 * bitN (ZC r) i - 1)])).cl _
   rw [ho1]
   by_cases hji : j = i
   ·subst hji
    have hmp := hm
    rw [if_pos hmt] at hmp
    have ht := hT hmt
    have hne : ∀ z ∈ other, z ≠ 1 := fun z hz e => by
     have := hmp.1 z hz
     rw [e, ltv_one g.t] at this
     cases this
    refine ZY n0 (by omega) (fun h1 => ?_) (List.mem_append.2 (.inr (List.mem_singleton.2 ht.2.symm))) fun z hz => ?_
    ·rcases List.mem_append.1 h1 with h1 | h1
     ·exact hne 1 h1 rfl
     ·have h1 := List.mem_singleton.1 h1
      rw [hlit] at h1
      split at h1 <;> omega
    ·rcases List.mem_append.1 hz with hz | hz
     ·obtain ⟨q1, q2, q3⟩ := hol z hz
      exact .inr ⟨hmp.1 z hz, by omega, by omega⟩
     ·exact .inl ((List.mem_singleton.1 hz).trans ht.2)
   ·exact (ih2 hmt j (by omega)).mono (Z8 _ _)
theorem tableTo_sem {a : Nat -> Bool} {s : St} {g0 op : Int} {out x y : List Int} {f h : Nat -> Bool} (g : GoodB base p g0 a s) (hg0 : g0 <= s.vars) (h2 : 1 <= g0)
  (hout : ∀ i : Nat, i < 4 -> out.getD i 0 = g0 + 1 + (i : Int) /\ g0 + 1 + (i : Int) <= s.vars) (hx : Bits4 a g0 x f) (hy : Bits4 a g0 y h) (hres : ∀ i : Nat, i < 4 -> ltv a (g0 + 1 + (i : Int)) = tabB op f h i) :
  ∀ n : Nat, n <= 256 -> Zy (tableTo s op x y out n) = false -> GoodB base p g0 a (tableTo s op x y out n) /\ (valB f + 16 * valB h < n -> ∀ j : Nat, j < 4 -> Forced a (tableTo s op x y out n).cl (g0 + 1 + (j : Int)))
 | 0, _, nf => ⟨g, fun hn => by have := (valB_bd f).1; have := (valB_bd h).1; omega⟩
 | n + 1, hn, nf => by
  have n0 : Zy (tableTo s op x y out n) = false := (addTo_le _ _ _ _ _).nf nf
  obtain ⟨ih1, ih2⟩ := tableTo_sem g hg0 h2 hout hx hy hres n (by omega) n0
  have hv := tableTo_vars s op x y out n
  have hu : 0 <= (n : Int) % 16 /\ (n : Int) % 16 < 16 := by omega
  have hw : 0 <= (n : Int) / 16 /\ (n : Int) / 16 < 16 := by omega
  have hol : ∀ z ∈ otherTo x y ((n : Int) % 16) ((n : Int) / 16) 4, Lt g0 z := fun z hz => other_lt hx hy hz
  have hfb := valB_bd f
  have hhb := valB_bd h
  by_cases hm : Mat f ((n : Int) % 16) /\ Mat h ((n : Int) / 16)
  ·have e1 := val_mat hu hm.1
   have e2 := val_mat hw hm.2
   have q := addTo_sem (m := true) (r := (opM op ((n : Int) % 16) ((n : Int) / 16)).1) ih1 (by rw [hv]; exact hg0) h2 (fun i hi => by rw [hv]; exact hout i hi) hol (by
    rw [if_pos rfl]
    refine ⟨fun z hz => other_false hx hy hm.1 hm.2 hz, fun i hi => ?_⟩
    rw [hres i hi]
    unfold tabB
    rw [<- e1, <- e2]) 4 (by omega) nf
   exact ⟨q.1, fun _ => q.2 rfl⟩
  ·have q := addTo_sem (m := false) (r := (opM op ((n : Int) % 16) ((n : Int) / 16)).1) ih1 (by rw [hv]; exact hg0) h2 (fun i hi => by rw [hv]; exact hout i hi) hol (by
    rw [if_neg (by decide)]
    exact other_true hx hy hm) 4 (by omega) nf
   refine ⟨q.1, fun hlt j hj => (ih2 ?_ j hj).mono (addTo_sub _ _ _ _ _)⟩
   by_cases hne : valB f + 16 * valB h = (n : Int)
   ·exfalso
    refine hm ⟨?_, ?_⟩
    ·rw [show (n : Int) % 16 = valB f by omega]; exact mat_val f
    ·rw [show (n : Int) / 16 = valB h by omega]; exact mat_val h
   ·omega
theorem freshTo_eq (s : St) : (freshTo s 4).1 = [s.vars + 1, s.vars + 1 + 1, s.vars + 1 + 1 + 1, s.vars + 1 + 1 + 1 + 1] /\ (freshTo s 4).2 = fresh (fresh (fresh (fresh s))) := ⟨rfl, rfl⟩
theorem setA1_keep {a : Nat -> Bool} {v w : Int} {b : Bool} (h : w ≠ v) (hw : 0 < w) : ltv (WH a v b) w = ltv a w := by
 unfold ltv WH
 rw [if_pos hw, if_pos hw, if_neg (by omega)]
theorem table_sem {a : Nat -> Bool} {s : St} {op : Int} {x y : List Int} {f h : Nat -> Bool} (g : GoodB base p s.vars a s) (hx : Bits4 a s.vars x f) (hy : Bits4 a s.vars y h) (nf : Zy (tableTo (freshTo s 4).2 op x y (freshTo s 4).1 256) = false) :
  ∃ a', Ext base p a s a' (tableTo (freshTo s 4).2 op x y (freshTo s 4).1 256) /\ Bits4 a' (tableTo (freshTo s 4).2 op x y (freshTo s 4).1 256).vars (freshTo s 4).1 (tabB op f h) := by
 have h1 := g.v1
 have g1 := g.fresh2 (Int.le_refl _) (tabB op f h 0)
 have g2 := g1.fresh2 (by show s.vars <= s.vars + 1; omega) (tabB op f h 1)
 have g3 := g2.fresh2 (by show s.vars <= s.vars + 1 + 1; omega) (tabB op f h 2)
 have g4 := g3.fresh2 (by show s.vars <= s.vars + 1 + 1 + 1; omega) (tabB op f h 3)
 have a1 : Agree s.vars a (WH a (s.vars + 1) (tabB op f h 0)) := ZJ
 have a2 : Agree (s.vars + 1) _ (WH (WH a (s.vars + 1) (tabB op f h 0)) (s.vars + 1 + 1) (tabB op f h 1)) := ZJ
 have a3 : Agree (s.vars + 1 + 1) _ (WH (WH (WH a (s.vars + 1) (tabB op f h 0)) (s.vars + 1 + 1) (tabB op f h 1)) (s.vars + 1 + 1 + 1) (tabB op f h 2)) := ZJ
 have a4 : Agree (s.vars + 1 + 1 + 1) _ (WH (WH (WH (WH a (s.vars + 1) (tabB op f h 0)) (s.vars + 1 + 1) (tabB op f h 1)) (s.vars + 1 + 1 + 1) (tabB op f h 2)) (s.vars + 1 + 1 + 1 + 1) (tabB op f h 3)) := ZJ
 have ag : Agree s.vars a _ := ((a1.trans a2 (by omega)).trans a3 (by omega)).trans a4 (by omega)
 have v0 : ltv (WH (WH (WH (WH a (s.vars + 1) (tabB op f h 0)) (s.vars + 1 + 1) (tabB op f h 1)) (s.vars + 1 + 1 + 1) (tabB op f h 2)) (s.vars + 1 + 1 + 1 + 1) (tabB op f h 3)) (s.vars + 1) = tabB op f h 0 := by
  rw [setA1_keep (by omega) (by omega), setA1_keep (by omega) (by omega), setA1_keep (by omega) (by omega), setA1_ltv (by omega)]
 have v1 : ltv (WH (WH (WH (WH a (s.vars + 1) (tabB op f h 0)) (s.vars + 1 + 1) (tabB op f h 1)) (s.vars + 1 + 1 + 1) (tabB op f h 2)) (s.vars + 1 + 1 + 1 + 1) (tabB op f h 3)) (s.vars + 1 + 1) = tabB op f h 1 := by
  rw [setA1_keep (by omega) (by omega), setA1_keep (by omega) (by omega), setA1_ltv (by omega)]
 have v2 : ltv (WH (WH (WH (WH a (s.vars + 1) (tabB op f h 0)) (s.vars + 1 + 1) (tabB op f h 1)) (s.vars + 1 + 1 + 1) (tabB op f h 2)) (s.vars + 1 + 1 + 1 + 1) (tabB op f h 3)) (s.vars + 1 + 1 + 1) = tabB op f h 2 := by
  rw [setA1_keep (by omega) (by omega), setA1_ltv (by omega)]
 have v3 : ltv (WH (WH (WH (WH a (s.vars + 1) (tabB op f h 0)) (s.vars + 1 + 1) (tabB op f h 1)) (s.vars + 1 + 1 + 1) (tabB op f h 2)) (s.vars + 1 + 1 + 1 + 1) (tabB op f h 3)) (s.vars + 1 + 1 + 1 + 1) = tabB op f h 3 := setA1_ltv (by omega)
 change GoodB base p s.vars (WH (WH (WH (WH a (s.vars + 1) (tabB op f h 0)) (s.vars + 1 + 1) (tabB op f h 1)) (s.vars + 1 + 1 + 1) (tabB op f h 2)) (s.vars + 1 + 1 + 1 + 1) (tabB op f h 3)) (fresh (fresh (fresh (fresh s)))) at g4
 generalize WH (WH (WH (WH a (s.vars + 1) (tabB op f h 0)) (s.vars + 1 + 1) (tabB op f h 1)) (s.vars + 1 + 1 + 1) (tabB op f h 2)) (s.vars + 1 + 1 + 1 + 1) (tabB op f h 3) = b at *
 obtain ⟨e1, e2⟩ := freshTo_eq s
 have evv : (fresh (fresh (fresh (fresh s)))).vars = s.vars + 1 + 1 + 1 + 1 := rfl
 rw [e1, e2] at nf ⊢
 have hv := tableTo_vars (fresh (fresh (fresh (fresh s)))) op x y [s.vars + 1, s.vars + 1 + 1, s.vars + 1 + 1 + 1, s.vars + 1 + 1 + 1 + 1] 256
 have hx' : Bits4 b s.vars x f := fun i hi => ⟨(hx i hi).1, by rw [Zr ag (hx i hi).1]; exact (hx i hi).2⟩
 have hy' : Bits4 b s.vars y h := fun i hi => ⟨(hy i hi).1, by rw [Zr ag (hy i hi).1]; exact (hy i hi).2⟩
 have hcase : ∀ {Q : Nat -> Prop}, Q 0 -> Q 1 -> Q 2 -> Q 3 -> ∀ i, i < 4 -> Q i := fun {Q} q0 q1 q2 q3 i hi => by
  have : i = 0 \/ i = 1 \/ i = 2 \/ i = 3 := by omega
  rcases this with rfl | rfl | rfl | rfl
  ·exact q0
  ·exact q1
  ·exact q2
  ·exact q3
 have hsh : ∀ i : Nat, i < 4 -> ([s.vars + 1, s.vars + 1 + 1, s.vars + 1 + 1 + 1, s.vars + 1 + 1 + 1 + 1] : List Int).getD i 0 = s.vars + 1 + (i : Int) := hcase (by show s.vars + 1 = s.vars + 1 + ((0 : Nat) : Int); omega) (by show s.vars + 1 + 1 = s.vars + 1 + ((1 : Nat) : Int); omega) (by show s.vars + 1 + 1 + 1 = s.vars + 1 + ((2 : Nat) : Int); omega) (by show s.vars + 1 + 1 + 1 + 1 = s.vars + 1 + ((3 : Nat) : Int); omega)
 have hres : ∀ i : Nat, i < 4 -> ltv b (s.vars + 1 + (i : Int)) = tabB op f h i := hcase (by rw [show s.vars + 1 + ((0 : Nat) : Int) = s.vars + 1 by omega]; exact v0) (by rw [show s.vars + 1 + ((1 : Nat) : Int) = s.vars + 1 + 1 by omega]; exact v1) (by rw [show s.vars + 1 + ((2 : Nat) : Int) = s.vars + 1 + 1 + 1 by omega]; exact v2) (by rw [show s.vars + 1 + ((3 : Nat) : Int) = s.vars + 1 + 1 + 1 + 1 by omega]; exact v3)
 obtain ⟨q1, q2⟩ := tableTo_sem g4 (by rw [evv]; omega) h1 (fun i hi => ⟨hsh i hi, by rw [evv]; omega⟩) hx' hy' hres 256 (Nat.le_refl _) nf
 have hfb := valB_bd f
 have hhb := valB_bd h
 have q3 := q2 (by omega)
 have u1 := q1.up (by have := q3 0 (by omega); rwa [show s.vars + 1 + ((0 : Nat) : Int) = s.vars + 1 by omega] at this)
 have u2 := u1.up (by have := q3 1 (by omega); rwa [show s.vars + 1 + ((1 : Nat) : Int) = s.vars + 1 + 1 by omega] at this)
 have u3 := u2.up (by have := q3 2 (by omega); rwa [show s.vars + 1 + ((2 : Nat) : Int) = s.vars + 1 + 1 + 1 by omega] at this)
 have u4 := u3.up (by have := q3 3 (by omega); rwa [show s.vars + 1 + ((3 : Nat) : Int) = s.vars + 1 + 1 + 1 + 1 by omega] at this)
 refine ⟨b, ⟨by rw [hv, evv]; exact u4, ag, by rw [hv, evv]; omega⟩, fun i hi => ?_⟩
 rw [hv, evv, hsh i hi]
 exact ⟨⟨by omega, by omega, by omega⟩, hres i hi⟩
end
end Go.Proofs
end
section
namespace Go.Proofs
open Go.Av
variable {G : Nat -> DV}
attribute [local irreducible] OpSem WE WY W0 ACalls ZE QV RV
open Go.Bl
section
variable {P : Program}
def _root_.Go.Av.BMg (P : Program) (G : Nat -> DV) (f : FuncId) (args : Nat -> List DV) (v : Int) (cl : List (List Int)) (res : DV) (s' : St) : Prop :=
 ∀ (g0 g1 g2 g3 : Nat) (c2 c3 c4 : DV) (m : List (Int × DV)) (sn : List (Value × DV)), c2.clo = true -> c3.clo = true -> c4.clo = true -> (∀ p ∈ Wg m, p.2.clo = true) -> (∀ p ∈ sn, p.2.clo = true) -> ∀ B, g0 <= B -> g1 <= B -> g2 <= B -> g3 <= B ->
  ACalls P G B f (args g0) [.row g0 [.sc (.int .i64 v), .ref 1 g1 0 cl.length 1, c2, c3, c4, .mp 2 g2, .mp 3 g3], .row g1 (Qq cl), .mapb g2 (Wg m), .mapb g3 sn]
   (fun d' τ' => d' = res /\ ∃ g1', (g1' = g1 \/ B < g1') /\ τ' = [.row g0 [.sc (.int .i64 s'.vars), .ref 1 g1' 0 s'.cl.length 1, c2, c3, c4, .mp 2 g2, .mp 3 g3], .row g1' (Qq s'.cl), .mapb g2 (Wg m), .mapb g3 sn])
variable {B : Nat} {f : Operand -> DV} {σ : List ABlk} {K : DV -> List ABlk -> Prop} {dst : Option Tmp} {type : TypeId} {pos : String} {after : Array Edge} {gd : Option (Nat × Bool)}
theorem s_callv_sub {x : Operand} {args : Array Operand} {ts : Array TypeId} {fid : FuncId} {first cap es ds : List DV} {τ cs : List ABlk} {R : Nat -> DV -> List ABlk -> Prop} [FnOk P fid] (ps : List Nat) (hx : f x = .fn (.func fid) first cap) (hds : reL (first ++ args.toList.map f ++ cap) = some es) (hargs : RenL (RenD (qf ps σ.length)) es ds) (hps : ps.Nodup)
  (hcs : pickA σ ps = some cs) (hτ : RenBs (qf ps σ.length) cs τ) (h : ∀ B', B <= B' -> (∀ (i : Nat) (b : ABlk) (g : Nat), τ[i]? = some b -> b.gen? = some g -> g <= B') -> ACalls P G B' fid ds τ (R B'))
  (k : ∀ B' d' τ', B <= B' -> R B' d' τ' -> ∃ d bs σ', RenD (qf ps σ.length) d d' /\ RenBs (qf ps σ.length) bs τ' /\ setAll σ ps bs = some σ' /\ K d σ') : OpSem P G B ⟨dst, .call ⟨.value x, args, ts⟩, type, pos, after, gd⟩ f σ K := by
 obtain ⟨h1, h2⟩ := pickA_eq hcs
 obtain ⟨h3, h4⟩ := hτ.get
 refine s_callv hx hds (ACalls.sub hargs hps (by omega) (fun i hi => ?_) h fun B' d' τ' hB hR => ?_)
 ·obtain ⟨b, e1, e2⟩ := h2 i hi
  have e3 := List.getElem?_eq_getElem (show i < τ.length by omega)
  exact ⟨b, _, e1, e3, h4 i b _ e2 e3⟩
 ·obtain ⟨d, bs, σ', k1, k2, k3, k4⟩ := k B' d' τ' hB hR
  exact ⟨d, σ', Out.of k1 hps (by omega) k2 k3, k4⟩
theorem s_callv_bm {x : Operand} {args : Array Operand} {ts : Array TypeId} {fid : FuncId} {first cap ds : List DV} {v : Int} {cl : List (List Int)} {res : DV} {s' : St} {g0 g1 g2 g3 : Nat} {c2 c3 c4 : DV} {m : List (Int × DV)} {sn : List (Value × DV)} {rest : List ABlk} [FnOk P fid]
  (hx : f x = .fn (.func fid) first cap) (hds : reL (first ++ args.toList.map f ++ cap) = some (.ptr 0 g0 0 :: ds)) (h : BM P G fid ds v cl res s')
  (hσ : σ = .row g0 [.sc (.int .i64 v), .ref 1 g1 0 cl.length 1, c2, c3, c4, .mp 2 g2, .mp 3 g3] :: .row g1 (Qq cl) :: .mapb g2 (Wg m) :: .mapb g3 sn :: rest)
  (h2 : c2.clo = true) (h3 : c3.clo = true) (h4 : c4.clo = true) (hm : ∀ p ∈ Wg m, p.2.clo = true) (hsn : ∀ p ∈ sn, p.2.clo = true) (hdc : ∀ d ∈ ds, d.clo = true) (hres : res.clo = true)
  (k : ∀ g1', (g1' = g1 \/ B < g1') -> K res (.row g0 [.sc (.int .i64 s'.vars), .ref 1 g1' 0 s'.cl.length 1, c2, c3, c4, .mp 2 g2, .mp 3 g3] :: .row g1' (Qq s'.cl) :: .mapb g2 (Wg m) :: .mapb g3 sn :: rest)) :
  OpSem P G B ⟨dst, .call ⟨.value x, args, ts⟩, type, pos, after, gd⟩ f σ K := by
 subst hσ
 have hrow : ∀ {n : Nat} {v : Int} {g1 l : Nat}, RenB (qf [0, 1, 2, 3] n) (.row g0 [.sc (.int .i64 v), .ref 1 g1 0 l 1, c2, c3, c4, .mp 2 g2, .mp 3 g3]) (.row g0 [.sc (.int .i64 v), .ref 1 g1 0 l 1, c2, c3, c4, .mp 2 g2, .mp 3 g3]) := fun {n v g1 l} =>
  .row (.cons (.clo (by simp [DV.clo])) (.cons (.ref rfl) (.cons (.clo h2) (.cons (.clo h3) (.cons (.clo h4) (.cons (.mp rfl) (.cons (.mp rfl) .nil)))))))
 have hbs : ∀ {n : Nat} {v : Int} {cl : List (List Int)} {g1 : Nat}, RenBs (qf [0, 1, 2, 3] n) [.row g0 [.sc (.int .i64 v), .ref 1 g1 0 cl.length 1, c2, c3, c4, .mp 2 g2, .mp 3 g3], .row g1 (Qq cl), .mapb g2 (Wg m), .mapb g3 sn] [.row g0 [.sc (.int .i64 v), .ref 1 g1 0 cl.length 1, c2, c3, c4, .mp 2 g2, .mp 3 g3], .row g1 (Qq cl), .mapb g2 (Wg m), .mapb g3 sn] := fun {n v cl g1} =>
  .cons hrow (.cons (.rowc (Qk cl)) (.cons (.map hm) (.cons (.map hsn) .nil)))
 refine s_callv_sub (R := fun B d' τ' => d' = res /\ ∃ g1', (g1' = g1 \/ B < g1') /\ τ' = [.row g0 [.sc (.int .i64 s'.vars), .ref 1 g1' 0 s'.cl.length 1, c2, c3, c4, .mp 2 g2, .mp 3 g3], .row g1' (Qq s'.cl), .mapb g2 (Wg m), .mapb g3 sn]) [0, 1, 2, 3] hx hds (.cons (.s (.ptr rfl)) (renl_clo hdc)) (by decide) rfl hbs (fun B' hB hg => h g0 g1 g2 g3 c2 c3 c4 m sn h2 h3 h4 hm hsn B' (hg 0 _ _ rfl rfl) (hg 1 _ _ rfl rfl) (hg 2 _ _ rfl rfl) (hg 3 _ _ rfl rfl)) ?_
 rintro B' d' τ' hB ⟨rfl, g1', hg, rfl⟩
 exact ⟨d', _, _, .s (.clo hres), hbs, rfl, k g1' (by omega)⟩
theorem s_call_bmg {args : Array Operand} {ts : Array TypeId} {fid : FuncId} {asg : Nat -> List DV} {es : List DV} {v : Int} {cl : List (List Int)} {res : DV} {s' : St} {g0 g1 g2 g3 : Nat} {c2 c3 c4 : DV} {m : List (Int × DV)} {sn : List (Value × DV)} {rest : List ABlk} [FnOk P fid]
  (hx : f (.func fid) = .fn (.func fid) [] []) (hds : reL (args.toList.map f) = some es) (h : BMg P G fid asg v cl res s')
  (hσ : σ = .row g0 [.sc (.int .i64 v), .ref 1 g1 0 cl.length 1, c2, c3, c4, .mp 2 g2, .mp 3 g3] :: .row g1 (Qq cl) :: .mapb g2 (Wg m) :: .mapb g3 sn :: rest)
  (h2 : c2.clo = true) (h3 : c3.clo = true) (h4 : c4.clo = true) (hm : ∀ p ∈ Wg m, p.2.clo = true) (hsn : ∀ p ∈ sn, p.2.clo = true) (hargs : ∀ n, RenL (RenD (qf [0, 1, 2, 3] n)) es (asg g0)) (hres : res.clo = true)
  (k : ∀ g1', (g1' = g1 \/ B < g1') -> K res (.row g0 [.sc (.int .i64 s'.vars), .ref 1 g1' 0 s'.cl.length 1, c2, c3, c4, .mp 2 g2, .mp 3 g3] :: .row g1' (Qq s'.cl) :: .mapb g2 (Wg m) :: .mapb g3 sn :: rest)) :
  OpSem P G B ⟨dst, .call ⟨.value (.func fid), args, ts⟩, type, pos, after, gd⟩ f σ K := by
 subst hσ
 have hrow : ∀ {n : Nat} {v : Int} {g1 l : Nat}, RenB (qf [0, 1, 2, 3] n) (.row g0 [.sc (.int .i64 v), .ref 1 g1 0 l 1, c2, c3, c4, .mp 2 g2, .mp 3 g3]) (.row g0 [.sc (.int .i64 v), .ref 1 g1 0 l 1, c2, c3, c4, .mp 2 g2, .mp 3 g3]) := fun {n v g1 l} =>
  .row (.cons (.clo (by simp [DV.clo])) (.cons (.ref rfl) (.cons (.clo h2) (.cons (.clo h3) (.cons (.clo h4) (.cons (.mp rfl) (.cons (.mp rfl) .nil)))))))
 have hbs : ∀ {n : Nat} {v : Int} {cl : List (List Int)} {g1 : Nat}, RenBs (qf [0, 1, 2, 3] n) [.row g0 [.sc (.int .i64 v), .ref 1 g1 0 cl.length 1, c2, c3, c4, .mp 2 g2, .mp 3 g3], .row g1 (Qq cl), .mapb g2 (Wg m), .mapb g3 sn] [.row g0 [.sc (.int .i64 v), .ref 1 g1 0 cl.length 1, c2, c3, c4, .mp 2 g2, .mp 3 g3], .row g1 (Qq cl), .mapb g2 (Wg m), .mapb g3 sn] := fun {n v cl g1} =>
  .cons hrow (.cons (.rowc (Qk cl)) (.cons (.map hm) (.cons (.map hsn) .nil)))
 refine Zh (R := fun B d' τ' => d' = res /\ ∃ g1', (g1' = g1 \/ B < g1') /\ τ' = [.row g0 [.sc (.int .i64 s'.vars), .ref 1 g1' 0 s'.cl.length 1, c2, c3, c4, .mp 2 g2, .mp 3 g3], .row g1' (Qq s'.cl), .mapb g2 (Wg m), .mapb g3 sn]) [0, 1, 2, 3] hx hds (hargs _) (by decide) rfl hbs (fun B' hB hg => h g0 g1 g2 g3 c2 c3 c4 m sn h2 h3 h4 hm hsn B' (hg 0 _ _ rfl rfl) (hg 1 _ _ rfl rfl) (hg 2 _ _ rfl rfl) (hg 3 _ _ rfl rfl)) ?_
 rintro B' d' τ' hB ⟨rfl, g1', hg, rfl⟩
 exact ⟨d', _, _, .s (.clo hres), hbs, rfl, k g1' (by omega)⟩
end
def _root_.Go.Bl.eachTo (gm : St -> Int -> Int -> Int × St) (s : St) (x y : List Int) : Nat -> List Int × St
 | 0 => (x, s)
 | i + 1 => ((eachTo gm s x y i).1.set i (gm (eachTo gm s x y i).2 ((eachTo gm s x y i).1.getD i 0) (y.getD i 0)).1, (gm (eachTo gm s x y i).2 ((eachTo gm s x y i).1.getD i 0) (y.getD i 0)).2)
theorem _root_.Go.Bl.eachTo_len (gm : St -> Int -> Int -> Int × St) (s : St) {x : List Int} (y : List Int) (hx : x.length = 4) : ∀ i, (eachTo gm s x y i).1.length = 4
 | 0 => hx
 | i + 1 => by
  show ((eachTo gm s x y i).1.set i _).length = 4
  rw [List.length_set, eachTo_len gm s y hx i]
def _root_.Go.Bl.GateOk (gm : St -> Int -> Int -> Int × St) : Prop := ∀ s x y, Ok s -> s.vars + 4 < 1099511627776 -> Lim s x -> Lim s y -> Gate s (gm s x y).2 3 /\ Lim (gm s x y).2 (gm s x y).1
theorem _root_.Go.Bl.eachTo_gate {gm : St -> Int -> Int -> Int × St} (hgm : GateOk gm) {s : St} (hs : Ok s) (hv : s.vars + 100 < 1099511627776) {x y : List Int} (hx : ∀ v ∈ x, Lim s v) (hy : ∀ v ∈ y, Lim s v) : ∀ i : Nat, i <= 8 -> Gate s (eachTo gm s x y i).2 (3 * i) /\ ∀ v ∈ (eachTo gm s x y i).1, Lim (eachTo gm s x y i).2 v
 | 0, _ => ⟨⟨hs, Int.le_refl _, by show s.vars <= _; omega⟩, hx⟩
 | i + 1, hi => by
  obtain ⟨h1, h3⟩ := eachTo_gate hgm hs hv hx hy i (by omega)
  have hh := h1.hi
  obtain ⟨g1, l1⟩ := hgm (eachTo gm s x y i).2 ((eachTo gm s x y i).1.getD i 0) (y.getD i 0) h1.ok (by omega) (Wq h3 h1.ok.v0 i) ((Wq hy hs.v0 i).mono h1.lo)
  refine ⟨by have := h1.trans g1; rwa [show (3 : Int) * (i : Int) + 3 = 3 * ((i + 1 : Nat) : Int) by omega] at this, fun v hv => ?_⟩
  rcases List.mem_or_eq_of_mem_set hv with hv | rfl
  ·exact (h3 v hv).mono g1.lo
  ·exact l1
theorem each_c {fid : FuncId} [hfo : FnOk Tryd.prog fid] {gm : St -> Int -> Int -> Int × St} (hgm : GateOk gm) (hgc : ∀ s x y, Ok s -> s.vars + 4 < 1099511627776 -> Lim s x -> Lim s y -> BM Tryd.prog G fid [.i x, .i y] s.vars s.cl (.i (gm s x y).1) (gm s x y).2)
  (s : St) (hs : Ok s) (hv : s.vars + 100 < 1099511627776) (x y : List Int) (hxl : x.length = 4) (hyl : y.length = 4) (hx : ∀ v ∈ x, Lim s v) (hy : ∀ v ∈ y, Lim s v) : BMg Tryd.prog G 86 (fun g0 => [.agg (Qq x), .agg (Qq y), .fn (.func fid) [.ptr 0 g0 0] []]) s.vars s.cl (.agg (Qq (eachTo gm s x y 4).1)) (eachTo gm s x y 4).2 := fun g0 g1 g2 g3 c2 c3 c4 m sn h2 h3 h4 hm hsn B b0 b1 b2 b3 => by
 have hv0 := hs.v0
 have hv1 := hs.v1
 refine Qb Tryd.func86 rfl Tryd.ntmps86 rfl (t := [(0, .agg (Qq x)), (1, .agg (Qq y)), (2, .fn (.func fid) [.ptr 0 g0 0] [])]) rfl fun E hE => ?_
 have hlt := fun i hi => eachTo_gate hgm hs hv hx hy i hi
 (repeat' first | refine Qt rfl ?_ | refine QJ (fun _ _ => ?_) | refine Q5 rfl rfl (fun _ _ => ?_) | refine Qe ?_ | refine Qp rfl ?_ | refine Qf ?_ | refine Qa ?_ | refine Qg ?_)
 rename_i gx hgx gy hgy gr hgr
 refine qb (fun (i gc : Nat) => ⟨[(2, .fn (.func fid) [.ptr 0 g0 0] []), (3, .ptr 4 gx 0), (4, .ptr 5 gy 0), (6, .ptr 6 gr 0), (8, .i i)], [.row g0 [.sc (.int .i64 (eachTo gm s x y i).2.vars), .ref 1 gc 0 (eachTo gm s x y i).2.cl.length 1, c2, c3, c4, .mp 2 g2, .mp 3 g3], .row gc (Qq (eachTo gm s x y i).2.cl), .mapb g2 (Wg m), .mapb g3 sn, .row gx (Qq (eachTo gm s x y i).1), .row gy (Qq y), .row gr [.i 0, .i 0, .i 0, .i 0]]⟩) (fun i gc => i <= 4 /\ (gc = g1 \/ E.N < gc)) (fun i _ => 4 - i) 0 g1 ?_ ⟨by omega, .inl rfl⟩ ?_
 ·exact zal rfl
 intro i gc ⟨hi, hgc'⟩
 obtain ⟨hg, hlo⟩ := hlt i (by omega)
 have hol := eachTo_len gm s y hxl i
 (repeat' first | refine QG rfl rfl ?_ | refine Qe ?_ | refine Qp rfl ?_ | refine Qf ?_ | refine Qa ?_)
 refine QE rfl (fun h => ?_) (fun h => ?_)
 ·have hiY : i < y.length := by omega
  have hs1 : eachTo gm s x y (i + 1) = ((eachTo gm s x y i).1.set i (gm (eachTo gm s x y i).2 ((eachTo gm s x y i).1.getD i 0) y[i]).1, (gm (eachTo gm s x y i).2 ((eachTo gm s x y i).1.getD i 0) y[i]).2) := by
   rw [<- Ord.getD_lt hiY 0]; rfl
  have ho := hg.ok
  have hh := hg.hi
  have hb : Lim (eachTo gm s x y i).2 y[i] := (hy _ (List.getElem_mem hiY)).mono hg.lo
  clear hlt
  generalize eachTo gm s x y i = q at *
  have hiQ : i < q.1.length := by omega
  rw [Ord.getD_lt hiQ] at hs1
  have hcall := hgc q.2 q.1[i] y[i] ho (by omega) (hlo _ (List.getElem_mem hiQ)) hb
  generalize gm q.2 q.1[i] y[i] = z at *
  clear hx hs hg ho hb hh hlo hgm hgc
  (repeat' first | refine Qt rfl ?_ | refine Qv rfl ?_ | refine QS rfl rfl (by omega) ?_ | refine s_callv_bm rfl rfl hcall rfl (by assumption) (by assumption) (by assumption) (by assumption) (by assumption) (by repeat' first | exact QX | refine QN ?_ ?_ | exact QA) QA (fun _ _ => ?_) | refine Q2 rfl rfl rfl rfl rfl (by first | assumption | omega) rfl ?_ | refine Qe ?_ | refine Qp rfl ?_ | refine Qf ?_ | refine Qa ?_ | refine Qg ?_ | (refine Wa ?_; first | (refine Wu (fun p => p.1 :: p.2.1 :: p.2.2.1 :: p.2.2.2.1 :: .row gx (Qq q.1) :: .row gy (Qq y) :: p.2.2.2.2) 10 [(0, true), (1, true), (2, true), (3, true), (4, true), (5, true), (6, true), (7, true), (8, false), (9, true), (10, false)] (by rfl) (by rfl) (by kernel_rfl) (by decide +kernel) (by decide +kernel) ⟨(_, _, _, _, _), rfl⟩ ?_) | refine Wj (by rfl) (by kernel_rfl) (by kernel_rfl) ?_ | refine QT (by kernel_rfl) (by kernel_rfl) ?_) | refine Qj ?_ | refine i_nil ?_ | refine i_z0 ?_ | refine i_st rfl rfl (fun _ => (by (repeat' first | refine Qt rfl ?_ | refine Q9 rfl rfl rfl (by first | assumption | omega) rfl ?_ | refine WB rfl rfl rfl (by omega) ?_ | exact ⟨rfl, rfl⟩))) ?_ | refine i_ef rfl ?_ | refine And.intro (Exists.intro ((_, _, _, _, _)) rfl) ?_)
  rename_i ga hga
  refine ⟨i + 1, ga, ⟨by omega, by omega⟩, by omega, ?_⟩
  rw [hs1]
  exact zal rfl
 ·have hi4 : i = 4 := by omega
  subst hi4
  have w1 : (Qq (eachTo gm s x y 4).1).length = 4 := by rw [Qz, hol]; rfl
  clear hlt hlo hg
  generalize eachTo gm s x y 4 = q at *
  (repeat' first | refine Qu rfl rfl (by first | assumption | rfl) ?_ | refine Ql rfl rfl rfl (by first | assumption | rfl) (by first | assumption | rfl) rfl ?_ | refine Qe ?_ | refine Qp rfl ?_ | refine Q0 ?_ | refine Qf ?_ | refine Qa ?_ | refine QU rfl ?_ | refine Qm ?_)
  exact e_1 (Tryd.results86) (QY (size := 4) rfl rfl (Q4 w1) w1) (QC (σ := [_, _, _, _]) (r := [_, _, _]) ⟨rfl, gc, by omega, rfl⟩)
theorem and_gok : GateOk and := fun s x y hs hv hx hy => by
 have h := Zf hs (by omega) x y
 exact ⟨⟨h.ok, h.lo, by have := h.hi; omega⟩, (Zz hx hy hs.v0).mono h.lo⟩
theorem or_gok : GateOk or := fun s x y hs hv hx hy => by
 have h := or_gate hs (by omega) x y
 exact ⟨⟨h.ok, h.lo, by have := h.hi; omega⟩, (or_lim hx hy hs.v0).mono h.lo⟩
theorem xor_gok : GateOk xor := fun s x y hs hv hx hy => by
 have h := xor_gate hs (by omega) x y
 exact ⟨⟨h.ok, h.lo, by have := h.hi; omega⟩, (xor_lim hx hy hs.v0).mono h.lo⟩
def one4 (p : Int × St) : List Int × St := ([p.1, 0, 0, 0], p.2)
def Zv (op : Int) (s : St) (x y : List Int) : List Int × St :=
 if op = 0 then ((Wc s x y (-1) 4).1, (Wc s x y (-1) 4).2.2) else
 if op = 1 then ((Wc s x (Z0 y 4) 1 4).1, (Wc s x (Z0 y 4) 1 4).2.2) else
 if op = 2 then WI s x y 4 else
 if op = 5 then eachTo and s x y 4 else
 if op = 6 then eachTo or s x y 4 else
 if op = 7 then eachTo xor s x y 4 else
 if op = 8 then QO (QO s x (y.getD 0 0) 1 4).2 (QO s x (y.getD 0 0) 1 4).1 (y.getD 1 0) 2 4 else
 if op = 9 then QO (QO s x (y.getD 0 0) (-1) 4).2 (QO s x (y.getD 0 0) (-1) 4).1 (y.getD 1 0) (-2) 4 else
 if op = 10 then one4 (less s x y) else
 if op = 11 then one4 (W5 s x y 4) else
 if op = 12 then one4 (and s (x.getD 0 0) (y.getD 0 0)) else
 if op = 13 then one4 (or s (x.getD 0 0) (y.getD 0 0)) else
 ((freshTo s 4).1, tableTo (freshTo s 4).2 op x y (freshTo s 4).1 256)
theorem operation_0 (hG : G 0 = opsD) (s : St) (hs : Ok s) (hv : s.vars + 300 < 1099511627776) (x y : List Int) (hxl : x.length = 4) (hyl : y.length = 4) (hx : ∀ v ∈ x, Lim s v) (hy : ∀ v ∈ y, Lim s v) : BM Tryd.prog G 88 [.i 0, .agg (Qq x), .agg (Qq y)] s.vars s.cl (.agg (Qq (Zv 0 s x y).1)) (Zv 0 s x y).2 := fun g0 g1 g2 g3 c2 c3 c4 m sn h2 h3 h4 hm hsn B b0 b1 b2 b3 => by
 have hv0 := hs.v0
 have hv1 := hs.v1
 have hlx : (Qq x).length = 4 := by rw [Qz, hxl]; rfl
 have hly : (Qq y).length = 4 := by rw [Qz, hyl]; rfl
 have hk1 := sum_c (G := G) s hs (by omega) x y (-1) hxl hyl hx hy ⟨by omega, by omega⟩
 have er : Zv 0 s x y = ((Wc s x y (-1) 4).1, (Wc s x y (-1) 4).2.2) := rfl
 have w1 := ZF s x y (-1) 4
 rw [er]
 generalize Wc s x y (-1) 4 = z at *
 have w2 : (Qq z.1).length = 4 := by rw [Qz, w1]; rfl
 refine Qb Tryd.func88 rfl Tryd.ntmps88 rfl (t := [(0, .ptr 0 g0 0), (1, .i 0), (2, .agg (Qq x)), (3, .agg (Qq y))]) rfl fun E hE => ?_
 (repeat' first | refine Qt rfl ?_ | refine Qv rfl ?_ | refine Qu rfl rfl (by first | assumption | rfl) ?_ | refine QH rfl rfl ?_ | refine Zd rfl rfl (hk1) rfl (fun _ _ => ?_) | refine Q5 (ds := Qq x) rfl rfl (fun gx hgx => ?_) | refine Q5 (ds := Qq y) rfl rfl (fun gy hgy => ?_) | refine Ql rfl rfl rfl (by first | assumption | rfl) (by first | assumption | rfl) rfl ?_ | refine QJ (fun _ _ => ?_) | refine Qe ?_ | refine Qp rfl ?_ | refine Q0 ?_ | refine Qf ?_ | refine Qa ?_ | refine Qg ?_ | refine Qs rfl ?_ | refine Qm ?_)
 exact e_1 (Tryd.results88) (QY (size := 4) rfl rfl (Q4 w2) w2) (QC (σ := [_, _, _, _]) (r := [_, _, _]) ⟨rfl, _, by omega, rfl⟩)
theorem operation_1 (hG : G 0 = opsD) (s : St) (hs : Ok s) (hv : s.vars + 300 < 1099511627776) (x y : List Int) (hxl : x.length = 4) (hyl : y.length = 4) (hx : ∀ v ∈ x, Lim s v) (hy : ∀ v ∈ y, Lim s v) : BM Tryd.prog G 88 [.i 1, .agg (Qq x), .agg (Qq y)] s.vars s.cl (.agg (Qq (Zv 1 s x y).1)) (Zv 1 s x y).2 := fun g0 g1 g2 g3 c2 c3 c4 m sn h2 h3 h4 hm hsn B b0 b1 b2 b3 => by
 have hv0 := hs.v0
 have hv1 := hs.v1
 have hlx : (Qq x).length = 4 := by rw [Qz, hxl]; rfl
 have hly : (Qq y).length = 4 := by rw [Qz, hyl]; rfl
 have hnl : (Z0 y 4).length = 4 := (notTo_len y 4).trans hyl
 have hnot := not_c (G := G) y hyl (fun v hv => by obtain ⟨q1, q2⟩ := hy v hv; exact ⟨by omega, by omega⟩)
 have hk1 := sum_c (G := G) s hs (by omega) x (Z0 y 4) 1 hxl hnl hx (fun v hv => notTo_bd (M := s.vars + 1) (by omega) (fun v h => hy v h) 4 v hv) ⟨by omega, by omega⟩
 have er : Zv 1 s x y = ((Wc s x (Z0 y 4) 1 4).1, (Wc s x (Z0 y 4) 1 4).2.2) := rfl
 have w1 := ZF s x (Z0 y 4) 1 4
 rw [er]
 generalize Wc s x (Z0 y 4) 1 4 = z at *
 have w2 : (Qq z.1).length = 4 := by rw [Qz, w1]; rfl
 refine Qb Tryd.func88 rfl Tryd.ntmps88 rfl (t := [(0, .ptr 0 g0 0), (1, .i 1), (2, .agg (Qq x)), (3, .agg (Qq y))]) rfl fun E hE => ?_
 (repeat' first | refine Qt rfl ?_ | refine Qv rfl ?_ | refine QH rfl rfl ?_ | refine Zd rfl rfl (hk1) rfl (fun _ _ => ?_) | refine Q5 (ds := Qq x) rfl rfl (fun gx hgx => ?_) | refine Q5 (ds := Qq y) rfl rfl (fun gy hgy => ?_) | refine Ql rfl rfl rfl (by first | assumption | rfl) (by first | assumption | rfl) rfl ?_ | refine QJ (fun _ _ => ?_) | refine Qe ?_ | refine Qp rfl ?_ | refine Qf ?_ | refine Qa ?_ | refine Qg ?_ | (refine Wa ?_; first | (refine Wu (fun p => p.1 :: p.2.1 :: p.2.2.1 :: p.2.2.2.1 :: .row gx (Qq x) :: .row gy (Qq y) :: p.2.2.2.2) 10 [(0, true), (1, true), (2, true), (3, true), (4, true), (6, true), (7, true), (5, false), (8, false), (9, false)] (by rfl) (by rfl) (by kernel_rfl) (by decide +kernel) (by decide +kernel) ⟨(_, _, _, _, _), rfl⟩ ?_) | (refine Wu (fun p => p.1 :: p.2.1 :: p.2.2.1 :: p.2.2.2.1 :: .row gx (Qq x) :: .row gy (Qq y) :: p.2.2.2.2) 6 [(0, true), (1, true), (2, true), (3, true), (4, false), (5, false)] (by rfl) (by rfl) (by kernel_rfl) (by decide +kernel) (by decide +kernel) ⟨(_, _, _, _, _), rfl⟩ ?_) | refine Wj (by rfl) (by kernel_rfl) (by kernel_rfl) ?_ | refine QT (by kernel_rfl) (by kernel_rfl) ?_) | refine Qs rfl ?_ | refine Qi rfl ?_ | refine Qm ?_ | refine i_nil ?_ | refine i_st rfl rfl (fun _ => (by (repeat' first | refine Qt rfl ?_ | refine Qu rfl rfl (by first | assumption | rfl) ?_ | refine QZ rfl rfl (hnot) ?_ | exact ⟨rfl, rfl⟩))) ?_ | refine i_ef rfl ?_ | refine i_ef0 ?_ | refine And.intro (Exists.intro ((_, _, _, _, _)) rfl) ?_)
 exact e_1 (Tryd.results88) (QY (size := 4) rfl rfl (Q4 w2) w2) (QC (σ := [_, _, _, _]) (r := [_, _, _]) ⟨rfl, _, by omega, rfl⟩)
theorem operation_2 (hG : G 0 = opsD) (s : St) (hs : Ok s) (hv : s.vars + 300 < 1099511627776) (x y : List Int) (hxl : x.length = 4) (hyl : y.length = 4) (hx : ∀ v ∈ x, Lim s v) (hy : ∀ v ∈ y, Lim s v) : BM Tryd.prog G 88 [.i 2, .agg (Qq x), .agg (Qq y)] s.vars s.cl (.agg (Qq (Zv 2 s x y).1)) (Zv 2 s x y).2 := fun g0 g1 g2 g3 c2 c3 c4 m sn h2 h3 h4 hm hsn B b0 b1 b2 b3 => by
 have hv0 := hs.v0
 have hv1 := hs.v1
 have hlx : (Qq x).length = 4 := by rw [Qz, hxl]; rfl
 have hly : (Qq y).length = 4 := by rw [Qz, hyl]; rfl
 have hk1 := product_c (G := G) s hs (by omega) x y hxl hyl hx hy
 have er : Zv 2 s x y = WI s x y 4 := rfl
 have w1 := prodTo_len s x y 4
 rw [er]
 generalize WI s x y 4 = z at *
 have w2 : (Qq z.1).length = 4 := by rw [Qz, w1]; rfl
 refine Qb Tryd.func88 rfl Tryd.ntmps88 rfl (t := [(0, .ptr 0 g0 0), (1, .i 2), (2, .agg (Qq x)), (3, .agg (Qq y))]) rfl fun E hE => ?_
 (repeat' first | refine Qt rfl ?_ | refine Qv rfl ?_ | refine Qu rfl rfl (by first | assumption | rfl) ?_ | refine QH rfl rfl ?_ | refine Zd rfl rfl (hk1) rfl (fun _ _ => ?_) | refine Q5 (ds := Qq x) rfl rfl (fun gx hgx => ?_) | refine Q5 (ds := Qq y) rfl rfl (fun gy hgy => ?_) | refine Ql rfl rfl rfl (by first | assumption | rfl) (by first | assumption | rfl) rfl ?_ | refine QJ (fun _ _ => ?_) | refine Qe ?_ | refine Qp rfl ?_ | refine Q0 ?_ | refine Qf ?_ | refine Qa ?_ | refine Qg ?_ | refine Qs rfl ?_ | refine Qi rfl ?_ | refine Qm ?_)
 exact e_1 (Tryd.results88) (QY (size := 4) rfl rfl (Q4 w2) w2) (QC (σ := [_, _, _, _]) (r := [_, _, _]) ⟨rfl, _, by omega, rfl⟩)
theorem operation_3 (hG : G 0 = opsD) (s : St) (hs : Ok s) (hv : s.vars + 300 < 1099511627776) (x y : List Int) (hxl : x.length = 4) (hyl : y.length = 4) (hx : ∀ v ∈ x, Lim s v) (hy : ∀ v ∈ y, Lim s v) : BM Tryd.prog G 88 [.i 3, .agg (Qq x), .agg (Qq y)] s.vars s.cl (.agg (Qq (Zv 3 s x y).1)) (Zv 3 s x y).2 := fun g0 g1 g2 g3 c2 c3 c4 m sn h2 h3 h4 hm hsn B b0 b1 b2 b3 => by
 have hv0 := hs.v0
 have hv1 := hs.v1
 have hlx : (Qq x).length = 4 := by rw [Qz, hxl]; rfl
 have hly : (Qq y).length = 4 := by rw [Qz, hyl]; rfl
 have hk1 := table_c hG s hs (by omega) 3 ⟨by omega, by omega⟩ x y hxl hyl hx hy
 have er : Zv 3 s x y = ((freshTo s 4).1, tableTo (freshTo s 4).2 3 x y (freshTo s 4).1 256) := rfl
 have w1 := freshTo_len s 4
 rw [er]
 clear er
 generalize tableTo (freshTo s 4).2 3 x y (freshTo s 4).1 256 = z at *
 generalize (freshTo s 4).1 = r at *
 have w2 : (Qq r).length = 4 := by rw [Qz, w1]; rfl
 refine Qb Tryd.func88 rfl Tryd.ntmps88 rfl (t := [(0, .ptr 0 g0 0), (1, .i 3), (2, .agg (Qq x)), (3, .agg (Qq y))]) rfl fun E hE => ?_
 (repeat' first | refine Qt rfl ?_ | refine Qv rfl ?_ | refine Qu rfl rfl (by first | assumption | rfl) ?_ | refine QH rfl rfl ?_ | refine Zd rfl rfl (hk1) rfl (fun _ _ => ?_) | refine Q5 (ds := Qq x) rfl rfl (fun gx hgx => ?_) | refine Q5 (ds := Qq y) rfl rfl (fun gy hgy => ?_) | refine Ql rfl rfl rfl (by first | assumption | rfl) (by first | assumption | rfl) rfl ?_ | refine QJ (fun _ _ => ?_) | refine Qe ?_ | refine Qp rfl ?_ | refine Q0 ?_ | refine Qf ?_ | refine Qa ?_ | refine Qg ?_ | refine Qj ?_ | refine Qi rfl ?_ | refine Qm ?_)
 exact e_1 (Tryd.results88) (QY (size := 4) rfl rfl (Q4 w2) w2) (QC (σ := [_, _, _, _]) (r := [_, _, _]) ⟨rfl, _, by omega, rfl⟩)
theorem operation_4 (hG : G 0 = opsD) (s : St) (hs : Ok s) (hv : s.vars + 300 < 1099511627776) (x y : List Int) (hxl : x.length = 4) (hyl : y.length = 4) (hx : ∀ v ∈ x, Lim s v) (hy : ∀ v ∈ y, Lim s v) : BM Tryd.prog G 88 [.i 4, .agg (Qq x), .agg (Qq y)] s.vars s.cl (.agg (Qq (Zv 4 s x y).1)) (Zv 4 s x y).2 := fun g0 g1 g2 g3 c2 c3 c4 m sn h2 h3 h4 hm hsn B b0 b1 b2 b3 => by
 have hv0 := hs.v0
 have hv1 := hs.v1
 have hlx : (Qq x).length = 4 := by rw [Qz, hxl]; rfl
 have hly : (Qq y).length = 4 := by rw [Qz, hyl]; rfl
 have hk1 := table_c hG s hs (by omega) 4 ⟨by omega, by omega⟩ x y hxl hyl hx hy
 have er : Zv 4 s x y = ((freshTo s 4).1, tableTo (freshTo s 4).2 4 x y (freshTo s 4).1 256) := rfl
 have w1 := freshTo_len s 4
 rw [er]
 clear er
 generalize tableTo (freshTo s 4).2 4 x y (freshTo s 4).1 256 = z at *
 generalize (freshTo s 4).1 = r at *
 have w2 : (Qq r).length = 4 := by rw [Qz, w1]; rfl
 refine Qb Tryd.func88 rfl Tryd.ntmps88 rfl (t := [(0, .ptr 0 g0 0), (1, .i 4), (2, .agg (Qq x)), (3, .agg (Qq y))]) rfl fun E hE => ?_
 (repeat' first | refine Qt rfl ?_ | refine Qv rfl ?_ | refine Qu rfl rfl (by first | assumption | rfl) ?_ | refine QH rfl rfl ?_ | refine Zd rfl rfl (hk1) rfl (fun _ _ => ?_) | refine Q5 (ds := Qq x) rfl rfl (fun gx hgx => ?_) | refine Q5 (ds := Qq y) rfl rfl (fun gy hgy => ?_) | refine Ql rfl rfl rfl (by first | assumption | rfl) (by first | assumption | rfl) rfl ?_ | refine QJ (fun _ _ => ?_) | refine Qe ?_ | refine Qp rfl ?_ | refine Q0 ?_ | refine Qf ?_ | refine Qa ?_ | refine Qg ?_ | refine Qj ?_ | refine Qi rfl ?_ | refine Qm ?_)
 exact e_1 (Tryd.results88) (QY (size := 4) rfl rfl (Q4 w2) w2) (QC (σ := [_, _, _, _]) (r := [_, _, _]) ⟨rfl, _, by omega, rfl⟩)
theorem operation_5 (hG : G 0 = opsD) (s : St) (hs : Ok s) (hv : s.vars + 300 < 1099511627776) (x y : List Int) (hxl : x.length = 4) (hyl : y.length = 4) (hx : ∀ v ∈ x, Lim s v) (hy : ∀ v ∈ y, Lim s v) : BM Tryd.prog G 88 [.i 5, .agg (Qq x), .agg (Qq y)] s.vars s.cl (.agg (Qq (Zv 5 s x y).1)) (Zv 5 s x y).2 := fun g0 g1 g2 g3 c2 c3 c4 m sn h2 h3 h4 hm hsn B b0 b1 b2 b3 => by
 have hv0 := hs.v0
 have hv1 := hs.v1
 have hlx : (Qq x).length = 4 := by rw [Qz, hxl]; rfl
 have hly : (Qq y).length = 4 := by rw [Qz, hyl]; rfl
 have hk3 := each_c (G := G) (fid := 98) and_gok (fun s x y hs hv hx hy => and_c s hs (by omega) x y hx hy) s hs (by omega) x y hxl hyl hx hy
 have er : Zv 5 s x y = eachTo and s x y 4 := rfl
 have w1 := eachTo_len and s y hxl 4
 rw [er]
 generalize eachTo and s x y 4 = z at *
 have w2 : (Qq z.1).length = 4 := by rw [Qz, w1]; rfl
 refine Qb Tryd.func88 rfl Tryd.ntmps88 rfl (t := [(0, .ptr 0 g0 0), (1, .i 5), (2, .agg (Qq x)), (3, .agg (Qq y))]) rfl fun E hE => ?_
 (repeat' first | refine Qt rfl ?_ | refine Qv rfl ?_ | refine Qu rfl rfl (by first | assumption | rfl) ?_ | refine QH rfl rfl ?_ | refine s_call_bmg rfl rfl hk3 rfl (by assumption) (by assumption) (by assumption) (by assumption) (by assumption) (fun _ => .cons (.s (.clo (QB (Qk _)))) (.cons (.s (.clo (QB (Qk _)))) (.cons (.fn (.cons (.ptr rfl) .nil) .nil) .nil))) (QB (Qk _)) (fun _ _ => ?_) | refine Q5 (ds := Qq x) rfl rfl (fun gx hgx => ?_) | refine Q5 (ds := Qq y) rfl rfl (fun gy hgy => ?_) | refine Ql rfl rfl rfl (by first | assumption | rfl) (by first | assumption | rfl) rfl ?_ | refine Zt rfl rfl ?_ | refine QJ (fun _ _ => ?_) | refine Qe ?_ | refine Qp rfl ?_ | refine Q0 ?_ | refine Qf ?_ | refine Qa ?_ | refine Qg ?_ | refine Qs rfl ?_ | refine Qi rfl ?_ | refine Qm ?_)
 exact e_1 (Tryd.results88) (QY (size := 4) rfl rfl (Q4 w2) w2) (QC (σ := [_, _, _, _]) (r := [_, _, _]) ⟨rfl, _, by omega, rfl⟩)
theorem operation_6 (hG : G 0 = opsD) (s : St) (hs : Ok s) (hv : s.vars + 300 < 1099511627776) (x y : List Int) (hxl : x.length = 4) (hyl : y.length = 4) (hx : ∀ v ∈ x, Lim s v) (hy : ∀ v ∈ y, Lim s v) : BM Tryd.prog G 88 [.i 6, .agg (Qq x), .agg (Qq y)] s.vars s.cl (.agg (Qq (Zv 6 s x y).1)) (Zv 6 s x y).2 := fun g0 g1 g2 g3 c2 c3 c4 m sn h2 h3 h4 hm hsn B b0 b1 b2 b3 => by
 have hv0 := hs.v0
 have hv1 := hs.v1
 have hlx : (Qq x).length = 4 := by rw [Qz, hxl]; rfl
 have hly : (Qq y).length = 4 := by rw [Qz, hyl]; rfl
 have hk3 := each_c (G := G) (fid := 97) or_gok (fun s x y hs hv hx hy => or_c s hs (by omega) x y hx hy) s hs (by omega) x y hxl hyl hx hy
 have er : Zv 6 s x y = eachTo or s x y 4 := rfl
 have w1 := eachTo_len or s y hxl 4
 rw [er]
 generalize eachTo or s x y 4 = z at *
 have w2 : (Qq z.1).length = 4 := by rw [Qz, w1]; rfl
 refine Qb Tryd.func88 rfl Tryd.ntmps88 rfl (t := [(0, .ptr 0 g0 0), (1, .i 6), (2, .agg (Qq x)), (3, .agg (Qq y))]) rfl fun E hE => ?_
 (repeat' first | refine Qt rfl ?_ | refine Qv rfl ?_ | refine Qu rfl rfl (by first | assumption | rfl) ?_ | refine QH rfl rfl ?_ | refine s_call_bmg rfl rfl hk3 rfl (by assumption) (by assumption) (by assumption) (by assumption) (by assumption) (fun _ => .cons (.s (.clo (QB (Qk _)))) (.cons (.s (.clo (QB (Qk _)))) (.cons (.fn (.cons (.ptr rfl) .nil) .nil) .nil))) (QB (Qk _)) (fun _ _ => ?_) | refine Q5 (ds := Qq x) rfl rfl (fun gx hgx => ?_) | refine Q5 (ds := Qq y) rfl rfl (fun gy hgy => ?_) | refine Ql rfl rfl rfl (by first | assumption | rfl) (by first | assumption | rfl) rfl ?_ | refine Zt rfl rfl ?_ | refine QJ (fun _ _ => ?_) | refine Qe ?_ | refine Qp rfl ?_ | refine Q0 ?_ | refine Qf ?_ | refine Qa ?_ | refine Qg ?_ | refine Qs rfl ?_ | refine Qi rfl ?_ | refine Qm ?_)
 exact e_1 (Tryd.results88) (QY (size := 4) rfl rfl (Q4 w2) w2) (QC (σ := [_, _, _, _]) (r := [_, _, _]) ⟨rfl, _, by omega, rfl⟩)
theorem operation_7 (hG : G 0 = opsD) (s : St) (hs : Ok s) (hv : s.vars + 300 < 1099511627776) (x y : List Int) (hxl : x.length = 4) (hyl : y.length = 4) (hx : ∀ v ∈ x, Lim s v) (hy : ∀ v ∈ y, Lim s v) : BM Tryd.prog G 88 [.i 7, .agg (Qq x), .agg (Qq y)] s.vars s.cl (.agg (Qq (Zv 7 s x y).1)) (Zv 7 s x y).2 := fun g0 g1 g2 g3 c2 c3 c4 m sn h2 h3 h4 hm hsn B b0 b1 b2 b3 => by
 have hv0 := hs.v0
 have hv1 := hs.v1
 have hlx : (Qq x).length = 4 := by rw [Qz, hxl]; rfl
 have hly : (Qq y).length = 4 := by rw [Qz, hyl]; rfl
 have hk3 := each_c (G := G) (fid := 102) xor_gok (fun s x y hs hv hx hy => xor_c s hs (by omega) x y hx hy) s hs (by omega) x y hxl hyl hx hy
 have er : Zv 7 s x y = eachTo xor s x y 4 := rfl
 have w1 := eachTo_len xor s y hxl 4
 rw [er]
 generalize eachTo xor s x y 4 = z at *
 have w2 : (Qq z.1).length = 4 := by rw [Qz, w1]; rfl
 refine Qb Tryd.func88 rfl Tryd.ntmps88 rfl (t := [(0, .ptr 0 g0 0), (1, .i 7), (2, .agg (Qq x)), (3, .agg (Qq y))]) rfl fun E hE => ?_
 (repeat' first | refine Qt rfl ?_ | refine Qv rfl ?_ | refine Qu rfl rfl (by first | assumption | rfl) ?_ | refine QH rfl rfl ?_ | refine s_call_bmg rfl rfl hk3 rfl (by assumption) (by assumption) (by assumption) (by assumption) (by assumption) (fun _ => .cons (.s (.clo (QB (Qk _)))) (.cons (.s (.clo (QB (Qk _)))) (.cons (.fn (.cons (.ptr rfl) .nil) .nil) .nil))) (QB (Qk _)) (fun _ _ => ?_) | refine Q5 (ds := Qq x) rfl rfl (fun gx hgx => ?_) | refine Q5 (ds := Qq y) rfl rfl (fun gy hgy => ?_) | refine Ql rfl rfl rfl (by first | assumption | rfl) (by first | assumption | rfl) rfl ?_ | refine Zt rfl rfl ?_ | refine QJ (fun _ _ => ?_) | refine Qe ?_ | refine Qp rfl ?_ | refine Q0 ?_ | refine Qf ?_ | refine Qa ?_ | refine Qg ?_ | refine Qs rfl ?_ | refine Qi rfl ?_ | refine Qm ?_)
 exact e_1 (Tryd.results88) (QY (size := 4) rfl rfl (Q4 w2) w2) (QC (σ := [_, _, _, _]) (r := [_, _, _]) ⟨rfl, _, by omega, rfl⟩)
theorem operation_8 (hG : G 0 = opsD) (s : St) (hs : Ok s) (hv : s.vars + 300 < 1099511627776) (x y : List Int) (hxl : x.length = 4) (hyl : y.length = 4) (hx : ∀ v ∈ x, Lim s v) (hy : ∀ v ∈ y, Lim s v) : BM Tryd.prog G 88 [.i 8, .agg (Qq x), .agg (Qq y)] s.vars s.cl (.agg (Qq (Zv 8 s x y).1)) (Zv 8 s x y).2 := fun g0 g1 g2 g3 c2 c3 c4 m sn h2 h3 h4 hm hsn B b0 b1 b2 b3 => by
 have hv0 := hs.v0
 have hv1 := hs.v1
 have hlx : (Qq x).length = 4 := by rw [Qz, hxl]; rfl
 have hly : (Qq y).length = 4 := by rw [Qz, hyl]; rfl
 have h0Y : 0 < y.length := by omega
 have h1Y : 1 < y.length := by omega
 obtain ⟨t1, t2⟩ := ZU hs (by omega) (c := y[0]) 1 hx (hy _ (List.getElem_mem h0Y)) 4 (by omega)
 have t3 := t1.hi
 have hk1 := shifted_c (G := G) s hs (by omega) x y[0] 1 hxl hx (hy _ (List.getElem_mem h0Y)) ⟨by omega, by omega⟩
 have hk2 := shifted_c (G := G) (QO s x y[0] 1 4).2 t1.ok (by omega) (QO s x y[0] 1 4).1 y[1] 2 (Zb s x y[0] 1 4) t2 ((hy _ (List.getElem_mem h1Y)).mono t1.lo) ⟨by omega, by omega⟩
 have er : Zv 8 s x y = QO (QO s x y[0] 1 4).2 (QO s x y[0] 1 4).1 y[1] 2 4 := by rw [<- Ord.getD_lt h0Y 0, <- Ord.getD_lt h1Y 0]; rfl
 have w1 := Zb (QO s x y[0] 1 4).2 (QO s x y[0] 1 4).1 y[1] 2 4
 rw [er]
 clear t1 t2 t3 er hx hy
 generalize QO s x y[0] 1 4 = r at *
 generalize QO r.2 r.1 y[1] 2 4 = z at *
 have w2 : (Qq z.1).length = 4 := by rw [Qz, w1]; rfl
 refine Qb Tryd.func88 rfl Tryd.ntmps88 rfl (t := [(0, .ptr 0 g0 0), (1, .i 8), (2, .agg (Qq x)), (3, .agg (Qq y))]) rfl fun E hE => ?_
 (repeat' first | refine Qt rfl ?_ | refine Qv rfl ?_ | refine QH rfl rfl ?_ | refine Zd rfl rfl (hk1) rfl (fun _ _ => ?_) | refine Zd rfl rfl (hk2) rfl (fun _ _ => ?_) | refine Q5 (ds := Qq x) rfl rfl (fun gx hgx => ?_) | refine Q5 (ds := Qq y) rfl rfl (fun gy hgy => ?_) | refine Ql rfl rfl rfl (by first | assumption | rfl) (by first | assumption | rfl) rfl ?_ | refine QJ (fun _ _ => ?_) | refine Qe ?_ | refine Qp rfl ?_ | refine Qf ?_ | refine Qa ?_ | refine Qg ?_ | (refine Wa ?_; first | (refine Wu (fun p => p.1 :: p.2.1 :: p.2.2.1 :: p.2.2.2.1 :: .row gx (Qq x) :: .row gy (Qq y) :: p.2.2.2.2) 10 [(0, true), (1, true), (2, true), (3, true), (4, true), (6, true), (7, true), (5, false), (8, false), (9, false)] (by rfl) (by rfl) (by kernel_rfl) (by decide +kernel) (by decide +kernel) ⟨(_, _, _, _, _), rfl⟩ ?_) | (refine Wu (fun p => p.1 :: p.2.1 :: p.2.2.1 :: p.2.2.2.1 :: .row gx (Qq x) :: .row gy (Qq y) :: p.2.2.2.2) 6 [(0, true), (1, true), (2, true), (3, true), (4, false), (5, false)] (by rfl) (by rfl) (by kernel_rfl) (by decide +kernel) (by decide +kernel) ⟨(_, _, _, _, _), rfl⟩ ?_) | refine Wj (by rfl) (by kernel_rfl) (by kernel_rfl) ?_ | refine QT (by kernel_rfl) (by kernel_rfl) ?_) | refine Qs rfl ?_ | refine Qi rfl ?_ | refine Qm ?_ | refine i_nil ?_ | refine i_st rfl rfl (fun _ => (by (repeat' first | refine Qt rfl ?_ | refine Qu rfl rfl (by first | assumption | rfl) ?_ | refine Q9 rfl rfl rfl (by first | assumption | omega) rfl ?_ | refine Zp rfl rfl rfl (by omega) (by omega) ?_ | exact ⟨rfl, rfl⟩))) ?_ | refine i_ef rfl ?_ | refine i_ef0 ?_ | refine And.intro (Exists.intro ((_, _, _, _, _)) rfl) ?_)
 exact e_1 (Tryd.results88) (QY (size := 4) rfl rfl (Q4 w2) w2) (QC (σ := [_, _, _, _]) (r := [_, _, _]) ⟨rfl, _, by omega, rfl⟩)
theorem operation_9 (hG : G 0 = opsD) (s : St) (hs : Ok s) (hv : s.vars + 300 < 1099511627776) (x y : List Int) (hxl : x.length = 4) (hyl : y.length = 4) (hx : ∀ v ∈ x, Lim s v) (hy : ∀ v ∈ y, Lim s v) : BM Tryd.prog G 88 [.i 9, .agg (Qq x), .agg (Qq y)] s.vars s.cl (.agg (Qq (Zv 9 s x y).1)) (Zv 9 s x y).2 := fun g0 g1 g2 g3 c2 c3 c4 m sn h2 h3 h4 hm hsn B b0 b1 b2 b3 => by
 have hv0 := hs.v0
 have hv1 := hs.v1
 have hlx : (Qq x).length = 4 := by rw [Qz, hxl]; rfl
 have hly : (Qq y).length = 4 := by rw [Qz, hyl]; rfl
 have h0Y : 0 < y.length := by omega
 have h1Y : 1 < y.length := by omega
 obtain ⟨t1, t2⟩ := ZU hs (by omega) (c := y[0]) (-1) hx (hy _ (List.getElem_mem h0Y)) 4 (by omega)
 have t3 := t1.hi
 have hk1 := shifted_c (G := G) s hs (by omega) x y[0] (-1) hxl hx (hy _ (List.getElem_mem h0Y)) ⟨by omega, by omega⟩
 have hk2 := shifted_c (G := G) (QO s x y[0] (-1) 4).2 t1.ok (by omega) (QO s x y[0] (-1) 4).1 y[1] (-2) (Zb s x y[0] (-1) 4) t2 ((hy _ (List.getElem_mem h1Y)).mono t1.lo) ⟨by omega, by omega⟩
 have er : Zv 9 s x y = QO (QO s x y[0] (-1) 4).2 (QO s x y[0] (-1) 4).1 y[1] (-2) 4 := by rw [<- Ord.getD_lt h0Y 0, <- Ord.getD_lt h1Y 0]; rfl
 have w1 := Zb (QO s x y[0] (-1) 4).2 (QO s x y[0] (-1) 4).1 y[1] (-2) 4
 rw [er]
 clear t1 t2 t3 er hx hy
 generalize QO s x y[0] (-1) 4 = r at *
 generalize QO r.2 r.1 y[1] (-2) 4 = z at *
 have w2 : (Qq z.1).length = 4 := by rw [Qz, w1]; rfl
 refine Qb Tryd.func88 rfl Tryd.ntmps88 rfl (t := [(0, .ptr 0 g0 0), (1, .i 9), (2, .agg (Qq x)), (3, .agg (Qq y))]) rfl fun E hE => ?_
 (repeat' first | refine Qt rfl ?_ | refine Qv rfl ?_ | refine QH rfl rfl ?_ | refine Zd rfl rfl (hk1) rfl (fun _ _ => ?_) | refine Zd rfl rfl (hk2) rfl (fun _ _ => ?_) | refine Q5 (ds := Qq x) rfl rfl (fun gx hgx => ?_) | refine Q5 (ds := Qq y) rfl rfl (fun gy hgy => ?_) | refine Ql rfl rfl rfl (by first | assumption | rfl) (by first | assumption | rfl) rfl ?_ | refine QJ (fun _ _ => ?_) | refine Qe ?_ | refine Qp rfl ?_ | refine Qf ?_ | refine Qa ?_ | refine Qg ?_ | (refine Wa ?_; first | (refine Wu (fun p => p.1 :: p.2.1 :: p.2.2.1 :: p.2.2.2.1 :: .row gx (Qq x) :: .row gy (Qq y) :: p.2.2.2.2) 10 [(0, true), (1, true), (2, true), (3, true), (4, true), (6, true), (7, true), (5, false), (8, false), (9, false)] (by rfl) (by rfl) (by kernel_rfl) (by decide +kernel) (by decide +kernel) ⟨(_, _, _, _, _), rfl⟩ ?_) | (refine Wu (fun p => p.1 :: p.2.1 :: p.2.2.1 :: p.2.2.2.1 :: .row gx (Qq x) :: .row gy (Qq y) :: p.2.2.2.2) 6 [(0, true), (1, true), (2, true), (3, true), (4, false), (5, false)] (by rfl) (by rfl) (by kernel_rfl) (by decide +kernel) (by decide +kernel) ⟨(_, _, _, _, _), rfl⟩ ?_) | refine Wj (by rfl) (by kernel_rfl) (by kernel_rfl) ?_ | refine QT (by kernel_rfl) (by kernel_rfl) ?_) | refine Qs rfl ?_ | refine Qi rfl ?_ | refine Qm ?_ | refine i_nil ?_ | refine i_st rfl rfl (fun _ => (by (repeat' first | refine Qt rfl ?_ | refine Qu rfl rfl (by first | assumption | rfl) ?_ | refine Q9 rfl rfl rfl (by first | assumption | omega) rfl ?_ | refine Zp rfl rfl rfl (by omega) (by omega) ?_ | exact ⟨rfl, rfl⟩))) ?_ | refine i_ef rfl ?_ | refine i_ef0 ?_ | refine And.intro (Exists.intro ((_, _, _, _, _)) rfl) ?_)
 exact e_1 (Tryd.results88) (QY (size := 4) rfl rfl (Q4 w2) w2) (QC (σ := [_, _, _, _]) (r := [_, _, _]) ⟨rfl, _, by omega, rfl⟩)
theorem operation_10 (hG : G 0 = opsD) (s : St) (hs : Ok s) (hv : s.vars + 300 < 1099511627776) (x y : List Int) (hxl : x.length = 4) (hyl : y.length = 4) (hx : ∀ v ∈ x, Lim s v) (hy : ∀ v ∈ y, Lim s v) : BM Tryd.prog G 88 [.i 10, .agg (Qq x), .agg (Qq y)] s.vars s.cl (.agg (Qq (Zv 10 s x y).1)) (Zv 10 s x y).2 := fun g0 g1 g2 g3 c2 c3 c4 m sn h2 h3 h4 hm hsn B b0 b1 b2 b3 => by
 have hv0 := hs.v0
 have hv1 := hs.v1
 have hlx : (Qq x).length = 4 := by rw [Qz, hxl]; rfl
 have hly : (Qq y).length = 4 := by rw [Qz, hyl]; rfl
 have hk1 := less_c (G := G) s hs (by omega) x y hxl hyl hx hy
 have er : Zv 10 s x y = one4 (less s x y) := rfl
 rw [er]
 generalize less s x y = z at *
 refine Qb Tryd.func88 rfl Tryd.ntmps88 rfl (t := [(0, .ptr 0 g0 0), (1, .i 10), (2, .agg (Qq x)), (3, .agg (Qq y))]) rfl fun E hE => ?_
 (repeat' first | refine Qt rfl ?_ | refine Qv rfl ?_ | refine Qu rfl rfl (by first | assumption | rfl) ?_ | refine QH rfl rfl ?_ | refine Zd rfl rfl (hk1) rfl (fun _ _ => ?_) | refine Q5 (ds := Qq x) rfl rfl (fun gx hgx => ?_) | refine Q5 (ds := Qq y) rfl rfl (fun gy hgy => ?_) | refine Ql rfl rfl rfl (by first | assumption | rfl) (by first | assumption | rfl) rfl ?_ | refine s_build_a rfl rfl ?_ | refine QJ (fun _ _ => ?_) | refine Qe ?_ | refine Qp rfl ?_ | refine Q0 ?_ | refine Qf ?_ | refine Qa ?_ | refine Qg ?_ | refine Qs rfl ?_ | refine Qi rfl ?_ | refine Qm ?_)
 exact e_1 (Tryd.results88) (QY (size := 4) rfl rfl rfl rfl) (QC (σ := [_, _, _, _]) (r := [_, _, _]) ⟨rfl, _, by omega, rfl⟩)
theorem operation_11 (hG : G 0 = opsD) (s : St) (hs : Ok s) (hv : s.vars + 300 < 1099511627776) (x y : List Int) (hxl : x.length = 4) (hyl : y.length = 4) (hx : ∀ v ∈ x, Lim s v) (hy : ∀ v ∈ y, Lim s v) : BM Tryd.prog G 88 [.i 11, .agg (Qq x), .agg (Qq y)] s.vars s.cl (.agg (Qq (Zv 11 s x y).1)) (Zv 11 s x y).2 := fun g0 g1 g2 g3 c2 c3 c4 m sn h2 h3 h4 hm hsn B b0 b1 b2 b3 => by
 have hv0 := hs.v0
 have hv1 := hs.v1
 have hlx : (Qq x).length = 4 := by rw [Qz, hxl]; rfl
 have hly : (Qq y).length = 4 := by rw [Qz, hyl]; rfl
 have hk1 := same_c (G := G) s hs (by omega) x y hxl hyl hx hy
 have er : Zv 11 s x y = one4 (W5 s x y 4) := rfl
 rw [er]
 generalize W5 s x y 4 = z at *
 refine Qb Tryd.func88 rfl Tryd.ntmps88 rfl (t := [(0, .ptr 0 g0 0), (1, .i 11), (2, .agg (Qq x)), (3, .agg (Qq y))]) rfl fun E hE => ?_
 (repeat' first | refine Qt rfl ?_ | refine Qv rfl ?_ | refine Qu rfl rfl (by first | assumption | rfl) ?_ | refine QH rfl rfl ?_ | refine Zd rfl rfl (hk1) rfl (fun _ _ => ?_) | refine Q5 (ds := Qq x) rfl rfl (fun gx hgx => ?_) | refine Q5 (ds := Qq y) rfl rfl (fun gy hgy => ?_) | refine Ql rfl rfl rfl (by first | assumption | rfl) (by first | assumption | rfl) rfl ?_ | refine s_build_a rfl rfl ?_ | refine QJ (fun _ _ => ?_) | refine Qe ?_ | refine Qp rfl ?_ | refine Q0 ?_ | refine Qf ?_ | refine Qa ?_ | refine Qg ?_ | refine Qs rfl ?_ | refine Qi rfl ?_ | refine Qm ?_)
 exact e_1 (Tryd.results88) (QY (size := 4) rfl rfl rfl rfl) (QC (σ := [_, _, _, _]) (r := [_, _, _]) ⟨rfl, _, by omega, rfl⟩)
theorem operation_12 (hG : G 0 = opsD) (s : St) (hs : Ok s) (hv : s.vars + 300 < 1099511627776) (x y : List Int) (hxl : x.length = 4) (hyl : y.length = 4) (hx : ∀ v ∈ x, Lim s v) (hy : ∀ v ∈ y, Lim s v) : BM Tryd.prog G 88 [.i 12, .agg (Qq x), .agg (Qq y)] s.vars s.cl (.agg (Qq (Zv 12 s x y).1)) (Zv 12 s x y).2 := fun g0 g1 g2 g3 c2 c3 c4 m sn h2 h3 h4 hm hsn B b0 b1 b2 b3 => by
 have hv0 := hs.v0
 have hv1 := hs.v1
 have hlx : (Qq x).length = 4 := by rw [Qz, hxl]; rfl
 have hly : (Qq y).length = 4 := by rw [Qz, hyl]; rfl
 have h0X : 0 < x.length := by omega
 have h0Y : 0 < y.length := by omega
 have hk1 := and_c (G := G) s hs (by omega) x[0] y[0] (hx _ (List.getElem_mem h0X)) (hy _ (List.getElem_mem h0Y))
 have er : Zv 12 s x y = one4 (and s x[0] y[0]) := by rw [<- Ord.getD_lt h0X 0, <- Ord.getD_lt h0Y 0]; rfl
 rw [er]
 generalize and s x[0] y[0] = z at *
 refine Qb Tryd.func88 rfl Tryd.ntmps88 rfl (t := [(0, .ptr 0 g0 0), (1, .i 12), (2, .agg (Qq x)), (3, .agg (Qq y))]) rfl fun E hE => ?_
 (repeat' first | refine Qt rfl ?_ | refine Qv rfl ?_ | refine Q9 rfl rfl rfl (by first | assumption | omega) rfl ?_ | refine Zp rfl rfl rfl (by omega) (by omega) ?_ | refine QH rfl rfl ?_ | refine Zd rfl rfl (hk1) rfl (fun _ _ => ?_) | refine Q5 (ds := Qq x) rfl rfl (fun gx hgx => ?_) | refine Q5 (ds := Qq y) rfl rfl (fun gy hgy => ?_) | refine Ql rfl rfl rfl (by first | assumption | rfl) (by first | assumption | rfl) rfl ?_ | refine s_build_a rfl rfl ?_ | refine QJ (fun _ _ => ?_) | refine Qe ?_ | refine Qp rfl ?_ | refine Q0 ?_ | refine Qf ?_ | refine Qa ?_ | refine Qg ?_ | refine Qs rfl ?_ | refine Qi rfl ?_ | refine Qm ?_)
 exact e_1 (Tryd.results88) (QY (size := 4) rfl rfl rfl rfl) (QC (σ := [_, _, _, _]) (r := [_, _, _]) ⟨rfl, _, by omega, rfl⟩)
theorem operation_13 (hG : G 0 = opsD) (s : St) (hs : Ok s) (hv : s.vars + 300 < 1099511627776) (x y : List Int) (hxl : x.length = 4) (hyl : y.length = 4) (hx : ∀ v ∈ x, Lim s v) (hy : ∀ v ∈ y, Lim s v) : BM Tryd.prog G 88 [.i 13, .agg (Qq x), .agg (Qq y)] s.vars s.cl (.agg (Qq (Zv 13 s x y).1)) (Zv 13 s x y).2 := fun g0 g1 g2 g3 c2 c3 c4 m sn h2 h3 h4 hm hsn B b0 b1 b2 b3 => by
 have hv0 := hs.v0
 have hv1 := hs.v1
 have hlx : (Qq x).length = 4 := by rw [Qz, hxl]; rfl
 have hly : (Qq y).length = 4 := by rw [Qz, hyl]; rfl
 have h0X : 0 < x.length := by omega
 have h0Y : 0 < y.length := by omega
 have hk1 := or_c (G := G) s hs (by omega) x[0] y[0] (hx _ (List.getElem_mem h0X)) (hy _ (List.getElem_mem h0Y))
 have er : Zv 13 s x y = one4 (or s x[0] y[0]) := by rw [<- Ord.getD_lt h0X 0, <- Ord.getD_lt h0Y 0]; rfl
 rw [er]
 generalize or s x[0] y[0] = z at *
 refine Qb Tryd.func88 rfl Tryd.ntmps88 rfl (t := [(0, .ptr 0 g0 0), (1, .i 13), (2, .agg (Qq x)), (3, .agg (Qq y))]) rfl fun E hE => ?_
 (repeat' first | refine Qt rfl ?_ | refine Qv rfl ?_ | refine Q9 rfl rfl rfl (by first | assumption | omega) rfl ?_ | refine Zp rfl rfl rfl (by omega) (by omega) ?_ | refine QH rfl rfl ?_ | refine Zd rfl rfl (hk1) rfl (fun _ _ => ?_) | refine Q5 (ds := Qq x) rfl rfl (fun gx hgx => ?_) | refine Q5 (ds := Qq y) rfl rfl (fun gy hgy => ?_) | refine Ql rfl rfl rfl (by first | assumption | rfl) (by first | assumption | rfl) rfl ?_ | refine s_build_a rfl rfl ?_ | refine QJ (fun _ _ => ?_) | refine Qe ?_ | refine Qp rfl ?_ | refine Q0 ?_ | refine Qf ?_ | refine Qa ?_ | refine Qg ?_ | refine Qs rfl ?_ | refine Qi rfl ?_ | refine Qm ?_)
 exact e_1 (Tryd.results88) (QY (size := 4) rfl rfl rfl rfl) (QC (σ := [_, _, _, _]) (r := [_, _, _]) ⟨rfl, _, by omega, rfl⟩)
theorem operation_c (hG : G 0 = opsD) (op : Int) (hop : 0 <= op /\ op < 14) (s : St) (hs : Ok s) (hv : s.vars + 300 < 1099511627776) (x y : List Int) (hxl : x.length = 4) (hyl : y.length = 4) (hx : ∀ v ∈ x, Lim s v) (hy : ∀ v ∈ y, Lim s v) : BM Tryd.prog G 88 [.i op, .agg (Qq x), .agg (Qq y)] s.vars s.cl (.agg (Qq (Zv op s x y).1)) (Zv op s x y).2 := by
 have : op = 0 \/ op = 1 \/ op = 2 \/ op = 3 \/ op = 4 \/ op = 5 \/ op = 6 \/ op = 7 \/ op = 8 \/ op = 9 \/ op = 10 \/ op = 11 \/ op = 12 \/ op = 13 := by omega
 rcases this with rfl | rfl | rfl | rfl | rfl | rfl | rfl | rfl | rfl | rfl | rfl | rfl | rfl | rfl
 ·exact operation_0 hG s hs hv x y hxl hyl hx hy
 ·exact operation_1 hG s hs hv x y hxl hyl hx hy
 ·exact operation_2 hG s hs hv x y hxl hyl hx hy
 ·exact operation_3 hG s hs hv x y hxl hyl hx hy
 ·exact operation_4 hG s hs hv x y hxl hyl hx hy
 ·exact operation_5 hG s hs hv x y hxl hyl hx hy
 ·exact operation_6 hG s hs hv x y hxl hyl hx hy
 ·exact operation_7 hG s hs hv x y hxl hyl hx hy
 ·exact operation_8 hG s hs hv x y hxl hyl hx hy
 ·exact operation_9 hG s hs hv x y hxl hyl hx hy
 ·exact operation_10 hG s hs hv x y hxl hyl hx hy
 ·exact operation_11 hG s hs hv x y hxl hyl hx hy
 ·exact operation_12 hG s hs hv x y hxl hyl hx hy
 ·exact operation_13 hG s hs hv x y hxl hyl hx hy
theorem zero_lim {s : St} (hs : Ok s) : Lim s 0 := by
 have := hs.v0
 exact ⟨by omega, by omega⟩
theorem one4_lim {p : Int × St} (hg : Ok p.2) (hl : Lim p.2 p.1) : (one4 p).1.length = 4 /\ ∀ v ∈ (one4 p).1, Lim (one4 p).2 v := ⟨rfl, fun v hv => by
 have hv : v ∈ [p.1, 0, 0, 0] := hv
 simp only [List.mem_cons, List.not_mem_nil, or_false] at hv
 rcases hv with rfl | rfl | rfl | rfl
 ·exact hl
 all_goals exact zero_lim hg⟩
theorem qs {α : Type} {p : Prop} [Decidable p] {Q : α -> Prop} {a b : α} (ha : p -> Q a) (hb : ¬ p -> Q b) : Q (if p then a else b) := by
 by_cases h : p
 ·rw [if_pos h]; exact ha h
 ·rw [if_neg h]; exact hb h
def OpGood (s : St) (r : List Int × St) : Prop := Gate s r.2 100 /\ r.1.length = 4 /\ ∀ v ∈ r.1, Lim r.2 v
theorem table_good {s : St} (hs : Ok s) (hv : s.vars + 100 < 1099511627776) (op : Int) (x y : List Int) (n : Nat) : OpGood s ((freshTo s 4).1, tableTo (freshTo s 4).2 op x y (freshTo s 4).1 n) := by
 obtain ⟨g, l⟩ := freshTo_gate hs (by omega) 4 (by omega)
 obtain ⟨h1, h2⟩ := tableTo_ok g.ok op x y (freshTo s 4).1 n
 have k1 := g.lo
 have k2 := g.hi
 refine ⟨⟨h1, by show s.vars <= (tableTo _ _ _ _ _ n).vars; rw [h2]; exact k1, by show (tableTo _ _ _ _ _ n).vars <= _; rw [h2]; omega⟩, freshTo_len s 4, fun v hv => (l v hv).mono ?_⟩
 show (freshTo s 4).2.vars <= (tableTo _ _ _ _ _ n).vars
 rw [h2]; exact Int.le_refl _
theorem opNM_gate (op : Int) (s : St) (hs : Ok s) (hv : s.vars + 300 < 1099511627776) (x y : List Int) (hxl : x.length = 4) (hyl : y.length = 4) (hx : ∀ v ∈ x, Lim s v) (hy : ∀ v ∈ y, Lim s v) : OpGood s (Zv op s x y) := by
 have hv0 := hs.v0
 have w : ∀ {s' : St} {k : Int}, Gate s s' k -> k <= 100 -> Gate s s' 100 := fun h hk => ⟨h.ok, h.lo, by have := h.hi; omega⟩
 have m1 : Lim s (-1) := ⟨by omega, by omega⟩
 have p1 : Lim s 1 := ⟨by omega, by omega⟩
 unfold Zv
 refine qs (Q := OpGood s) (fun _ => ?_) (fun _ => ?_)
 ·obtain ⟨g, _, l⟩ := sumTo_gate hs (by omega) hx hy m1 4 (by omega)
  exact ⟨w g (by decide), ZF _ _ _ _ 4, l⟩
 refine qs (Q := OpGood s) (fun _ => ?_) (fun _ => ?_)
 ·obtain ⟨g, _, l⟩ := sumTo_gate hs (by omega) hx (y := Z0 y 4) (fun v hv => notTo_bd (M := s.vars + 1) (by omega) (fun v h => hy v h) 4 v hv) p1 4 (by omega)
  exact ⟨w g (by decide), ZF _ _ _ _ 4, l⟩
 refine qs (Q := OpGood s) (fun _ => ?_) (fun _ => ?_)
 ·obtain ⟨g, l⟩ := prodTo_gate hs hv hx hy 4 (by omega)
  exact ⟨w g (by decide), prodTo_len _ _ _ 4, l⟩
 refine qs (Q := OpGood s) (fun _ => ?_) (fun _ => ?_)
 ·obtain ⟨g, l⟩ := eachTo_gate and_gok hs (by omega) hx hy 4 (by omega)
  exact ⟨w g (by decide), eachTo_len _ _ _ hxl 4, l⟩
 refine qs (Q := OpGood s) (fun _ => ?_) (fun _ => ?_)
 ·obtain ⟨g, l⟩ := eachTo_gate or_gok hs (by omega) hx hy 4 (by omega)
  exact ⟨w g (by decide), eachTo_len _ _ _ hxl 4, l⟩
 refine qs (Q := OpGood s) (fun _ => ?_) (fun _ => ?_)
 ·obtain ⟨g, l⟩ := eachTo_gate xor_gok hs (by omega) hx hy 4 (by omega)
  exact ⟨w g (by decide), eachTo_len _ _ _ hxl 4, l⟩
 have sh : ∀ a b : Int, Gate s (QO (QO s x (y.getD 0 0) a 4).2 (QO s x (y.getD 0 0) a 4).1 (y.getD 1 0) b 4).2 100 /\ (QO (QO s x (y.getD 0 0) a 4).2 (QO s x (y.getD 0 0) a 4).1 (y.getD 1 0) b 4).1.length = 4 /\ ∀ v ∈ (QO (QO s x (y.getD 0 0) a 4).2 (QO s x (y.getD 0 0) a 4).1 (y.getD 1 0) b 4).1, Lim (QO (QO s x (y.getD 0 0) a 4).2 (QO s x (y.getD 0 0) a 4).1 (y.getD 1 0) b 4).2 v := fun a b => by
  obtain ⟨g1, l1⟩ := ZU hs (by omega) a hx (Wq hy hs.v0 0) 4 (by omega)
  have k1 := g1.hi
  obtain ⟨g2, l2⟩ := ZU g1.ok (by omega) b l1 ((Wq hy hs.v0 1).mono g1.lo) 4 (by omega)
  exact ⟨w (g1.trans g2) (by decide), Zb _ _ _ _ 4, l2⟩
 refine qs (Q := OpGood s) (fun _ => ?_) (fun _ => ?_)
 ·exact sh 1 2
 refine qs (Q := OpGood s) (fun _ => ?_) (fun _ => ?_)
 ·exact sh (-1) (-2)
 refine qs (Q := OpGood s) (fun _ => ?_) (fun _ => ?_)
 ·have hX : ∀ v ∈ ZZ x y, Lim s v := fun v h => by
   rcases List.mem_or_eq_of_mem_set h with h | rfl
   ·exact hx v h
   ·exact Wq hy hv0 3
  have hY : ∀ v ∈ ZZ y x, Lim s v := fun v h => by
   rcases List.mem_or_eq_of_mem_set h with h | rfl
   ·exact hy v h
   ·exact Wq hx hv0 3
  obtain ⟨g, l⟩ := lessTo_gate hs (by omega) hX hY 4 (by omega)
  exact ⟨w g (by decide), one4_lim g.ok l⟩
 refine qs (Q := OpGood s) (fun _ => ?_) (fun _ => ?_)
 ·obtain ⟨g, l⟩ := sameTo_gate hs (by omega) hx hy 4 (by omega)
  exact ⟨w g (by decide), one4_lim g.ok l⟩
 refine qs (Q := OpGood s) (fun _ => ?_) (fun _ => ?_)
 ·have g := Zf hs (by omega) (x.getD 0 0) (y.getD 0 0)
  exact ⟨w g (by decide), one4_lim g.ok ((Zz (Wq hx hv0 0) (Wq hy hv0 0) hv0).mono g.lo)⟩
 refine qs (Q := OpGood s) (fun _ => ?_) (fun _ => ?_)
 ·have g := or_gate hs (by omega) (x.getD 0 0) (y.getD 0 0)
  exact ⟨w g (by decide), one4_lim g.ok ((or_lim (Wq hx hv0 0) (Wq hy hv0 0) hv0).mono g.lo)⟩
 ·exact table_good hs (by omega) op x y 256
section
variable {P : Program}
def _root_.Go.Av.B6 (P : Program) (G : Nat -> DV) (f : FuncId) (args : Nat -> Nat -> List DV) (c : Int) (v : Int) (cl : List (List Int)) (res : DV) (s' : St) : Prop :=
 ∀ (g0 g1 g2 g3 gb gs : Nat) (c2 c3 c4 : DV) (m : List (Int × DV)) (sn : List (Value × DV)), c2.clo = true -> c3.clo = true -> c4.clo = true -> (∀ p ∈ Wg m, p.2.clo = true) -> (∀ p ∈ sn, p.2.clo = true) -> ∀ B, g0 <= B -> g1 <= B -> g2 <= B -> g3 <= B -> gb <= B -> gs <= B ->
  ACalls P G B f (args gb gs) [.row g0 [.sc (.int .i64 v), .ref 1 g1 0 cl.length 1, c2, c3, c4, .mp 2 g2, .mp 3 g3], .row g1 (Qq cl), .mapb g2 (Wg m), .mapb g3 sn, .row gb [.ptr 0 g0 0], .row gs [.i c]]
   (fun d' τ' => d' = res /\ ∃ g1', (g1' = g1 \/ B < g1') /\ τ' = [.row g0 [.sc (.int .i64 s'.vars), .ref 1 g1' 0 s'.cl.length 1, c2, c3, c4, .mp 2 g2, .mp 3 g3], .row g1' (Qq s'.cl), .mapb g2 (Wg m), .mapb g3 sn, .row gb [.ptr 0 g0 0], .row gs [.i c]])
variable {B : Nat} {f : Operand -> DV} {σ : List ABlk} {K : DV -> List ABlk -> Prop} {dst : Option Tmp} {type : TypeId} {pos : String} {after : Array Edge} {gd : Option (Nat × Bool)}
theorem s_callv_b6 {x : Operand} {args : Array Operand} {ts : Array TypeId} {fid : FuncId} {first cap ds : List DV} {c v : Int} {cl : List (List Int)} {res : DV} {s' : St} {g0 g1 g2 g3 gb gs : Nat} {c2 c3 c4 : DV} {m : List (Int × DV)} {sn : List (Value × DV)} {rest : List ABlk} [FnOk P fid]
  (hx : f x = .fn (.func fid) first cap) (hds : reL (first ++ args.toList.map f ++ cap) = some (ds ++ [.ptr 4 gb 0, .ptr 5 gs 0])) (h : B6 P G fid (fun gb gs => ds ++ [.ptr 4 gb 0, .ptr 5 gs 0]) c v cl res s')
  (hσ : σ = .row g0 [.sc (.int .i64 v), .ref 1 g1 0 cl.length 1, c2, c3, c4, .mp 2 g2, .mp 3 g3] :: .row g1 (Qq cl) :: .mapb g2 (Wg m) :: .mapb g3 sn :: .row gb [.ptr 0 g0 0] :: .row gs [.i c] :: rest)
  (h2 : c2.clo = true) (h3 : c3.clo = true) (h4 : c4.clo = true) (hm : ∀ p ∈ Wg m, p.2.clo = true) (hsn : ∀ p ∈ sn, p.2.clo = true) (hdc : ∀ d ∈ ds, d.clo = true) (hres : res.clo = true)
  (k : ∀ g1', (g1' = g1 \/ B < g1') -> K res (.row g0 [.sc (.int .i64 s'.vars), .ref 1 g1' 0 s'.cl.length 1, c2, c3, c4, .mp 2 g2, .mp 3 g3] :: .row g1' (Qq s'.cl) :: .mapb g2 (Wg m) :: .mapb g3 sn :: .row gb [.ptr 0 g0 0] :: .row gs [.i c] :: rest)) :
  OpSem P G B ⟨dst, .call ⟨.value x, args, ts⟩, type, pos, after, gd⟩ f σ K := by
 subst hσ
 have hrow : ∀ {n : Nat} {v : Int} {g1 l : Nat}, RenB (qf [0, 1, 2, 3, 4, 5] n) (.row g0 [.sc (.int .i64 v), .ref 1 g1 0 l 1, c2, c3, c4, .mp 2 g2, .mp 3 g3]) (.row g0 [.sc (.int .i64 v), .ref 1 g1 0 l 1, c2, c3, c4, .mp 2 g2, .mp 3 g3]) := fun {n v g1 l} =>
  .row (.cons (.clo (by simp [DV.clo])) (.cons (.ref rfl) (.cons (.clo h2) (.cons (.clo h3) (.cons (.clo h4) (.cons (.mp rfl) (.cons (.mp rfl) .nil)))))))
 have hbs : ∀ {n : Nat} {v : Int} {cl : List (List Int)} {g1 : Nat}, RenBs (qf [0, 1, 2, 3, 4, 5] n) [.row g0 [.sc (.int .i64 v), .ref 1 g1 0 cl.length 1, c2, c3, c4, .mp 2 g2, .mp 3 g3], .row g1 (Qq cl), .mapb g2 (Wg m), .mapb g3 sn, .row gb [.ptr 0 g0 0], .row gs [.i c]] [.row g0 [.sc (.int .i64 v), .ref 1 g1 0 cl.length 1, c2, c3, c4, .mp 2 g2, .mp 3 g3], .row g1 (Qq cl), .mapb g2 (Wg m), .mapb g3 sn, .row gb [.ptr 0 g0 0], .row gs [.i c]] := fun {n v cl g1} =>
  .cons hrow (.cons (.rowc (Qk cl)) (.cons (.map hm) (.cons (.map hsn) (.cons (.row (.cons (.ptr rfl) .nil)) (.cons (.row (.cons (.clo QA) .nil)) .nil)))))
 have happ : ∀ {ds : List DV} {n : Nat}, (∀ d ∈ ds, d.clo = true) -> RenL (RenD (qf [0, 1, 2, 3, 4, 5] n)) (ds ++ [.ptr 4 gb 0, .ptr 5 gs 0]) (ds ++ [.ptr 4 gb 0, .ptr 5 gs 0]) := by
  intro ds n hd
  induction ds with
  | nil => exact .cons (.s (.ptr rfl)) (.cons (.s (.ptr rfl)) .nil)
  | cons d r ih => exact .cons (.s (.clo (hd d (by simp)))) (ih fun e he => hd e (by simp [he]))
 refine s_callv_sub (R := fun B d' τ' => d' = res /\ ∃ g1', (g1' = g1 \/ B < g1') /\ τ' = [.row g0 [.sc (.int .i64 s'.vars), .ref 1 g1' 0 s'.cl.length 1, c2, c3, c4, .mp 2 g2, .mp 3 g3], .row g1' (Qq s'.cl), .mapb g2 (Wg m), .mapb g3 sn, .row gb [.ptr 0 g0 0], .row gs [.i c]]) [0, 1, 2, 3, 4, 5] hx hds (happ hdc) (by decide) rfl hbs (fun B' hB hg => h g0 g1 g2 g3 gb gs c2 c3 c4 m sn h2 h3 h4 hm hsn B' (hg 0 _ _ rfl rfl) (hg 1 _ _ rfl rfl) (hg 2 _ _ rfl rfl) (hg 3 _ _ rfl rfl) (hg 4 _ _ rfl rfl) (hg 5 _ _ rfl rfl)) ?_
 rintro B' d' τ' hB ⟨rfl, g1', hg, rfl⟩
 exact ⟨d', _, _, .s (.clo hres), hbs, rfl, k g1' (by omega)⟩
theorem s_call_b6 {args : Array Operand} {ts : Array TypeId} {fid : FuncId} {asg : Nat -> Nat -> List DV} {es : List DV} {c v : Int} {cl : List (List Int)} {res : DV} {s' : St} {g0 g1 g2 g3 gb gs : Nat} {c2 c3 c4 : DV} {m : List (Int × DV)} {sn : List (Value × DV)} {b5 b6 : ABlk} {rest : List ABlk} [FnOk P fid]
  (hx : f (.func fid) = .fn (.func fid) [] []) (hds : reL (args.toList.map f) = some es) (h : B6 P G fid asg c v cl res s')
  (hσ : σ = .row g0 [.sc (.int .i64 v), .ref 1 g1 0 cl.length 1, c2, c3, c4, .mp 2 g2, .mp 3 g3] :: .row g1 (Qq cl) :: .mapb g2 (Wg m) :: .mapb g3 sn :: .row gb [.ptr 0 g0 0] :: b5 :: b6 :: .row gs [.i c] :: rest)
  (h2 : c2.clo = true) (h3 : c3.clo = true) (h4 : c4.clo = true) (hm : ∀ p ∈ Wg m, p.2.clo = true) (hsn : ∀ p ∈ sn, p.2.clo = true) (hargs : ∀ n, RenL (RenD (qf [0, 1, 2, 3, 4, 7] n)) es (asg gb gs)) (hres : res.clo = true)
  (k : ∀ g1', (g1' = g1 \/ B < g1') -> K res (.row g0 [.sc (.int .i64 s'.vars), .ref 1 g1' 0 s'.cl.length 1, c2, c3, c4, .mp 2 g2, .mp 3 g3] :: .row g1' (Qq s'.cl) :: .mapb g2 (Wg m) :: .mapb g3 sn :: .row gb [.ptr 0 g0 0] :: b5 :: b6 :: .row gs [.i c] :: rest)) :
  OpSem P G B ⟨dst, .call ⟨.value (.func fid), args, ts⟩, type, pos, after, gd⟩ f σ K := by
 subst hσ
 have hrow : ∀ {n : Nat} {v : Int} {g1 l : Nat}, RenB (qf [0, 1, 2, 3, 4, 7] n) (.row g0 [.sc (.int .i64 v), .ref 1 g1 0 l 1, c2, c3, c4, .mp 2 g2, .mp 3 g3]) (.row g0 [.sc (.int .i64 v), .ref 1 g1 0 l 1, c2, c3, c4, .mp 2 g2, .mp 3 g3]) := fun {n v g1 l} =>
  .row (.cons (.clo (by simp [DV.clo])) (.cons (.ref rfl) (.cons (.clo h2) (.cons (.clo h3) (.cons (.clo h4) (.cons (.mp rfl) (.cons (.mp rfl) .nil)))))))
 have hbs : ∀ {n : Nat} {v : Int} {cl : List (List Int)} {g1 : Nat}, RenBs (qf [0, 1, 2, 3, 4, 7] n) [.row g0 [.sc (.int .i64 v), .ref 1 g1 0 cl.length 1, c2, c3, c4, .mp 2 g2, .mp 3 g3], .row g1 (Qq cl), .mapb g2 (Wg m), .mapb g3 sn, .row gb [.ptr 0 g0 0], .row gs [.i c]] [.row g0 [.sc (.int .i64 v), .ref 1 g1 0 cl.length 1, c2, c3, c4, .mp 2 g2, .mp 3 g3], .row g1 (Qq cl), .mapb g2 (Wg m), .mapb g3 sn, .row gb [.ptr 0 g0 0], .row gs [.i c]] := fun {n v cl g1} =>
  .cons hrow (.cons (.rowc (Qk cl)) (.cons (.map hm) (.cons (.map hsn) (.cons (.row (.cons (.ptr rfl) .nil)) (.cons (.row (.cons (.clo QA) .nil)) .nil)))))
 refine Zh (R := fun B d' τ' => d' = res /\ ∃ g1', (g1' = g1 \/ B < g1') /\ τ' = [.row g0 [.sc (.int .i64 s'.vars), .ref 1 g1' 0 s'.cl.length 1, c2, c3, c4, .mp 2 g2, .mp 3 g3], .row g1' (Qq s'.cl), .mapb g2 (Wg m), .mapb g3 sn, .row gb [.ptr 0 g0 0], .row gs [.i c]]) [0, 1, 2, 3, 4, 7] hx hds (hargs _) (by decide) rfl hbs (fun B' hB hg => h g0 g1 g2 g3 gb gs c2 c3 c4 m sn h2 h3 h4 hm hsn B' (hg 0 _ _ rfl rfl) (hg 1 _ _ rfl rfl) (hg 2 _ _ rfl rfl) (hg 3 _ _ rfl rfl) (hg 4 _ _ rfl rfl) (hg 5 _ _ rfl rfl)) ?_
 rintro B' d' τ' hB ⟨rfl, g1', hg, rfl⟩
 exact ⟨d', _, _, .s (.clo hres), hbs, rfl, k g1' (by omega)⟩
end
theorem made1_c (s : St) (hs : Ok s) (hv : s.vars + 4 < 1099511627776) (c x y : Int) (hc : Lim s c) (hx : Lim s x) (hy : Lim s y) : B6 Tryd.prog G 87 (fun gb gs => [.i x, .i y] ++ [.ptr 4 gb 0, .ptr 5 gs 0]) c s.vars s.cl (.i (muxM s c x y).1) (muxM s c x y).2 := fun g0 g1 g2 g3 gb gs c2 c3 c4 m sn h2 h3 h4 hm hsn B b0 b1 b2 b3 b4 b5 => by
 have hmux := mux_c (G := G) s hs (by omega) c x y hc hx hy
 refine Qb Tryd.func87 rfl Tryd.ntmps87 rfl (t := [(0, .i x), (1, .i y), (2, .ptr 4 gb 0), (3, .ptr 5 gs 0)]) rfl fun E hE => ?_
 (repeat' first | refine Qt rfl ?_ | refine Qv rfl ?_ | refine Qc rfl rfl rfl ?_ | refine Zd rfl rfl (hmux) rfl (fun _ _ => ?_) | refine Qe ?_ | refine Qp rfl ?_ | refine Qf ?_ | refine Qa ?_ | refine Qm ?_)
 exact e_1 (Tryd.results87) (Qh rfl) (Za ⟨rfl, _, by omega, rfl⟩)
def _root_.Go.Bl.muxG (c : Int) : St -> Int -> Int -> Int × St := fun s x y => muxM s c x y
theorem muxTo_gate {c : Int} {s : St} (hs : Ok s) (hv : s.vars + 100 < 1099511627776) {x y : List Int} (hc : Lim s c) (hx : ∀ v ∈ x, Lim s v) (hy : ∀ v ∈ y, Lim s v) : ∀ i : Nat, i <= 8 -> Gate s (eachTo (muxG c) s x y i).2 (3 * i) /\ ∀ v ∈ (eachTo (muxG c) s x y i).1, Lim (eachTo (muxG c) s x y i).2 v
 | 0, _ => ⟨⟨hs, Int.le_refl _, by show s.vars <= _; omega⟩, hx⟩
 | i + 1, hi => by
  obtain ⟨h1, h3⟩ := muxTo_gate hs hv hc hx hy i (by omega)
  have hh := h1.hi
  obtain ⟨g1, l1⟩ := mux_gate (x := (eachTo (muxG c) s x y i).1.getD i 0) (y := y.getD i 0) h1.ok (by omega) (hc.mono h1.lo) (Wq h3 h1.ok.v0 i) ((Wq hy hs.v0 i).mono h1.lo)
  refine ⟨by have := h1.trans g1; rwa [show (3 : Int) * (i : Int) + 3 = 3 * ((i + 1 : Nat) : Int) by omega] at this, fun v hv => ?_⟩
  rcases List.mem_or_eq_of_mem_set hv with hv | rfl
  ·exact (h3 v hv).mono g1.lo
  ·exact l1
theorem each6_c (s : St) (hs : Ok s) (hv : s.vars + 100 < 1099511627776) (c : Int) (x y : List Int) (hxl : x.length = 4) (hyl : y.length = 4) (hc : Lim s c) (hx : ∀ v ∈ x, Lim s v) (hy : ∀ v ∈ y, Lim s v) : B6 Tryd.prog G 86 (fun gb gs => [.agg (Qq x), .agg (Qq y), .fn (.func 87) [] [.ptr 4 gb 0, .ptr 5 gs 0]]) c s.vars s.cl (.agg (Qq (eachTo (muxG c) s x y 4).1)) (eachTo (muxG c) s x y 4).2 := fun g0 g1 g2 g3 gb gs c2 c3 c4 m sn h2 h3 h4 hm hsn B b0 b1 b2 b3 b4 b5 => by
 have hv0 := hs.v0
 have hv1 := hs.v1
 refine Qb Tryd.func86 rfl Tryd.ntmps86 rfl (t := [(0, .agg (Qq x)), (1, .agg (Qq y)), (2, .fn (.func 87) [] [.ptr 4 gb 0, .ptr 5 gs 0])]) rfl fun E hE => ?_
 have hlt := fun i hi => muxTo_gate hs hv hc hx hy i hi
 (repeat' first | refine Qt rfl ?_ | refine QJ (fun _ _ => ?_) | refine Q5 rfl rfl (fun _ _ => ?_) | refine Qe ?_ | refine Qp rfl ?_ | refine Qf ?_ | refine Qa ?_ | refine Qg ?_)
 rename_i gx hgx gy hgy gr hgr
 refine qb (fun (i gc : Nat) => ⟨[(2, .fn (.func 87) [] [.ptr 4 gb 0, .ptr 5 gs 0]), (3, .ptr 6 gx 0), (4, .ptr 7 gy 0), (6, .ptr 8 gr 0), (8, .i i)], [.row g0 [.sc (.int .i64 (eachTo (muxG c) s x y i).2.vars), .ref 1 gc 0 (eachTo (muxG c) s x y i).2.cl.length 1, c2, c3, c4, .mp 2 g2, .mp 3 g3], .row gc (Qq (eachTo (muxG c) s x y i).2.cl), .mapb g2 (Wg m), .mapb g3 sn, .row gb [.ptr 0 g0 0], .row gs [.i c], .row gx (Qq (eachTo (muxG c) s x y i).1), .row gy (Qq y), .row gr [.i 0, .i 0, .i 0, .i 0]]⟩) (fun i gc => i <= 4 /\ (gc = g1 \/ E.N < gc)) (fun i _ => 4 - i) 0 g1 ?_ ⟨by omega, .inl rfl⟩ ?_
 ·exact zal rfl
 intro i gc ⟨hi, hgc'⟩
 obtain ⟨hg, hlo⟩ := hlt i (by omega)
 have hol := eachTo_len (muxG c) s y hxl i
 (repeat' first | refine QG rfl rfl ?_ | refine Qe ?_ | refine Qp rfl ?_ | refine Qf ?_ | refine Qa ?_)
 refine QE rfl (fun h => ?_) (fun h => ?_)
 ·have hiY : i < y.length := by omega
  have hs1 : eachTo (muxG c) s x y (i + 1) = ((eachTo (muxG c) s x y i).1.set i (muxM (eachTo (muxG c) s x y i).2 c ((eachTo (muxG c) s x y i).1.getD i 0) y[i]).1, (muxM (eachTo (muxG c) s x y i).2 c ((eachTo (muxG c) s x y i).1.getD i 0) y[i]).2) := by
   rw [<- Ord.getD_lt hiY 0]; rfl
  have ho := hg.ok
  have hh := hg.hi
  have hb : Lim (eachTo (muxG c) s x y i).2 y[i] := (hy _ (List.getElem_mem hiY)).mono hg.lo
  have hcc := hc.mono hg.lo
  clear hlt
  generalize eachTo (muxG c) s x y i = q at *
  have hiQ : i < q.1.length := by omega
  rw [Ord.getD_lt hiQ] at hs1
  have hcall := made1_c (G := G) q.2 ho (by omega) c q.1[i] y[i] hcc (hlo _ (List.getElem_mem hiQ)) hb
  generalize muxM q.2 c q.1[i] y[i] = z at *
  clear hx hs hg ho hb hh hlo hcc hc
  (repeat' first | refine Qt rfl ?_ | refine Qv rfl ?_ | refine QS rfl rfl (by omega) ?_ | refine s_callv_b6 rfl rfl hcall rfl (by assumption) (by assumption) (by assumption) (by assumption) (by assumption) (by repeat' first | exact QX | refine QN ?_ ?_ | exact QA) QA (fun _ _ => ?_) | refine Q2 rfl rfl rfl rfl rfl (by first | assumption | omega) rfl ?_ | refine Qe ?_ | refine Qp rfl ?_ | refine Qf ?_ | refine Qa ?_ | refine Qg ?_ | (refine Wa ?_; first | (refine Wu (fun p => p.1 :: p.2.1 :: p.2.2.1 :: p.2.2.2.1 :: p.2.2.2.2.1 :: p.2.2.2.2.2.1 :: .row gx (Qq q.1) :: .row gy (Qq y) :: p.2.2.2.2.2.2) 10 [(0, true), (1, true), (2, true), (3, true), (4, true), (5, true), (6, true), (7, true), (8, false), (9, true), (10, false)] (by rfl) (by rfl) (by kernel_rfl) (by decide +kernel) (by decide +kernel) ⟨(_, _, _, _, _, _, _), rfl⟩ ?_) | refine Wj (by rfl) (by kernel_rfl) (by kernel_rfl) ?_ | refine QT (by kernel_rfl) (by kernel_rfl) ?_) | refine Qj ?_ | refine i_nil ?_ | refine i_z0 ?_ | refine i_st rfl rfl (fun _ => (by (repeat' first | refine Qt rfl ?_ | refine Q9 rfl rfl rfl (by first | assumption | omega) rfl ?_ | refine WB rfl rfl rfl (by omega) ?_ | exact ⟨rfl, rfl⟩))) ?_ | refine i_ef rfl ?_ | refine And.intro (Exists.intro ((_, _, _, _, _, _, _)) rfl) ?_)
  rename_i ga hga
  refine ⟨i + 1, ga, ⟨by omega, by omega⟩, by omega, ?_⟩
  rw [hs1]
  exact zal rfl
 ·have hi4 : i = 4 := by omega
  subst hi4
  have w1 : (Qq (eachTo (muxG c) s x y 4).1).length = 4 := by rw [Qz, hol]; rfl
  clear hlt hlo hg
  generalize eachTo (muxG c) s x y 4 = q at *
  (repeat' first | refine Qu rfl rfl (by first | assumption | rfl) ?_ | refine Ql rfl rfl rfl (by first | assumption | rfl) (by first | assumption | rfl) rfl ?_ | refine Qe ?_ | refine Qp rfl ?_ | refine Q0 ?_ | refine Qf ?_ | refine Qa ?_ | refine QU rfl ?_ | refine Qm ?_)
  exact e_1 (Tryd.results86) (QY (size := 4) rfl rfl (Q4 w1) w1) (QC (σ := [_, _, _, _, _, _]) (r := [_, _, _]) ⟨rfl, gc, by omega, rfl⟩)
end Go.Proofs
end
section
namespace Go.Av
open Go.Bl
abbrev ZP := List (List UInt8 × List Int)
def Zo (S : ZP) : List (Value × DV) := S.map fun p => (.string ⟨p.1.toArray⟩, .agg (Qq p.2))
def idxS (S : ZP) (x : List UInt8) : Option Nat := S.findIdx? fun p => decide (p.1 = x)
def getS (S : ZP) (x : List UInt8) : Option (List Int) := (idxS S x).map fun j => (S.getD j ([], [])).2
def putS (S : ZP) (x : List UInt8) (v : List Int) : ZP := match idxS S x with
 | some j => S.set j (x, v)
 | none => S ++ [(x, v)]
theorem qk {S : ZP} : ∀ p ∈ Zo S, p.2.clo = true := fun p hp => by
 simp only [Zo, List.mem_map] at hp
 obtain ⟨x, _, rfl⟩ := hp
 exact QB (Qk _)
theorem strv_beq (x y : List UInt8) : ((⟨x.toArray⟩ : ByteArray) == ⟨y.toArray⟩) = decide (x = y) := by
 show (x.toArray == y.toArray) = decide (x = y)
 rw [Bool.eq_iff_iff]
 simp
theorem findStr_none {x : List UInt8} : ∀ (es : List MapEntry) (i0 : Nat), (∀ e ∈ es, ∃ y : List UInt8, y ≠ x /\ e.key = .string ⟨y.toArray⟩) -> Instr.findNow .string (.string ⟨x.toArray⟩) es i0 = some none
 | [], _, _ => rfl
 | e :: r, i0, h => by
  obtain ⟨y, hy, hk⟩ := h e (by simp)
  have : ((⟨x.toArray⟩ : ByteArray) == ⟨y.toArray⟩) = false := by rw [strv_beq]; exact decide_eq_false fun e => hy e.symm
  simp only [Instr.findNow, hk, Instr.sameNow, this]
  exact findStr_none r _ fun e he => h e (by simp [he])
theorem findStr_some {x : List UInt8} : ∀ (es : List MapEntry) (i0 j : Nat) (hj : j < es.length), es[j].key = .string ⟨x.toArray⟩ -> (∀ i (hi : i < j), ∃ y : List UInt8, y ≠ x /\ (es[i]'(by omega)).key = .string ⟨y.toArray⟩) -> Instr.findNow .string (.string ⟨x.toArray⟩) es i0 = some (some (i0 + j, es[j].val))
 | [], _, _, hj, _, _ => by simp at hj
 | e :: r, i0, 0, _, hk, _ => by
  have hk : e.key = .string ⟨x.toArray⟩ := hk
  simp only [Instr.findNow, hk, Instr.sameNow, strv_beq, decide_true]
  rfl
 | e :: r, i0, j + 1, hj, hk, hno => by
  obtain ⟨y, hy, hke⟩ := hno 0 (by omega)
  have hke : e.key = .string ⟨y.toArray⟩ := hke
  have : ((⟨x.toArray⟩ : ByteArray) == ⟨y.toArray⟩) = false := by rw [strv_beq]; exact decide_eq_false fun e => hy e.symm
  simp only [Instr.findNow, hke, Instr.sameNow, this]
  have := findStr_some (x := x) r (i0 + 1) j (by simpa using hj) (by simpa using hk) (fun i hi => by have := hno (i + 1) (by omega); simpa using this)
  rw [this]
  simp; omega
section
variable {P : Program} {G : Nat -> DV} {B : Nat} {f : Operand -> DV} {σ : List ABlk} {K : DV -> List ABlk -> Prop} {dst : Option Tmp} {type : TypeId} {pos : String} {after : Array Edge} {gd : Option (Nat × Bool)}
theorem seen_keys {X : AX} {S : ZP} {es : Array MapEntry} (hl : es.size = (Zo S).length) (h : ∀ (j : Nat) (k : Value) (d : DV), (Zo S)[j]? = some (k, d) -> (es.getD j default).key = k /\ VRep X.lay d (es.getD j default).val) :
  es.toList.length = S.length /\ ∀ j (hj : j < S.length) (hj' : j < es.toList.length), es.toList[j].key = .string ⟨S[j].1.toArray⟩ /\ VRep X.lay (.agg (Qq S[j].2)) es.toList[j].val := by
 have hl' : es.size = S.length := by simpa [Zo] using hl
 refine ⟨by simpa using hl', fun j hj hj' => ?_⟩
 have := h j (.string ⟨S[j].1.toArray⟩) (.agg (Qq S[j].2)) (by simp [Zo, hj])
 have e : es.getD j default = es.toList[j] := by simp [Array.getD_eq_getD_getElem?, show j < es.size by omega]
 rwa [e] at this
theorem s_lookup_sok {t kt et : TypeId} {agg a1 : Bool} {size s1 : Nat} {m ix : Operand} {k g : Nat} {S : ZP} {x : List UInt8} [ht : TyI P t (.map kt et) agg size] [hkt : TyI P kt .string a1 s1] (hm : f m = .mp k g) (hσk : σ[k]? = some (.mapb g (Zo S))) (hx : f ix = .sc (.string ⟨x.toArray⟩)) (hz : (P.info? et).bind (·.zero) = some (.agg #[.int .i64 0, .int .i64 0, .int .i64 0, .int .i64 0]))
  (kk : K (.tup [.agg (Qq ((getS S x).getD [0, 0, 0, 0])), .b (getS S x).isSome]) σ) : OpSem P G B ⟨dst, .lookup t m ix true, type, pos, after, gd⟩ f σ K := fun X ρ hS hσ hB _ hf => by
 subst hσ
 have e1 := hf m (by simp [Op.operands]); rw [hm] at e1
 have e2 := hf ix (by simp [Op.operands]); rw [hx] at e2
 have e2 := VRep.sc_eq e2
 obtain ⟨b, n, es, clock, hρ, hb, hl, _, hes⟩ := hS.map hσk
 have e1 := VRep.mp_inv hσk e1 hρ
 obtain ⟨hls, hke⟩ := seen_keys hl hes
 have key : ∃ v, (Instr.lookup t (ρ m) (ρ ix) true).run P X.w = .ok (.tuple #[v, .bool (getS S x).isSome]) X.w /\ VRep X.lay (.agg (Qq ((getS S x).getD [0, 0, 0, 0]))) v := by
  rw [e1, e2]
  cases hfi : idxS S x with
  | none =>
   have hno := List.findIdx?_eq_none_iff.1 hfi
   have hg : getS S x = none := by unfold getS; rw [hfi]; rfl
   have hf := findStr_none (x := x) es.toList 0 fun e he => by
    obtain ⟨j, hj, rfl⟩ := List.getElem_of_mem he
    exact ⟨_, of_decide_eq_false (hno _ (List.getElem_mem (show j < S.length by omega))), (hke j (by omega) hj).1⟩
   have h1 : (zeroValue et).run P X.w = .ok (.agg #[.int .i64 0, .int .i64 0, .int .i64 0, .int .i64 0]) X.w := by
    cases hi : P.info? et with
    | none => simp [hi] at hz
    | some i =>
     simp [hi] at hz
     simp [zeroValue, typeInfo, hi, hz, Result.andThen]
   refine ⟨.agg #[.int .i64 0, .int .i64 0, .int .i64 0, .int .i64 0], ?_, ?_⟩
   ·rw [hg]
    simp [Instr.lookup, run_underlying ht.u, MapKept.run_getObj_map hb, MapKept.run_checkKey hkt.u (k := .string ⟨x.toArray⟩) trivial, MapKept.run_findKey hkt.u hf, Result.andThen, h1]
   ·rw [hg]
    refine .agg _ _ rfl (encs_one _) fun j d hj => ?_
    match j, hj with
    | 0, hj => cases hj; exact .sc _
    | 1, hj => cases hj; exact .sc _
    | 2, hj => cases hj; exact .sc _
    | 3, hj => cases hj; exact .sc _
    | j + 4, hj => exact absurd (show ([DV.i 0, .i 0, .i 0, .i 0] : List DV)[j + 4]? = some d from hj) (by simp)
  | some j =>
   obtain ⟨h1, h2, h3⟩ := List.findIdx?_eq_some_iff_getElem.1 hfi
   have hj : j < es.toList.length := by omega
   have e : S[j].1 = x := of_decide_eq_true h2
   have hg : getS S x = some S[j].2 := by
    unfold getS; rw [hfi, Option.map_some, List.getD_eq_getElem?_getD, List.getElem?_eq_getElem h1]; rfl
   have hf := findStr_some (x := x) es.toList 0 j hj (by rw [(hke j h1 hj).1, e]) fun i hi => ⟨_, fun e => h3 i hi (decide_eq_true e), (hke i (by omega) (by omega)).1⟩
   refine ⟨es.toList[j].val, ?_, by rw [hg]; exact (hke j h1 hj).2⟩
   rw [hg]
   simp [Instr.lookup, run_underlying ht.u, MapKept.run_getObj_map hb, MapKept.run_checkKey hkt.u (k := .string ⟨x.toArray⟩) trivial, MapKept.run_findKey hkt.u hf, Result.andThen]
 obtain ⟨v, hrun, hv⟩ := key
 simp only [execOp, hrun, Sem.run_bind, Sem.run_pure, Result.andThen_ok]
 refine ⟨X, rfl, hS, WExt.refl X, _, .tup _ _ rfl fun j d hj => ?_, kk⟩
 match j, hj with
 | 0, hj => cases hj; exact hv
 | 1, hj => cases hj; exact .sc _
 | j + 2, hj => simp at hj
theorem run_mapUpdateS_new {m kt et : TypeId} {w : World} {b clock : Nat} {es : Array MapEntry} {x : ByteArray} {v : Value} (hm : P.underlying m = some (.map kt et)) (hk : P.underlying kt = some .string) (hb : w.heap[b]? = some (.map es clock)) (hf : Instr.findNow .string (.string x) es.toList 0 = some none) :
  (Instr.mapUpdate m (.map (some b)) (.string x) v).run P w = .ok () { w with heap := w.heap.setIfInBounds b (.map (es.push { key := .string x, val := v, born := clock }) (clock + 1)) } := by
 simp [Instr.mapUpdate, run_underlying hm, MapKept.run_getObj_map hb, MapKept.run_checkKey hk (k := .string x) trivial, MapKept.run_findKey hk hf, MapKept.run_setObj_map _ hb, Result.andThen]
theorem run_mapUpdateS_old {m kt et : TypeId} {w : World} {b clock j : Nat} {es : Array MapEntry} {x : ByteArray} {v u : Value} (hm : P.underlying m = some (.map kt et)) (hk : P.underlying kt = some .string) (hb : w.heap[b]? = some (.map es clock)) (hf : Instr.findNow .string (.string x) es.toList 0 = some (some (j, u))) (hj : j < es.size) (hkey : es[j].key = .string x) :
  (Instr.mapUpdate m (.map (some b)) (.string x) v).run P w = .ok () { w with heap := w.heap.setIfInBounds b (.map (es.modify j fun e => { e with key := .string x, val := v }) clock) } := by
 have e : ((es[j]?.map (·.key)).getD (.string x)) = .string x := by simp [hj, hkey]
 have hxx : (x == x) = true := by show (x.data == x.data) = true; simp
 have hks : (Instr.keyThatStays (.string x) (.string x)).run P w = .ok (.string x) w := by simp [Instr.keyThatStays, Instr.sameBits, hxx]
 simp [Instr.mapUpdate, run_underlying hm, MapKept.run_getObj_map hb, MapKept.run_checkKey hk (k := .string x) trivial, MapKept.run_findKey hk hf, MapKept.run_setObj_map _ hb, Result.andThen, e, hks, hj, hkey]
theorem seen_put {t kt et : TypeId} {agg a1 : Bool} {size s1 : Nat} {k g : Nat} {l : ZP} {x : List UInt8} {u : List Int} {σ' : List ABlk} (ht : TyI P t (.map kt et) agg size) (hkt : TyI P kt .string a1 s1) {X : AX} (hS : Sto X) {vm vk v : Value} (e1 : VRep X.lay (.mp k g) vm) (hσk : X.σ[k]? = some (.mapb g (Zo l))) (e2 : vk = .string ⟨x.toArray⟩) (e3 : VRep X.lay (.agg (Qq u)) v)
  (hσ' : setA X.σ k (.mapb g (Zo (putS l x u))) = some σ') (kk : K (.sc undef) σ') : ∃ w', (Instr.mapUpdate t vm vk v).run P X.w = .ok () w' /\ APost X K undef w' := by
 subst e2
 obtain ⟨b, n, es, clock, hρ, hb, hl, hc, hes⟩ := hS.map hσk
 have e1 := VRep.mp_inv hσk e1 hρ
 subst e1
 obtain ⟨hlt, hkey⟩ := seen_keys hl hes
 have hl' : es.size = l.length := by simpa using hlt
 have hbl := lt_of_heap hb
 rw [ZI hσ'] at kk
 cases hfi : idxS l x with
 | none =>
  have hno := List.findIdx?_eq_none_iff.1 hfi
  have hf := findStr_none (x := x) es.toList 0 fun e he => by
   obtain ⟨j, hj, rfl⟩ := List.getElem_of_mem he
   exact ⟨_, of_decide_eq_false (hno _ (List.getElem_mem (show j < l.length by omega))), (hkey j (by omega) hj).1⟩
  refine ⟨_, run_mapUpdateS_new ht.u hkt.u hb hf, ?_⟩
  have hp : putS l x u = l ++ [(x, u)] := by unfold putS; rw [hfi]
  rw [hp] at kk
  refine post_map hS hσk hρ hbl (by simp [Zo, hl']) (fun e he => ?_) (fun j kv dd hj => ?_) kk
  ·rcases Array.mem_push.1 he with he | rfl
   ·exact Nat.lt_succ_of_lt (hc e he)
   ·exact Nat.lt_succ_self _
  ·have hjl : j < l.length + 1 := by have := (List.getElem?_eq_some_iff.1 hj).1; simpa [Zo] using this
   by_cases h : j < l.length
   ·have hj' : (Zo l)[j]? = some (kv, dd) := by
     rw [<- hj]; simp [Zo, List.getElem?_append, h]
    have := hes j kv dd hj'
    have e : (es.push { key := .string ⟨x.toArray⟩, val := v, born := clock }).getD j default = es.getD j default := by
     simp [Array.getD_eq_getD_getElem?, Array.getElem?_push, show j ≠ es.size by omega]
    rw [e]; exact this
   ·have hjj : j = l.length := by omega
    subst hjj
    simp [Zo] at hj
    obtain ⟨rfl, rfl⟩ := hj
    have e : (es.push { key := .string ⟨x.toArray⟩, val := v, born := clock }).getD l.length default = { key := .string ⟨x.toArray⟩, val := v, born := clock } := by
     rw [<- hl']; simp [Array.getD_eq_getD_getElem?]
    rw [e]; exact ⟨rfl, e3⟩
 | some j0 =>
  obtain ⟨h1, h2, h3⟩ := List.findIdx?_eq_some_iff_getElem.1 hfi
  have h2 : l[j0].1 = x := of_decide_eq_true h2
  have hj : j0 < es.toList.length := by omega
  have hk0 := (hkey j0 h1 hj).1
  rw [h2] at hk0
  have hf := findStr_some (x := x) es.toList 0 j0 hj hk0 fun i hi => ⟨_, fun e => h3 i hi (decide_eq_true e), (hkey i (by omega) (by omega)).1⟩
  refine ⟨_, run_mapUpdateS_old ht.u hkt.u hb (by simpa using hf) (by omega) (by simpa using hk0), ?_⟩
  have hp : putS l x u = l.set j0 (x, u) := by unfold putS; rw [hfi]
  rw [hp] at kk
  refine post_map hS hσk hρ hbl (by simp [Zo, hl']) (fun e he => ?_) (fun j kv dd hj' => ?_) kk
  ·obtain ⟨i, hi, rfl⟩ := Array.getElem_of_mem he
   rw [Array.getElem_modify]
   have hi' : i < es.size := by simpa using hi
   split
   ·exact hc es[i] (Array.getElem_mem hi')
   ·exact hc _ (Array.getElem_mem hi')
  ·have hjl : j < l.length := by have := (List.getElem?_eq_some_iff.1 hj').1; simpa [Zo] using this
   by_cases h : j = j0
   ·subst h
    simp [Zo, hjl] at hj'
    obtain ⟨rfl, rfl⟩ := hj'
    have e : ((es.modify j fun e => { e with key := .string ⟨x.toArray⟩, val := v }).getD j default).key = .string ⟨x.toArray⟩ /\ ((es.modify j fun e => { e with key := .string ⟨x.toArray⟩, val := v }).getD j default).val = v := by
     rw [Array.getD_eq_getD_getElem?, Array.getElem?_modify, if_pos rfl, Array.getElem?_eq_getElem (show j < es.size by omega)]
     exact ⟨rfl, rfl⟩
    rw [e.1, e.2]; exact ⟨rfl, e3⟩
   ·have hj2 : (Zo l)[j]? = some (kv, dd) := by
     rw [<- hj']; simp [Zo, List.getElem?_set, show ¬ j0 = j from fun e => h e.symm]
    have := hes j kv dd hj2
    have e : (es.modify j0 fun e => { e with key := .string ⟨x.toArray⟩, val := v }).getD j default = es.getD j default := by
     simp [Array.getD_eq_getD_getElem?, Array.getElem?_modify, show ¬ j0 = j from fun e => h e.symm]
    rw [e]; exact this
theorem s_mapupd_s {t kt et : TypeId} {agg a1 : Bool} {size s1 : Nat} {m ix y : Operand} {k g : Nat} {l : ZP} {x : List UInt8} {u : List Int} {σ' : List ABlk} [ht : TyI P t (.map kt et) agg size] [hkt : TyI P kt .string a1 s1] (hm : f m = .mp k g) (hσk : σ[k]? = some (.mapb g (Zo l))) (hx : f ix = .sc (.string ⟨x.toArray⟩)) (hy : f y = .agg (Qq u))
  (hσ' : setA σ k (.mapb g (Zo (putS l x u))) = some σ') (kk : K (.sc undef) σ') : OpSem P G B ⟨dst, .mapUpdate t m ix y, type, pos, after, gd⟩ f σ K := fun X ρ hS hσ hB _ hf => by
 subst hσ
 have e1 := hf m (by simp [Op.operands]); rw [hm] at e1
 have e2 := hf ix (by simp [Op.operands]); rw [hx] at e2
 have e3 := hf y (by simp [Op.operands]); rw [hy] at e3
 obtain ⟨w', h1, h2⟩ := seen_put (K := K) ht hkt hS e1 hσk (VRep.sc_eq e2) e3 hσ' kk
 simp only [execOp, h1, Sem.run_bind, Sem.run_pure, Result.andThen_ok]
 exact h2
end
section
variable {P : Program} {G : Nat -> DV} {B : Nat} {f : Operand -> DV} {σ : List ABlk} {K : DV -> List ABlk -> Prop} {dst : Option Tmp} {type : TypeId} {pos : String} {after : Array Edge} {gd : Option (Nat × Bool)}
theorem s_slice_arr {t e n es : Nat} {g1 g2 : Bool} {z1 : Nat} {td : TypeDesc} {x : Operand} {lo hi : Option Operand} {vlo vhi : Option Value} {m g l h : Nat} {cs : List DV} [ht : TyI P t (.array n e) g1 z1] [he : TyI P e td g2 es] (hx : f x = .ptr m g 0) (hm : σ[m]? = some (.row g cs))
  (hlo : optV f lo vlo) (hhi : optV f hi vhi) (hb : Bnd vlo vhi n l h) (hlh : l <= h) (hh : h <= n) (hn : n * es <= cs.length) (k : K (.ref m g (l * es) (h - l) es) σ) : OpSem P G B ⟨dst, .slice t x lo hi none, type, pos, after, gd⟩ f σ K := fun X ρ hS hσ _ _ hf => by
 subst hσ
 have e1 := hf x (by simp [Op.operands]); rw [hx] at e1
 have e2 := optV_eq (fun y hy => hf y (by simp [Op.operands]; simp at hy; simp [hy])) hlo
 have e3 := optV_eq (fun y hy => hf y (by simp [Op.operands]; simp at hy; simp [hy])) hhi
 obtain ⟨b, nn, hρ, e4⟩ := e1.ptr_inv hm
 obtain ⟨arr, T, fr, q1, q2, q3, _⟩ := hS.row hm hρ
 have hrun : (Instr.sliceAt t (.pointer (some ⟨b, 0, none⟩)) vlo vhi none).run P X.w = .ok (.slice (some (if n = l then ⟨b, 0, none⟩ else (⟨b, 0, none⟩ : Addr).add (l * es))) (h - l) (n - l)) X.w := by
  cases hb with
  | lh h1 h2 h3 =>
   subst h1; subst h2
   simp [Instr.sliceAt, run_underlying ht.u, Instr.sliceBounds, Instr.sliceBound, asIntOf, Ww he, Instr.sureAddr, hh, h3, Int.ofNat_le]
  | h h1 =>
   subst h1
   simp [Instr.sliceAt, run_underlying ht.u, Instr.sliceBounds, Instr.sliceBound, asIntOf, Ww he, Instr.sureAddr, hh, Int.ofNat_le]
  | l h1 h2 =>
   subst h1
   simp [Instr.sliceAt, run_underlying ht.u, Instr.sliceBounds, Instr.sliceBound, asIntOf, Ww he, Instr.sureAddr, h2, Int.ofNat_le]
  | all => simp [Instr.sliceAt, run_underlying ht.u, Instr.sliceBounds, Instr.sliceBound, asIntOf, Ww he, Instr.sureAddr]
 simp only [execOp, e4, e2, e3, Option.map_none, hrun, Sem.run_bind, Sem.run_pure, Result.andThen_ok]
 refine Q7 hS (.ref _ _ _ _ _ _ _ _ (hS.gen m g (Wr hm)) fun ob hob => ?_) k
 rw [AX.row_mk (Wr hm), hρ] at hob
 rw [<- Option.some.inj hob]
 refine ⟨_, n - l, rfl, by omega, ?_⟩
 by_cases hnl : n = l
 ·left; omega
 ·right
  refine ⟨by rw [if_neg hnl, qh, Nat.zero_add], ?_⟩
  have : (n - l) * es = n * es - l * es := Nat.sub_mul _ _ _
  have : l * es <= n * es := Nat.mul_le_mul_right _ (by omega)
  omega
def u8s (l : List UInt8) : List DV := l.map fun b => .sc (.int .u8 (b.toNat : Int))
theorem s_conv_bytes {s d e : TypeId} {g1 g2 g3 : Bool} {z1 z2 z3 : Nat} {x : Operand} {m g off len : Nat} {cs : List DV} {l : List UInt8} [hs : TyI P s (.slice e) g1 z1] [he : TyI P e (.int .u8) g2 z2] [hd : TyI P d .string g3 z3]
  (hx : f x = .ref m g off len 1) (hm : σ[m]? = some (.row g cs)) (h0 : 0 < len) (hlen : l.length = len) (hl : (cs.drop off).take len = u8s l) (k : K (strD l) σ) : OpSem P G B ⟨dst, .convert s d x, type, pos, after, gd⟩ f σ K := fun X ρ hS hσ _ _ hf => by
 subst hσ
 have e1 := hf x (by simp [Op.operands]); rw [hx] at e1
 obtain ⟨a, cap, e4, h2, h3⟩ := e1.ref_slice hm
 obtain ⟨b, n, hρ, rfl, h5⟩ := h3 h0
 obtain ⟨arr, T, fr, q1, q2, q3, _⟩ := hS.row hm hρ
 have hcell : ∀ i, i < l.length -> X.w.cell? ⟨b, off + i, none⟩ = some (.int .u8 ((l.map fun b => (b.toNat : Int)).getD i 0)) := fun i hi => by
  have hi' : ((cs.drop off).take len)[i]? = some (.sc (.int .u8 (l[i].toNat : Int))) := by rw [hl]; simp [u8s, hi]
  have hil : i < len := by
   have := (List.getElem?_eq_some_iff.1 hi').1
   rw [List.length_take] at this; omega
  rw [List.getElem?_take_of_lt hil, List.getElem?_drop] at hi'
  obtain ⟨v, c1, c2, _⟩ := row_cell hS hm hρ hi'
  rw [c1, VRep.sc_eq c2]
  simp [List.getD_eq_getElem?_getD, hi]
 have hrun := run_convert_bytes_arg (P := P) X.w s e hs.u he.u b off len cap (l.map fun b => (b.toNat : Int)) (by simp [hlen]) (fun i hi => hcell i (by omega)) d hd.u
 have hstr : strOfNums (l.map fun b => (b.toNat : Int)) = ⟨l.toArray⟩ := by
  apply ByteArray.ext
  apply Array.toList_inj.1
  rw [strOfNums_data, List.map_map]
  show _ = l
  conv => rhs; rw [<- List.map_id l]
  apply List.map_congr_left
  intro x _
  simp
 rw [hstr] at hrun
 simp only [execOp, e4, hrun, Sem.run_bind, Sem.run_pure, Result.andThen_ok]
 exact Q7 hS (.sc _) k
theorem s_add_w {t t' : TypeId} {x y : Operand} {a b : Int} (hx : f x = .sc (.int .u32 a)) (hy : f y = .sc (.int .u32 b)) (k : K (.sc (.int .u32 (IntKind.u32.wrap (a + b)))) σ) : OpSem P G B ⟨dst, .binOp .add t x y t', type, pos, after, gd⟩ f σ K := s_addw hx hy k
theorem s_neg_u {t : TypeId} {x : Operand} {a b : Int} {k1 : IntKind} (hx : f x = .sc (.int k1 a)) (hw : k1.wrap (0 - a) = b) (k : K (.sc (.int k1 b)) σ) : OpSem P G B ⟨dst, .unOp .neg t x, type, pos, after, gd⟩ f σ K := s_negw hx (by rw [hw]; exact k)
end
end Go.Av
end
section
namespace Go.Av
open Classical
section
variable {Γ : List Nat}
end
section
variable {P : Program} {G : Nat -> DV} {B : Nat} {f fe : Operand -> DV} {σ : List ABlk} {K : DV -> List ABlk -> Prop} {dst : Option Tmp} {type : TypeId} {pos : String} {after : Array Edge} {gd : Option (Nat × Bool)}
theorem s_index_a {t e n sz : Nat} {d : TypeDesc} {g1 : Bool} {z1 : Nat} {x y : Operand} {cs : List DV} {kd : IntKind} {i : Nat} {e' : DV} [ht : TyI P t (.array n e) g1 z1] [he : TyI P e d false sz]
  (hx : f x = .agg cs) (hy : f y = .sc (.int kd (i : Nat))) (h1 : i < n) (hc : cs[i * sz]? = some e') (k : K e' σ) : OpSem P G B ⟨dst, .index t x y, type, pos, after, gd⟩ f σ K := fun X ρ hS hσ _ _ hf => by
 subst hσ
 have e1 := hf x (by simp [Op.operands, Call.operands]); rw [hx] at e1
 have e2 := hf y (by simp [Op.operands, Call.operands]); rw [hy] at e2
 obtain ⟨vs, e3, h2, h3, h4⟩ := e1.agg_inv
 have hlt : i * sz < vs.size := by rw [h2]; exact (List.getElem?_eq_some_iff.1 hc).1
 have hrun : (Instr.index t (.agg vs) (.int kd (i : Nat))).run P X.w = .ok (vs.getD (i * sz) undef) X.w := by
  simp [Instr.index, asIntOf, run_underlying ht.u, Ww he, h1, run_part he hlt]
 simp only [execOp, e3, VRep.sc_eq e2, hrun, Sem.run_bind, Sem.run_pure, Result.andThen_ok]
 exact Q7 hS (h4 _ _ hc) k
theorem s_index_s {t : TypeId} {g1 : Bool} {z1 : Nat} {x y : Operand} {l : List UInt8} {kd : IntKind} {i : Nat} {b : UInt8} [ht : TyI P t .string g1 z1]
  (hx : f x = .sc (.string ⟨⟨l⟩⟩)) (hy : f y = .sc (.int kd (i : Nat))) (hc : l[i]? = some b) (k : K (.sc (.int .u8 b.toNat)) σ) : OpSem P G B ⟨dst, .index t x y, type, pos, after, gd⟩ f σ K := fun X ρ hS hσ _ _ hf => by
 subst hσ
 have e1 := hf x (by simp [Op.operands, Call.operands]); rw [hx] at e1
 have e2 := hf y (by simp [Op.operands, Call.operands]); rw [hy] at e2
 have hg : (⟨⟨l⟩⟩ : ByteArray)[i]? = some b := by
  have hlt := (List.getElem?_eq_some_iff.1 hc).1
  have hlt' : i < (⟨⟨l⟩⟩ : ByteArray).size := hlt
  rw [getElem?_pos (⟨⟨l⟩⟩ : ByteArray) i hlt']
  exact congrArg some (List.getElem?_eq_some_iff.1 hc).2
 have hrun : (Instr.index t (.string ⟨⟨l⟩⟩) (.int kd (i : Nat))).run P X.w = .ok (.int .u8 b.toNat) X.w := by
  simp [Instr.index, asIntOf, run_underlying ht.u, hg]
 simp only [execOp, VRep.sc_eq e1, VRep.sc_eq e2, hrun, Sem.run_bind, Sem.run_pure, Result.andThen_ok]
 exact Q7 hS (.sc _) k
theorem s_max {ts : Array TypeId} {x y : Operand} {k1 : IntKind} {a b : Int} (hx : f x = .sc (.int k1 a)) (hy : f y = .sc (.int k1 b)) (k : K (.sc (.int k1 (if a < b then b else a))) σ) : OpSem P G B ⟨dst, .call ⟨.builtin .max, #[x, y], ts⟩, type, pos, after, gd⟩ f σ K := fun X ρ hS hσ _ _ hf => by
 subst hσ
 have e1 := hf x (by simp [Op.operands, Call.operands]); rw [hx] at e1
 have e2 := hf y (by simp [Op.operands, Call.operands]); rw [hy] at e2
 have : (Builtin.max_ ts type #[.int k1 a, .int k1 b]).run P X.w = .ok (.int k1 (if a < b then b else a)) X.w := by
  simp only [Builtin.max_, Builtin.max2, List.foldlM_cons, List.foldlM_nil, Sem.run_bind, Sem.run_pure, Result.andThen_ok]
 simp only [execOp, resolve, invoke, builtin, List.map_toArray, List.map_cons, List.map_nil, Sem.run_bind, Sem.run_pure, Result.andThen_ok, VRep.sc_eq e1, VRep.sc_eq e2, this]
 exact Q7 hS (.sc _) k
end
mutual
inductive DVw (σ : List ABlk) : DV -> DV -> Prop
 | clo {d : DV} : d.clo = true -> DVw σ d d
 | ref {k g len es : Nat} {cs ds : List DV} : σ[k]? = some (.row g cs) -> len * es = cs.length -> DVwL σ cs ds -> DVw σ (.ref k g 0 len es) (.sl es ds)
 | ptr {k g : Nat} {cs ds : List DV} : σ[k]? = some (.row g cs) -> DVwL σ cs ds -> DVw σ (.ptr k g 0) (.ep ds)
 | fn {f : Fn} {a a' b b' : List DV} : DVwL σ a a' -> DVwL σ b b' -> DVw σ (.fn f a b) (.fn f a' b')
 | agg {a a' : List DV} : DVwL σ a a' -> DVw σ (.agg a) (.agg a')
inductive DVwL (σ : List ABlk) : List DV -> List DV -> Prop
 | same {l : List DV} : (∀ d ∈ l, d.clo = true) -> DVwL σ l l
 | cons {d d' : DV} {r r' : List DV} : DVw σ d d' -> DVwL σ r r' -> DVwL σ (d :: r) (d' :: r')
end
theorem DVwL.nil {σ : List ABlk} : DVwL σ [] [] := .same fun d h => by cases h
theorem DVw.one {σ : List ABlk} {d d' : DV} (h : DVw σ d d') (h1 : d.one = true) : d'.one = true := by
 cases h with
 | clo _ => exact h1
 | ref _ _ _ => rfl
 | ptr _ _ => rfl
 | fn _ _ => rfl
 | agg _ => cases h1
mutual
theorem dvw_rep {X : AX} (hS : Sto X) : ∀ {d d' : DV} {v : Value}, DVw X.σ d d' -> VRep X.lay d v -> VRep (X.aside True).lay d' v
 | _, _, v, .clo hc, hv => hv.mono (Z7 _)
 | _, _, v, .ref (k := k) (g := g) (len := len) (es := es) (cs := cs) (ds := ds) hσ hl hL, hv => by
  obtain ⟨h7, h8⟩ := dvw_reps hS hL
  obtain ⟨a, cap, rfl, h1, h2⟩ := hv.ref_slice hσ
  by_cases h0 : len = 0
  ·subst h0
   have : ds = [] := List.eq_nil_of_length_eq_zero (by omega)
   subst this
   exact .sl _ _ _ _ _ (fun _ => undef) (by simp) h1 (fun d hd => by simp at hd) (.inl rfl) (fun j d hj => by simp at hj)
  ·obtain ⟨b, n, hρ, rfl, h3⟩ := h2 (by omega)
   obtain ⟨arr, T, fr, g1, g2, g3, g4, g5⟩ := hS.row hσ hρ
   refine .sl _ _ _ _ _ (fun j => arr.getD j undef) (by omega) h1 (fun d hd => ?_) (.inr ⟨b, 0, rfl, fun j hj => ?_⟩) (fun j d hj => ?_)
   ·obtain ⟨j, hj⟩ := List.mem_iff_getElem?.1 hd
    have hlt : j < cs.length := by rw [<- h7]; exact (List.getElem?_eq_some_iff.1 hj).1
    exact (h8 j _ d (List.getElem?_eq_getElem hlt) hj).1 (g5 j _ (List.getElem?_eq_getElem hlt)).1
   ·refine AX.imm_mk Zk (fun hh => hh.elim (fun hh => hS.hid b ⟨k, g, n, Wr hσ, hρ⟩ hh) (fun hh => hh.1 trivial)) ?_
    have : 0 + j < arr.size := by omega
    simp only [Nat.zero_add] at this ⊢
    show X.w.cell? ⟨b, j, none⟩ = _
    rw [cell_of_row _ _ _ _ _ _ g1]
    simp [Array.getD_eq_getD_getElem?, this]
   ·have hlt : j < cs.length := by rw [<- h7]; exact (List.getElem?_eq_some_iff.1 hj).1
    exact (h8 j _ d (List.getElem?_eq_getElem hlt) hj).2 _ (g5 j _ (List.getElem?_eq_getElem hlt)).2
 | _, _, v, .ptr (k := k) (g := g) (cs := cs) (ds := ds) hσ hL, hv => by
  obtain ⟨h7, h8⟩ := dvw_reps hS hL
  obtain ⟨b, n, hρ, rfl⟩ := hv.ptr_inv hσ
  obtain ⟨arr, T, fr, g1, g2, g3, g4, g5⟩ := hS.row hσ hρ
  refine .ep _ b 0 (fun j => arr.getD j undef) (fun d hd => ?_) (fun j hj => ?_) (fun j d hj => ?_)
  ·obtain ⟨j, hj⟩ := List.mem_iff_getElem?.1 hd
   have hlt : j < cs.length := by rw [<- h7]; exact (List.getElem?_eq_some_iff.1 hj).1
   exact (h8 j _ d (List.getElem?_eq_getElem hlt) hj).1 (g5 j _ (List.getElem?_eq_getElem hlt)).1
  ·refine AX.imm_mk Zk (fun hh => hh.elim (fun hh => hS.hid b ⟨k, g, n, Wr hσ, hρ⟩ hh) (fun hh => hh.1 trivial)) ?_
   have : 0 + j < arr.size := by omega
   simp only [Nat.zero_add] at this ⊢
   show X.w.cell? ⟨b, j, none⟩ = _
   rw [cell_of_row _ _ _ _ _ _ g1]
   simp [Array.getD_eq_getD_getElem?, this]
  ·have hlt : j < cs.length := by rw [<- h7]; exact (List.getElem?_eq_some_iff.1 hj).1
   exact (h8 j _ d (List.getElem?_eq_getElem hlt) hj).2 _ (g5 j _ (List.getElem?_eq_getElem hlt)).2
 | _, _, v, .fn (f := f) (a := a) (a' := a') (b := b) (b' := b') h1 h2, hv => by
  obtain ⟨p1, p2⟩ := dvw_reps hS h1
  obtain ⟨q1, q2⟩ := dvw_reps hS h2
  cases hv with
  | fn _ _ _ fs cs e1 e2 e3 e4 =>
   refine .fn _ _ _ _ _ (by rw [p1]; exact e1) (by rw [q1]; exact e2) (fun j d hj => ?_) (fun j d hj => ?_)
   ·have hlt : j < a.length := by rw [<- p1]; exact (List.getElem?_eq_some_iff.1 hj).1
    exact (p2 j _ d (List.getElem?_eq_getElem hlt) hj).2 _ (e3 j _ (List.getElem?_eq_getElem hlt))
   ·have hlt : j < b.length := by rw [<- q1]; exact (List.getElem?_eq_some_iff.1 hj).1
    exact (q2 j _ d (List.getElem?_eq_getElem hlt) hj).2 _ (e4 j _ (List.getElem?_eq_getElem hlt))
 | _, _, v, .agg (a := a) (a' := a') h1, hv => by
  obtain ⟨p1, p2⟩ := dvw_reps hS h1
  obtain ⟨vs, rfl, e1, e2, e3⟩ := hv.agg_inv
  refine .agg _ _ (by rw [p1]; exact e1) (fun d hd => ?_) (fun j d hj => ?_)
  ·obtain ⟨j, hj⟩ := List.mem_iff_getElem?.1 hd
   have hlt : j < a.length := by rw [<- p1]; exact (List.getElem?_eq_some_iff.1 hj).1
   exact (p2 j _ d (List.getElem?_eq_getElem hlt) hj).1 (e2 _ (List.getElem_mem hlt))
  ·have hlt : j < a.length := by rw [<- p1]; exact (List.getElem?_eq_some_iff.1 hj).1
   exact (p2 j _ d (List.getElem?_eq_getElem hlt) hj).2 _ (e3 j _ (List.getElem?_eq_getElem hlt))
theorem dvw_reps {X : AX} (hS : Sto X) : ∀ {l l' : List DV}, DVwL X.σ l l' -> l'.length = l.length /\ ∀ (j : Nat) (d d' : DV), l[j]? = some d -> l'[j]? = some d' -> (d.one = true -> d'.one = true) /\ ∀ v, VRep X.lay d v -> VRep (X.aside True).lay d' v
 | _, _, .same hc => ⟨rfl, fun j d d' h1 h2 => by
  rw [h1] at h2; cases h2
  exact ⟨fun h => h, fun v hv => hv.mono (Z7 _)⟩⟩
 | _, _, .cons hd hr => by
  obtain ⟨h1, h2⟩ := dvw_reps hS hr
  refine ⟨by simp [h1], fun j e e' he he' => ?_⟩
  cases j with
  | zero =>
   simp at he he'
   subst he; subst he'
   exact ⟨hd.one, fun v hv => dvw_rep hS hd hv⟩
  | succ j => exact h2 j e e' (by simpa using he) (by simpa using he')
end
section
variable {P : Program} {G : Nat -> DV} {B : Nat} {f : Operand -> DV} {σ : List ABlk} {K : DV -> List ABlk -> Prop} {dst : Option Tmp} {type : TypeId} {pos : String} {after : Array Edge} {gd : Option (Nat × Bool)}
theorem Pure.dview {fid : FuncId} {args args' : List DV} {d : DV} (h : Pure P G fid args' d) (hf : d.flat = true) (hv : DVwL σ args args') : ACalls P G B fid args σ (fun d' σ' => d' = d /\ σ' = σ) := fun X vs hS hσ hB hG hvs => by
 subst hσ
 obtain ⟨g1, g2⟩ := dvw_reps hS hv
 refine (h X.N (X.aside True) vs (hS.aside _) rfl (Nat.le_refl _) (fun g => ⟨(hG g).1, (hG g).2.mono (Z7 _)⟩) ⟨by rw [hvs.1, g1], fun j e hj => ?_⟩).mono ?_
 ·have hlt : j < args.length := by rw [<- g1]; exact (List.getElem?_eq_some_iff.1 hj).1
  exact (g2 j _ e (List.getElem?_eq_getElem hlt) hj).2 _ (hvs.2 j _ (List.getElem?_eq_getElem hlt))
 ·rintro e w' ⟨v, he, Y, hw, hY, hE, d', hr, rfl, hσ'⟩
  subst hw
  exact ⟨v, he, X.back Y, rfl, hS.back hE, WExt.back hS hE, _, hr.flat hf, rfl, rfl⟩
theorem s_call_dv {args : Array Operand} {ts : Array TypeId} {fid : FuncId} {ds ds' : List DV} {d : DV} [FnOk P fid] (h : Pure P G fid ds' d) (hx : f (.func fid) = .fn (.func fid) [] []) (hds : reL (args.toList.map f) = some ds) (hv : DVwL σ ds ds') (hf : d.flat = true) (k : K d σ) :
  OpSem P G B ⟨dst, .call ⟨.value (.func fid), args, ts⟩, type, pos, after, gd⟩ f σ K := s_call hx hds ((h.dview hf hv).mono fun _ _ ⟨h1, h2⟩ => by rw [h1, h2]; exact k)
theorem Zu {x : Operand} {args : Array Operand} {ts : Array TypeId} {fid : FuncId} {first cap ds ds' : List DV} {d : DV} [hfn : FnOk P fid] (h : Pure P G fid ds' d) (hx : f x = .fn (.func fid) first cap) (hds : reL (first ++ args.toList.map f ++ cap) = some ds) (hv : DVwL σ ds ds') (hf : d.flat = true) (k : K d σ) :
  OpSem P G B ⟨dst, .call ⟨.value x, args, ts⟩, type, pos, after, gd⟩ f σ K := s_callv hx hds ((h.dview hf hv).mono fun _ _ ⟨h1, h2⟩ => by rw [h1, h2]; exact k)
end
end Go.Av
end
section
namespace Go.Proofs
open Go.Av
variable {G : Nat -> DV}
attribute [local irreducible] OpSem WE WY W0 ACalls ZE QV RV
open Go.Bl
def z24 : List DV := List.replicate 24 (.sc (.int .u8 0))
theorem z24_clo : ∀ d ∈ z24, d.clo = true := fun d hd => by rw [List.eq_of_mem_replicate hd]; exact QA
theorem z24_clo1 (v : Value) (i : Nat) : ∀ d ∈ z24.set i (.sc v), d.clo = true := fun d hd => by
 rcases List.mem_or_eq_of_mem_set hd with h | rfl
 ·exact z24_clo d h
 ·exact QA
theorem s_call_fb10 {P : Program} {B : Nat} {f : Operand -> DV} {σ : List ABlk} {K : DV -> List ABlk -> Prop} {dst : Option Tmp} {type : TypeId} {pos : String} {after : Array Edge} {gd : Option (Nat × Bool)} {args : Array Operand} {ts : Array TypeId} {fid : FuncId} {g : Nat} {u v : Value} [FnOk P fid] (hx : f (.func fid) = .fn (.func fid) [] []) (hds : reL (args.toList.map f) = some [.ref 0 g 1 1 1, .sc u])
  (h : ∀ g B, g <= B -> ACalls P G B fid [.ref 0 g 1 1 1, .sc u] [.row g z24] (fun d τ => d = .tup [] /\ τ = [.row g (z24.set 1 (.sc v))])) (hσ : σ = [.row g z24]) (k : K (.tup []) [.row g (z24.set 1 (.sc v))]) : OpSem P G B ⟨dst, .call ⟨.value (.func fid), args, ts⟩, type, pos, after, gd⟩ f σ K := by
 subst hσ
 refine Zh (R := fun _ d τ => d = .tup [] /\ τ = [.row g (z24.set 1 (.sc v))]) [0] hx hds (.cons (.s (.ref rfl)) (.cons (.s (.clo QA)) .nil)) (by decide) rfl (.cons (.rowc z24_clo) .nil) (fun B' hB hg => h g B' (hg 0 _ _ rfl rfl)) ?_
 rintro B' d' τ' hB ⟨rfl, rfl⟩
 exact ⟨_, _, _, .s (.clo (by simp [DV.clo])), .cons (.rowc (z24_clo1 _ _)) .nil, rfl, k⟩
def pow10L : List Int := [1, 10, 100, 1000, 10000, 100000, 1000000, 10000000, 100000000, 1000000000, 10000000000, 100000000000, 1000000000000, 10000000000000, 100000000000000, 1000000000000000, 10000000000000000, 100000000000000000, 1000000000000000000, 10000000000000000000]
def pow10T : DV := .ep (pow10L.map fun z => .sc (.int .u64 z))
theorem ZW {P : Program} {G : Nat -> DV} {B : Nat} {f : Operand -> DV} {σ : List ABlk} {K : DV -> List ABlk -> Prop} {dst : Option Tmp} {type : TypeId} {pos : String} {after : Array Edge} {gd : Option (Nat × Bool)} {t : TypeId} {g1 : Bool} {z1 : Nat} {x y : Operand} {l : List UInt8} {kd : IntKind} (i n : Nat) [ht : TyI P t .string g1 z1]
  (hx : f x = .sc (.string ⟨⟨l⟩⟩)) (hy : f y = .sc (.int kd (i : Nat))) (hc : l[i]? = some (UInt8.ofNat n)) (hn : (UInt8.ofNat n).toNat = n) (k : K (.sc (.int .u8 (n : Nat))) σ) : OpSem P G B ⟨dst, .index t x y, type, pos, after, gd⟩ f σ K := s_index_s hx hy hc (by rw [hn]; exact k)
theorem len64_c (k : Nat) (h1 : 1 <= k) (h8 : k <= 8) : ∃ L : Nat, (1 <= L /\ L <= 4) /\ (L = 4 ↔ k = 8) /\ Go.Av.Pure Tryd.prog G 114 [.sc (.int .u64 (k : Int))] (.i L) := by
 have hk : k = 1 \/ k = 2 \/ k = 3 \/ k = 4 \/ k = 5 \/ k = 6 \/ k = 7 \/ k = 8 := by omega
 rcases hk with rfl | rfl | rfl | rfl | rfl | rfl | rfl | rfl
 ·refine ⟨1, by decide, by decide, fun B => ?_⟩
  refine Qb Tryd.func114 rfl Tryd.ntmps114 rfl (t := [(0, .sc (.int .u64 _))]) rfl fun E hE => ?_
  (repeat' first | refine Qt rfl ?_ | refine Qv rfl ?_ | refine QS rfl rfl (by omega) ?_ | refine Wv rfl rfl ?_ | refine s_conv_i rfl (by omega) ?_ | refine s_conv rfl ?_ | refine ZW 1 1 rfl rfl rfl rfl ?_ | refine Qe ?_ | refine Qp rfl ?_ | refine Qf ?_ | refine Qa ?_ | refine Qj ?_ | refine Qi rfl ?_ | refine Qm ?_)
  all_goals exact e_1 (Tryd.results114) (Qh rfl) (Qr rfl)
 ·refine ⟨2, by decide, by decide, fun B => ?_⟩
  refine Qb Tryd.func114 rfl Tryd.ntmps114 rfl (t := [(0, .sc (.int .u64 _))]) rfl fun E hE => ?_
  (repeat' first | refine Qt rfl ?_ | refine Qv rfl ?_ | refine QS rfl rfl (by omega) ?_ | refine Wv rfl rfl ?_ | refine s_conv_i rfl (by omega) ?_ | refine s_conv rfl ?_ | refine ZW 2 2 rfl rfl rfl rfl ?_ | refine Qe ?_ | refine Qp rfl ?_ | refine Qf ?_ | refine Qa ?_ | refine Qj ?_ | refine Qi rfl ?_ | refine Qm ?_)
  all_goals exact e_1 (Tryd.results114) (Qh rfl) (Qr rfl)
 ·refine ⟨2, by decide, by decide, fun B => ?_⟩
  refine Qb Tryd.func114 rfl Tryd.ntmps114 rfl (t := [(0, .sc (.int .u64 _))]) rfl fun E hE => ?_
  (repeat' first | refine Qt rfl ?_ | refine Qv rfl ?_ | refine QS rfl rfl (by omega) ?_ | refine Wv rfl rfl ?_ | refine s_conv_i rfl (by omega) ?_ | refine s_conv rfl ?_ | refine ZW 3 2 rfl rfl rfl rfl ?_ | refine Qe ?_ | refine Qp rfl ?_ | refine Qf ?_ | refine Qa ?_ | refine Qj ?_ | refine Qi rfl ?_ | refine Qm ?_)
  all_goals exact e_1 (Tryd.results114) (Qh rfl) (Qr rfl)
 ·refine ⟨3, by decide, by decide, fun B => ?_⟩
  refine Qb Tryd.func114 rfl Tryd.ntmps114 rfl (t := [(0, .sc (.int .u64 _))]) rfl fun E hE => ?_
  (repeat' first | refine Qt rfl ?_ | refine Qv rfl ?_ | refine QS rfl rfl (by omega) ?_ | refine Wv rfl rfl ?_ | refine s_conv_i rfl (by omega) ?_ | refine s_conv rfl ?_ | refine ZW 4 3 rfl rfl rfl rfl ?_ | refine Qe ?_ | refine Qp rfl ?_ | refine Qf ?_ | refine Qa ?_ | refine Qj ?_ | refine Qi rfl ?_ | refine Qm ?_)
  all_goals exact e_1 (Tryd.results114) (Qh rfl) (Qr rfl)
 ·refine ⟨3, by decide, by decide, fun B => ?_⟩
  refine Qb Tryd.func114 rfl Tryd.ntmps114 rfl (t := [(0, .sc (.int .u64 _))]) rfl fun E hE => ?_
  (repeat' first | refine Qt rfl ?_ | refine Qv rfl ?_ | refine QS rfl rfl (by omega) ?_ | refine Wv rfl rfl ?_ | refine s_conv_i rfl (by omega) ?_ | refine s_conv rfl ?_ | refine ZW 5 3 rfl rfl rfl rfl ?_ | refine Qe ?_ | refine Qp rfl ?_ | refine Qf ?_ | refine Qa ?_ | refine Qj ?_ | refine Qi rfl ?_ | refine Qm ?_)
  all_goals exact e_1 (Tryd.results114) (Qh rfl) (Qr rfl)
 ·refine ⟨3, by decide, by decide, fun B => ?_⟩
  refine Qb Tryd.func114 rfl Tryd.ntmps114 rfl (t := [(0, .sc (.int .u64 _))]) rfl fun E hE => ?_
  (repeat' first | refine Qt rfl ?_ | refine Qv rfl ?_ | refine QS rfl rfl (by omega) ?_ | refine Wv rfl rfl ?_ | refine s_conv_i rfl (by omega) ?_ | refine s_conv rfl ?_ | refine ZW 6 3 rfl rfl rfl rfl ?_ | refine Qe ?_ | refine Qp rfl ?_ | refine Qf ?_ | refine Qa ?_ | refine Qj ?_ | refine Qi rfl ?_ | refine Qm ?_)
  all_goals exact e_1 (Tryd.results114) (Qh rfl) (Qr rfl)
 ·refine ⟨3, by decide, by decide, fun B => ?_⟩
  refine Qb Tryd.func114 rfl Tryd.ntmps114 rfl (t := [(0, .sc (.int .u64 _))]) rfl fun E hE => ?_
  (repeat' first | refine Qt rfl ?_ | refine Qv rfl ?_ | refine QS rfl rfl (by omega) ?_ | refine Wv rfl rfl ?_ | refine s_conv_i rfl (by omega) ?_ | refine s_conv rfl ?_ | refine ZW 7 3 rfl rfl rfl rfl ?_ | refine Qe ?_ | refine Qp rfl ?_ | refine Qf ?_ | refine Qa ?_ | refine Qj ?_ | refine Qi rfl ?_ | refine Qm ?_)
  all_goals exact e_1 (Tryd.results114) (Qh rfl) (Qr rfl)
 ·refine ⟨4, by decide, by decide, fun B => ?_⟩
  refine Qb Tryd.func114 rfl Tryd.ntmps114 rfl (t := [(0, .sc (.int .u64 _))]) rfl fun E hE => ?_
  (repeat' first | refine Qt rfl ?_ | refine Qv rfl ?_ | refine QS rfl rfl (by omega) ?_ | refine Wv rfl rfl ?_ | refine s_conv_i rfl (by omega) ?_ | refine s_conv rfl ?_ | refine ZW 8 4 rfl rfl rfl rfl ?_ | refine Qe ?_ | refine Qp rfl ?_ | refine Qf ?_ | refine Qa ?_ | refine Qj ?_ | refine Qi rfl ?_ | refine Qm ?_)
  all_goals exact e_1 (Tryd.results114) (Qh rfl) (Qr rfl)
theorem log10_c (L : Nat) (h1 : 1 <= L) (h4 : L <= 4) : Go.Av.Pure Tryd.prog G 113 [.i L] (.i ((L / 4 : Nat) : Int)) := fun B => by
 have hk : L = 1 \/ L = 2 \/ L = 3 \/ L = 4 := by omega
 rcases hk with rfl | rfl | rfl | rfl
 all_goals
  refine Qb Tryd.func113 rfl Tryd.ntmps113 rfl (t := [(0, .i _)]) rfl fun E hE => ?_
  (repeat' first | refine Qt rfl ?_ | refine Qv rfl ?_ | refine Z2 rfl rfl (by omega) ?_ | refine s_shr rfl rfl (by omega) ?_ | refine Qe ?_ | refine Qp rfl ?_ | refine Qf ?_ | refine Qa ?_ | refine Qm ?_)
  all_goals exact e_1 (Tryd.results113) (Qh rfl) (Qr rfl)
theorem bool2_c (b : Bool) : Go.Av.Pure Tryd.prog G 115 [.b b] (.i (if b = true then 1 else 0)) := fun B => by
 cases b
 all_goals
  refine Qb Tryd.func115 rfl Tryd.ntmps115 rfl (t := [(0, .b _)]) rfl fun E hE => ?_
  (repeat' first | refine Qt rfl ?_ | refine Qv rfl ?_ | refine Qe ?_ | refine Qp rfl ?_ | refine Qf ?_ | refine Qa ?_ | refine Qj ?_ | refine Qs rfl ?_ | refine Qi rfl ?_ | refine Qm ?_)
  all_goals exact e_1 (Tryd.results115) (Qh rfl) (Qr rfl)
theorem numDigits_c (hG : G 1 = pow10T) (k : Nat) (h1 : 1 <= k) (h8 : k <= 8) : Go.Av.Pure Tryd.prog G 110 [.sc (.int .u64 (k : Int))] (.i 1) := fun B => by
 obtain ⟨L, ⟨l1, l2⟩, l3, hl64⟩ := len64_c (G := G) k h1 h8
 have hlog := log10_c (G := G) L l1 l2
 by_cases h : k = 8
 ·rw [show L / 4 = 1 by omega] at hlog
  have hb2 : Go.Av.Pure Tryd.prog G 115 [.b (decide ((10 : Int) <= (k : Int)))] (.i 0) := by rw [decide_eq_false (by omega)]; exact bool2_c false
  refine Qb Tryd.func110 rfl Tryd.ntmps110 rfl (t := [(0, .sc (.int .u64 _))]) rfl fun E hE => ?_
  (repeat' first | refine Qt rfl ?_ | refine Qv rfl ?_ | refine QF rfl ?_ | refine WW hG rfl (by decide) (by decide) ?_ | refine QS rfl rfl (by omega) ?_ | refine Wv rfl rfl ?_ | refine QZ rfl rfl (hl64) ?_ | refine QZ rfl rfl (hlog) ?_ | refine QZ rfl rfl (hb2) ?_ | refine Qe ?_ | refine Qp rfl ?_ | refine Qf ?_ | refine Qa ?_ | refine Qm ?_)
  all_goals exact e_1 (Tryd.results110) (Qh rfl) (Qr rfl)
 ·rw [show L / 4 = 0 by omega] at hlog
  have hb2 : Go.Av.Pure Tryd.prog G 115 [.b (decide ((1 : Int) <= (k : Int)))] (.i 1) := by rw [decide_eq_true (by omega)]; exact bool2_c true
  refine Qb Tryd.func110 rfl Tryd.ntmps110 rfl (t := [(0, .sc (.int .u64 _))]) rfl fun E hE => ?_
  (repeat' first | refine Qt rfl ?_ | refine Qv rfl ?_ | refine QF rfl ?_ | refine WW hG rfl (by decide) (by decide) ?_ | refine QS rfl rfl (by omega) ?_ | refine Wv rfl rfl ?_ | refine QZ rfl rfl (hl64) ?_ | refine QZ rfl rfl (hlog) ?_ | refine QZ rfl rfl (hb2) ?_ | refine Qe ?_ | refine Qp rfl ?_ | refine Qf ?_ | refine Qa ?_ | refine Qm ?_)
  all_goals exact e_1 (Tryd.results110) (Qh rfl) (Qr rfl)
theorem fmtBase10_c (k : Nat) (h1 : 1 <= k) (h8 : k <= 8) (g B : Nat) (hg : g <= B) : ACalls Tryd.prog G B 111 [.ref 0 g 1 1 1, .sc (.int .u64 (k : Int))] [.row g z24] (fun d τ => d = .tup [] /\ τ = [.row g (z24.set 1 (.sc (.int .u8 (48 + k))))]) := by
 refine Qb Tryd.func111 rfl Tryd.ntmps111 rfl (t := [(0, .ref 0 g 1 1 1), (1, .sc (.int .u64 (k : Int)))]) rfl fun E hE => ?_
 (repeat' first | refine Qt rfl ?_ | refine Qv rfl ?_ | refine s_len_ref rfl rfl ?_ | refine Qe ?_ | refine Qp rfl ?_ | refine Qf ?_ | refine Qa ?_ | refine Qg ?_)
 refine Wi (fun _ : Unit => ⟨[(0, .ref 0 g 1 1 1), (1, .sc (.int .u64 (k : Int))), (4, .i 1)], [.row g z24]⟩) (fun _ => True) (fun _ => 0) () ?_ trivial ?_
 ·exact zal rfl
 intro u _
 (repeat' first | refine Qt rfl ?_ | refine Qv rfl ?_ | refine s_idx_refoi rfl rfl rfl (by omega) (by omega) ?_ | refine s_add_w rfl rfl ?_ | refine s_gtr rfl rfl ?_ | refine Wv rfl rfl ?_ | refine s_conv rfl ?_ | refine Wf rfl rfl rfl rfl (by rfl) (by rfl) (by rfl) ?_ | refine Qe ?_ | refine Qp rfl ?_ | refine Q0 ?_ | refine Qf ?_ | refine Qa ?_ | refine Qj ?_ | refine Qs rfl ?_ | refine Qi rfl ?_ | refine QU rfl ?_)
 have hk : k = 1 \/ k = 2 \/ k = 3 \/ k = 4 \/ k = 5 \/ k = 6 \/ k = 7 \/ k = 8 := by omega
 rcases hk with rfl | rfl | rfl | rfl | rfl | rfl | rfl | rfl
 all_goals exact e_0 (Tryd.results111) (Za ⟨rfl, rfl⟩)
theorem fmtInt_c (hG : G 1 = pow10T) (k : Nat) (h1 : 1 <= k) (h8 : k <= 8) : Go.Av.Pure Tryd.prog G 107 [.i (-(k : Int)), .i 10] (strD [45, UInt8.ofNat (48 + k)]) := fun B => by
 have hnd := numDigits_c hG k h1 h8
 have hfb := fmtBase10_c (G := G) k h1 h8
 have hk : k = 1 \/ k = 2 \/ k = 3 \/ k = 4 \/ k = 5 \/ k = 6 \/ k = 7 \/ k = 8 := by omega
 have hng : IntKind.u64.wrap (0 - IntKind.u64.wrap (-(k : Int))) = (k : Int) := by rcases hk with rfl | rfl | rfl | rfl | rfl | rfl | rfl | rfl <;> rfl
 have hcs : (((z24.set 1 (.sc (.int .u8 (48 + k)))).set 0 (.sc (.int .u8 45))).drop 0).take 2 = u8s [45, UInt8.ofNat (48 + k)] := by rcases hk with rfl | rfl | rfl | rfl | rfl | rfl | rfl | rfl <;> rfl
 clear hk
 refine Qb Tryd.func107 rfl Tryd.ntmps107 rfl (t := [(0, .i (-(k : Int))), (1, .i 10)]) rfl fun E hE => ?_
 (repeat' first | refine Qt rfl ?_ | refine Qv rfl ?_ | refine Zp rfl rfl rfl (by omega) (by omega) ?_ | refine QS rfl rfl (by omega) ?_ | refine QG rfl rfl ?_ | refine s_leq rfl rfl ?_ | refine QH rfl rfl ?_ | refine s_call_fb10 rfl rfl hfb rfl ?_ | refine QZ rfl rfl (hnd) ?_ | refine Wk rfl rfl ?_ | refine s_slice_arr (vlo := some (.int .i64 1)) (vhi := some (.int .i64 2)) (l := 1) (h := 2) rfl rfl rfl rfl (.lh rfl rfl (by decide)) (by decide) (by decide) (Nat.le_refl 24) ?_ | refine s_slice_arr (vlo := none) (vhi := some (.int .i64 2)) (l := 0) (h := 2) rfl rfl trivial rfl (.h rfl) (by decide) (by decide) (Nat.le_refl 24) ?_ | refine s_conv_bytes (l := [45, UInt8.ofNat (48 + k)]) rfl rfl (by decide) rfl hcs ?_ | refine s_conv rfl ?_ | refine s_neg_u rfl hng ?_ | refine Wf rfl rfl rfl rfl (by rfl) (by rfl) (by rfl) ?_ | refine QJ (fun _ _ => ?_) | refine Qe ?_ | refine Qp rfl ?_ | refine Q0 ?_ | refine WO rfl rfl rfl rfl ?_ | refine Wn rfl rfl (by omega) ?_ | refine Qf ?_ | refine Qa ?_ | refine Qj ?_ | refine Qs rfl ?_ | refine Qi rfl ?_ | refine Qx rfl (by omega) ?_ | refine Qm ?_)
 exact e_1 (Tryd.results107) (Qh rfl) (QC (σ := []) (r := [_]) ⟨rfl, rfl⟩)
def itoaL (n : Int) : List UInt8 := Lib.itoa n
theorem itoa_neg (k : Nat) (h1 : 1 <= k) (h8 : k <= 8) : itoaL (-(k : Int)) = [45, UInt8.ofNat (48 + k)] := by
 have hk : k = 1 \/ k = 2 \/ k = 3 \/ k = 4 \/ k = 5 \/ k = 6 \/ k = 7 \/ k = 8 := by omega
 rcases hk with rfl | rfl | rfl | rfl | rfl | rfl | rfl | rfl <;> decide +kernel
theorem itoa_c (hG : G 1 = pow10T) (n : Int) (h : -8 <= n /\ n < 100) : Go.Av.Pure Tryd.prog G 83 [.i n] (strD (itoaL n)) := by
 by_cases h0 : 0 <= n
 ·obtain ⟨i, rfl⟩ : ∃ i : Nat, n = i := ⟨n.toNat, by omega⟩
  have := itoa_small (G := G) i (by omega)
  rwa [show itoaL (i : Int) = Lib.decDigits i by unfold itoaL Lib.itoa; rw [if_neg (by omega)]; rfl]
 ·obtain ⟨k, rfl⟩ : ∃ k : Nat, n = -(k : Int) := ⟨(-n).toNat, by omega⟩
  have hk1 : 1 <= k := by omega
  have hk8 : k <= 8 := by omega
  have hfi := fmtInt_c hG k hk1 hk8
  rw [itoa_neg k hk1 hk8]
  have hit : Go.Av.Pure Tryd.prog G 95 [.i (-(k : Int))] (strD [45, UInt8.ofNat (48 + k)]) := fun B => by
   refine Qb Tryd.func95 rfl Tryd.ntmps95 rfl (t := [(0, .i (-(k : Int)))]) rfl fun E hE => ?_
   (repeat' first | refine Qt rfl ?_ | refine Qv rfl ?_ | refine QZ rfl rfl (hfi) ?_ | refine Qe ?_ | refine Qp rfl ?_ | refine Qf ?_ | refine Qa ?_ | refine Qm ?_)
   refine e_1 Tryd.results95 (Qh rfl) (Qr ?_)
   rfl
  intro B
  refine Qb Tryd.func83 rfl Tryd.ntmps83 rfl (t := [(0, .i (-(k : Int)))]) rfl fun E hE => ?_
  (repeat' first | refine Qt rfl ?_ | refine Qv rfl ?_ | refine QZ rfl rfl (hit) ?_ | refine Qe ?_ | refine Qp rfl ?_ | refine Qf ?_ | refine Qa ?_ | refine Qm ?_)
  refine e_1 Tryd.results83 (Qh rfl) (Qr ?_)
  rfl
inductive Tin : Nd -> Prop
 | mk {k n : Int} {m : Int} {ks : List Nd} : 0 <= k /\ k < 100 -> -8 <= n /\ n < 100 -> ks.length <= 3 -> (∀ x ∈ ks, Tin x) -> Tin (.mk k n m ks)
mutual
def keyS : Nd -> List UInt8
 | .mk k n m ks => itoaL k ++ [44] ++ itoaL n ++ [40] ++ qq ks ++ [41]
def qq : List Nd -> List UInt8
 | [] => []
 | x :: r => keyS x ++ qq r
end
def keysU (ks : List Nd) (i : Nat) : List UInt8 := qq (ks.take i)
theorem keysS_append (a b : List Nd) : qq (a ++ b) = qq a ++ qq b := by
 induction a with
 | nil => rfl
 | cons x r ih => rw [List.cons_append, qq, qq, ih, List.append_assoc]
theorem keysU_succ {ks : List Nd} {i : Nat} (h : i < ks.length) : keysU ks (i + 1) = keysU ks i ++ keyS ks[i] := by
 unfold keysU
 rw [List.take_succ_eq_append_getElem h, keysS_append]
 simp [qq]
theorem keysS_le {x : Nd} : ∀ {ks : List Nd}, x ∈ ks -> (keyS x).length <= (qq ks).length
 | y :: r, h => by
  rw [qq, List.length_append]
  rcases List.mem_cons.1 h with rfl | h
  ·omega
  ·have := keysS_le h; omega
theorem keysU_le (ks : List Nd) (i : Nat) : (keysU ks i).length <= (qq ks).length := by
 have : qq ks = keysU ks i ++ qq (ks.drop i) := by rw [keysU, <- keysS_append, List.take_append_drop]
 rw [this, List.length_append]; omega
theorem digs_len {i : Nat} (h : i < 100) : (Lib.decDigits i).length <= 2 := by
 revert i; decide +kernel
theorem itoa_len {n : Int} (h : -8 <= n /\ n < 100) : (itoaL n).length <= 2 := by
 by_cases h0 : 0 <= n
 ·unfold itoaL Lib.itoa
  rw [if_neg (by omega)]
  exact digs_len (by omega)
 ·obtain ⟨k, rfl⟩ : ∃ k : Nat, n = -(k : Int) := ⟨(-n).toNat, by omega⟩
  rw [itoa_neg k (by omega) (by omega)]
  exact Nat.le_refl 2
theorem keyS_c (hG : G 1 = pow10T) (t : Nd) (ht : Tin t) (hlen : (keyS t).length <= 1048576) : Go.Av.Pure Tryd.prog G 70 [.agg (Enc.enc t)] (strD (keyS t)) := by
 induction ht with
 | @mk k0 n0 m ks hk hn hks _ ih =>
 intro B
 rw [We]
 have hd1 := itoa_len (n := k0) ⟨by omega, by omega⟩
 have hd2 := itoa_len hn
 have hnb := hn
 have hi : ∀ x ∈ ks, Go.Av.Pure Tryd.prog G 70 [.agg (Enc.enc x)] (strD (keyS x)) := fun x hx => ih x hx (by
  have := keysS_le hx
  rw [keyS, List.length_append, List.length_append] at hlen
  omega)
 refine Qb Tryd.func70 rfl Tryd.ntmps70 rfl (t := [(0, .agg [.i k0, .i n0, .i m, Qy ks])]) rfl fun E hE => ?_
 (repeat' first | refine Qt rfl ?_ | refine Qv rfl ?_ | refine Qc rfl rfl rfl ?_ | refine Qn rfl ?_ | refine Qd rfl rfl ?_ | refine Q5 rfl rfl (fun _ _ => ?_) | refine Qe ?_ | refine Qp rfl ?_ | refine Qf ?_ | refine Qa ?_ | refine Qg ?_ | (refine Wa ?_; first | refine Wj (by rfl) (by kernel_rfl) (by kernel_rfl) ?_ | refine QT (by kernel_rfl) (by kernel_rfl) ?_) | refine x_op rfl (by (repeat' first | refine Qv rfl ?_ | refine Qc rfl rfl rfl ?_ | refine s_add_s rfl rfl (by first | omega | (simp only [List.length_append, List.length_cons, List.length_nil]; omega)) ?_ | refine QZ rfl rfl (itoa_c hG _ (by omega)) ?_ | refine Qd rfl rfl ?_ | exact ⟨rfl, rfl⟩)) ?_ | refine x_nil ?_)
 have hkl : (qq ks).length + 7 <= 1048583 := by
  rw [keyS, List.length_append, List.length_append] at hlen
  omega
 have hek : keyS (.mk k0 n0 m ks) = itoaL k0 ++ [44] ++ itoaL n0 ++ [40] ++ keysU ks ks.length ++ [41] := by
  unfold keysU
  rw [List.take_length, keyS]
 have hpre : (itoaL k0 ++ [44] ++ itoaL n0 ++ [40]).length <= 6 := by simp only [List.length_append, List.length_cons, List.length_nil]; omega
 generalize itoaL k0 ++ [44] ++ itoaL n0 ++ [40] = pre at *
 refine Wi (fun (i : Nat) => ⟨[(3, strD (pre ++ keysU ks i)), (16, Qy ks), (17, .i ks.length), (18, .i i)], []⟩) (fun i => i <= ks.length) (fun i => ks.length - i) 0 ?_ (by omega) ?_
 ·rw [show keysU ks 0 = [] from rfl, List.append_nil]
  exact zal rfl
 intro i hi'
 have hle := keysU_le ks i
 (repeat' first | refine QG rfl rfl ?_ | refine Qe ?_ | refine Qp rfl ?_ | refine Qf ?_ | refine Qa ?_)
 refine QE rfl (fun h => ?_) (fun h => ?_)
 ·have hj : i < ks.length := by omega
  have hsu := keysU_succ hj
  have hle2 := keysS_le (List.getElem_mem hj)
  (repeat' first | refine Qt rfl ?_ | refine Qv rfl ?_ | refine Qu rfl rfl (by first | exact Enc.len _ | rfl) ?_ | refine QM rfl ?_ | refine Qo rfl rfl (by first | assumption | omega | (simp; done) | (simp; omega)) ?_ | refine s_add_s rfl rfl (by first | omega | (simp only [List.length_append, List.length_cons, List.length_nil]; omega)) ?_ | refine QS rfl rfl (by omega) ?_ | refine QZ rfl rfl (hi _ (List.getElem_mem hj)) ?_ | refine Ql rfl rfl rfl (by first | exact Enc.len _ | rfl) (by first | exact Enc.len _ | rfl) (by rfl) ?_ | refine QJ (fun _ _ => ?_) | refine Qe ?_ | refine Qp rfl ?_ | refine Q0 ?_ | refine Qf ?_ | refine Qa ?_ | refine Qg ?_ | refine Qj ?_)
  refine ⟨i + 1, by omega, by omega, ?_⟩
  rw [hsu, <- List.append_assoc]
  exact zal rfl
 ·have hj : i = ks.length := by omega
  subst hj
  (repeat' first | refine Qt rfl ?_ | refine Qv rfl ?_ | refine s_add_s rfl rfl (by first | omega | (simp only [List.length_append, List.length_cons, List.length_nil]; omega)) ?_ | refine Qe ?_ | refine Qp rfl ?_ | refine Qf ?_ | refine Qa ?_ | refine QU rfl ?_ | refine Qm ?_)
  refine e_1 Tryd.results70 (Qh rfl) (Qr ?_)
  rw [hek]
end Go.Proofs
end
section
namespace Go.Av
open Classical
section
variable {P : Program} {G : Nat -> DV}
/-! A place that is gone is filled. -/
def AX.fill (X : AX) (k : Nat) (w' : World) (ob : Option (Nat × Nat)) (B : ABlk) : AX :=
 { w := w', ρ := fun i => if i = k then ob else X.ρ i, σ := X.σ.set k B, N := X.N + 1, hid := X.hid }
theorem AX.fill_live {X : AX} {k : Nat} {w' : World} {ob : Option (Nat × Nat)} {B : ABlk} {i g : Nat} (hk : k < X.σ.length) :
  (X.fill k w' ob B).live i g ↔ (i ≠ k /\ X.live i g) \/ (i = k /\ B.gen? = some g) := by
 simp only [AX.live, AX.fill, List.getElem?_set]
 by_cases h : k = i
 ·subst h; simp [hk]
 ·simp only [h, if_false]
  have h' : i ≠ k := fun e => h e.symm
  simp [h']
theorem WExt.fill {X : AX} (hS : Sto X) {k : Nat} (hk : X.σ[k]? = some .gone) {w' : World} (hw : Keep X.w w') {ob : Option (Nat × Nat)} {B : ABlk} (hg : B.gen? = some (X.N + 1)) (hob : ∀ b n, ob = some (b, n) -> X.w.heap.size <= b) : WExt X (X.fill k w' ob B) where
 hid := rfl
 top := Nat.le_succ _
 os := hw.os
 tape := hw.tape
 output := hw.output
 size := hw.size
 old := fun b hb hm => ⟨hw.block b hb, fun ⟨i, g, n, hl, hr⟩ => by
  rcases (AX.fill_live (List.getElem?_eq_some_iff.1 hk).1).1 hl with ⟨h1, h2⟩ | ⟨h1, h2⟩
  ·simp only [AX.fill, if_neg h1] at hr
   exact hm ⟨i, g, n, h2, hr⟩
  ·simp only [AX.fill, if_pos h1] at hr
   have := hob b n hr
   omega⟩
 rows := fun i g hgN hl => by
  rcases (AX.fill_live (List.getElem?_eq_some_iff.1 hk).1).1 hl with ⟨h1, h2⟩ | ⟨h1, h2⟩
  ·exact ⟨h2, by simp only [AX.fill, if_neg h1]⟩
  ·rw [hg] at h2; cases h2; omega
theorem Sto.fill {X : AX} (hS : Sto X) {k : Nat} (hk : X.σ[k]? = some .gone) {w' : World} (hw : Keep X.w w') {ob : Option (Nat × Nat)} {B : ABlk} (hg : B.gen? = some (X.N + 1)) (hob : ∀ b n, ob = some (b, n) -> X.w.heap.size <= b) (hB : B.holds X.lay w' ob) : Sto (X.fill k w' ob B) where
 inj := fun i i' g1 g1' b n n' hl hl' hr hr' => by
  have hkl := (List.getElem?_eq_some_iff.1 hk).1
  rcases (AX.fill_live hkl).1 hl with ⟨h1, h2⟩ | ⟨h1, h2⟩ <;> rcases (AX.fill_live hkl).1 hl' with ⟨h1', h2'⟩ | ⟨h1', h2'⟩
  ·simp only [AX.fill, if_neg h1] at hr
   simp only [AX.fill, if_neg h1'] at hr'
   exact hS.inj i i' g1 g1' b n n' h2 h2' hr hr'
  ·simp only [AX.fill, if_neg h1] at hr
   simp only [AX.fill, if_pos h1'] at hr'
   have := hS.ρ_lt h2 hr
   have := hob b n' hr'
   omega
  ·simp only [AX.fill, if_neg h1'] at hr'
   simp only [AX.fill, if_pos h1] at hr
   have := hS.ρ_lt h2' hr'
   have := hob b n hr
   omega
  ·rw [h1, h1']
 gen := fun i g' hl => by
  rcases (AX.fill_live (List.getElem?_eq_some_iff.1 hk).1).1 hl with ⟨h1, h2⟩ | ⟨h1, h2⟩
  ·exact Nat.le_trans (hS.gen i g' h2) (Nat.le_succ _)
  ·rw [hg] at h2; cases h2; exact Nat.le_refl _
 hid := fun b ⟨i, g', n, hl, hr⟩ hh => by
  rcases (AX.fill_live (List.getElem?_eq_some_iff.1 hk).1).1 hl with ⟨h1, h2⟩ | ⟨h1, h2⟩
  ·simp only [AX.fill, if_neg h1] at hr
   exact hS.hid b ⟨i, g', n, h2, hr⟩ hh
  ·simp only [AX.fill, if_pos h1] at hr
   have := hob b n hr
   have := hS.hidlt b hh
   omega
 hidlt := fun b hb => Nat.lt_of_lt_of_le (hS.hidlt b hb) hw.size
 holds := fun i B' hB' => by
  have hle := (WExt.fill hS hk hw hg hob).le
  have hkl := (List.getElem?_eq_some_iff.1 hk).1
  simp only [AX.fill, List.getElem?_set] at hB'
  by_cases hik : k = i
  ·subst hik
   simp [hkl] at hB'
   subst hB'
   have hρ : (X.fill k w' ob B).ρ k = ob := by simp only [AX.fill, if_pos]
   rw [hρ]
   exact hB.mono hle fun _ _ _ => rfl
  ·simp only [hik, if_false] at hB'
   have hρ : (X.fill k w' ob B).ρ i = X.ρ i := by simp only [AX.fill, if_neg (Ne.symm hik)]
   rw [hρ]
   cases hg' : B'.gen? with
   | none => cases B' <;> first | trivial | cases hg'
   | some g' =>
    exact (hS.holds i B' hB').mono hle fun b n hb => hw.block b (hS.ρ_lt ((AX.live_get hB').2 hg') hb)
section
variable {B : Nat} {f : Operand -> DV} {σ : List ABlk} {K : DV -> List ABlk -> Prop} {dst : Option Tmp} {type : TypeId} {pos : String} {after : Array Edge} {gd : Option (Nat × Bool)}
theorem s_alloc_at {t : TypeId} {zs : List Value} [hz : TyZ P t zs] {k : Nat} (hk : σ[k]? = some .gone) (kk : ∀ g, B < g -> K (.ptr k g 0) (σ.set k (.row g (zs.map .sc)))) : OpSem P G B ⟨dst, .alloc t, type, pos, after, gd⟩ f σ K := fun X ρ hS hσ hB _ hf => by
 subst hσ
 obtain ⟨z, h1, h2⟩ := run_zero hz X.w
 simp only [execOp, Instr.alloc, h1, newVar, newRow, h2, run_newObj, Sem.run_bind, Sem.run_pure, Result.andThen_ok, World.alloc_eq]
 have hob : ∀ b' n, some (X.w.heap.size, zs.toArray.size) = some (b', n) -> X.w.heap.size <= b' := fun b' n h => by cases h; exact Nat.le_refl _
 have hw := Keep.alloc X.w (.cells zs.toArray t (0, 0))
 have hkl := (List.getElem?_eq_some_iff.1 hk).1
 have hh : (ABlk.row (X.N + 1) (zs.map .sc)).holds X.lay (X.w.alloc (.cells zs.toArray t (0, 0))) (some (X.w.heap.size, zs.toArray.size)) :=
  ⟨zs.toArray, t, (0, 0), heap_alloc_new _ _, rfl, by simp, fun j _ h => by simp at h, fun j e hj => by
   rw [List.getElem?_map] at hj
   cases hzj : zs[j]? with
   | none => simp [hzj] at hj
   | some u =>
    simp [hzj] at hj; subst hj
    refine ⟨List.all_eq_true.1 hz.one u (List.mem_of_getElem? hzj), ?_⟩
    have : zs.toArray.getD j undef = u := by simp [Array.getD_eq_getD_getElem?, hzj]
    rw [this]; exact .sc u⟩
 refine ⟨X.fill k _ _ _, rfl, hS.fill hk hw rfl hob hh, WExt.fill hS hk hw rfl hob, .ptr k (X.N + 1) 0, ?_, kk (X.N + 1) (by omega)⟩
 refine .ptr _ _ _ _ (Nat.le_refl _) fun ob hobb => ?_
 rw [AX.row_mk ((AX.fill_live hkl).2 (.inr ⟨rfl, rfl⟩))] at hobb
 simp only [AX.fill, if_true, Option.some.injEq] at hobb
 exact ⟨_, _, hobb.symm, rfl⟩
end
/-! Variables made at any time. -/
structure AE where
 idx : Nat
 tmp : Nat
 zs : List Value
def AllocOk (P : Program) (G : Nat -> DV) (B n : Nat) (ops : Array Oper) (a : AE) : Prop :=
 a.tmp < n /\ ∃ o, ops[a.idx]? = some o /\ o.dst = some a.tmp /\ o.guard = none /\ ∀ (φ : Nat -> DV) (σ : List ABlk) (k : Nat) (K : DV -> List ABlk -> Prop), σ[k]? = some .gone -> (∀ g, B < g -> K (.ptr k g 0) (σ.set k (.row g (a.zs.map .sc)))) -> OpSem P G B o (aevF G φ) σ K
def lst (A : List AE) (p : Nat -> Bool) (listed : Array Bool) : Array Bool := listed.mapIdx fun i b => b || ((A.map AE.idx).contains i && p i)
def allP : List Nat -> ((Nat -> Bool) -> Bool) -> Bool
 | [], k => k fun _ => false
 | i :: r, k => allP r (fun p => k p) && allP r (fun p => k (fun x => Nat.beq x i || p x))
theorem allP_spec : ∀ {is : List Nat} {k : (Nat -> Bool) -> Bool}, allP is k = true -> ∀ p : Nat -> Bool, k (fun x => is.contains x && p x) = true
 | [], k, h, p => by simpa [allP] using h
 | i :: r, k, h, p => by
  simp only [allP, Bool.and_eq_true] at h
  cases hp : p i
  ·have := allP_spec h.1 p
   have e : (fun x => (i :: r).contains x && p x) = (fun x => r.contains x && p x) := by
    funext x
    by_cases hx : x = i
    ·subst hx; rw [hp, Bool.and_false, Bool.and_false]
    ·simp [List.contains_cons, hx]
   rw [e]; exact this
  ·have := allP_spec h.2 p
   have e : (fun x => (i :: r).contains x && p x) = (fun x => Nat.beq x i || (r.contains x && p x)) := by
    funext x
    by_cases hx : x = i
    ·subst hx; simp [hp]
    ·have : Nat.beq x i = false := by
      cases hb : Nat.beq x i
      ·rfl
      ·exact absurd (Nat.eq_of_beq_eq_true hb) hx
     rw [this]
     simp [List.contains_cons, hx]
   rw [e]; exact this
theorem lst_restrict {A : List AE} {p : Nat -> Bool} {listed : Array Bool} : lst A (fun x => (A.map AE.idx).contains x && p x) listed = lst A p listed := by
 unfold lst
 apply Array.ext (by simp)
 intro i h1 h2
 simp only [Array.getElem_mapIdx]
 cases (A.map AE.idx).contains i <;> simp
theorem lst_get {A : List AE} {p : Nat -> Bool} {listed : Array Bool} {j : Nat} : (lst A p listed)[j]? = (listed[j]?).map fun b => b || ((A.map AE.idx).contains j && p j) := by
 unfold lst; rw [Array.getElem?_mapIdx]
theorem lst_size {A : List AE} {p : Nat -> Bool} {listed : Array Bool} : (lst A p listed).size = listed.size := by unfold lst; simp
theorem lst_set {A : List AE} {p : Nat -> Bool} {listed : Array Bool} {i : Nat} (hi : (A.map AE.idx).contains i = false) : (lst A p listed).setIfInBounds i true = lst A p (listed.setIfInBounds i true) := by
 apply Array.ext_getElem?
 intro j
 rw [lst_get, Array.getElem?_setIfInBounds, Array.getElem?_setIfInBounds, lst_size]
 by_cases h : i = j
 ·subst h
  rw [if_pos rfl, if_pos rfl]
  split <;> rfl
 ·rw [if_neg h, if_neg h, lst_get]
theorem lst_put {A : List AE} {p : Nat -> Bool} {listed : Array Bool} {i : Nat} (hi : (A.map AE.idx).contains i = true) : (lst A p listed).setIfInBounds i true = lst A (fun x => Nat.beq x i || p x) listed := by
 apply Array.ext_getElem?
 intro j
 rw [lst_get, Array.getElem?_setIfInBounds, lst_size]
 by_cases h : i = j
 ·subst h
  rw [if_pos rfl, hi, Nat.beq_refl]
  split
  ·rename_i h; rw [Array.getElem?_eq_getElem h]; simp
  ·rename_i h; rw [Array.getElem?_eq_none (by omega)]; rfl
 ·have : Nat.beq j i = false := by
   cases hb : Nat.beq j i
   ·rfl
   ·exact absurd (Nat.eq_of_beq_eq_true hb).symm h
  rw [if_neg h, lst_get, this]; rfl
variable {n : Nat} {ops : Array Oper} {md : Region.Mode} {Fin : (Nat -> DV) -> List ABlk -> Prop} {Inv : List ABlk -> Prop}
def okTmp (A : List AE) (ops : Array Oper) (j : Nat) : Bool := match ops[j]? with
 | none => false
 | some o => (o.looksAt ops).all (fun t => !(A.map AE.tmp).contains t) && (match o.dst with | none => true | some t => !(A.map AE.tmp).contains t)
def mixA (md : Region.Mode) (ops : Array Oper) (A : List AE) : List (Nat × Bool) -> List (Nat × Bool) -> Array Bool -> Bool
 | [], js2, listed => allP (A.map AE.idx) (fun p => (A.map AE.idx).all p || ((Region.ready md ops (lst A p listed)).all (fun i => (A.map AE.idx).contains i && !p i) && !(Region.ready md ops (lst A p listed)).isEmpty)) && mixB md ops js2 (lst A (fun _ => true) listed)
 | (j, true) :: r, js2, listed => allP (A.map AE.idx) (fun p => (Region.ready md ops (lst A p listed)).contains j && Region.free md ops (lst A p listed) j) && !(A.map AE.idx).contains j && okTmp A ops j && mixA md ops A r js2 (listed.setIfInBounds j true)
 | (j, false) :: r, js2, listed => allP (A.map AE.idx) (fun p => (Region.ready md ops (lst A p listed)).contains j && (Region.ready md ops (lst A p listed)).all (fun i => Nat.beq i j || ((A.map AE.idx).contains i && !p i))) && !(A.map AE.idx).contains j && okTmp A ops j && mixA md ops A r js2 (listed.setIfInBounds j true)
def AC (B b : Nat) (A : List AE) (p : Nat -> Bool) (φ : Nat -> DV) (ss : List ABlk) : Prop :=
 ss.length = A.length /\ ∀ (j : Nat) (a : AE), A[j]? = some a -> (p a.idx = true -> ∃ g, B < g /\ φ a.tmp = .ptr (b + j) g 0 /\ ss[j]? = some (.row g (a.zs.map .sc))) /\ (p a.idx = false -> ss[j]? = some .gone)
def Same (A : List AE) (φ φ' : Nat -> DV) : Prop := ∀ i, (A.map AE.tmp).contains i = false -> φ' i = φ i
def PMix (P : Program) (G : Nat -> DV) (B n : Nat) (ops : Array Oper) (Inv : List ABlk -> Prop) (A : List AE) (Nx : (Nat -> DV) -> List ABlk -> Prop) : List (Nat × Oper × Bool) -> (Nat -> DV) -> List ABlk -> Prop
 | [], φ, σ => Nx φ σ
 | (j, o, true) :: l, φ, σ => ∃ d, (∀ σ, Inv σ -> YA P G B n ops σ o d φ) /\ PMix P G B n ops Inv A Nx l (ZO o.dst d φ) σ
 | (j, o, false) :: l, φ, σ => (∀ s, o.dst = some s -> s < n) /\ Wd n ops o φ true /\ ∀ ss, ss.length = A.length -> OpSem P G B o (aevF G φ) (σ ++ ss) (fun d τ => ∃ σ', τ = σ' ++ ss /\ σ'.length = σ.length /\ Inv τ /\ PMix P G B n ops Inv A Nx l (ZO o.dst d φ) σ')
def pend (A : List AE) (p : Nat -> Bool) : Nat := (A.filter fun a => !p a.idx).length
theorem okTmp_spec {A : List AE} {j : Nat} {o : Oper} (ho : ops[j]? = some o) (h : okTmp A ops j = true) : (∀ t ∈ o.looksAt ops, (A.map AE.tmp).contains t = false) /\ ∀ t, o.dst = some t -> (A.map AE.tmp).contains t = false := by
 unfold okTmp at h
 rw [ho] at h
 simp only [Bool.and_eq_true] at h
 refine ⟨fun t ht => by simpa using List.all_eq_true.1 h.1 t ht, fun t ht => ?_⟩
 have := h.2
 rw [ht] at this
 simpa using this
theorem AC.upd {B b : Nat} {A : List AE} {p : Nat -> Bool} {φ : Nat -> DV} {ss : List ABlk} (h : AC B b A p φ ss) {dst : Option Tmp} {d : DV} (hd : ∀ t, dst = some t -> (A.map AE.tmp).contains t = false) : AC B b A p (ZO dst d φ) ss := by
 refine ⟨h.1, fun j a ha => ⟨fun hp => ?_, (h.2 j a ha).2⟩⟩
 obtain ⟨g, h1, h2, h3⟩ := (h.2 j a ha).1 hp
 refine ⟨g, h1, ?_, h3⟩
 cases dst with
 | none => exact h2
 | some t =>
  have := hd t rfl
  have hne : t ≠ a.tmp := fun e => by
   rw [e] at this
   have : a.tmp ∉ A.map AE.tmp := by simpa using this
   exact this (List.mem_map.2 ⟨a, List.mem_of_getElem? ha, rfl⟩)
  simp only [ZO, if_neg hne]
  exact h2
theorem Same.upd {A : List AE} {φ φ' : Nat -> DV} (h : Same A φ φ') (dst : Option Tmp) (d : DV) : Same A (ZO dst d φ) (ZO dst d φ') := fun i hi => by
 cases dst with
 | none => exact h i hi
 | some t =>
   simp only [ZO]; split
   ·rfl
   ·exact h i hi
theorem pend_put {A : List AE} (hnd : (A.map AE.idx).Nodup) {p : Nat -> Bool} {a : AE} (ha : a ∈ A) (hp : p a.idx = false) : pend A p = pend A (fun x => Nat.beq x a.idx || p x) + 1 := by
 unfold pend
 induction A with
 | nil => cases ha
 | cons c A ih =>
  simp only [List.map_cons, List.nodup_cons] at hnd
  rcases List.mem_cons.1 ha with rfl | ha
  ·have e : A.filter (fun x => !p x.idx) = A.filter (fun x => !(Nat.beq x.idx a.idx || p x.idx)) := by
    refine List.filter_congr fun x hx => ?_
    have : Nat.beq x.idx a.idx = false := by
     cases hb : Nat.beq x.idx a.idx
     ·rfl
     ·exact absurd (List.mem_map.2 ⟨x, hx, Nat.eq_of_beq_eq_true hb⟩) hnd.1
    rw [this]; rfl
   rw [List.filter_cons_of_pos (by simp [hp]), List.filter_cons_of_neg (by simp), List.length_cons, e]
  ·have hne : c.idx ≠ a.idx := fun e => hnd.1 (List.mem_map.2 ⟨a, ha, e.symm⟩)
   have hb : Nat.beq c.idx a.idx = false := by
    cases hb : Nat.beq c.idx a.idx
    ·rfl
    ·exact absurd (Nat.eq_of_beq_eq_true hb) hne
   have := ih hnd.2 ha
   cases hc : p c.idx
   ·rw [List.filter_cons_of_pos (by simp [hc]), List.filter_cons_of_pos (by simp [hc, hb]), List.length_cons, List.length_cons, this]
   ·rw [List.filter_cons_of_neg (by simp [hc]), List.filter_cons_of_neg (by simp [hc]), this]
theorem anyI_pmix {B : Nat} {A : List AE} {js2 : List (Nat × Bool)} {b : Nat} (hA : ∀ a ∈ A, AllocOk P G B n ops a) (hnd : (A.map AE.idx).Nodup) (hndt : (A.map AE.tmp).Nodup)
  (hInv : ∀ σ k B, Inv σ -> Inv (σ.set (k + b) B))
  {Nx : (Nat -> DV) -> List ABlk -> Prop} (hNx : ∀ (listed : Array Bool) (φ φ' : Nat -> DV) (σ ss : List ABlk), Nx φ σ -> σ.length = b -> Same A φ φ' -> AC B b A (fun _ => true) φ' ss -> Inv (σ ++ ss) -> Closed md ops (lst A (fun _ => true) listed) -> mixB md ops js2 (lst A (fun _ => true) listed) = true -> anyI P G B n md ops Fin Inv ops.size js2.length (lst A (fun _ => true) listed) φ' (σ ++ ss)) :
  ∀ (js : List (Nat × Bool)) (l : List (Nat × Oper × Bool)) (q : Nat) (listed : Array Bool) (p : Nat -> Bool) (φ φ' : Nat -> DV) (σ ss : List ABlk), pend A p = q -> js.map (fun x => (x.1, ops[x.1]?, x.2)) = l.map (fun x => (x.1, some x.2.1, x.2.2)) -> Closed md ops (lst A p listed) -> mixA md ops A js js2 listed = true ->
   σ.length = b -> Same A φ φ' -> AC B b A p φ' ss -> Inv (σ ++ ss) -> PMix P G B n ops Inv A Nx l φ σ -> anyI P G B n md ops Fin Inv ops.size (js.length + q + js2.length) (lst A p listed) φ' (σ ++ ss) := by
 have hzl : lastB md ops ops.size = true := by unfold lastB; rw [Array.getElem?_eq_none (Nat.le_refl _)]
 -- a variable is made
 have alloc : ∀ (f q : Nat) (listed : Array Bool) (p : Nat -> Bool) (φ φ' : Nat -> DV) (σ ss : List ABlk) (i : Nat), pend A p = q + 1 -> σ.length = b -> Same A φ φ' -> AC B b A p φ' ss -> Inv (σ ++ ss) -> (A.map AE.idx).contains i = true -> p i = false ->
   (∀ (p' : Nat -> Bool) (φ'' : Nat -> DV) (ss' : List ABlk), pend A p' = q -> (lst A p listed).setIfInBounds i true = lst A p' listed -> Same A φ φ'' -> AC B b A p' φ'' ss' -> Inv (σ ++ ss') -> anyI P G B n md ops Fin Inv ops.size f (lst A p' listed) φ'' (σ ++ ss')) ->
   ∃ o, ops[i]? = some o /\ (∀ s, o.dst = some s -> s < n) /\ ((Wd n ops o φ' true /\ OpSem P G B o (aevF G φ') (σ ++ ss) (fun d σ' => (i ≠ ops.size -> Inv σ') /\ anyI P G B n md ops Fin Inv ops.size f ((lst A p listed).setIfInBounds i true) (ZO o.dst d φ') σ')) \/
   (Wd n ops o φ' false /\ anyI P G B n md ops Fin Inv ops.size f ((lst A p listed).setIfInBounds i true) (ZO o.dst (.sc undef) φ') (σ ++ ss))) := by
  intro f q listed p φ φ' σ ss i hq hb hsame hac hI hi hpi ih
  obtain ⟨a, ha, hai⟩ := List.mem_map.1 (List.contains_iff_mem.1 hi)
  subst hai
  obtain ⟨j, hj, hja⟩ := List.getElem_of_mem ha
  have hja' : A[j]? = some a := by rw [List.getElem?_eq_getElem hj, hja]
  obtain ⟨h1, o, h2, h3, h4, h5⟩ := hA a ha
  refine ⟨o, h2, fun s hs => by rw [h3] at hs; cases hs; exact h1, .inl ⟨by unfold Wd; rw [h4], ?_⟩⟩
  have hgone := (hac.2 j a hja').2 hpi
  refine h5 φ' (σ ++ ss) (b + j) _ (by rw [<- hb, List.getElem?_append_right (by omega), show σ.length + j - σ.length = j by omega]; exact hgone) fun g hg => ?_
  have hset : (σ ++ ss).set (b + j) (.row g (a.zs.map .sc)) = σ ++ ss.set j (.row g (a.zs.map .sc)) := by
   rw [<- hb, List.set_append_right _ _ (by omega), show σ.length + j - σ.length = j by omega]
  have hInv' : Inv (σ ++ ss.set j (.row g (a.zs.map .sc))) := by
   have := hInv (σ ++ ss) j (.row g (a.zs.map .sc)) hI
   rwa [Nat.add_comm, hset] at this
  rw [hset]
  refine ⟨fun _ => hInv', ?_⟩
  rw [lst_put hi]
  refine ih _ _ _ ?_ (lst_put hi) ?_ ?_ hInv'
  ·have := pend_put hnd ha hpi; omega
  ·intro i hi'
   rw [h3]
   have hne : a.tmp ≠ i := fun e => by
    have : i ∉ A.map AE.tmp := by simpa using hi'
    exact this (e ▸ List.mem_map.2 ⟨a, ha, rfl⟩)
   simp only [ZO, if_neg hne]
   exact hsame i hi'
  ·refine ⟨by rw [List.length_set]; exact hac.1, fun j' a' ha' => ?_⟩
   by_cases hjj : j' = j
   ·subst hjj
    rw [hja'] at ha'; cases ha'
    refine ⟨fun _ => ⟨g, hg, by rw [h3]; simp [ZO], by simp [hac.1, hj]⟩, fun hp => by simp at hp⟩
   ·have hidx : a'.idx ≠ a.idx := fun e => hjj (by
     have hj' := (List.getElem?_eq_some_iff.1 ha').1
     have e1 : (A.map AE.idx)[j']'(by simpa using hj') = (A.map AE.idx)[j]'(by simpa using hj) := by
      simp only [List.getElem_map, hja, (List.getElem?_eq_some_iff.1 ha').2]; exact e
     exact (List.getElem_inj hnd).1 e1)
    have htmp : a.tmp ≠ a'.tmp := fun e => hjj (by
     have hj' := (List.getElem?_eq_some_iff.1 ha').1
     have e1 : (A.map AE.tmp)[j']'(by simpa using hj') = (A.map AE.tmp)[j]'(by simpa using hj) := by
      simp only [List.getElem_map, hja, (List.getElem?_eq_some_iff.1 ha').2]; exact e.symm
     exact (List.getElem_inj hndt).1 e1)
    have hb' : Nat.beq a'.idx a.idx = false := by
     cases hb : Nat.beq a'.idx a.idx
     ·rfl
     ·exact absurd (Nat.eq_of_beq_eq_true hb) hidx
    simp only [hb', Bool.false_or]
    refine ⟨fun hp => ?_, fun hp => ?_⟩
    ·obtain ⟨g', k1, k2, k3⟩ := (hac.2 j' a' ha').1 hp
     refine ⟨g', k1, by rw [h3]; simp only [ZO, if_neg htmp]; exact k2, by rw [List.getElem?_set_ne (fun e => hjj e.symm)]; exact k3⟩
    ·rw [List.getElem?_set_ne (fun e => hjj e.symm)]; exact (hac.2 j' a' ha').2 hp
 have pos : ∀ (p : Nat -> Bool) (i : Nat), (A.map AE.idx).contains i = true -> p i = false -> ∃ q, pend A p = q + 1 := fun p i hi hpi => by
  obtain ⟨a, ha, rfl⟩ := List.mem_map.1 (List.contains_iff_mem.1 hi)
  exact ⟨_, pend_put hnd ha hpi⟩
 have mem : ∀ {p : Nat -> Bool} {listed : Array Bool} {i : Nat}, (A.map AE.idx).contains i = true -> Closed md ops (lst A p listed) -> i ∈ Region.ready md ops (lst A p listed) -> Closed md ops ((lst A p listed).setIfInBounds i true) := fun _ hc hr => hc.step hr
 intro js
 induction js with
 | nil =>
  intro l q
  induction q with
  | zero =>
   intro listed p φ φ' σ ss hq he hc hB hb hsame hac hI h
   have hl : l = [] := by cases l with | nil => rfl | cons _ _ => simp at he
   subst hl
   simp only [mixA, Bool.and_eq_true] at hB
   have hall : ∀ a ∈ A, p a.idx = true := fun a ha => by
    cases hp : p a.idx
    ·have := pend_put hnd ha hp; omega
    ·rfl
   have hlst : lst A p listed = lst A (fun _ => true) listed := by
    unfold lst
    apply Array.ext (by simp)
    intro i h1 h2
    simp only [Array.getElem_mapIdx]
    cases hci : (A.map AE.idx).contains i
    ·rfl
    ·obtain ⟨a, ha, rfl⟩ := List.mem_map.1 (List.contains_iff_mem.1 hci)
     rw [hall a ha]
   rw [hlst] at hc ⊢
   have := hNx listed φ φ' σ ss h hb hsame ⟨hac.1, fun j a ha => ⟨fun _ => (hac.2 j a ha).1 (hall a (List.mem_of_getElem? ha)), fun h => by cases h⟩⟩ hI hc hB.2
   simpa using this
  | succ q ihq =>
   intro listed p φ φ' σ ss hq he hc hB hb hsame hac hI h
   have hl : l = [] := by cases l with | nil => rfl | cons _ _ => simp at he
   have hB0 := hB
   simp only [mixA, Bool.and_eq_true] at hB
   have hs := allP_spec hB.1 p
   rw [lst_restrict] at hs
   simp only [Bool.or_eq_true, Bool.and_eq_true] at hs
   have hnot : ¬ ((A.map AE.idx).all (fun x => (A.map AE.idx).contains x && p x) = true) := fun hall => by
    have : pend A p = 0 := by
     unfold pend
     rw [List.length_eq_zero_iff, List.filter_eq_nil_iff]
     intro a ha
     have := List.all_eq_true.1 hall a.idx (List.mem_map.2 ⟨a, ha, rfl⟩)
     simp only [Bool.and_eq_true] at this
     simp [this.2]
    omega
   obtain ⟨hr1, hr2⟩ := hs.resolve_left hnot
   rw [show ([] : List (Nat × Bool)).length + (q + 1) + js2.length = (([] : List (Nat × Bool)).length + q + js2.length) + 1 by simp; omega]
   refine ⟨fun h0 => by rw [h0] at hr2; simp at hr2, fun i hi => ?_⟩
   have h1 := List.all_eq_true.1 hr1 i hi
   simp only [Bool.and_eq_true, Bool.not_eq_true', Bool.and_eq_false_iff] at h1
   have hpi : p i = false := by
     rcases h1.2 with h2 | h2
     ·rw [h1.1] at h2; cases h2
     ·exact h2
   refine alloc _ q listed p φ φ' σ ss i hq hb hsame hac hI h1.1 hpi fun p' φ'' ss' hq' hl' hs' hac' hI' => ?_
   exact ihq listed p' φ φ'' σ ss' hq' he (by rw [<- hl']; exact mem h1.1 hc hi) hB0 hb hs' hac' hI' h
 | cons jb js ihj =>
  obtain ⟨j, bb⟩ := jb
  intro l
  match l with
  | [] => intro q listed p φ φ' σ ss hq he; simp at he
  | (j', o, b') :: l =>
  cases bb with
  | true =>
   intro q listed p φ φ' σ ss hq he hc hB hb hsame hac hI h
   simp only [List.map_cons, List.cons.injEq, Prod.mk.injEq] at he
   obtain ⟨⟨rfl, ho, rfl⟩, he⟩ := he
   simp only [mixA, Bool.and_eq_true, Bool.not_eq_true'] at hB
   obtain ⟨⟨⟨hB1, hB2⟩, hB3⟩, hB4⟩ := hB
   have hs := allP_spec hB1 p
   rw [lst_restrict] at hs
   simp only [Bool.and_eq_true] at hs
   obtain ⟨d, hy, hK⟩ := h
   obtain ⟨t1, t2⟩ := okTmp_spec ho hB3
   have hr : j ∈ Region.ready md ops (lst A p listed) := by simpa using hs.1
   have hjs : j < ops.size := (Array.getElem?_eq_some_iff.1 ho).1
   rw [show (List.length ((j, true) :: js)) + q + js2.length = (js.length + q + js2.length) + 1 by simp; omega]
   refine anyI_first ho hzl (by omega) _ (lst A p listed) φ' (σ ++ ss) hc (Region.free_spec ho hs.2) hr (fun σ hσ => (hy σ hσ).same fun t ht => hsame t (t1 t ht)) hI ?_
   rw [lst_set hB2]
   exact ihj l q _ p _ _ σ ss hq he (by rw [<- lst_set hB2]; exact hc.step hr) hB4 hb (hsame.upd _ _) (hac.upd t2) hI hK
  | false =>
   intro q
   induction q with
   | zero =>
    intro listed p φ φ' σ ss hq he hc hB hb hsame hac hI h
    have he0 := he
    simp only [List.map_cons, List.cons.injEq, Prod.mk.injEq] at he
    obtain ⟨⟨rfl, ho, rfl⟩, he⟩ := he
    simp only [mixA, Bool.and_eq_true, Bool.not_eq_true'] at hB
    obtain ⟨⟨⟨hB1, hB2⟩, hB3⟩, hB4⟩ := hB
    have hs := allP_spec hB1 p
    rw [lst_restrict] at hs
    simp only [Bool.and_eq_true] at hs
    obtain ⟨hd, hw, hK⟩ := h
    obtain ⟨t1, t2⟩ := okTmp_spec ho hB3
    have hr : j ∈ Region.ready md ops (lst A p listed) := by simpa using hs.1
    rw [show (List.length ((j, false) :: js)) + 0 + js2.length = (js.length + 0 + js2.length) + 1 by simp; omega]
    refine ⟨fun h0 => (by rw [h0] at hr; cases hr), fun i hi => ?_⟩
    have h1 := List.all_eq_true.1 hs.2 i hi
    simp only [Bool.or_eq_true, Bool.and_eq_true] at h1
    rcases h1 with h1 | ⟨h1, h2⟩
    ·obtain rfl := Nat.eq_of_beq_eq_true h1
     refine ⟨o, ho, hd, .inl ⟨hw.same fun t ht => hsame t (t1 t ht), ((hK ss hac.1).same fun x hx => ?_).mono fun d τ ⟨σ', e1, e2, e3, e4⟩ => ?_⟩⟩
     ·cases x with
      | tmp t => exact hsame t (t1 t (List.mem_append_left _ (List.mem_filterMap.2 ⟨.tmp t, by simpa using hx, rfl⟩)))
      | _ => rfl
     ·refine ⟨fun _ => e3, ?_⟩
      subst e1
      rw [lst_set hB2]
      exact ihj l 0 _ p _ _ σ' ss hq he (by rw [<- lst_set hB2]; exact hc.step hi) hB4 (e2.trans hb) (hsame.upd _ _) (hac.upd t2) e3 e4
    ·exfalso
     have hpi : p i = false := by rw [h1] at h2; simpa using h2
     obtain ⟨q, hq'⟩ := pos p i h1 hpi
     omega
   | succ q ihq =>
    intro listed p φ φ' σ ss hq he hc hB hb hsame hac hI h
    have he0 := he
    have hB0 := hB
    have h0 := h
    simp only [List.map_cons, List.cons.injEq, Prod.mk.injEq] at he
    obtain ⟨⟨rfl, ho, rfl⟩, he⟩ := he
    simp only [mixA, Bool.and_eq_true, Bool.not_eq_true'] at hB
    obtain ⟨⟨⟨hB1, hB2⟩, hB3⟩, hB4⟩ := hB
    have hs := allP_spec hB1 p
    rw [lst_restrict] at hs
    simp only [Bool.and_eq_true] at hs
    obtain ⟨hd, hw, hK⟩ := h
    obtain ⟨t1, t2⟩ := okTmp_spec ho hB3
    have hr : j ∈ Region.ready md ops (lst A p listed) := by simpa using hs.1
    rw [show (List.length ((j, false) :: js)) + (q + 1) + js2.length = (js.length + (q + 1) + js2.length) + 1 by simp; omega]
    refine ⟨fun h0 => (by rw [h0] at hr; cases hr), fun i hi => ?_⟩
    have h1 := List.all_eq_true.1 hs.2 i hi
    simp only [Bool.or_eq_true, Bool.and_eq_true] at h1
    rcases h1 with h1 | ⟨h1, h2⟩
    ·obtain rfl := Nat.eq_of_beq_eq_true h1
     refine ⟨o, ho, hd, .inl ⟨hw.same fun t ht => hsame t (t1 t ht), ((hK ss hac.1).same fun x hx => ?_).mono fun d τ ⟨σ', e1, e2, e3, e4⟩ => ?_⟩⟩
     ·cases x with
      | tmp t => exact hsame t (t1 t (List.mem_append_left _ (List.mem_filterMap.2 ⟨.tmp t, by simpa using hx, rfl⟩)))
      | _ => rfl
     ·refine ⟨fun _ => e3, ?_⟩
      subst e1
      rw [lst_set hB2]
      exact ihj l (q + 1) _ p _ _ σ' ss hq he (by rw [<- lst_set hB2]; exact hc.step hi) hB4 (e2.trans hb) (hsame.upd _ _) (hac.upd t2) e3 e4
    ·have hpi : p i = false := by rw [h1] at h2; simpa using h2
     rw [show js.length + (q + 1) + js2.length = (js.length + 1 + q + js2.length) by omega]
     refine alloc _ q listed p φ φ' σ ss i hq hb hsame hac hI h1 hpi fun p' φ'' ss' hq' hl' hs' hac' hI' => ?_
     have := ihq listed p' φ φ'' σ ss' hq' he0 (by rw [<- hl']; exact mem h1 hc hi) hB0 hb hs' hac' hI' h0
     simpa [Nat.add_assoc, Nat.add_comm, Nat.add_left_comm] using this
variable {E : AX} {N : ASt -> Prop} {xs : List (Nat × (ASt -> Prop))} {R : ASt -> Prop} {σ : List ABlk} {t : Fr}
theorem allocOk_of {B : Nat} {i tm : Nat} {ty : TypeId} {zs : List Value} {type : TypeId} {pos : String} {after : Array Edge} [hz : TyZ P ty zs] (h : ops[i]? = some ⟨some tm, .alloc ty, type, pos, after, none⟩) (hn : Nat.blt tm n = true) : AllocOk P G B n ops ⟨i, tm, zs⟩ :=
 ⟨Nat.ble_eq.mp hn, _, h, rfl, rfl, fun φ σ k K hk kk => s_alloc_at hk kk⟩
theorem r_drawa {ι : Type} (I : ι -> List ABlk) (w : ι -> Nat -> ABlk -> ι) (A : List AE) (js js2 : List (Nat × Bool)) {id : Nat} {l : List Oper} {m m2 : List (Nat × Oper × Bool)} (hp : pickI l js = some m) (hp2 : pickI l js2 = some m2) (hl : Nat.beq (js.length + A.length + js2.length) l.length = true) (hm : P.follows .mixedOrders = true)
  (hB : mixA .any l.toArray A js js2 (Array.replicate l.toArray.size false) = true) (hnd : (A.map AE.idx).Nodup) (hndt : (A.map AE.tmp).Nodup) (hI : ∃ p, σ ++ List.replicate A.length .gone = I p) (hw : ∀ p k B, (I p).set (k + σ.length) B = I (w p k B))
  (hA : ∀ a ∈ A, AllocOk P G E.N n l.toArray a)
  (h : PMix P G E.N n l.toArray (fun σ => ∃ p, σ = I p) A (fun φ σ' => ∀ φ' ss, Same A φ φ' -> AC E.N σ.length A (fun _ => true) φ' ss -> (∃ p, σ' ++ ss = I p) -> IMix P G E.N n l.toArray (fun φ σ => ∃ t', (∀ i, Wp t' i = .any \/ Wp t' i = φ i) /\ N ⟨t', σ⟩) (fun σ => ∃ p, σ = I p) l.toArray.size m2 φ' (σ' ++ ss)) m (Wp t) σ) : WE P G E n (.region id l.toArray true) N xs R ⟨t, σ⟩ := fun a wd hr => by
 have hr' : RelF G E n (Wp t) (σ ++ List.replicate A.length .gone) a { wd with drawn := wd.drawn + 1 } := by
  obtain ⟨X, e1, e2, e3, e4, e5, e6, e7, e8⟩ := hr
  have hk := Keep.drew X.w
  subst e1
  have hgo : ∀ (k : Nat) (B : ABlk), (X.σ ++ List.replicate A.length .gone)[k]? = some B -> B = .gone \/ X.σ[k]? = some B := fun k B hB => by
   rw [List.getElem?_append] at hB
   split at hB
   ·exact .inr hB
   ·exact .inl (by
     have := List.mem_of_getElem? hB
     exact List.eq_of_mem_replicate this)
  have hlv : ∀ (k : Nat) (g : Nat), ((X.σ ++ List.replicate A.length .gone)[k]?).bind ABlk.gen? = some g -> X.live k g := fun k g hg => by
   cases hB : (X.σ ++ List.replicate A.length .gone)[k]? with
   | none => simp [hB] at hg
   | some B =>
    rw [hB] at hg
    rcases hgo k B hB with rfl | h'
    ·cases hg
    ·unfold AX.live; rw [h']; exact hg
  have hx := WExt.shrink (X := X) hlv
  have hS := e3.shrink hgo
  have e2 : X.σ = σ := e2
  subst e2
  let Z : AX := { X with σ := X.σ ++ List.replicate A.length .gone }
  have hk' : Keep Z.w Z.w.drew := hk
  have hxZ : WExt X Z := hx
  exact ⟨Z.inW Z.w.drew, rfl, rfl, Sto.inW (X := Z) hS hk', (e4.trans hxZ).trans (WExt.inW hk'), (e5.ext hxZ).ext (WExt.inW hk'), e6, e7, fun i => ((e8 i).ext hxZ).ext (WExt.inW hk')⟩
 have hcl : Closed .any l.toArray (lst A (fun _ => false) (Array.replicate l.toArray.size false)) := fun j o _ hl => by
  simp only [Array.getD_eq_getD_getElem?, lst_get] at hl
  cases hj : (Array.replicate l.toArray.size false)[j]? with
  | none => rw [hj] at hl; simp at hl
  | some b =>
   rw [hj] at hl
   have hb : b = false := by
    have := Array.mem_of_getElem? hj
    exact (Array.mem_replicate.1 this).2
   subst hb
   simp at hl
 have hz : lastB .any l.toArray l.toArray.size = true := by unfold lastB; rw [Array.getElem?_eq_none (Nat.le_refl _)]
 have hany := anyI_pmix (md := .any) (Fin := fun φ σ => ∃ t', (∀ i, Wp t' i = .any \/ Wp t' i = φ i) /\ N ⟨t', σ⟩) (Inv := fun σ => ∃ p, σ = I p) (js2 := js2) (b := σ.length) hA hnd hndt
  (fun σ' k B ⟨p, hp⟩ => ⟨w p k B, by rw [hp]; exact hw p k B⟩)
  (fun listed φ φ' σ' ss hN hb hs hac hI hc hB => anyI_mix hz js2 m2 _ φ' (σ' ++ ss) (pickI_eq hp2) hc hB (fun _ => hI) (hN φ' ss hs hac hI))
  js m A.length (Array.replicate l.toArray.size false) (fun _ => false) (Wp t) (Wp t) σ (List.replicate A.length .gone) (by simp [pend]) (pickI_eq hp) hcl hB rfl (fun _ _ => rfl)
  ⟨by simp, fun j a ha => ⟨fun h => (by cases h), fun _ => (by rw [List.getElem?_replicate, if_pos (List.getElem?_eq_some_iff.1 ha).1])⟩⟩ hI h
 have hlst0 : lst A (fun _ => false) (Array.replicate l.toArray.size false) = Array.replicate l.toArray.size false := by
  apply Array.ext_getElem?
  intro j
  rw [lst_get]
  cases (Array.replicate l.toArray.size false)[j]? with
  | none => rfl
  | some b => simp
 rw [hlst0, Nat.eq_of_beq_eq_true hl, show l.length = l.toArray.size from by simp] at hany
 refine wp_mono (wp_region_any hm (anyI_run _ _ _ _ hany a _ hr')) fun e a' w' ⟨he, φ, σ', ⟨X, e1, e2, e3, e4, e5, e6, e7, e8⟩, t', ht', hN⟩ => ?_
 subst he
 refine ⟨⟨t', σ'⟩, ⟨X, e1, e2, e3, e4, e5, e6, e7, fun i => ?_⟩, hN⟩
 rcases ht' i with h' | h'
 ·rw [h']; exact .any _
 ·rw [h']; exact e8 i
variable {B : Nat} {l : List (Nat × Oper × Bool)} {ι : Type} {I : ι -> List ABlk} {j : Nat} {A : List AE} {Nx : (Nat -> DV) -> List ABlk -> Prop}
theorem p_st {i : Tmp} {op : Op} {type : TypeId} {pos : String} {after : Array Edge} {d : DV} (hd : Nat.blt i n = true) (h : ∀ p, OpSem P G B ⟨some i, op, type, pos, after, none⟩ (aev G t) (I p) (fun d' s => d' = d /\ s = I p)) (k : PMix P G B n ops (fun σ => ∃ p, σ = I p) A Nx l (Wp ((i, d) :: t)) σ) :
  PMix P G B n ops (fun σ => ∃ p, σ = I p) A Nx ((j, ⟨some i, op, type, pos, after, none⟩, true) :: l) (Wp t) σ := by
 refine ⟨d, fun σ' ⟨p, hp⟩ => ⟨fun j hj => (by cases hj; exact Nat.ble_eq.mp hd), .inl ⟨rfl, by rw [Zl, hp]; exact h p⟩⟩, ?_⟩
 rw [Z5] at k; exact k
theorem p_ef {i : Tmp} {op : Op} {type : TypeId} {pos : String} {after : Array Edge} (hd : Nat.blt i n = true) (h : ∀ ss, ss.length = A.length -> OpSem P G B ⟨some i, op, type, pos, after, none⟩ (aev G t) (σ ++ ss) (fun d τ => ∃ σ', τ = σ' ++ ss /\ σ'.length = σ.length /\ (∃ p, τ = I p) /\ PMix P G B n ops (fun σ => ∃ p, σ = I p) A Nx l (Wp ((i, d) :: t)) σ')) :
  PMix P G B n ops (fun σ => ∃ p, σ = I p) A Nx ((j, ⟨some i, op, type, pos, after, none⟩, false) :: l) (Wp t) σ := by
 refine ⟨fun j hj => by cases hj; exact Nat.ble_eq.mp hd, rfl, fun ss hss => ?_⟩
 rw [Zl]
 exact (h ss hss).mono fun d τ ⟨σ', k1, k2, k3, k⟩ => ⟨σ', k1, k2, k3, by rw [Z5] at k; exact k⟩
theorem p_nil3 {b : Nat} {i1 i2 i3 t1 t2 t3 : Nat} {z1 z2 z3 : List Value} {F : (Nat -> DV) -> List ABlk -> Prop} (h12 : Nat.beq t1 t2 = false) (h13 : Nat.beq t1 t3 = false) (h23 : Nat.beq t2 t3 = false)
  (h : ∀ g1 g2 g3, B < g1 -> B < g2 -> B < g3 -> F (Wp ((t3, .ptr (b + 2) g3 0) :: (t2, .ptr (b + 1) g2 0) :: (t1, .ptr b g1 0) :: t)) (σ ++ [.row g1 (z1.map .sc), .row g2 (z2.map .sc), .row g3 (z3.map .sc)])) :
  PMix P G B n ops (fun σ => ∃ p, σ = I p) [⟨i1, t1, z1⟩, ⟨i2, t2, z2⟩, ⟨i3, t3, z3⟩] (fun φ σ' => ∀ φ' ss, Same [⟨i1, t1, z1⟩, ⟨i2, t2, z2⟩, ⟨i3, t3, z3⟩] φ φ' -> AC B b [⟨i1, t1, z1⟩, ⟨i2, t2, z2⟩, ⟨i3, t3, z3⟩] (fun _ => true) φ' ss -> (∃ p, σ' ++ ss = I p) -> F φ' (σ' ++ ss)) [] (Wp t) σ := by
 intro φ' ss hs ⟨hl, hac⟩ _
 obtain ⟨g1, k1, p1, s1⟩ := (hac 0 _ rfl).1 rfl
 obtain ⟨g2, k2, p2, s2⟩ := (hac 1 _ rfl).1 rfl
 obtain ⟨g3, k3, p3, s3⟩ := (hac 2 _ rfl).1 rfl
 have hss : ss = [.row g1 (z1.map .sc), .row g2 (z2.map .sc), .row g3 (z3.map .sc)] := by
  match ss, hl with
  | [a, b, c], _ => simp at s1 s2 s3; rw [s1, s2, s3]
 have hφ : φ' = Wp ((t3, .ptr (b + 2) g3 0) :: (t2, .ptr (b + 1) g2 0) :: (t1, .ptr b g1 0) :: t) := by
  funext i
  simp only [Wp]
  cases e3 : Nat.beq t3 i with
  | true => have := Nat.eq_of_beq_eq_true e3; subst this; exact p3
  | false =>
   cases e2 : Nat.beq t2 i with
   | true => have := Nat.eq_of_beq_eq_true e2; subst this; exact p2
   | false =>
    cases e1 : Nat.beq t1 i with
    | true => have := Nat.eq_of_beq_eq_true e1; subst this; exact p1
    | false =>
     refine hs i ?_
     have n3 : i ≠ t3 := fun e => by subst e; simp at e3
     have n2 : i ≠ t2 := fun e => by subst e; simp at e2
     have n1 : i ≠ t1 := fun e => by subst e; simp at e1
     simp [n1, n2, n3]
 rw [hφ, hss]
 exact h g1 g2 g3 k1 k2 k3
end
end Go.Av
end
