/-
  Part 11 of the proof: S4.
-/
import Derived.Test.YtecbcpilcjmhlaaDoorZB1
import Derived.Test.YtecbcpilcjmhlaaDoorZB10
set_option linter.unusedSimpArgs false
set_option linter.unusedVariables false
set_option maxRecDepth 10000
set_option maxHeartbeats 4000000
section
namespace Go.Proofs
open Go.Av
variable {G : Nat -> DV}
attribute [local irreducible] OpSem WE WY W0 ACalls ZE QV RV
open Go.Bl
theorem _root_.Go.Av.s_eql_as {P : Program} {G : Nat -> DV} {B : Nat} {f : Operand -> DV} {σ : List ABlk} {K : DV -> List ABlk -> Prop} {dst : Option Tmp} {type : TypeId} {pos : String} {after : Array Edge} {gd : Option (Nat × Bool)} {t t' : TypeId} {x y : Operand} {a b : Int} {k1 : IntKind} {d : Bool} (hx : f x = .sc (.int k1 a)) (hy : f y = .sc (.int k1 b)) (hd : decide (a = b) = d)
  (k : K (.sc (.bool d)) σ) : OpSem P G B ⟨dst, .binOp .eql t x y t', type, pos, after, gd⟩ f σ K := QH hx hy (by rw [hd]; exact k)
theorem qc (b : Bool) : Go.Av.Pure Tryd.prog G 77 [.b b] (.i (if b = true then 1 else 0)) := fun B => by
 refine Qb Tryd.func77 rfl Tryd.ntmps77 rfl (t := [(0, .b b)]) rfl fun E hE => ?_
 cases b
 ·(repeat' first | refine Qt rfl ?_ | refine Qv rfl ?_ | refine Qe ?_ | refine Qp rfl ?_ | refine Qf ?_ | refine Qa ?_ | refine Qj ?_ | refine Qi rfl ?_ | refine Qm ?_ | fail)
  refine e_1 Tryd.results77 (Qh rfl) (Qr ?_)
  rfl
 ·(repeat' first | refine Qt rfl ?_ | refine Qv rfl ?_ | refine Qe ?_ | refine Qp rfl ?_ | refine Qf ?_ | refine Qa ?_ | refine Qs rfl ?_ | refine Qm ?_ | fail)
  refine e_1 Tryd.results77 (Qh rfl) (Qr ?_)
  rfl
theorem quo_p (a b : Nat) (hb : 0 < b) (ha : a <= 100) (hb1 : b <= 100) : Go.Av.Pure Tryd.prog G 91 [.i a, .i b] (.i ((a / b : Nat) : Int)) := fun B => by
 refine Qb Tryd.func91 rfl Tryd.ntmps91 rfl (t := [(0, .i a), (1, .i b)]) rfl fun E hE => ?_
 (repeat' first | refine Qt rfl ?_ | refine Qv rfl ?_ | refine QG rfl rfl ?_ | refine Qe ?_ | refine Qp rfl ?_ | refine Qf ?_ | refine Qa ?_ | refine Qg ?_ | refine Qj ?_ | refine Qi rfl ?_ | fail)
 refine Wi (fun (n : Nat × Nat) => ⟨[(0, .i n.2), (1, .i b), (5, .i n.1)], []⟩) (fun n => n.2 + n.1 * b = a /\ n.1 <= 100) (fun n => n.2) (0, a) ?_ ⟨by omega, by omega⟩ ?_
 ·exact zal rfl
 rintro ⟨n, r⟩ ⟨h1, h2⟩
 dsimp only at h1 h2 ⊢
 by_cases h : b <= r
 ·have hn : n + 1 <= a := by
   have : n <= n * b := Nat.le_mul_of_pos_right _ hb
   omega
  have e1 : (((r - b : Nat) : Nat) : Int) = (r : Int) - b := by omega
  have e2 : (r - b) + (n + 1) * b = a := by rw [Nat.add_mul, Nat.one_mul]; omega
  (repeat' first | refine Qt rfl ?_ | refine Qv rfl ?_ | refine Wv rfl rfl ?_ | refine QS rfl rfl (by omega) ?_ | refine Zn rfl rfl (by omega) ?_ | refine Qe ?_ | refine Qp rfl ?_ | refine Qf ?_ | refine Qa ?_ | refine Qg ?_ | refine Qj ?_ | refine Qx rfl (by omega) ?_ | fail)
  refine ⟨(n + 1, r - b), ⟨e2, by omega⟩, by show r - b < r; omega, ?_⟩
  dsimp only
  rw [e1]
  exact zal rfl
 ·have hq : a / b = n := by
   rw [<- h1, Nat.add_mul_div_right _ _ hb, Nat.div_eq_of_lt (by omega), Nat.zero_add]
  rw [hq]
  (repeat' first | refine Qt rfl ?_ | refine Qv rfl ?_ | refine Wv rfl rfl ?_ | refine Qe ?_ | refine Qp rfl ?_ | refine Qf ?_ | refine Qa ?_ | refine QD rfl (by omega) ?_ | refine QU rfl ?_ | refine Qm ?_ | fail)
  refine e_1 Tryd.results91 (Qh rfl) (Qr ?_)
  rfl
theorem quo_c (a b : Int) (ha : -8 <= a /\ a <= 8) (hb : -8 <= b /\ b <= 8) (h0 : b ≠ 0) : Go.Av.Pure Tryd.prog G 91 [.i a, .i b] (.i (a.tdiv b)) := by
 have hp : ∀ (a b : Int), 0 <= a -> a <= 8 -> 0 < b -> b <= 8 -> Go.Av.Pure Tryd.prog G 91 [.i a, .i b] (.i (a.tdiv b)) := fun a b h1 h2 h3 h4 => by
  obtain ⟨x, rfl⟩ := Int.eq_ofNat_of_zero_le h1
  obtain ⟨y, rfl⟩ := Int.eq_ofNat_of_zero_le (Int.le_of_lt h3)
  exact quo_p x y (by omega) (by omega) (by omega)
 have hn : ∀ (a b : Int), 0 <= a -> a <= 8 -> b < 0 -> -8 <= b -> Go.Av.Pure Tryd.prog G 91 [.i a, .i b] (.i (a.tdiv b)) := fun a b h1 h2 h3 h4 B => by
  have hrec := hp a (-b) h1 h2 (by omega) (by omega)
  have hd : a.tdiv b = -(a.tdiv (-b)) := by rw [Int.tdiv_neg, Int.neg_neg]
  have hbd : -100 <= a.tdiv (-b) /\ a.tdiv (-b) <= 100 := by
   rw [Int.tdiv_eq_ediv_of_nonneg h1]
   have h5 := Int.ediv_nonneg h1 (show 0 <= -b by omega)
   have h6 : a / -b <= a := Int.ediv_le_self _ h1
   omega
  rw [hd]
  generalize a.tdiv (-b) = q at *
  refine Qb Tryd.func91 rfl Tryd.ntmps91 rfl (t := [(0, .i a), (1, .i b)]) rfl fun E hE => ?_
  (repeat' first | refine Qt rfl ?_ | refine Qv rfl ?_ | refine QG rfl rfl ?_ | refine QZ rfl rfl (hrec) ?_ | refine Z1 rfl (by omega) ?_ | refine Qe ?_ | refine Qp rfl ?_ | refine Qf ?_ | refine Qa ?_ | refine Qj ?_ | refine Qx rfl (by omega) ?_ | refine QD rfl (by omega) ?_ | refine Qm ?_ | fail)
  refine e_1 Tryd.results91 (Qh rfl) (Qr ?_)
  rfl
 have hall : ∀ (a b : Int), 0 <= a -> a <= 8 -> b ≠ 0 -> -8 <= b -> b <= 8 -> Go.Av.Pure Tryd.prog G 91 [.i a, .i b] (.i (a.tdiv b)) := fun a b h1 h2 h3 h4 h5 => by
  rcases Int.lt_or_le b 0 with h | h
  ·exact hn a b h1 h2 h h4
  ·exact hp a b h1 h2 (by omega) h5
 rcases Int.lt_or_le a 0 with h | h
 ·intro B
  have hrec := hall (-a) b (by omega) (by omega) h0 hb.1 hb.2
  have hd : a.tdiv b = -((-a).tdiv b) := by rw [Int.neg_tdiv, Int.neg_neg]
  have hbd : -100 <= (-a).tdiv b /\ (-a).tdiv b <= 100 := by
   have h1 : ((-a).tdiv b).natAbs <= (-a).natAbs := by rw [Int.natAbs_tdiv]; exact Nat.div_le_self _ _
   omega
  rw [hd]
  generalize (-a).tdiv b = q at *
  refine Qb Tryd.func91 rfl Tryd.ntmps91 rfl (t := [(0, .i a), (1, .i b)]) rfl fun E hE => ?_
  (repeat' first | refine Qt rfl ?_ | refine Qv rfl ?_ | refine QG rfl rfl ?_ | refine QZ rfl rfl (hrec) ?_ | refine Z1 rfl (by omega) ?_ | refine Qe ?_ | refine Qp rfl ?_ | refine Qf ?_ | refine Qa ?_ | refine Qx rfl (by omega) ?_ | refine Qm ?_ | fail)
  refine e_1 Tryd.results91 (Qh rfl) (Qr ?_)
  rfl
 ·exact hall a b h ha.2 h0 hb.1 hb.2
def dblM (a : Int) : Nat -> Int
 | 0 => a
 | n + 1 => wW (dblM a n + dblM a n)
def halM (a : Int) : Nat -> Int
 | 0 => a
 | n + 1 => if halM a n < 0 then -((1 - halM a n) / 2) else halM a n / 2
theorem dblM_bd {a : Int} (ha : -8 <= a /\ a <= 7) : ∀ n, -8 <= dblM a n /\ dblM a n <= 7
 | 0 => ha
 | n + 1 => wW_bd _
theorem halM_bd {a : Int} (ha : -8 <= a /\ a <= 7) : ∀ n, -8 <= halM a n /\ halM a n <= 7
 | 0 => ha
 | n + 1 => by
  have := halM_bd ha n
  rw [halM]
  split <;> omega
theorem doubled_c (a : Int) (ha : -8 <= a /\ a <= 7) (n : Nat) (hn : n <= 3) : Go.Av.Pure Tryd.prog G 93 [.i a, .i n] (.i (dblM a n)) := fun B => by
 refine Qb Tryd.func93 rfl Tryd.ntmps93 rfl (t := [(0, .i a), (1, .i n)]) rfl fun E hE => ?_
 (repeat' first | refine Qv rfl ?_ | refine Qe ?_ | refine Qp rfl ?_ | refine Qf ?_ | refine Qa ?_ | refine Qg ?_ | fail)
 refine Wi (fun (i : Nat) => ⟨[(0, .i (dblM a i)), (1, .i n), (5, .i i)], []⟩) (fun i => i <= n) (fun i => n - i) 0 ?_ (by omega) ?_
 ·exact zal rfl
 intro i hi
 have hb := dblM_bd ha i
 by_cases h : i < n
 ·have hsu : dblM a (i + 1) = wW (dblM a i + dblM a i) := rfl
  generalize dblM a i = x at *
  (repeat' first | refine Qt rfl ?_ | refine Qv rfl ?_ | refine QG rfl rfl ?_ | refine QS rfl rfl (by omega) ?_ | refine QZ rfl rfl (W8 _ (by omega)) ?_ | refine Qe ?_ | refine Qp rfl ?_ | refine Qf ?_ | refine Qa ?_ | refine Qg ?_ | refine Qj ?_ | refine Qx rfl (by omega) ?_ | fail)
  refine ⟨i + 1, h, by omega, ?_⟩
  rw [hsu]
  exact zal rfl
 ·have : i = n := by omega
  subst this
  (repeat' first | refine Qt rfl ?_ | refine Qv rfl ?_ | refine QG rfl rfl ?_ | refine Qe ?_ | refine Qp rfl ?_ | refine Qf ?_ | refine Qa ?_ | refine QD rfl (by omega) ?_ | refine QU rfl ?_ | refine Qm ?_ | fail)
  refine e_1 Tryd.results93 (Qh rfl) (Qr ?_)
  rfl
theorem halved_c (a : Int) (ha : -8 <= a /\ a <= 7) (n : Nat) (hn : n <= 3) : Go.Av.Pure Tryd.prog G 94 [.i a, .i n] (.i (halM a n)) := fun B => by
 refine Qb Tryd.func94 rfl Tryd.ntmps94 rfl (t := [(0, .i a), (1, .i n)]) rfl fun E hE => ?_
 (repeat' first | refine Qv rfl ?_ | refine Qe ?_ | refine Qp rfl ?_ | refine Qf ?_ | refine Qa ?_ | refine Qg ?_ | fail)
 refine Wi (fun (i : Nat) => ⟨[(0, .i (halM a i)), (1, .i n), (5, .i i)], []⟩) (fun i => i <= n) (fun i => n - i) 0 ?_ (by omega) ?_
 ·exact zal rfl
 intro i hi
 have hb := halM_bd ha i
 by_cases h : i < n
 ·have hsu : halM a (i + 1) = if halM a i < 0 then -((1 - halM a i) / 2) else halM a i / 2 := rfl
  generalize halM a i = x at *
  by_cases hx : x < 0
  ·rw [if_pos hx] at hsu
   (repeat' first | refine Qt rfl ?_ | refine Qv rfl ?_ | refine s_quo rfl rfl (by omega) (by omega) (by omega) ?_ | refine QG rfl rfl ?_ | refine QS rfl rfl (by omega) ?_ | refine Zn rfl rfl (by omega) ?_ | refine Z1 rfl (by omega) ?_ | refine Qe ?_ | refine Qp rfl ?_ | refine Qf ?_ | refine Qa ?_ | refine Qg ?_ | refine Qj ?_ | refine Qx rfl (by omega) ?_ | fail)
   refine ⟨i + 1, h, by omega, ?_⟩
   rw [hsu]
   exact zal rfl
  ·rw [if_neg hx] at hsu
   (repeat' first | refine Qt rfl ?_ | refine Qv rfl ?_ | refine s_quo rfl rfl (by omega) (by omega) (by omega) ?_ | refine QG rfl rfl ?_ | refine QS rfl rfl (by omega) ?_ | refine Qe ?_ | refine Qp rfl ?_ | refine Qf ?_ | refine Qa ?_ | refine Qg ?_ | refine Qj ?_ | refine Qx rfl (by omega) ?_ | refine QD rfl (by omega) ?_ | fail)
   refine ⟨i + 1, h, by omega, ?_⟩
   rw [hsu]
   exact zal rfl
 ·have : i = n := by omega
  subst this
  (repeat' first | refine Qt rfl ?_ | refine Qv rfl ?_ | refine QG rfl rfl ?_ | refine Qe ?_ | refine Qp rfl ?_ | refine Qf ?_ | refine Qa ?_ | refine QD rfl (by omega) ?_ | refine QU rfl ?_ | refine Qm ?_ | fail)
  refine e_1 Tryd.results94 (Qh rfl) (Qr ?_)
  rfl
def bwB (one two both p q : Bool) : Bool := (p && q && both) || (p && !q && one) || (!p && q && two)
def bwTo (one two both : Bool) (x y : Nat) : Nat -> Nat
 | 0 => 0
 | i + 1 => bwTo one two both x y i + if bwB one two both (ZD x i) (ZD y i) = true then 2 ^ i else 0
theorem bwTo_lt (one two both : Bool) (x y : Nat) : ∀ i, bwTo one two both x y i < 2 ^ i
 | 0 => Nat.one_pos
 | i + 1 => by
  have := bwTo_lt one two both x y i
  rw [bwTo, Nat.pow_succ]
  split <;> omega
def bwM (one two both : Bool) (a b : Int) : Int := wW (bwTo one two both (wN a) (wN b) 4)
theorem bit_dec {w i : Nat} {b : Bool} (h : ZD w i = b) : decide (((w / 2 ^ i : Nat) : Int).tmod 2 = 1) = b := by
 rw [<- h]
 unfold ZD
 generalize w / 2 ^ i = q
 rw [Int.tmod_eq_emod_of_nonneg (by omega)]
 refine decide_eq_decide.2 ?_
 omega
theorem half_nat (w i : Nat) : ((w / 2 ^ (i + 1) : Nat) : Int) = ((w / 2 ^ i : Nat) : Int) / 2 := by rw [Nat.pow_succ, <- Nat.div_div_eq_div_mul]; exact Int.natCast_ediv _ 2
theorem bw_and (a b : Int) (ha : -8 <= a /\ a <= 7) (hb : -8 <= b /\ b <= 7) : Go.Av.Pure Tryd.prog G 92 [.i a, .i b, .b false, .b false, .b true] (.i (bwM false false true a b)) := fun B => by
 have hca := Z4 (G := G) a (by omega)
 have hcb := Z4 (G := G) b (by omega)
 have hla := wN_lt a
 have hlb := wN_lt b
 unfold bwM
 generalize wN a = x at *
 generalize wN b = y at *
 refine Qb Tryd.func92 rfl Tryd.ntmps92 rfl (t := [(0, .i a), (1, .i b), (2, .b false), (3, .b false), (4, .b true)]) rfl fun E hE => ?_
 (repeat' first | refine Qt rfl ?_ | refine Qv rfl ?_ | refine QZ rfl rfl (hca) ?_ | refine QZ rfl rfl (hcb) ?_ | refine Qe ?_ | refine Qp rfl ?_ | refine Qf ?_ | refine Qa ?_ | refine Qg ?_ | fail)
 refine Wi (fun (i : Nat) => ⟨[(2, .b false), (3, .b false), (4, .b true), (11, .i ((x / 2 ^ i : Nat) : Int)), (12, .i ((y / 2 ^ i : Nat) : Int)), (13, .i ((bwTo false false true x y i : Nat) : Int)), (14, .i ((2 ^ i : Nat) : Int)), (15, .i i)], []⟩) (fun i => i <= 4) (fun i => 4 - i) 0 ?_ (by omega) ?_
 ·rw [Nat.pow_zero, Nat.div_one, Nat.div_one]
  exact zal rfl
 intro i hi
 have hlt := bwTo_lt false false true x y i
 by_cases h : i < 4
 ·have hx := half_nat x i
  have hy := half_nat y i
  have hqx : x / 2 ^ i < 16 := Nat.lt_of_le_of_lt (Nat.div_le_self _ _) hla
  have hqy : y / 2 ^ i < 16 := Nat.lt_of_le_of_lt (Nat.div_le_self _ _) hlb
  have hp : ((2 ^ (i + 1) : Nat) : Int) = ((2 ^ i : Nat) : Int) * 2 := by rw [Nat.pow_succ]; exact Int.natCast_mul _ 2
  have hp8 : 2 ^ i <= 8 := Nat.pow_le_pow_right (show 0 < 2 by decide) (show i <= 3 by omega)
  have hsu : bwTo false false true x y (i + 1) = bwTo false false true x y i + if bwB false false true (ZD x i) (ZD y i) = true then 2 ^ i else 0 := rfl
  have mkx : ∀ v, ZD x i = v -> decide (((x / 2 ^ i : Nat) : Int).tmod 2 = 1) = v := fun v => bit_dec
  have mky : ∀ v, ZD y i = v -> decide (((y / 2 ^ i : Nat) : Int).tmod 2 = 1) = v := fun v => bit_dec
  generalize bwTo false false true x y i = acc at *
  generalize ZD x i = bx at *
  generalize ZD y i = by' at *
  generalize x / 2 ^ i = qx at *
  generalize y / 2 ^ i = qy at *
  generalize 2 ^ i = pw at *
  have hbx := mkx bx rfl
  have hby := mky by' rfl
  clear mkx mky
  cases bx
  all_goals cases by'
  ·have hsu : ((bwTo false false true x y (i + 1) : Nat) : Int) = (acc : Int) := by rw [hsu]; simp [bwB]
   (repeat' first | refine Qt rfl ?_ | refine Qv rfl ?_ | refine s_eql_as rfl rfl hbx ?_ | refine s_eql_as rfl rfl hby ?_ | refine ZV rfl rfl (by omega) ?_ | refine s_quo rfl rfl (by omega) (by omega) (by omega) ?_ | refine QG rfl rfl ?_ | refine QS rfl rfl (by omega) ?_ | refine Z2 rfl rfl (by omega) ?_ | refine WR rfl rfl ?_ | refine Wk rfl rfl ?_ | refine ZQ rfl ?_ | refine Qe ?_ | refine Qp rfl ?_ | refine WC rfl rfl rfl rfl ?_ | refine WO rfl rfl rfl rfl ?_ | refine Qf ?_ | refine Qa ?_ | refine Qg ?_ | refine Qj ?_ | refine Qi rfl ?_ | refine Qx rfl (by omega) ?_ | fail)
   refine ⟨i + 1, by omega, by omega, ?_⟩
   rw [hsu, hx, hy, hp]
   exact zal rfl
  ·have hsu : ((bwTo false false true x y (i + 1) : Nat) : Int) = (acc : Int) := by rw [hsu]; simp [bwB]
   (repeat' first | refine Qt rfl ?_ | refine Qv rfl ?_ | refine s_eql_as rfl rfl hbx ?_ | refine s_eql_as rfl rfl hby ?_ | refine ZV rfl rfl (by omega) ?_ | refine s_quo rfl rfl (by omega) (by omega) (by omega) ?_ | refine QG rfl rfl ?_ | refine QS rfl rfl (by omega) ?_ | refine Z2 rfl rfl (by omega) ?_ | refine WR rfl rfl ?_ | refine Wk rfl rfl ?_ | refine ZQ rfl ?_ | refine Qe ?_ | refine Qp rfl ?_ | refine WC rfl rfl rfl rfl ?_ | refine WO rfl rfl rfl rfl ?_ | refine Qf ?_ | refine Qa ?_ | refine Qg ?_ | refine Qj ?_ | refine Qi rfl ?_ | refine Qx rfl (by omega) ?_ | fail)
   refine ⟨i + 1, by omega, by omega, ?_⟩
   rw [hsu, hx, hy, hp]
   exact zal rfl
  ·have hsu : ((bwTo false false true x y (i + 1) : Nat) : Int) = (acc : Int) := by rw [hsu]; simp [bwB]
   (repeat' first | refine Qt rfl ?_ | refine Qv rfl ?_ | refine s_eql_as rfl rfl hbx ?_ | refine s_eql_as rfl rfl hby ?_ | refine ZV rfl rfl (by omega) ?_ | refine s_quo rfl rfl (by omega) (by omega) (by omega) ?_ | refine QG rfl rfl ?_ | refine QS rfl rfl (by omega) ?_ | refine Z2 rfl rfl (by omega) ?_ | refine WR rfl rfl ?_ | refine Wk rfl rfl ?_ | refine ZQ rfl ?_ | refine Qe ?_ | refine Qp rfl ?_ | refine WC rfl rfl rfl rfl ?_ | refine WO rfl rfl rfl rfl ?_ | refine Qf ?_ | refine Qa ?_ | refine Qg ?_ | refine Qj ?_ | refine Qi rfl ?_ | refine Qx rfl (by omega) ?_ | fail)
   refine ⟨i + 1, by omega, by omega, ?_⟩
   rw [hsu, hx, hy, hp]
   exact zal rfl
  ·have hsu : ((bwTo false false true x y (i + 1) : Nat) : Int) = (acc : Int) + (pw : Int) := by rw [hsu]; simp [bwB]
   (repeat' first | refine Qt rfl ?_ | refine Qv rfl ?_ | refine s_eql_as rfl rfl hbx ?_ | refine s_eql_as rfl rfl hby ?_ | refine ZV rfl rfl (by omega) ?_ | refine s_quo rfl rfl (by omega) (by omega) (by omega) ?_ | refine QG rfl rfl ?_ | refine QS rfl rfl (by omega) ?_ | refine Z2 rfl rfl (by omega) ?_ | refine WR rfl rfl ?_ | refine Qe ?_ | refine Qp rfl ?_ | refine WC rfl rfl rfl rfl ?_ | refine WO rfl rfl rfl rfl ?_ | refine o_gu rfl rfl rfl rfl rfl ?_ | refine Qf ?_ | refine Qa ?_ | refine Qg ?_ | refine Qj ?_ | refine Qs rfl ?_ | refine Qx rfl (by omega) ?_ | fail)
   refine ⟨i + 1, by omega, by omega, ?_⟩
   rw [hsu, hx, hy, hp]
   exact zal rfl
 ·have : i = 4 := by omega
  subst this
  have hlt : bwTo false false true x y 4 < 16 := hlt
  (repeat' first | refine Qt rfl ?_ | refine Qv rfl ?_ | refine QG rfl rfl ?_ | refine QZ rfl rfl (W8 _ (by omega)) ?_ | refine Qe ?_ | refine Qp rfl ?_ | refine Qf ?_ | refine Qa ?_ | refine Qi rfl ?_ | refine QU rfl ?_ | refine Qm ?_ | fail)
  refine e_1 Tryd.results92 (Qh rfl) (Qr ?_)
  rfl
theorem bw_or (a b : Int) (ha : -8 <= a /\ a <= 7) (hb : -8 <= b /\ b <= 7) : Go.Av.Pure Tryd.prog G 92 [.i a, .i b, .b true, .b true, .b true] (.i (bwM true true true a b)) := fun B => by
 have hca := Z4 (G := G) a (by omega)
 have hcb := Z4 (G := G) b (by omega)
 have hla := wN_lt a
 have hlb := wN_lt b
 unfold bwM
 generalize wN a = x at *
 generalize wN b = y at *
 refine Qb Tryd.func92 rfl Tryd.ntmps92 rfl (t := [(0, .i a), (1, .i b), (2, .b true), (3, .b true), (4, .b true)]) rfl fun E hE => ?_
 (repeat' first | refine Qt rfl ?_ | refine Qv rfl ?_ | refine QZ rfl rfl (hca) ?_ | refine QZ rfl rfl (hcb) ?_ | refine Qe ?_ | refine Qp rfl ?_ | refine Qf ?_ | refine Qa ?_ | refine Qg ?_ | fail)
 refine Wi (fun (i : Nat) => ⟨[(2, .b true), (3, .b true), (4, .b true), (11, .i ((x / 2 ^ i : Nat) : Int)), (12, .i ((y / 2 ^ i : Nat) : Int)), (13, .i ((bwTo true true true x y i : Nat) : Int)), (14, .i ((2 ^ i : Nat) : Int)), (15, .i i)], []⟩) (fun i => i <= 4) (fun i => 4 - i) 0 ?_ (by omega) ?_
 ·rw [Nat.pow_zero, Nat.div_one, Nat.div_one]
  exact zal rfl
 intro i hi
 have hlt := bwTo_lt true true true x y i
 by_cases h : i < 4
 ·have hx := half_nat x i
  have hy := half_nat y i
  have hqx : x / 2 ^ i < 16 := Nat.lt_of_le_of_lt (Nat.div_le_self _ _) hla
  have hqy : y / 2 ^ i < 16 := Nat.lt_of_le_of_lt (Nat.div_le_self _ _) hlb
  have hp : ((2 ^ (i + 1) : Nat) : Int) = ((2 ^ i : Nat) : Int) * 2 := by rw [Nat.pow_succ]; exact Int.natCast_mul _ 2
  have hp8 : 2 ^ i <= 8 := Nat.pow_le_pow_right (show 0 < 2 by decide) (show i <= 3 by omega)
  have hsu : bwTo true true true x y (i + 1) = bwTo true true true x y i + if bwB true true true (ZD x i) (ZD y i) = true then 2 ^ i else 0 := rfl
  have mkx : ∀ v, ZD x i = v -> decide (((x / 2 ^ i : Nat) : Int).tmod 2 = 1) = v := fun v => bit_dec
  have mky : ∀ v, ZD y i = v -> decide (((y / 2 ^ i : Nat) : Int).tmod 2 = 1) = v := fun v => bit_dec
  generalize bwTo true true true x y i = acc at *
  generalize ZD x i = bx at *
  generalize ZD y i = by' at *
  generalize x / 2 ^ i = qx at *
  generalize y / 2 ^ i = qy at *
  generalize 2 ^ i = pw at *
  have hbx := mkx bx rfl
  have hby := mky by' rfl
  clear mkx mky
  cases bx
  all_goals cases by'
  ·have hsu : ((bwTo true true true x y (i + 1) : Nat) : Int) = (acc : Int) := by rw [hsu]; simp [bwB]
   (repeat' first | refine Qt rfl ?_ | refine Qv rfl ?_ | refine s_eql_as rfl rfl hbx ?_ | refine s_eql_as rfl rfl hby ?_ | refine ZV rfl rfl (by omega) ?_ | refine s_quo rfl rfl (by omega) (by omega) (by omega) ?_ | refine QG rfl rfl ?_ | refine QS rfl rfl (by omega) ?_ | refine Z2 rfl rfl (by omega) ?_ | refine WR rfl rfl ?_ | refine Wk rfl rfl ?_ | refine ZQ rfl ?_ | refine Qe ?_ | refine Qp rfl ?_ | refine WC rfl rfl rfl rfl ?_ | refine WO rfl rfl rfl rfl ?_ | refine Qf ?_ | refine Qa ?_ | refine Qg ?_ | refine Qj ?_ | refine Qi rfl ?_ | refine Qx rfl (by omega) ?_ | fail)
   refine ⟨i + 1, by omega, by omega, ?_⟩
   rw [hsu, hx, hy, hp]
   exact zal rfl
  ·have hsu : ((bwTo true true true x y (i + 1) : Nat) : Int) = (acc : Int) + (pw : Int) := by rw [hsu]; simp [bwB]
   (repeat' first | refine Qt rfl ?_ | refine Qv rfl ?_ | refine s_eql_as rfl rfl hbx ?_ | refine s_eql_as rfl rfl hby ?_ | refine ZV rfl rfl (by omega) ?_ | refine s_quo rfl rfl (by omega) (by omega) (by omega) ?_ | refine QG rfl rfl ?_ | refine QS rfl rfl (by omega) ?_ | refine Z2 rfl rfl (by omega) ?_ | refine WR rfl rfl ?_ | refine Wk rfl rfl ?_ | refine ZQ rfl ?_ | refine Qe ?_ | refine Qp rfl ?_ | refine WC rfl rfl rfl rfl ?_ | refine WO rfl rfl rfl rfl ?_ | refine Qf ?_ | refine Qa ?_ | refine Qg ?_ | refine Qj ?_ | refine Qs rfl ?_ | refine Qx rfl (by omega) ?_ | fail)
   refine ⟨i + 1, by omega, by omega, ?_⟩
   rw [hsu, hx, hy, hp]
   exact zal rfl
  ·have hsu : ((bwTo true true true x y (i + 1) : Nat) : Int) = (acc : Int) + (pw : Int) := by rw [hsu]; simp [bwB]
   (repeat' first | refine Qt rfl ?_ | refine Qv rfl ?_ | refine s_eql_as rfl rfl hbx ?_ | refine s_eql_as rfl rfl hby ?_ | refine ZV rfl rfl (by omega) ?_ | refine s_quo rfl rfl (by omega) (by omega) (by omega) ?_ | refine QG rfl rfl ?_ | refine QS rfl rfl (by omega) ?_ | refine Z2 rfl rfl (by omega) ?_ | refine WR rfl rfl ?_ | refine Wk rfl rfl ?_ | refine ZQ rfl ?_ | refine Qe ?_ | refine Qp rfl ?_ | refine WC rfl rfl rfl rfl ?_ | refine WO rfl rfl rfl rfl ?_ | refine o_gu rfl rfl rfl rfl rfl ?_ | refine Qf ?_ | refine Qa ?_ | refine Qg ?_ | refine Qj ?_ | refine Qs rfl ?_ | refine Qx rfl (by omega) ?_ | fail)
   refine ⟨i + 1, by omega, by omega, ?_⟩
   rw [hsu, hx, hy, hp]
   exact zal rfl
  ·have hsu : ((bwTo true true true x y (i + 1) : Nat) : Int) = (acc : Int) + (pw : Int) := by rw [hsu]; simp [bwB]
   (repeat' first | refine Qt rfl ?_ | refine Qv rfl ?_ | refine s_eql_as rfl rfl hbx ?_ | refine s_eql_as rfl rfl hby ?_ | refine ZV rfl rfl (by omega) ?_ | refine s_quo rfl rfl (by omega) (by omega) (by omega) ?_ | refine QG rfl rfl ?_ | refine QS rfl rfl (by omega) ?_ | refine Z2 rfl rfl (by omega) ?_ | refine WR rfl rfl ?_ | refine Qe ?_ | refine Qp rfl ?_ | refine WC rfl rfl rfl rfl ?_ | refine WO rfl rfl rfl rfl ?_ | refine o_gu rfl rfl rfl rfl rfl ?_ | refine Qf ?_ | refine Qa ?_ | refine Qg ?_ | refine Qj ?_ | refine Qs rfl ?_ | refine Qx rfl (by omega) ?_ | fail)
   refine ⟨i + 1, by omega, by omega, ?_⟩
   rw [hsu, hx, hy, hp]
   exact zal rfl
 ·have : i = 4 := by omega
  subst this
  have hlt : bwTo true true true x y 4 < 16 := hlt
  (repeat' first | refine Qt rfl ?_ | refine Qv rfl ?_ | refine QG rfl rfl ?_ | refine QZ rfl rfl (W8 _ (by omega)) ?_ | refine Qe ?_ | refine Qp rfl ?_ | refine Qf ?_ | refine Qa ?_ | refine Qi rfl ?_ | refine QU rfl ?_ | refine Qm ?_ | fail)
  refine e_1 Tryd.results92 (Qh rfl) (Qr ?_)
  rfl
theorem bw_xor (a b : Int) (ha : -8 <= a /\ a <= 7) (hb : -8 <= b /\ b <= 7) : Go.Av.Pure Tryd.prog G 92 [.i a, .i b, .b true, .b true, .b false] (.i (bwM true true false a b)) := fun B => by
 have hca := Z4 (G := G) a (by omega)
 have hcb := Z4 (G := G) b (by omega)
 have hla := wN_lt a
 have hlb := wN_lt b
 unfold bwM
 generalize wN a = x at *
 generalize wN b = y at *
 refine Qb Tryd.func92 rfl Tryd.ntmps92 rfl (t := [(0, .i a), (1, .i b), (2, .b true), (3, .b true), (4, .b false)]) rfl fun E hE => ?_
 (repeat' first | refine Qt rfl ?_ | refine Qv rfl ?_ | refine QZ rfl rfl (hca) ?_ | refine QZ rfl rfl (hcb) ?_ | refine Qe ?_ | refine Qp rfl ?_ | refine Qf ?_ | refine Qa ?_ | refine Qg ?_ | fail)
 refine Wi (fun (i : Nat) => ⟨[(2, .b true), (3, .b true), (4, .b false), (11, .i ((x / 2 ^ i : Nat) : Int)), (12, .i ((y / 2 ^ i : Nat) : Int)), (13, .i ((bwTo true true false x y i : Nat) : Int)), (14, .i ((2 ^ i : Nat) : Int)), (15, .i i)], []⟩) (fun i => i <= 4) (fun i => 4 - i) 0 ?_ (by omega) ?_
 ·rw [Nat.pow_zero, Nat.div_one, Nat.div_one]
  exact zal rfl
 intro i hi
 have hlt := bwTo_lt true true false x y i
 by_cases h : i < 4
 ·have hx := half_nat x i
  have hy := half_nat y i
  have hqx : x / 2 ^ i < 16 := Nat.lt_of_le_of_lt (Nat.div_le_self _ _) hla
  have hqy : y / 2 ^ i < 16 := Nat.lt_of_le_of_lt (Nat.div_le_self _ _) hlb
  have hp : ((2 ^ (i + 1) : Nat) : Int) = ((2 ^ i : Nat) : Int) * 2 := by rw [Nat.pow_succ]; exact Int.natCast_mul _ 2
  have hp8 : 2 ^ i <= 8 := Nat.pow_le_pow_right (show 0 < 2 by decide) (show i <= 3 by omega)
  have hsu : bwTo true true false x y (i + 1) = bwTo true true false x y i + if bwB true true false (ZD x i) (ZD y i) = true then 2 ^ i else 0 := rfl
  have mkx : ∀ v, ZD x i = v -> decide (((x / 2 ^ i : Nat) : Int).tmod 2 = 1) = v := fun v => bit_dec
  have mky : ∀ v, ZD y i = v -> decide (((y / 2 ^ i : Nat) : Int).tmod 2 = 1) = v := fun v => bit_dec
  generalize bwTo true true false x y i = acc at *
  generalize ZD x i = bx at *
  generalize ZD y i = by' at *
  generalize x / 2 ^ i = qx at *
  generalize y / 2 ^ i = qy at *
  generalize 2 ^ i = pw at *
  have hbx := mkx bx rfl
  have hby := mky by' rfl
  clear mkx mky
  cases bx
  all_goals cases by'
  ·have hsu : ((bwTo true true false x y (i + 1) : Nat) : Int) = (acc : Int) := by rw [hsu]; simp [bwB]
   (repeat' first | refine Qt rfl ?_ | refine Qv rfl ?_ | refine s_eql_as rfl rfl hbx ?_ | refine s_eql_as rfl rfl hby ?_ | refine ZV rfl rfl (by omega) ?_ | refine s_quo rfl rfl (by omega) (by omega) (by omega) ?_ | refine QG rfl rfl ?_ | refine QS rfl rfl (by omega) ?_ | refine Z2 rfl rfl (by omega) ?_ | refine WR rfl rfl ?_ | refine Wk rfl rfl ?_ | refine ZQ rfl ?_ | refine Qe ?_ | refine Qp rfl ?_ | refine WC rfl rfl rfl rfl ?_ | refine WO rfl rfl rfl rfl ?_ | refine Qf ?_ | refine Qa ?_ | refine Qg ?_ | refine Qj ?_ | refine Qi rfl ?_ | refine Qx rfl (by omega) ?_ | fail)
   refine ⟨i + 1, by omega, by omega, ?_⟩
   rw [hsu, hx, hy, hp]
   exact zal rfl
  ·have hsu : ((bwTo true true false x y (i + 1) : Nat) : Int) = (acc : Int) + (pw : Int) := by rw [hsu]; simp [bwB]
   (repeat' first | refine Qt rfl ?_ | refine Qv rfl ?_ | refine s_eql_as rfl rfl hbx ?_ | refine s_eql_as rfl rfl hby ?_ | refine ZV rfl rfl (by omega) ?_ | refine s_quo rfl rfl (by omega) (by omega) (by omega) ?_ | refine QG rfl rfl ?_ | refine QS rfl rfl (by omega) ?_ | refine Z2 rfl rfl (by omega) ?_ | refine WR rfl rfl ?_ | refine Wk rfl rfl ?_ | refine ZQ rfl ?_ | refine Qe ?_ | refine Qp rfl ?_ | refine WC rfl rfl rfl rfl ?_ | refine WO rfl rfl rfl rfl ?_ | refine Qf ?_ | refine Qa ?_ | refine Qg ?_ | refine Qj ?_ | refine Qs rfl ?_ | refine Qx rfl (by omega) ?_ | fail)
   refine ⟨i + 1, by omega, by omega, ?_⟩
   rw [hsu, hx, hy, hp]
   exact zal rfl
  ·have hsu : ((bwTo true true false x y (i + 1) : Nat) : Int) = (acc : Int) + (pw : Int) := by rw [hsu]; simp [bwB]
   (repeat' first | refine Qt rfl ?_ | refine Qv rfl ?_ | refine s_eql_as rfl rfl hbx ?_ | refine s_eql_as rfl rfl hby ?_ | refine ZV rfl rfl (by omega) ?_ | refine s_quo rfl rfl (by omega) (by omega) (by omega) ?_ | refine QG rfl rfl ?_ | refine QS rfl rfl (by omega) ?_ | refine Z2 rfl rfl (by omega) ?_ | refine WR rfl rfl ?_ | refine Wk rfl rfl ?_ | refine ZQ rfl ?_ | refine Qe ?_ | refine Qp rfl ?_ | refine WC rfl rfl rfl rfl ?_ | refine WO rfl rfl rfl rfl ?_ | refine o_gu rfl rfl rfl rfl rfl ?_ | refine Qf ?_ | refine Qa ?_ | refine Qg ?_ | refine Qj ?_ | refine Qs rfl ?_ | refine Qx rfl (by omega) ?_ | fail)
   refine ⟨i + 1, by omega, by omega, ?_⟩
   rw [hsu, hx, hy, hp]
   exact zal rfl
  ·have hsu : ((bwTo true true false x y (i + 1) : Nat) : Int) = (acc : Int) := by rw [hsu]; simp [bwB]
   (repeat' first | refine Qt rfl ?_ | refine Qv rfl ?_ | refine s_eql_as rfl rfl hbx ?_ | refine s_eql_as rfl rfl hby ?_ | refine ZV rfl rfl (by omega) ?_ | refine s_quo rfl rfl (by omega) (by omega) (by omega) ?_ | refine QG rfl rfl ?_ | refine QS rfl rfl (by omega) ?_ | refine Z2 rfl rfl (by omega) ?_ | refine WR rfl rfl ?_ | refine Wk rfl rfl ?_ | refine ZQ rfl ?_ | refine Qe ?_ | refine Qp rfl ?_ | refine WC rfl rfl rfl rfl ?_ | refine WO rfl rfl rfl rfl ?_ | refine Qf ?_ | refine Qa ?_ | refine Qg ?_ | refine Qj ?_ | refine Qi rfl ?_ | refine Qx rfl (by omega) ?_ | fail)
   refine ⟨i + 1, by omega, by omega, ?_⟩
   rw [hsu, hx, hy, hp]
   exact zal rfl
 ·have : i = 4 := by omega
  subst this
  have hlt : bwTo true true false x y 4 < 16 := hlt
  (repeat' first | refine Qt rfl ?_ | refine Qv rfl ?_ | refine QG rfl rfl ?_ | refine QZ rfl rfl (W8 _ (by omega)) ?_ | refine Qe ?_ | refine Qp rfl ?_ | refine Qf ?_ | refine Qa ?_ | refine Qi rfl ?_ | refine QU rfl ?_ | refine Qm ?_ | fail)
  refine e_1 Tryd.results92 (Qh rfl) (Qr ?_)
  rfl
end Go.Proofs
end
