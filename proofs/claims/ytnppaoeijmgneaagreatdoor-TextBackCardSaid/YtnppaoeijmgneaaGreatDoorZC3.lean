/-
  Part 3 of the proof: AvB2 R5 PX R7 R8 R6 RE R9 PZ RA VM V0 V1.
-/
import Derived.Test.YtnppaoeijmgneaaGreatDoorZC1
import Derived.Test.YtnppaoeijmgneaaGreatDoorZC2
set_option linter.unusedSimpArgs false
set_option linter.unusedVariables false
set_option maxRecDepth 10000
set_option maxHeartbeats 4000000
section
namespace Go.Av
open Classical
theorem spliceD_pre : ∀ (l ds rest : List DV), l.length = ds.length -> Zv (l ++ rest) 0 ds = some (ds ++ rest)
 | [], [], rest, _ => by
  cases rest <;> exact forceD_same _
 | x :: r, d :: ds, rest, h => by
  have ih := spliceD_pre r ds rest (by simpa using h)
  show (match Zv (r ++ rest) 0 ds with | some r' => some (d :: r') | none => none) = _
  rw [ih]; rfl
theorem spliceD_at : ∀ (l1 l2 : List DV) (d : DV) (ds : List DV), l2.length = (d :: ds).length -> Zv (l1 ++ l2) l1.length (d :: ds) = some (l1 ++ (d :: ds))
 | [], l2, d, ds, h => spliceD_all l2 (d :: ds) h
 | x :: r, l2, d, ds, h => by
  have ih := spliceD_at r l2 d ds h
  show (match Zv (r ++ l2) r.length (d :: ds) with | some r' => some (x :: r') | none => none) = _
  rw [ih]; rfl
theorem fill_two {zs : List Value} {cs ds : List DV} {n : Nat} (h1 : zs.length = n) (h2 : cs.length = n) (h3 : ds.length = n) (h0 : 0 < n) : fillD (fun i => some (i * n, n)) (WZ zs 2) [(0, .agg cs), (1, .agg ds)] = some (cs ++ ds) := by
 have hz : WZ zs 2 = WZ zs 1 ++ WZ zs 1 := by simp [WZ, List.replicate]
 have hz1 : (WZ zs 1).length = n := by rw [qw, h1]; omega
 cases cs with
 | nil => simp at h2; omega
 | cons e r =>
 cases ds with
 | nil => simp at h3; omega
 | cons e2 r2 =>
  have hb : Nat.beq (e :: r).length n = true := by rw [h2]; exact Nat.beq_refl n
  have hb2 : Nat.beq (e2 :: r2).length n = true := by rw [h3]; exact Nat.beq_refl n
  have s1 : Zv (WZ zs 1 ++ WZ zs 1) 0 (e :: r) = some ((e :: r) ++ WZ zs 1)  := spliceD_pre (WZ zs 1) (e :: r) (WZ zs 1) (by rw [hz1, h2])
  have s2 : Zv ((e :: r) ++ WZ zs 1) n (e2 :: r2) = some ((e :: r) ++ (e2 :: r2)) := by
   have := spliceD_at (e :: r) (WZ zs 1) e2 r2 (by rw [hz1, h3])
   rwa [h2] at this
  rw [hz]
  simp only [fillD, dcells, hb, hb2, Nat.zero_mul, Nat.one_mul, s1, s2]
  exact forceD_same _
theorem Zl {P : Program} {G : Nat -> DV} {B : Nat} {f : Operand -> DV} {σ : List ABlk} {K : DV -> List ABlk -> Prop} {dst : Option Tmp} {type : TypeId} {pos : String} {after : Array Edge} {gd : Option (Nat × Bool)} {α : Type} [Enc α] {y z : α} {t e : Nat} {g1 g2 : Bool} {z1 : Nat} {td : TypeDesc} {zs : List Value} {ps : List (Nat × Operand)} [ht : TyI P t (.slice e) g1 z1] [he : TyI P e td g2 (Enc.es α)] [hz : TyZ P e zs] (hzl : zs.length = Enc.es α) (hp : partsD f ps = some [(0, .agg (Enc.enc y)), (1, .agg (Enc.enc z))]) (hn : 2 * Enc.es α <= 16777216)
  (k : K (Q5 [y, z]) σ) : OpSem P G B ⟨dst, .buildSlice t 2 ps.toArray, type, pos, after, gd⟩ f σ K := by
 refine qC hzl hp hn (fill_two hzl (Enc.len y) (Enc.len z) Enc.pos) ?_
 have e1 : Q5 [y, z] = .sl (Enc.es α) (Enc.enc y ++ Enc.enc z) := by simp [Q5, Wq]
 rwa [<- e1]
end Go.Av
end
section
namespace Go.Proofs
open Go.Av
variable {G : Nat -> DV}
attribute [local irreducible] OpSem Zs ZH qa ACalls qP AClose RV
open Go.Bl
theorem idxS_c (l : List Str) (s : List UInt8) (hl : l.length <= 4611686018427387904) : Go.Av.Pure Tryz.prog G 221 [Q5 l, W1 s] (.i (findP (fun x : Str => decide (s = x.l)) l)) := fun B => by
 refine Qa Tryz.func221 rfl Tryz.ntmps221 rfl (t := [(0, Q5 l), (1, W1 s)]) rfl fun E hE => ?_
 (repeat' first | (refine Qi ?_; (first | refine QM rfl ?_ | refine QR rfl ?_ | refine Q2 rfl ?_)) | (refine Qn ?_; (first | refine Ql ?_ | refine QN rfl ?_)) | (refine Qm ?_; (first | refine Qo ?_ | refine Qb ?_ | refine Qe ?_)))
 refine qm (fun k : Nat => ⟨[(0, Q5 l), (1, W1 s), (7, .i l.length), (8, .i k)], []⟩) (fun k => k <= l.length /\ ∀ j (h : j < l.length), j < k -> decide (s = l[j].l) = false) (fun k => l.length - k) 0 ?_ ⟨by omega, fun j h hj => by omega⟩ ?_
 ·exact zal rfl
 intro k ⟨hk, hno⟩
 by_cases hkl : k < l.length
 ·by_cases hx : s = l[k].l
  ·have hd : decide (s = l[k].l) = true := decide_eq_true hx
   (repeat' first | (refine Qi ?_; (first | refine QM rfl ?_ | refine QR rfl ?_ | refine Wo rfl ?_ | refine Q1 rfl rfl (by first | assumption | omega | (simp; done) | (simp; omega)) ?_ | (refine Qj ?_; (first | refine Q9 rfl rfl ?_ | refine WH rfl rfl ?_)))) | (refine Qn ?_; (first | refine Ql ?_ | refine QN rfl ?_)) | (refine Qm ?_; (first | refine Qo ?_ | refine Qb ?_ | refine Qe ?_ | refine QB ?_ | refine Qh rfl (by omega) ?_ | refine Qx ?_)))
   refine e_1 Tryz.results221 (QH rfl) (Q8 ?_)
   rw [findP_some (p := fun x : Str => decide (s = x.l)) hkl hd hno]
  ·have hd : decide (s = l[k].l) = false := decide_eq_false hx
   (repeat' first | (refine Qi ?_; (first | refine QM rfl ?_ | refine QR rfl ?_ | refine Wo rfl ?_ | refine Q1 rfl rfl (by first | assumption | omega | (simp; done) | (simp; omega)) ?_ | (refine Qj ?_; (first | refine Zh rfl rfl (by omega) ?_ | refine Q9 rfl rfl ?_ | refine WH rfl rfl ?_)))) | (refine Qn ?_; (first | refine Ql ?_ | refine QN rfl ?_)) | (refine Qm ?_; (first | refine Qo ?_ | refine Qb ?_ | refine Qe ?_ | refine QB ?_ | refine Qh rfl (by omega) ?_ | refine Qg rfl (by omega) ?_)))
   refine ⟨k + 1, ⟨hkl, fun j hj hjk => ?_⟩, by omega, ?_⟩
   ·rcases Nat.lt_or_ge j k with h' | h'
    ·exact hno j hj h'
    ·have : j = k := by omega
     subst this; exact hd
   ·exact zal rfl
 ·have hk' : k = l.length := by omega
  (repeat' first | (refine Qi ?_; (first | refine QR rfl ?_ | refine Q9 rfl rfl ?_)) | (refine Qn ?_; (first | refine Ql ?_ | refine QN rfl ?_)) | (refine Qm ?_; (first | refine Qo ?_ | refine Qb ?_ | refine Qg rfl (by omega) ?_ | refine WS rfl ?_ | refine Qx ?_)))
  refine e_1 Tryz.results221 (QH rfl) (Q8 ?_)
  rw [findP_none (p := fun x : Str => decide (s = x.l)) fun j hj => hno j hj (by omega)]
theorem opIdx_eq (s : List UInt8) : findP (fun x : Str => decide (s = x.l)) (opTexts.map Str.mk) = qp s := by
 unfold findP qp
 rw [List.findIdx?_map]
 have : ((fun x : Str => decide (s = x.l)) ∘ Str.mk) = fun t => decide (t = s) := by
  funext t
  show decide (s = t) = decide (t = s)
  rw [Bool.eq_iff_iff]; simp [eq_comm]
 rw [this]
 try (cases List.findIdx? (fun t => decide (t = s)) opTexts <;> rfl)
theorem opIdx_ne {s : List UInt8} (h : 0 <= qp s) : s ≠ [] /\ qp s < 14 := by
 constructor
 ·rintro rfl; revert h; decide
 ·unfold qp at h ⊢
  cases hf : opTexts.findIdx? (fun t => decide (t = s)) with
  | none => rw [hf] at h; simp at h
  | some i =>
   obtain ⟨hi, _⟩ := List.findIdx?_eq_some_iff_getElem.1 hf
   have : opTexts.length = 14 := rfl
   simp only; omega
theorem binary_rc (hG1 : G 1 = spaceT) (L : ZC) (hL : OkL L) (E : Rd1) (r0 : Nat) (hE : ElC G 176 L E r0) (S : RS) (hr : rM L S <= r0) :
  CE Tryz.prog G 200 (fun p g => [.ptr p g 0]) (rdC L S) (.agg (Enc.enc (Z9 L E S).1)) (rdC L (Z9 L E S).2) /\ rM L (Z9 L E S).2 <= rM L S := by
 obtain ⟨hEa, hla⟩ := hE S hr
 have hops := ops_c (G := G) hG1
 unfold Z9
 generalize (E S).1 = a at *
 generalize (E S).2 = S1 at *
 have hnw := Z4 (G := G) L S1 hL
 have hix := idxS_c (G := G) (opTexts.map Str.mk) (Q6 L S1) (by decide)
 rw [opIdx_eq] at hix
 have hfl := fail_c (G := G) L S1
 have hne := opIdx_ne (s := Q6 L S1)
 by_cases ho : qp (Q6 L S1) < 0
 ·rw [if_pos ho]
  refine ⟨fun g B hg => ?_, by simp only; rw [qn]; omega⟩
  refine Qa Tryz.func200 rfl Tryz.ntmps200 rfl (t := [(0, .ptr 0 g 0)]) rfl fun E0 hE1 => ?_
  (repeat' first | (refine Qi ?_; (first | refine QM rfl ?_ | refine QR rfl ?_ | refine Q9 rfl rfl ?_ | (refine Qu ?_; (first | refine W5 rfl rfl (hops) ?_ | refine W5 rfl rfl (hix) ?_ | refine QT 0 (hEa) rfl rfl rfl rfl ?_ | refine QT 0 (hnw) rfl rfl rfl rfl ?_ | refine QT 0 (hfl) rfl rfl rfl rfl ?_)) | refine Ws rfl rfl rfl rfl ?_ | refine Qp rfl rfl ?_ | refine Qq (fun _ _ => ?_))) | (refine Qn ?_; (first | refine Ql ?_ | refine QN rfl ?_ | refine QJ ?_)) | (refine Qm ?_; (first | refine Qo ?_ | refine Qb ?_ | refine Qh rfl (by omega) ?_ | refine Qx ?_)))
  exact e_1 (Tryz.results200) (Qr (size := 4) rfl rfl rfl rfl) (Wk (es := 4) (.node rfl rfl rfl) (by show _ = DV.agg (Enc.enc (Nd.mk 0 0 0 [])); rw [QI]; rfl) rfl)
 ·rw [if_neg ho]
  obtain ⟨hn0, hn14⟩ := hne (by omega)
  obtain ⟨q1, q2, q3⟩ := now_at hn0
  have hrn := (WV (L := L) (S := S1) rfl hn0).1
  obtain ⟨hEb, hlb⟩ := hE (Qt S1) (by omega)
  generalize (E (Qt S1)).1 = b at *
  generalize (E (Qt S1)).2 = S2 at *
  have htk := take_c (G := G) L S2 hL [41] (by decide)
  have htl := rM_take (L := L) (S := S2) [41] (by decide)
  have hll := hL.1
  obtain ⟨p, bd⟩ := S1
  simp only at q1 q2
  subst q1
  have hat : (p : Int) + 1 = (p + 1 : Nat) := by omega
  generalize qp (Q6 L ⟨p, false⟩) = io at *
  refine ⟨fun g B hg => ?_, by first | omega | (simp only; omega)⟩
  refine Qa Tryz.func200 rfl Tryz.ntmps200 rfl (t := [(0, .ptr 0 g 0)]) rfl fun E0 hE1 => ?_
  (repeat' first | (refine Qi ?_; (first | refine QM rfl ?_ | refine QR rfl ?_ | (refine QO ?_; (first | refine W2 rfl rfl ?_ | refine Qc rfl rfl rfl ?_)) | (refine Qj ?_; (first | refine s_add_as (a := (p : Int)) (b := 1) rfl rfl hat ⟨by omega, by omega⟩ ?_ | refine Q9 rfl rfl ?_)) | (refine Qu ?_; (first | refine W5 rfl rfl (hops) ?_ | refine W5 rfl rfl (hix) ?_ | refine QT 0 (hEa) rfl rfl rfl rfl ?_ | refine QT 0 (hnw) rfl rfl rfl rfl ?_ | refine QT 0 (hEb) rfl rfl rfl rfl ?_ | refine QT 0 (htk) rfl rfl rfl rfl ?_)) | (refine QK ?_; (first | refine Ws rfl rfl rfl rfl ?_ | refine QD rfl rfl rfl rfl (by rfl) (by rfl) (by rfl) ?_)) | refine Zl (y := a) (z := b) rfl rfl (by decide) ?_ | refine Qd rfl rfl ?_ | refine Qp rfl rfl ?_ | refine Qf rfl rfl ?_ | refine Qq (fun _ _ => ?_))) | (refine Qn ?_; (first | refine Ql ?_ | refine QN rfl ?_ | refine QJ ?_)) | (refine Qm ?_; (first | refine Qo ?_ | refine Qb ?_ | refine QB ?_ | refine Qg rfl (by omega) ?_ | refine Qx ?_)))
  refine e_1 (Tryz.results200) (Qr (size := 4) rfl rfl rfl rfl) ?_
  rw [QI]
  exact ZI rfl rfl
end Go.Proofs
end
section
namespace Go.Proofs
open Go.Av Go.Bl
section
variable {α β : Type} {i : Nat} {c : Prop}
def JT (i : Nat) (T T' : RS -> RS) : Prop := ∀ S, S.p <= (T S).p /\ (S.bad = true -> (T S).bad = true) /\ ((T S).p <= i -> T' S = T S)
def J (i : Nat) (c : Prop) (F F' : RS -> α × RS) : Prop := ∀ S, S.p <= (F S).2.p /\ (S.bad = true -> (F S).2.bad = true) /\ ((F S).2.p <= i -> (F' S).2 = (F S).2 /\ (c -> (F S).2.bad = false -> (F' S).1 = (F S).1))
theorem J.pre {T T' : RS -> RS} {F F' : RS -> α × RS} (hT : JT i T T') (h : J i c F F') : J i c (fun S => F (T S)) (fun S => F' (T' S)) := fun S => by
 obtain ⟨a1, a2, a3⟩ := hT S
 obtain ⟨b1, b2, b3⟩ := h (T S)
 refine ⟨Nat.le_trans a1 b1, fun hb => b2 (a2 hb), fun hp => ?_⟩
 show (F' (T' S)).2 = (F (T S)).2 /\ (c -> (F (T S)).2.bad = false -> (F' (T' S)).1 = (F (T S)).1)
 rw [a3 (Nat.le_trans b1 hp)]
 exact b3 hp
theorem J.bind {F F' : RS -> α × RS} {K K' : α -> RS -> β × RS} (h : J i c F F') (hk : ∀ a a', J i (c /\ a' = a) (K a) (K' a')) : J i c (fun S => K (F S).1 (F S).2) (fun S => K' (F' S).1 (F' S).2) := fun S => by
 obtain ⟨a1, a2, a3⟩ := h S
 obtain ⟨b1, b2, b3⟩ := hk (F S).1 (F' S).1 (F S).2
 refine ⟨Nat.le_trans a1 b1, fun hb => b2 (a2 hb), fun hp => ?_⟩
 obtain ⟨e1, e2⟩ := a3 (Nat.le_trans b1 hp)
 obtain ⟨f1, f2⟩ := b3 hp
 show (K' (F' S).1 (F' S).2).2 = (K (F S).1 (F S).2).2 /\ (c -> (K (F S).1 (F S).2).2.bad = false -> (K' (F' S).1 (F' S).2).1 = (K (F S).1 (F S).2).1)
 rw [e1]
 refine ⟨f1, fun hc hb => f2 ⟨hc, e2 hc ?_⟩ hb⟩
 cases hbb : (F S).2.bad with
 | false => rfl
 | true => rw [b2 hbb] at hb; cases hb
theorem J.ite {P P' : RS -> Prop} [DecidablePred P] [DecidablePred P'] {F F' H H' : RS -> α × RS} (hP : ∀ S, S.p <= i -> (P' S ↔ P S)) (h1 : J i c F F') (h2 : J i c H H') : J i c (fun S => if P S then F S else H S) (fun S => if P' S then F' S else H' S) := fun S => by
 obtain ⟨a1, a2, a3⟩ := h1 S
 obtain ⟨b1, b2, b3⟩ := h2 S
 by_cases hp : P S
 ·simp only [if_pos hp]
  refine ⟨a1, a2, fun h => ?_⟩
  rw [if_pos ((hP S (Nat.le_trans a1 h)).2 hp)]
  exact a3 h
 ·simp only [if_neg hp]
  refine ⟨b1, b2, fun h => ?_⟩
  rw [if_neg fun h' => hp ((hP S (Nat.le_trans b1 h)).1 h')]
  exact b3 h
theorem J.val {T T' : RS -> RS} {a a' : α} (hT : JT i T T') (h : c -> a' = a) : J i c (fun S => (a, T S)) (fun S => (a', T' S)) := fun S => by
 obtain ⟨a1, a2, a3⟩ := hT S
 exact ⟨a1, a2, fun hp => ⟨a3 hp, fun hc _ => h hc⟩⟩
theorem JT.id : JT i (fun S => S) (fun S => S) := fun S => ⟨Nat.le_refl _, fun h => h, fun _ => rfl⟩
theorem J.fail {F F' : RS -> α × RS} (h : ∀ S, S.p <= (F S).2.p /\ (F S).2.bad = true /\ ((F S).2.p <= i -> (F' S).2 = (F S).2)) : J i c F F' := fun S => by
 obtain ⟨a1, a2, a3⟩ := h S
 exact ⟨a1, fun _ => a2, fun hp => ⟨a3 hp, fun _ hb => by rw [a2] at hb; cases hb⟩⟩
theorem J.post {T T' : RS -> RS} {F F' : RS -> α × RS} (hT : JT i T T') (h : J i c F F') : J i c (fun S => ((F S).1, T (F S).2)) (fun S => ((F' S).1, T' (F' S).2)) :=
 h.bind (K := fun a S => (a, T S)) (K' := fun a S => (a, T' S)) fun a a' => J.val hT fun hc => hc.2
theorem J.map {F F' : RS -> α × RS} {u u' : α -> β} (h : J i c F F') (hu : ∀ a, c -> u' a = u a) : J i c (fun S => (u (F S).1, (F S).2)) (fun S => (u' (F' S).1, (F' S).2)) :=
 h.bind (K := fun a S => (u a, S)) (K' := fun a S => (u' a, S)) fun a a' => J.val JT.id fun hc => by rw [hc.2]; exact hu a hc.1
theorem J.weak {c' : Prop} {F F' : RS -> α × RS} (h : J i c F F') (hc : c' -> c) : J i c' F F' := fun S => by
 obtain ⟨a1, a2, a3⟩ := h S
 exact ⟨a1, a2, fun hp => ⟨(a3 hp).1, fun h' => (a3 hp).2 (hc h')⟩⟩
end
structure Ag (L L' : ZC) (i : Nat) : Prop where
 tok : ∀ j, j <= i -> (L'.getD j ([], 0)).1 = (L.getD j ([], 0)).1
 len : ∀ j, j <= i -> (j < L'.length ↔ j < L.length)
theorem Ag.refl (L : ZC) (i : Nat) : Ag L L i := ⟨fun _ _ => rfl, fun _ _ => Iff.rfl⟩
section
variable {L L' : ZC} {i : Nat} {c : Prop} {z z' : Nd}
theorem Ag.now (h : Ag L L' i) {S : RS} (hp : S.p <= i) : Q6 L' S = Q6 L S := by unfold Q6; rw [h.tok _ hp]
theorem JT.next : JT i Qt Qt := fun S => ⟨Nat.le_succ _, fun h => h, fun _ => rfl⟩
theorem JT.fail : JT i W3 W3 := fun S => ⟨Nat.le_refl _, fun h => rfl, fun _ => rfl⟩
theorem JT.take (h : Ag L L' i) (s : List UInt8) : JT i (Q3 L s) (Q3 L' s) := fun S => by
 unfold Q3
 by_cases hn : Q6 L S = s
 ·simp only [if_pos hn]
  refine ⟨Nat.le_succ _, fun h => h, fun hp => ?_⟩
  rw [h.now (Nat.le_trans (Nat.le_succ _) hp), if_pos hn]
 ·simp only [if_neg hn]
  refine ⟨Nat.le_refl _, fun h => rfl, fun hp => ?_⟩
  rw [h.now (S := S) hp, if_neg hn]
theorem J.numeral (h : Ag L L' i) : J i c (QA L) (QA L') := by
 refine J.ite (P := fun S => qH (Q6 L S) = true) (P' := fun S => qH (Q6 L' S) = true) (F := fun S => (valM (Q6 L S), Qt S)) (F' := fun S => (valM (Q6 L' S), Qt S)) (H := fun S => (0, W3 S)) (H' := fun S => (0, W3 S)) (fun S hp => by rw [h.now hp]) (fun S => ?_) (J.val JT.fail fun _ => rfl)
 refine ⟨Nat.le_succ _, fun h => h, fun hp => ⟨rfl, fun _ _ => ?_⟩⟩
 show valM (Q6 L' S) = valM (Q6 L S)
 rw [h.now (Nat.le_trans (Nat.le_succ _) hp)]
theorem Ag.is (h : Ag L L' i) {S : RS} (hp : S.p <= i) (x : UInt8) : isM L' x S = isM L x S := by unfold isM; rw [h.now hp]
theorem J.numbered (h : Ag L L' i) (x : UInt8) : J i c (Qk L x) (Qk L' x) := by
 refine J.ite (P := fun S => isM L x S = true) (P' := fun S => isM L' x S = true) (F := fun S => (valM ((Q6 L S).drop 1), Qt S)) (F' := fun S => (valM ((Q6 L' S).drop 1), Qt S)) (H := fun S => (0, W3 S)) (H' := fun S => (0, W3 S)) (fun S hp => by rw [h.is hp]) (fun S => ?_) (J.val JT.fail fun _ => rfl)
 refine ⟨Nat.le_succ _, fun h => h, fun hp => ⟨rfl, fun _ _ => ?_⟩⟩
 show valM ((Q6 L' S).drop 1) = valM ((Q6 L S).drop 1)
 rw [h.now (Nat.le_trans (Nat.le_succ _) hp)]
theorem Ag.nowIff (h : Ag L L' i) (s : List UInt8) : ∀ S : RS, S.p <= i -> (Q6 L' S = s ↔ Q6 L S = s) := fun S hp => by rw [h.now hp]
theorem J.loop (h : Ag L L' i) {E E' : Rd1} (hE : ∀ c, J i c E E') : ∀ (k : Nat) (c : Prop) (o o' : List Nd), (c -> o' = o) -> J i c (Wf L E k o) (Wf L' E' k o')
 | 0, c, o, o', ho => J.val (a := o) (a' := o') JT.id ho
 | k + 1, c, o, o', ho => by
  refine J.ite (P := fun S => Q6 L S = [44]) (P' := fun S => Q6 L' S = [44]) (F := fun S => Wf L E k (o ++ [(E (Qt S)).1]) (E (Qt S)).2) (F' := fun S => Wf L' E' k (o' ++ [(E' (Qt S)).1]) (E' (Qt S)).2) (H := fun S => (o, S)) (H' := fun S => (o', S)) (h.nowIff _) ?_ (J.val JT.id ho)
  refine J.pre (F := fun S => Wf L E k (o ++ [(E S).1]) (E S).2) (F' := fun S => Wf L' E' k (o' ++ [(E' S).1]) (E' S).2) JT.next ?_
  exact (hE c).bind (K := fun a S => Wf L E k (o ++ [a]) S) (K' := fun a S => Wf L' E' k (o' ++ [a]) S) fun a a' => J.loop h hE k _ _ _ fun hc => by rw [ho hc.1, hc.2]
theorem J.lst (h : Ag L L' i) {E E' : Rd1} (hE : ∀ c, J i c E E') (k : Nat) : J i c (ZD L E k) (ZD L' E' k) :=
 (hE c).bind (K := fun a S => ((Wf L E k [a] S).1, Q3 L [41] (Wf L E k [a] S).2)) (K' := fun a S => ((Wf L' E' k [a] S).1, Q3 L' [41] (Wf L' E' k [a] S).2)) fun a a' => J.post (JT.take h _) (J.loop h hE k _ _ _ fun hc => by rw [hc.2])
theorem J.arg (h : Ag L L' i) {E E' : Rd1} (hE : ∀ c, J i c E E') (k : Nat) : J i c (WP L E k) (WP L' E' k) := by
 refine J.pre (F := fun S => if Q6 L S = [41] then ([], Qt S) else ZD L E k S) (F' := fun S => if Q6 L' S = [41] then ([], Qt S) else ZD L' E' k S) (JT.take h [40]) ?_
 exact J.ite (P := fun S => Q6 L S = [41]) (P' := fun S => Q6 L' S = [41]) (F := fun S => ([], Qt S)) (F' := fun S => ([], Qt S)) (h.nowIff _) (J.val JT.next fun _ => rfl) (J.lst h hE k)
theorem J.vtail (h : Ag L L' i) {E E' : Rd1} (hE : ∀ c, J i c E E') (a a' : Int) : J i (c /\ a' = a) (varTail L E a) (varTail L' E' a') := by
 refine J.ite (P := fun S => Q6 L S = [91]) (P' := fun S => Q6 L' S = [91]) (F := fun S => (Nd.mk 7 a 0 [(E (Qt S)).1], Q3 L [93] (E (Qt S)).2)) (F' := fun S => (Nd.mk 7 a' 0 [(E' (Qt S)).1], Q3 L' [93] (E' (Qt S)).2)) (h.nowIff _) ?_ ?_
 ·refine J.pre (F := fun S => (Nd.mk 7 a 0 [(E S).1], Q3 L [93] (E S).2)) (F' := fun S => (Nd.mk 7 a' 0 [(E' S).1], Q3 L' [93] (E' S).2)) JT.next ?_
  exact (hE _).bind (K := fun x S => (Nd.mk 7 a 0 [x], Q3 L [93] S)) (K' := fun x S => (Nd.mk 7 a' 0 [x], Q3 L' [93] S)) fun x x' => J.val (JT.take h _) fun hc => by rw [hc.2, hc.1.2]
 ·refine J.ite (P := fun S => Q6 L S = [46]) (P' := fun S => Q6 L' S = [46]) (F := fun S => (Nd.mk 8 a (QA L (Qt S)).1 [], (QA L (Qt S)).2)) (F' := fun S => (Nd.mk 8 a' (QA L' (Qt S)).1 [], (QA L' (Qt S)).2)) (H := fun S => (Nd.mk 6 a 0 [], S)) (H' := fun S => (Nd.mk 6 a' 0 [], S)) (h.nowIff _) ?_ (J.val JT.id fun hc => by rw [hc.2])
  refine J.pre (F := fun S => (Nd.mk 8 a (QA L S).1 [], (QA L S).2)) (F' := fun S => (Nd.mk 8 a' (QA L' S).1 [], (QA L' S).2)) JT.next ?_
  exact (J.numeral h).map (u := fun x => Nd.mk 8 a x []) (u' := fun x => Nd.mk 8 a' x []) fun x hc => by rw [hc.2]
theorem J.variable (h : Ag L L' i) {E E' : Rd1} (hE : ∀ c, J i c E E') : J i c (Wy L E) (Wy L' E') :=
 (J.numbered h 118).bind (K := fun a S => varTail L E a S) (K' := fun a S => varTail L' E' a S) fun a a' => J.vtail h hE a a'
theorem J.binary (h : Ag L L' i) {E E' : Rd1} (hE : ∀ c, J i c E E') : J i c (Z9 L E) (Z9 L' E') := by
 refine (hE c).bind (K := fun a S => if qp (Q6 L S) < 0 then (zNd, W3 S) else (Nd.mk 9 (qp (Q6 L S)) 0 [a, (E (Qt S)).1], Q3 L [41] (E (Qt S)).2)) (K' := fun a S => if qp (Q6 L' S) < 0 then (zNd, W3 S) else (Nd.mk 9 (qp (Q6 L' S)) 0 [a, (E' (Qt S)).1], Q3 L' [41] (E' (Qt S)).2)) fun a a' => ?_
 refine J.ite (P := fun S => qp (Q6 L S) < 0) (P' := fun S => qp (Q6 L' S) < 0) (F := fun S => (zNd, W3 S)) (F' := fun S => (zNd, W3 S)) (fun S hp => by rw [h.now hp]) (J.val JT.fail fun _ => rfl) fun S => ?_
 have hb : ∀ c x x', (c -> x' = x) -> J i c (fun S => (Nd.mk 9 x 0 [a, (E S).1], Q3 L [41] (E S).2)) (fun S => (Nd.mk 9 x' 0 [a', (E' S).1], Q3 L' [41] (E' S).2)) -> True := fun _ _ _ _ _ => trivial
 have key : ∀ x, J i (c /\ a' = a) (fun S => (Nd.mk 9 x 0 [a, (E S).1], Q3 L [41] (E S).2)) (fun S => (Nd.mk 9 x 0 [a', (E' S).1], Q3 L' [41] (E' S).2)) := fun x =>
  (hE _).bind (K := fun y S => (Nd.mk 9 x 0 [a, y], Q3 L [41] S)) (K' := fun y S => (Nd.mk 9 x 0 [a', y], Q3 L' [41] S)) fun y y' => J.val (JT.take h _) fun hc => by rw [hc.2, hc.1.2]
 obtain ⟨a1, a2, a3⟩ := key (qp (Q6 L S)) (Qt S)
 refine ⟨Nat.le_trans (Nat.le_succ _) a1, a2, fun hp => ?_⟩
 have := a3 hp
 show (Nd.mk 9 (qp (Q6 L' S)) 0 [a', (E' (Qt S)).1], Q3 L' [41] (E' (Qt S)).2).2 = _ /\ (_ -> _ -> (Nd.mk 9 (qp (Q6 L' S)) 0 [a', (E' (Qt S)).1], Q3 L' [41] (E' (Qt S)).2).1 = _)
 rw [h.now (Nat.le_trans (Nat.le_trans (Nat.le_succ _) a1) hp)]
 exact this
theorem J.node1 {E E' : Rd1} (k : Int) (hE : ∀ c, J i c E E') : J i c (fun S => (Nd.mk k 0 0 [(E S).1], (E S).2)) (fun S => (Nd.mk k 0 0 [(E' S).1], (E' S).2)) := (hE c).map (u := fun x => Nd.mk k 0 0 [x]) (u' := fun x => Nd.mk k 0 0 [x]) fun _ _ => rfl
theorem J.expr (h : Ag L L' i) : ∀ (n : Nat) (c : Prop), J i c (WB L z n) (WB L' z' n)
 | 0, c => J.val (a := zNd) (a' := zNd) JT.fail fun _ => rfl
 | n + 1, c => by
  have hE := J.expr h n
  refine J.ite (P := fun S => qH (Q6 L S) = true) (P' := fun S => qH (Q6 L' S) = true) (F := fun S => (Nd.mk 4 (QA L S).1 0 [], (QA L S).2)) (F' := fun S => (Nd.mk 4 (QA L' S).1 0 [], (QA L' S).2)) (fun S hp => by rw [h.now hp]) ((J.numeral h).map (u := fun x => Nd.mk 4 x 0 []) (u' := fun x => Nd.mk 4 x 0 []) fun _ _ => rfl) ?_
  refine J.ite (P := fun S => isM L 118 S = true) (P' := fun S => isM L' 118 S = true) (F := Wy L (WB L z n)) (F' := Wy L' (WB L' z' n)) (fun S hp => by rw [h.is hp]) (J.variable h hE) ?_
  refine J.ite (P := fun S => isM L 102 S = true) (P' := fun S => isM L' 102 S = true) (F := fun S => (Nd.mk 11 (Qk L 102 S).1 0 (WP L (WB L z n) n (Qk L 102 S).2).1, (WP L (WB L z n) n (Qk L 102 S).2).2)) (F' := fun S => (Nd.mk 11 (Qk L' 102 S).1 0 (WP L' (WB L' z' n) n (Qk L' 102 S).2).1, (WP L' (WB L' z' n) n (Qk L' 102 S).2).2)) (fun S hp => by rw [h.is hp]) ?_ ?_
  ·refine (J.numbered h 102).bind (K := fun a S => (Nd.mk 11 a 0 (WP L (WB L z n) n S).1, (WP L (WB L z n) n S).2)) (K' := fun a S => (Nd.mk 11 a 0 (WP L' (WB L' z' n) n S).1, (WP L' (WB L' z' n) n S).2)) fun a a' => ?_
   exact (J.arg h hE n).map (u := fun x => Nd.mk 11 a 0 x) (u' := fun x => Nd.mk 11 a' 0 x) fun x hc => by rw [hc.2]
  refine J.ite (P := fun S => Q6 L S = [45]) (P' := fun S => Q6 L' S = [45]) (F := fun S => if Q6 L (Qt S) = [48] then (z, W3 (Qt S)) else (Nd.mk 4 (-(QA L (Qt S)).1) 0 [], (QA L (Qt S)).2)) (F' := fun S => if Q6 L' (Qt S) = [48] then (z', W3 (Qt S)) else (Nd.mk 4 (-(QA L' (Qt S)).1) 0 [], (QA L' (Qt S)).2)) (h.nowIff _) ?_ ?_
  ·refine J.pre (F := fun S => if Q6 L S = [48] then (z, W3 S) else (Nd.mk 4 (-(QA L S).1) 0 [], (QA L S).2)) (F' := fun S => if Q6 L' S = [48] then (z', W3 S) else (Nd.mk 4 (-(QA L' S).1) 0 [], (QA L' S).2)) JT.next ?_
   refine J.ite (P := fun S => Q6 L S = [48]) (P' := fun S => Q6 L' S = [48]) (F := fun S => (z, W3 S)) (F' := fun S => (z', W3 S)) (h.nowIff _) (J.fail fun S => ⟨Nat.le_refl _, rfl, fun _ => rfl⟩) ?_
   exact (J.numeral h).map (u := fun x => Nd.mk 4 (-x) 0 []) (u' := fun x => Nd.mk 4 (-x) 0 []) fun _ _ => rfl
  refine J.ite (P := fun S => Q6 L S = wTrue) (P' := fun S => Q6 L' S = wTrue) (F := fun S => (Nd.mk 5 1 0 [], Qt S)) (F' := fun S => (Nd.mk 5 1 0 [], Qt S)) (h.nowIff _) (J.val JT.next fun _ => rfl) ?_
  refine J.ite (P := fun S => Q6 L S = wFalse) (P' := fun S => Q6 L' S = wFalse) (F := fun S => (Nd.mk 5 0 0 [], Qt S)) (F' := fun S => (Nd.mk 5 0 0 [], Qt S)) (h.nowIff _) (J.val JT.next fun _ => rfl) ?_
  refine J.ite (P := fun S => Q6 L S = [40]) (P' := fun S => Q6 L' S = [40]) (F := fun S => Z9 L (WB L z n) (Qt S)) (F' := fun S => Z9 L' (WB L' z' n) (Qt S)) (h.nowIff _) (J.pre JT.next (J.binary h hE)) ?_
  refine J.ite (P := fun S => Q6 L S = [33]) (P' := fun S => Q6 L' S = [33]) (F := fun S => (Nd.mk 10 0 0 [(WB L z n (Qt S)).1], (WB L z n (Qt S)).2)) (F' := fun S => (Nd.mk 10 0 0 [(WB L' z' n (Qt S)).1], (WB L' z' n (Qt S)).2)) (h.nowIff _) (J.pre (F := fun S => (Nd.mk 10 0 0 [(WB L z n S).1], (WB L z n S).2)) (F' := fun S => (Nd.mk 10 0 0 [(WB L' z' n S).1], (WB L' z' n S).2)) JT.next (J.node1 10 hE)) ?_
  refine J.ite (P := fun S => Q6 L S = wRecv) (P' := fun S => Q6 L' S = wRecv) (F := fun S => (Nd.mk 12 (Qk L 99 (Qt S)).1 0 [], (Qk L 99 (Qt S)).2)) (F' := fun S => (Nd.mk 12 (Qk L' 99 (Qt S)).1 0 [], (Qk L' 99 (Qt S)).2)) (H := fun S => (zNd, W3 S)) (H' := fun S => (zNd, W3 S)) (h.nowIff _) ?_ (J.val JT.fail fun _ => rfl)
  exact J.pre (F := fun S => (Nd.mk 12 (Qk L 99 S).1 0 [], (Qk L 99 S).2)) (F' := fun S => (Nd.mk 12 (Qk L' 99 S).1 0 [], (Qk L' 99 S).2)) JT.next ((J.numbered h 99).map (u := fun x => Nd.mk 12 x 0 []) (u' := fun x => Nd.mk 12 x 0 []) fun _ _ => rfl)
theorem J.typed (h : Ag L L' i) : ∀ (n : Nat) (c : Prop), J i c (WL L n) (WL L' n)
 | 0, c => J.val (a := zNd) (a' := zNd) JT.fail fun _ => rfl
 | n + 1, c => by
  have hE := J.typed h n
  refine J.ite (P := fun S => Q6 L S = wInt) (P' := fun S => Q6 L' S = wInt) (F := fun S => (Nd.mk 0 0 0 [], Qt S)) (F' := fun S => (Nd.mk 0 0 0 [], Qt S)) (h.nowIff _) (J.val JT.next fun _ => rfl) ?_
  refine J.ite (P := fun S => Q6 L S = wBool) (P' := fun S => Q6 L' S = wBool) (F := fun S => (Nd.mk 1 0 0 [], Qt S)) (F' := fun S => (Nd.mk 1 0 0 [], Qt S)) (h.nowIff _) (J.val JT.next fun _ => rfl) ?_
  refine J.ite (P := fun S => Q6 L S = wArr) (P' := fun S => Q6 L' S = wArr) (F := fun S => (Nd.mk 2 (QA L (Qt S)).1 0 [], (QA L (Qt S)).2)) (F' := fun S => (Nd.mk 2 (QA L' (Qt S)).1 0 [], (QA L' (Qt S)).2)) (h.nowIff _) ?_ ?_
  ·exact J.pre (F := fun S => (Nd.mk 2 (QA L S).1 0 [], (QA L S).2)) (F' := fun S => (Nd.mk 2 (QA L' S).1 0 [], (QA L' S).2)) JT.next ((J.numeral h).map (u := fun x => Nd.mk 2 x 0 []) (u' := fun x => Nd.mk 2 x 0 []) fun _ _ => rfl)
  refine J.ite (P := fun S => Q6 L S = wRec) (P' := fun S => Q6 L' S = wRec) (F := fun S => (Nd.mk 3 0 0 (ZD L (WL L n) n (Q3 L [40] (Qt S))).1, (ZD L (WL L n) n (Q3 L [40] (Qt S))).2)) (F' := fun S => (Nd.mk 3 0 0 (ZD L' (WL L' n) n (Q3 L' [40] (Qt S))).1, (ZD L' (WL L' n) n (Q3 L' [40] (Qt S))).2)) (H := fun S => (zNd, W3 S)) (H' := fun S => (zNd, W3 S)) (h.nowIff _) ?_ (J.val JT.fail fun _ => rfl)
  refine J.pre (F := fun S => (Nd.mk 3 0 0 (ZD L (WL L n) n (Q3 L [40] S)).1, (ZD L (WL L n) n (Q3 L [40] S)).2)) (F' := fun S => (Nd.mk 3 0 0 (ZD L' (WL L' n) n (Q3 L' [40] S)).1, (ZD L' (WL L' n) n (Q3 L' [40] S)).2)) JT.next ?_
  refine J.pre (F := fun S => (Nd.mk 3 0 0 (ZD L (WL L n) n S).1, (ZD L (WL L n) n S).2)) (F' := fun S => (Nd.mk 3 0 0 (ZD L' (WL L' n) n S).1, (ZD L' (WL L' n) n S).2)) (JT.take h [40]) ?_
  exact (J.lst h hE n).map (u := fun x => Nd.mk 3 0 0 x) (u' := fun x => Nd.mk 3 0 0 x) fun _ _ => rfl
theorem J.bloop (h : Ag L L' i) {E E' : Rd1} (hE : ∀ c, J i c E E') : ∀ (k : Nat) (c : Prop) (o o' : List Nd), (c -> o' = o) -> J i c (Wv L E k o) (Wv L' E' k o')
 | 0, c, o, o', ho => J.val (a := o) (a' := o') JT.id ho
 | k + 1, c, o, o', ho => by
  refine J.ite (P := fun S => S.bad = true) (P' := fun S => S.bad = true) (F := fun S => (o, S)) (F' := fun S => (o', S)) (fun _ _ => Iff.rfl) (J.val JT.id ho) ?_
  refine J.ite (P := fun S => Q6 L S = [125]) (P' := fun S => Q6 L' S = [125]) (F := fun S => (o, Qt S)) (F' := fun S => (o', Qt S)) (h.nowIff _) (J.val JT.next ho) ?_
  exact (hE c).bind (K := fun a S => Wv L E k (o ++ [a]) S) (K' := fun a S => Wv L' E' k (o' ++ [a]) S) fun a a' => J.bloop h hE k _ _ _ fun hc => by rw [ho hc.1, hc.2]
theorem J.block (h : Ag L L' i) {E E' : Rd1} (hE : ∀ c, J i c E E') (k : Nat) (c : Prop) : J i c (Wl L E k) (Wl L' E' k) := by
 refine J.pre (F := fun S => (Nd.mk 13 0 0 (Wv L E k [] S).1, (Wv L E k [] S).2)) (F' := fun S => (Nd.mk 13 0 0 (Wv L' E' k [] S).1, (Wv L' E' k [] S).2)) (JT.take h [123]) ?_
 exact (J.bloop h hE k c [] [] fun _ => rfl).map (u := fun x => Nd.mk 13 0 0 x) (u' := fun x => Nd.mk 13 0 0 x) fun _ _ => rfl
theorem J.atail (h : Ag L L' i) {E E' : Rd1} (hE : ∀ c, J i c E E') (a a' : Nd) : J i (c /\ a' = a) (fun S => (setM a (E (Q3 L [61] S)).1, (E (Q3 L [61] S)).2)) (fun S => (setM a' (E' (Q3 L' [61] S)).1, (E' (Q3 L' [61] S)).2)) := by
 refine J.pre (F := fun S => (setM a (E S).1, (E S).2)) (F' := fun S => (setM a' (E' S).1, (E' S).2)) (JT.take h [61]) ?_
 exact (hE _).map (u := fun x => setM a x) (u' := fun x => setM a' x) fun x hc => by rw [hc.2]
theorem J.assign (h : Ag L L' i) {E E' : Rd1} (hE : ∀ c, J i c E E') : J i c (qu L E) (qu L' E') :=
 (J.variable h hE).bind (K := fun a S => (setM a (E (Q3 L [61] S)).1, (E (Q3 L [61] S)).2)) (K' := fun a S => (setM a (E' (Q3 L' [61] S)).1, (E' (Q3 L' [61] S)).2)) fun a a' => J.atail h hE a a'
theorem J.one {E E' : Rd1} (hE : ∀ c, J i c E E') (k n n' : Int) (hn : c -> n' = n) : J i c (oneM E k n) (oneM E' k n') :=
 (hE c).map (u := fun x => Nd.mk k n 0 [x]) (u' := fun x => Nd.mk k n' 0 [x]) fun x hc => by rw [hn hc]
theorem J.iff (h : Ag L L' i) {E E' B B' : Rd1} (hE : ∀ c, J i c E E') (hB : ∀ c, J i c B B') : J i c (ifM L E B) (ifM L' E' B') := by
 refine (hE c).bind (K := fun x S => (Nd.mk 17 0 0 [x, (B S).1, (B (Q3 L wElse (B S).2)).1], (B (Q3 L wElse (B S).2)).2)) (K' := fun x S => (Nd.mk 17 0 0 [x, (B' S).1, (B' (Q3 L' wElse (B' S).2)).1], (B' (Q3 L' wElse (B' S).2)).2)) fun x x' => ?_
 refine (hB _).bind (K := fun y S => (Nd.mk 17 0 0 [x, y, (B (Q3 L wElse S)).1], (B (Q3 L wElse S)).2)) (K' := fun y S => (Nd.mk 17 0 0 [x', y, (B' (Q3 L' wElse S)).1], (B' (Q3 L' wElse S)).2)) fun y y' => ?_
 refine J.pre (F := fun S => (Nd.mk 17 0 0 [x, y, (B S).1], (B S).2)) (F' := fun S => (Nd.mk 17 0 0 [x', y', (B' S).1], (B' S).2)) (JT.take h wElse) ?_
 exact (hB _).map (u := fun w => Nd.mk 17 0 0 [x, y, w]) (u' := fun w => Nd.mk 17 0 0 [x', y', w]) fun w hc => by rw [hc.2, hc.1.2]
theorem J.whil {E E' B B' : Rd1} (hE : ∀ c, J i c E E') (hB : ∀ c, J i c B B') : J i c (whileM E B) (whileM E' B') := by
 refine (hE c).bind (K := fun x S => (Nd.mk 18 0 0 [x, (B S).1], (B S).2)) (K' := fun x S => (Nd.mk 18 0 0 [x, (B' S).1], (B' S).2)) fun x x' => ?_
 exact (hB _).map (u := fun w => Nd.mk 18 0 0 [x, w]) (u' := fun w => Nd.mk 18 0 0 [x', w]) fun w hc => by rw [hc.2]
theorem J.tri (h : Ag L L' i) {B B' : Rd1} (hB : ∀ c, J i c B B') : J i c (tryM L B) (tryM L' B') := by
 refine (hB c).bind (K := fun x S => (Nd.mk 21 (Qk L 118 (Q3 L qj S)).1 0 [x, (B (Qk L 118 (Q3 L qj S)).2).1], (B (Qk L 118 (Q3 L qj S)).2).2)) (K' := fun x S => (Nd.mk 21 (Qk L' 118 (Q3 L' qj S)).1 0 [x, (B' (Qk L' 118 (Q3 L' qj S)).2).1], (B' (Qk L' 118 (Q3 L' qj S)).2).2)) fun x x' => ?_
 refine J.pre (F := fun S => (Nd.mk 21 (Qk L 118 S).1 0 [x, (B (Qk L 118 S).2).1], (B (Qk L 118 S).2).2)) (F' := fun S => (Nd.mk 21 (Qk L' 118 S).1 0 [x', (B' (Qk L' 118 S).2).1], (B' (Qk L' 118 S).2).2)) (JT.take h qj) ?_
 refine (J.numbered h 118).bind (K := fun v S => (Nd.mk 21 v 0 [x, (B S).1], (B S).2)) (K' := fun v S => (Nd.mk 21 v 0 [x', (B' S).1], (B' S).2)) fun v v' => ?_
 exact (hB _).map (u := fun w => Nd.mk 21 v 0 [x, w]) (u' := fun w => Nd.mk 21 v' 0 [x', w]) fun w hc => by rw [hc.2, hc.1.2]
theorem J.stmt (h : Ag L L' i) {E E' : Rd1} (hE : ∀ c, J i c E E') (q : Nat) : ∀ (n : Nat) (c : Prop), J i c (WF L E q n) (WF L' E' q n)
 | 0, c => J.val (a := zNd) (a' := zNd) JT.fail fun _ => rfl
 | n + 1, c => by
  have hB : ∀ c, J i c (Wl L (WF L E q n) n) (Wl L' (WF L' E' q n) n) := fun c => J.block h (J.stmt h hE q n) n c
  refine J.ite (P := fun S => Q6 L S = [123]) (P' := fun S => Q6 L' S = [123]) (F := Wl L (WF L E q n) n) (F' := Wl L' (WF L' E' q n) n) (h.nowIff _) (hB c) ?_
  refine J.ite (P := fun S => isM L 118 S = true) (P' := fun S => isM L' 118 S = true) (F := qu L E) (F' := qu L' E') (fun S hp => by rw [h.is hp]) (J.assign h hE) ?_
  refine J.ite (P := fun S => Q6 L S = wIf) (P' := fun S => Q6 L' S = wIf) (F := fun S => ifM L E (Wl L (WF L E q n) n) (Qt S)) (F' := fun S => ifM L' E' (Wl L' (WF L' E' q n) n) (Qt S)) (h.nowIff _) (J.pre JT.next (J.iff h hE hB)) ?_
  refine J.ite (P := fun S => Q6 L S = wWhile) (P' := fun S => Q6 L' S = wWhile) (F := fun S => whileM E (Wl L (WF L E q n) n) (Qt S)) (F' := fun S => whileM E' (Wl L' (WF L' E' q n) n) (Qt S)) (h.nowIff _) (J.pre JT.next (J.whil hE hB)) ?_
  refine J.ite (P := fun S => Q6 L S = wReturn) (P' := fun S => Q6 L' S = wReturn) (F := fun S => oneM E 19 0 (Qt S)) (F' := fun S => oneM E' 19 0 (Qt S)) (h.nowIff _) (J.pre JT.next (J.one hE 19 0 0 fun _ => rfl)) ?_
  refine J.ite (P := fun S => Q6 L S = wThrow) (P' := fun S => Q6 L' S = wThrow) (F := fun S => oneM E 20 0 (Qt S)) (F' := fun S => oneM E' 20 0 (Qt S)) (h.nowIff _) (J.pre JT.next (J.one hE 20 0 0 fun _ => rfl)) ?_
  refine J.ite (P := fun S => Q6 L S = wOut) (P' := fun S => Q6 L' S = wOut) (F := fun S => oneM E 24 0 (Qt S)) (F' := fun S => oneM E' 24 0 (Qt S)) (h.nowIff _) (J.pre JT.next (J.one hE 24 0 0 fun _ => rfl)) ?_
  refine J.ite (P := fun S => Q6 L S = wSkip) (P' := fun S => Q6 L' S = wSkip) (F := fun S => (Nd.mk 25 0 0 [], Qt S)) (F' := fun S => (Nd.mk 25 0 0 [], Qt S)) (h.nowIff _) (J.val JT.next fun _ => rfl) ?_
  refine J.ite (P := fun S => Q6 L S = wTry) (P' := fun S => Q6 L' S = wTry) (F := fun S => tryM L (Wl L (WF L E q n) n) (Qt S)) (F' := fun S => tryM L' (Wl L' (WF L' E' q n) n) (Qt S)) (h.nowIff _) (J.pre JT.next (J.tri h hB)) ?_
  refine J.ite (P := fun S => Q6 L S = wSend) (P' := fun S => Q6 L' S = wSend) (F := fun S => oneM E 22 (Qk L 99 (Qt S)).1 (Qk L 99 (Qt S)).2) (F' := fun S => oneM E' 22 (Qk L' 99 (Qt S)).1 (Qk L' 99 (Qt S)).2) (h.nowIff _) ?_ ?_
  ·exact J.pre (F := fun S => oneM E 22 (Qk L 99 S).1 (Qk L 99 S).2) (F' := fun S => oneM E' 22 (Qk L' 99 S).1 (Qk L' 99 S).2) JT.next ((J.numbered h 99).bind (K := fun a S => oneM E 22 a S) (K' := fun a S => oneM E' 22 a S) fun a a' => J.one hE 22 a a' fun hc => hc.2)
  refine J.ite (P := fun S => Q6 L S = wSpawn) (P' := fun S => Q6 L' S = wSpawn) (F := fun S => (Nd.mk 23 (Qk L 102 (Qt S)).1 0 (WP L E q (Qk L 102 (Qt S)).2).1, (WP L E q (Qk L 102 (Qt S)).2).2)) (F' := fun S => (Nd.mk 23 (Qk L' 102 (Qt S)).1 0 (WP L' E' q (Qk L' 102 (Qt S)).2).1, (WP L' E' q (Qk L' 102 (Qt S)).2).2)) (H := fun S => (zNd, W3 S)) (H' := fun S => (zNd, W3 S)) (h.nowIff _) ?_ (J.val JT.fail fun _ => rfl)
  refine J.pre (F := fun S => (Nd.mk 23 (Qk L 102 S).1 0 (WP L E q (Qk L 102 S).2).1, (WP L E q (Qk L 102 S).2).2)) (F' := fun S => (Nd.mk 23 (Qk L' 102 S).1 0 (WP L' E' q (Qk L' 102 S).2).1, (WP L' E' q (Qk L' 102 S).2).2)) JT.next ?_
  refine (J.numbered h 102).bind (K := fun a S => (Nd.mk 23 a 0 (WP L E q S).1, (WP L E q S).2)) (K' := fun a S => (Nd.mk 23 a 0 (WP L' E' q S).1, (WP L' E' q S).2)) fun a a' => ?_
  exact (J.arg h hE q).map (u := fun x => Nd.mk 23 a 0 x) (u' := fun x => Nd.mk 23 a' 0 x) fun x hc => by rw [hc.2]
end
end Go.Proofs
end
section
namespace Go.Proofs
open Go.Av
variable {G : Nat -> DV}
attribute [local irreducible] OpSem Zs ZH qa ACalls qP AClose RV
open Go.Bl
abbrev Lp3 {α β γ : Type} (I : α -> β -> γ -> ASt) (pre : α -> β -> γ -> Prop) (μ : α -> β -> γ -> Nat) (x : α) (y : β) (z : γ) (st' : ASt) : Prop := ∃ x' y' z', pre x' y' z' /\ μ x' y' z' < μ x y z /\ ALe st' (I x' y' z')
theorem r_loop3n {P : Program} {G : Nat -> DV} {E : AX} {n : Nat} {N : ASt -> Prop} {xs : List (Nat × (ASt -> Prop))} {R : ASt -> Prop} {st : ASt} {c : Code} {α β γ : Type} (I : α -> β -> γ -> ASt) (pre : α -> β -> γ -> Prop) (μ : α -> β -> γ -> Nat) (x0 : α) (y0 : β) (z0 : γ) (h0 : ALe st (I x0 y0 z0)) (hp0 : pre x0 y0 z0)
  (round : ∀ x y z, pre x y z -> Zs P G E n c (Lp3 I pre μ x y z) xs R (I x y z)) : Zs P G E n (.loop c) N xs R st := r_loop3 I pre μ x0 y0 z0 h0 hp0 round
def mM (L : ZC) (S : RS) : Nat := if S.bad = true then 0 else L.length - S.p + 1
theorem rm_mM (L : ZC) (S : RS) : rM L S <= mM L S /\ mM L S <= rM L S + 1 := by
 unfold rM mM; split <;> omega
def Eats (L : ZC) (T : Rd1) : Prop := ∀ S, S.bad = false -> mM L (T S).2 < mM L S
theorem mm_next {L : ZC} {S : RS} {s : List UInt8} (h : Q6 L S = s) (hs : s ≠ []) : mM L (Qt S) < mM L S := by
 obtain ⟨h1, h2, h3⟩ := now_at (L := L) (S := S) (by rw [h]; exact hs)
 unfold mM Qt
 rw [h1]
 simp; omega
theorem mm_fail {L : ZC} {S : RS} (h : S.bad = false) : mM L (W3 S) < mM L S := by
 unfold mM W3; rw [h]; simp
theorem mm_take {L : ZC} {S : RS} (s : List UInt8) (hs : s ≠ []) : mM L (Q3 L s S) <= rM L S /\ rM L (Q3 L s S) <= rM L S - 1 := by
 unfold Q3
 split
 ·rename_i h
  obtain ⟨h1, h2, h3⟩ := now_at (L := L) (S := S) (by rw [h]; exact hs)
  unfold mM rM Qt
  rw [h1]
  simp; omega
 ·unfold mM rM W3; simp
theorem bad_neg {S : RS} (h : S.bad = false) : badI S < 0 := by unfold badI; rw [h]; simp
theorem bad_pos {S : RS} (h : S.bad = true) : 0 <= badI S := by unfold badI; rw [if_pos h]; omega
theorem bloop_bad {L : ZC} {T : Rd1} {o : List Nd} {S : RS} (h : S.bad = true) : ∀ k, Wv L T k o S = (o, S)
 | 0 => rfl
 | k + 1 => by rw [Wv, if_pos h]
theorem block_rc (L : ZC) (hL : OkL L) (T : Rd1) (r0 k : Nat) (hT : ElC G 152 L T r0) (he : Eats L T) (S : RS) (hr : rM L S <= r0 + 1) (hk : rM L S + 1 <= k) :
  CE Tryz.prog G 111 (fun p g => [.ptr p g 0]) (rdC L S) (.agg (Enc.enc (Wl L T k S).1)) (rdC L (Wl L T k S).2) := fun g B hg => by
 have htk := take_c (G := G) L S hL [123] (by decide)
 have hle := mm_take (L := L) (S := S) [123] (by decide)
 have hle0 : rM L (Q3 L [123] S) <= r0 := by omega
 unfold Wl
 generalize Q3 L [123] S = S1 at *
 have hr1000 : rM L S <= 1000000 := by unfold rM; split <;> have := hL.1 <;> omega
 refine Qa Tryz.func111 rfl Tryz.ntmps111 rfl (t := [(0, .ptr 0 g 0)]) rfl fun E0 hE1 => ?_
 (repeat' first | (refine Qi ?_; (first | refine QM rfl ?_ | refine QT 0 (htk) rfl rfl rfl rfl ?_ | refine Ws rfl rfl rfl rfl ?_ | refine Qp rfl rfl ?_ | refine Qq (fun _ _ => ?_))) | (refine Qn ?_; (first | refine Ql ?_ | refine QN rfl ?_ | refine QJ ?_)) | (refine Qm ?_; (first | refine Qo ?_ | refine Qb ?_ | refine Qe ?_)))
 rename_i g2 hg2 gn hgn
 refine r_ownin 2 3 4 rfl rfl (fun _ => rfl) (fun gk hgk => ?_)
 refine r_loop3n (fun (o : List Nd) (Q : RS) (gg : Nat) => ⟨[(0, .ptr 0 g 0), (2, .ptr 1 g2 0), (3, .ptr 2 gn 0)], [.row g (rdC L Q), .row g2 [.i 0, .i 0, .i 0, .nil], .row gn [.i 13, .i 0, .i 0, .ref 3 gg 0 o.length 4], .row gg (Wq o)]⟩) (fun o Q gg => E0.N < gg /\ rM L Q <= r0 /\ o.length + mM L Q <= rM L S + 1 /\ ∃ k', Wv L T k [] S1 = Wv L T k' o Q /\ mM L Q + 1 <= k') (fun o Q gg => mM L Q) [] S1 gk ?_ ⟨hgk, hle0, by have := rm_mM L S1; simp; omega, k, rfl, by have := rm_mM L S1; omega⟩ ?_
 ·exact zal rfl
 intro o Q gg ⟨hgg, hq1, hq2, k', hk1, hk2⟩
 have hol : o.length <= 2000000 := by omega
 rw [hk1]
 cases hb : Q.bad with
 | true =>
  have hbi := bad_pos hb
  rw [bloop_bad hb]
  (repeat' first | (refine Qi ?_; (first | refine QM rfl ?_ | (refine QO ?_; (first | refine W2 rfl rfl ?_ | refine Qc rfl rfl rfl ?_)) | refine Q9 rfl rfl ?_ | refine WK rfl rfl ?_ | refine Ws rfl rfl rfl rfl ?_ | refine Qd rfl rfl ?_ | refine Qf rfl rfl ?_)) | (refine Qn ?_; (first | refine Ql ?_ | refine QN rfl ?_ | refine QJ ?_ | refine Zd rfl rfl rfl rfl ?_ | refine QZ rfl rfl (by omega) ?_)) | (refine Qm ?_; (first | refine Qo ?_ | refine Qb ?_ | refine Qy rfl ?_ | refine WS rfl ?_ | refine Qx ?_)))
  exact e_1 (Tryz.results111) (Qr (size := 4) rfl rfl rfl rfl) (Zj (D := fun d => .agg [.i 13, .i 0, .i 0, d]) (k := 2) (.node rfl rfl rfl) rfl (by rw [We]; rfl) (by rw [QI]; rfl) rfl)
 | false =>
  have hbi := bad_neg hb
  match k', hk1, hk2 with
  | k2 + 1, hk1, hk2 =>
  by_cases hc : Q6 L Q = [125]
  ·have hv1 := ZU (G := G) L Q hL [125] (by decide) hc
   have hend : Wv L T (k2 + 1) o Q = (o, Qt Q) := by rw [Wv, if_neg (by rw [hb]; decide), if_pos hc]
   rw [hend]
   (repeat' first | (refine Qi ?_; (first | refine QM rfl ?_ | (refine QO ?_; (first | refine W2 rfl rfl ?_ | refine Qc rfl rfl rfl ?_)) | refine Q9 rfl rfl ?_ | refine QT 0 (hv1) rfl rfl rfl rfl ?_ | refine W6 rfl rfl ?_ | refine Ws rfl rfl rfl rfl ?_ | refine Zq rfl ?_ | refine Qd rfl rfl ?_ | refine Qf rfl rfl ?_)) | (refine Qn ?_; (first | refine Ql ?_ | refine QN rfl ?_ | refine QJ ?_ | refine WJ rfl rfl rfl rfl ?_ | refine Wg rfl rfl (by omega) ?_)) | (refine Qm ?_; (first | refine Qo ?_ | refine Qb ?_ | refine Qy rfl ?_ | refine WS rfl ?_ | refine Qx ?_)))
   exact e_1 (Tryz.results111) (Qr (size := 4) rfl rfl rfl rfl) (Zj (D := fun d => .agg [.i 13, .i 0, .i 0, d]) (k := 2) (.node rfl rfl rfl) rfl (by rw [We]; rfl) (by rw [QI]; rfl) rfl)
  ·have hv1 := ZW (G := G) L Q hL [125] (by decide) hc
   have hrec : Wv L T (k2 + 1) o Q = Wv L T k2 (o ++ [(T Q).1]) (T Q).2 := by rw [Wv, if_neg (by rw [hb]; decide), if_neg hc]
   have hlt := he Q hb
   obtain ⟨hT2, hrT⟩ := hT Q hq1
   generalize hx2 : (T Q).1 = x2 at *
   generalize hS2 : (T Q).2 = S2 at *
   (repeat' first | (refine Qi ?_; (first | refine QM rfl ?_ | refine Qc rfl rfl rfl ?_ | refine Q9 rfl rfl ?_ | (refine Qu ?_; (first | refine ZG (z := x2) rfl rfl rfl rfl rfl rfl rfl (by first | omega | (simp; omega)) (by first | omega | (simp; omega)) (fun _ => rfl) (fun _ _ => ?_) | refine QT 0 (hv1) rfl rfl rfl rfl ?_ | refine QT 0 (hT2) rfl rfl rfl rfl ?_)) | refine W6 rfl rfl ?_ | refine QD rfl rfl rfl rfl (by rfl) (by rfl) (by rfl) ?_ | refine Zq rfl ?_ | refine Qd rfl rfl ?_ | refine Qf rfl rfl ?_)) | (refine Qn ?_; (first | refine Ql ?_ | refine QN rfl ?_ | refine WJ rfl rfl rfl rfl ?_ | refine Wg rfl rfl (by omega) ?_)) | (refine Qm ?_; (first | refine Qo ?_ | refine Qb ?_ | refine Qe ?_ | (refine WO ?_; first | (refine Qz (fun p => p.1 :: .row g2 [.i 0, .i 0, .i 0, .nil] :: .row gn [.i 13, .i 0, .i 0, .ref 3 gg 0 o.length 4] :: p.2) 7 [(0, true), (1, true), (2, true), (3, false), (4, true), (5, false), (6, true), (7, false)] (by rfl) (by rfl) (by kernel_rfl) (by decide +kernel) (by decide +kernel) ⟨(_, _), rfl⟩ ?_) | refine Wn (by rfl) (by kernel_rfl) (by kernel_rfl) ?_ | refine Wm (by kernel_rfl) (by kernel_rfl) ?_) | refine QB ?_ | refine Qv rfl ?_)) | (refine W9 ?_; (first | refine ZO ?_ | refine i_z0 ?_ | refine i_st rfl rfl (fun _ => (by (repeat' first | (refine Qi ?_; (first | refine QM rfl ?_ | refine Qc rfl rfl rfl ?_ | refine Q0 (z := x2) rfl rfl (by decide) ?_ | refine Qd rfl rfl ?_)) | exact ⟨rfl, rfl⟩))) ?_ | refine i_ef rfl ?_)) | refine And.intro (Exists.intro ((_, _)) rfl) ?_)
   refine ⟨o ++ [x2], S2, _, ⟨by assumption, by omega, by simp; omega, k2, hrec, by omega⟩, by omega, ?_⟩
   exact zal rfl
section
variable {P : Program} {G : Nat -> DV} {B : Nat} {f : Operand -> DV} {σ : List ABlk} {K : DV -> List ABlk -> Prop} {dst : Option Tmp} {type : TypeId} {pos : String} {after : Array Edge} {gd : Option (Nat × Bool)} {E : AX}
theorem s_callv_og {x : Operand} {args : Array Operand} {ts : Array TypeId} {fid : FuncId} {first cap es : List DV} {d0 : Nat -> DV} {σ1 : Nat -> List ABlk} [FnOk P fid] (hx : f x = .fn (.func fid) first cap) (hds : reL (first ++ args.toList.map f ++ cap) = some es) (h : ACalls P G B fid es σ (fun d τ => ∃ g', B < g' /\ d = d0 g' /\ τ = σ1 g')) (kk : ∀ g', B < g' -> K (d0 g') (σ1 g')) :
  OpSem P G B ⟨dst, .call ⟨.value x, args, ts⟩, type, pos, after, gd⟩ f σ K := s_callv hx hds (h.mono fun _ _ ⟨g', hg, e1, e2⟩ => by rw [e1, e2]; exact kk g' hg)
theorem c_co3 {D D2 : DV -> DV} {B k gk len len2 es es2 : Nat} {ks k2 : List DV} {b0 b1 b2 : ABlk} {r : List ABlk} (hD : FrmD D) (hB : B <= E.N) (hk1 : 3 <= k) (hk : (b0 :: b1 :: b2 :: r)[k]? = some (.row gk k2)) (hDD : D2 = D) (hl : len2 = len) (he : es2 = es) (hks : k2 = ks) :
  AClose E (fun d' τ' => ∃ g', B < g' /\ d' = D (.ref 3 g' 0 len es) /\ τ' = [b0, b1, b2, .row g' ks]) (D2 (.ref k gk 0 len2 es2)) (b0 :: b1 :: b2 :: r) := by
 subst hDD hl he hks
 refine (hD.close (c_own (m := 3) (R := fun d' τ' => ∃ g', B < g' /\ d' = .ref 3 g' 0 len2 es2 /\ τ' = [b0, b1, b2, .row g' k2]) hk1 hk fun g' hg' => ⟨g', by omega, rfl, rfl⟩) ?_).mono ?_
 ·rintro d0 σ' ⟨g', _, rfl, _⟩; rfl
 ·rintro d' σ' ⟨d0, ⟨g', h1, rfl, h3⟩, rfl⟩
  exact ⟨g', h1, rfl, h3⟩
end
theorem stmt1_rc (L : ZC) (E : Rd1) (r0 : Nat) (hE : ElC G 176 L E r0) (S : RS) (hr : rM L S <= r0) (kk : Int) (g gb g2 B : Nat) (hg : g <= B) :
  ACalls Tryz.prog G B 175 [.i kk, .ptr 1 gb 0] [.row g (rdC L S), .row gb [.ptr 0 g 0], .row g2 [.i 0, .i 0, .i 0, .nil]] (fun d τ => ∃ g', B < g' /\ d = .agg [.i kk, .i 0, .i 0, .ref 3 g' 0 [(E S).1].length 4] /\ τ = [.row g (rdC L (E S).2), .row gb [.ptr 0 g 0], .row g2 [.i 0, .i 0, .i 0, .nil], .row g' (Wq [(E S).1])]) := by
 obtain ⟨hE2, _⟩ := hE S hr
 generalize (E S).1 = xE at *
 generalize (E S).2 = S2 at *
 refine Qa Tryz.func175 rfl Tryz.ntmps175 rfl (t := [(0, .i kk), (1, .ptr 1 gb 0)]) rfl fun E0 hE1 => ?_
 (repeat' first | (refine Qi ?_; (first | refine QM rfl ?_ | refine Qc rfl rfl rfl ?_ | refine QT 0 (hE2) rfl rfl rfl rfl ?_ | refine Ws rfl rfl rfl rfl ?_ | refine s_bslice_own1 (z := xE) rfl rfl rfl rfl (fun _ _ => ?_) | refine Qp rfl rfl ?_ | refine Qq (fun _ _ => ?_))) | (refine Qn ?_; (first | refine Ql ?_ | refine QN rfl ?_ | refine QJ ?_)) | (refine Qm ?_; (first | refine Qo ?_ | refine Qb ?_ | refine Qx ?_)))
 exact e_1 (Tryz.results175) (Qr (size := 4) rfl rfl rfl rfl) (c_co3 (k := 4) (D := fun d => .agg [.i kk, .i 0, .i 0, d]) (.node rfl rfl rfl) hE1 (by omega) rfl rfl rfl rfl rfl)
theorem assign_rc (L : ZC) (hL : OkL L) (E : Rd1) (r0 : Nat) (hE : ElC G 176 L E r0) (S : RS) (hr : rM L S <= r0 + 1) (hw : isM L 118 S = true) :
  CE Tryz.prog G 178 (fun p g => [.ptr p g 0]) (rdC L S) (.agg (Enc.enc (qu L E S).1)) (rdC L (qu L E S).2) := fun g B hg => by
 obtain ⟨hv, hvl⟩ := variable_rc (G := G) L hL E r0 hE S hr
 have hlt : rM L (Wy L E S).2 <= r0 := by
  have h1 := (WV (L := L) (S := S) rfl (is_now hw).1).1
  have h2 : (Qk L 118 S).2 = Qt S := by unfold Qk; rw [if_pos hw]
  have hn : rM L (Qk L 118 S).2 <= r0 := by rw [h2]; omega
  unfold Wy varTail
  generalize (Qk L 118 S).2 = S1 at *
  split
  ·rename_i hc
   have h3 := (WV hc (by decide)).1
   have h4 := (hE (Qt S1) (by omega)).2
   have h5 := rM_take (L := L) (S := (E (Qt S1)).2) [93] (by decide)
   show rM L (Q3 L [93] (E (Qt S1)).2) <= r0
   omega
  ·split
   ·rename_i hc
    have h3 := (WV hc (by decide)).1
    have h4 := rM_numeral L (Qt S1)
    show rM L (QA L (Qt S1)).2 <= r0
    omega
   ·exact hn
 have hkl : (kidsN (Wy L E S).1).length <= 1 := by
  unfold Wy varTail
  repeat' split
  all_goals simp [kidsN]
 unfold qu
 generalize (Wy L E S).1 = v at *
 generalize (Wy L E S).2 = S1 at *
 obtain ⟨k, n, m, ks⟩ := v
 have hvar : CO Tryz.prog G 199 (fun p g => [.ptr p g 0]) (rdC L S) (fun d => .agg [.i k, .i n, .i m, d]) ks.length 4 (Wq ks) (rdC L S1) := hv
 have htk := take_c (G := G) L S1 hL [61] (by decide)
 have hle := rM_take (L := L) (S := S1) [61] (by decide)
 generalize Q3 L [61] S1 = S2 at *
 obtain ⟨hx2, _⟩ := hE S2 (by omega)
 generalize (E S2).1 = x2 at *
 generalize (E S2).2 = S3 at *
 unfold setM setKind
 dsimp only
 have hkl : ks.length <= 1 := hkl
 by_cases k7 : k = 7
 ·rw [if_pos k7]
  refine Qa Tryz.func178 rfl Tryz.ntmps178 rfl (t := [(0, .ptr 0 g 0)]) rfl fun E0 hE1 => ?_
  (repeat' first | (refine Qi ?_; (first | refine QM rfl ?_ | refine QR rfl ?_ | (refine QO ?_; (first | refine W2 rfl rfl ?_ | refine Qc rfl rfl rfl ?_)) | refine QY rfl rfl ?_ | (refine Qu ?_; (first | refine ZG (z := x2) rfl rfl rfl rfl rfl rfl rfl (by first | omega | (simp; omega)) (by first | omega | (simp; omega)) (fun _ => rfl) (fun _ _ => ?_) | refine QT 0 (hx2) rfl rfl rfl rfl ?_ | refine QT 0 (htk) rfl rfl rfl rfl ?_ | refine s_co 0 (hvar) (by first | exact .id | exact .node rfl rfl rfl) rfl rfl rfl rfl (QW _) (fun _ _ => ?_))) | (refine QK ?_; (first | refine Ws rfl rfl rfl rfl ?_ | refine QD rfl rfl rfl rfl (by rfl) (by rfl) (by rfl) ?_)) | refine Qd rfl rfl ?_ | refine Qq (fun _ _ => ?_))) | (refine Qn ?_; (first | refine Ql ?_ | refine QN rfl ?_ | refine QJ ?_)) | (refine Qm ?_; (first | refine Qo ?_ | refine Qb ?_ | refine Qe ?_ | (refine WO ?_; first | (rename_i g2 hg2 gk hgk gn hgn; refine Qz (fun p => p.1 :: .row g2 [.i 0, .i 0, .i 0, .nil] :: p.2 :: .row gn [.i k, .i n, .i m, .ref 2 gk 0 ks.length 4] :: []) 7 [(0, true), (1, true), (2, true), (3, false), (4, true), (5, false), (6, true), (7, false)] (by rfl) (by rfl) (by kernel_rfl) (by decide +kernel) (by decide +kernel) ⟨(_, _), rfl⟩ ?_) | (refine Qz (fun p => p.1 :: p.2 :: []) 100 [(0, true)] (by rfl) (by rfl) (by kernel_rfl) (by decide +kernel) (by decide +kernel) ⟨(_, _), rfl⟩ ?_) | (refine Qz (fun p => p) 100 [(0, true)] (by rfl) (by rfl) (by kernel_rfl) (by decide +kernel) (by decide +kernel) ⟨_, rfl⟩ ?_) | refine Wn (by rfl) (by kernel_rfl) (by kernel_rfl) ?_ | refine Wm (by kernel_rfl) (by kernel_rfl) ?_) | refine Qh rfl (by omega) ?_ | refine Qx ?_)) | (refine W9 ?_; (first | refine ZO ?_ | refine i_z0 ?_ | refine i_st rfl rfl (fun _ => (by (repeat' first | (refine Qi ?_; (first | refine QM rfl ?_ | refine Qc rfl rfl rfl ?_ | refine Q0 (z := x2) rfl rfl (by decide) ?_ | refine Qd rfl rfl ?_)) | exact ⟨rfl, rfl⟩))) ?_ | refine i_ef rfl ?_)) | refine And.intro (Exists.intro ((_, _)) rfl) ?_)
  exact e_1 (Tryz.results178) (Qr (size := 4) rfl rfl rfl rfl) (Zj (D := fun d => .agg [.i 15, .i n, .i m, d]) (k := 1) (.node rfl rfl rfl) rfl (by rw [We]; rfl) (by rw [QI]; rfl) rfl)
 rw [if_neg k7]
 by_cases k8 : k = 8
 ·rw [if_pos k8]
  refine Qa Tryz.func178 rfl Tryz.ntmps178 rfl (t := [(0, .ptr 0 g 0)]) rfl fun E0 hE1 => ?_
  (repeat' first | (refine Qi ?_; (first | refine QM rfl ?_ | refine QR rfl ?_ | (refine QO ?_; (first | refine W2 rfl rfl ?_ | refine Qc rfl rfl rfl ?_)) | refine QY rfl rfl ?_ | (refine Qu ?_; (first | refine ZG (z := x2) rfl rfl rfl rfl rfl rfl rfl (by first | omega | (simp; omega)) (by first | omega | (simp; omega)) (fun _ => rfl) (fun _ _ => ?_) | refine QT 0 (hx2) rfl rfl rfl rfl ?_ | refine QT 0 (htk) rfl rfl rfl rfl ?_ | refine s_co 0 (hvar) (by first | exact .id | exact .node rfl rfl rfl) rfl rfl rfl rfl (QW _) (fun _ _ => ?_))) | (refine QK ?_; (first | refine Ws rfl rfl rfl rfl ?_ | refine QD rfl rfl rfl rfl (by rfl) (by rfl) (by rfl) ?_)) | refine Qd rfl rfl ?_ | refine Qq (fun _ _ => ?_))) | (refine Qn ?_; (first | refine Ql ?_ | refine QN rfl ?_ | refine QJ ?_)) | (refine Qm ?_; (first | refine Qo ?_ | refine Qb ?_ | refine Qe ?_ | (refine WO ?_; first | (rename_i g2 hg2 gk hgk gn hgn; refine Qz (fun p => p.1 :: .row g2 [.i 0, .i 0, .i 0, .nil] :: p.2 :: .row gn [.i k, .i n, .i m, .ref 2 gk 0 ks.length 4] :: []) 7 [(0, true), (1, true), (2, true), (3, false), (4, true), (5, false), (6, true), (7, false)] (by rfl) (by rfl) (by kernel_rfl) (by decide +kernel) (by decide +kernel) ⟨(_, _), rfl⟩ ?_) | (refine Qz (fun p => p.1 :: p.2 :: []) 100 [(0, true)] (by rfl) (by rfl) (by kernel_rfl) (by decide +kernel) (by decide +kernel) ⟨(_, _), rfl⟩ ?_) | (refine Qz (fun p => p) 100 [(0, true)] (by rfl) (by rfl) (by kernel_rfl) (by decide +kernel) (by decide +kernel) ⟨_, rfl⟩ ?_) | refine Wn (by rfl) (by kernel_rfl) (by kernel_rfl) ?_ | refine Wm (by kernel_rfl) (by kernel_rfl) ?_) | refine Qh rfl (by omega) ?_ | refine Qg rfl (by omega) ?_ | refine Qx ?_)) | (refine W9 ?_; (first | refine ZO ?_ | refine i_z0 ?_ | refine i_st rfl rfl (fun _ => (by (repeat' first | (refine Qi ?_; (first | refine QM rfl ?_ | refine Qc rfl rfl rfl ?_ | refine Q0 (z := x2) rfl rfl (by decide) ?_ | refine Qd rfl rfl ?_)) | exact ⟨rfl, rfl⟩))) ?_ | refine i_ef rfl ?_)) | refine And.intro (Exists.intro ((_, _)) rfl) ?_)
  exact e_1 (Tryz.results178) (Qr (size := 4) rfl rfl rfl rfl) (Zj (D := fun d => .agg [.i 16, .i n, .i m, d]) (k := 1) (.node rfl rfl rfl) rfl (by rw [We]; rfl) (by rw [QI]; rfl) rfl)
 ·rw [if_neg k8]
  refine Qa Tryz.func178 rfl Tryz.ntmps178 rfl (t := [(0, .ptr 0 g 0)]) rfl fun E0 hE1 => ?_
  (repeat' first | (refine Qi ?_; (first | refine QM rfl ?_ | refine QR rfl ?_ | (refine QO ?_; (first | refine W2 rfl rfl ?_ | refine Qc rfl rfl rfl ?_)) | refine QY rfl rfl ?_ | (refine Qu ?_; (first | refine ZG (z := x2) rfl rfl rfl rfl rfl rfl rfl (by first | omega | (simp; omega)) (by first | omega | (simp; omega)) (fun _ => rfl) (fun _ _ => ?_) | refine QT 0 (hx2) rfl rfl rfl rfl ?_ | refine QT 0 (htk) rfl rfl rfl rfl ?_ | refine s_co 0 (hvar) (by first | exact .id | exact .node rfl rfl rfl) rfl rfl rfl rfl (QW _) (fun _ _ => ?_))) | (refine QK ?_; (first | refine Ws rfl rfl rfl rfl ?_ | refine QD rfl rfl rfl rfl (by rfl) (by rfl) (by rfl) ?_)) | refine Qd rfl rfl ?_ | refine Qq (fun _ _ => ?_))) | (refine Qn ?_; (first | refine Ql ?_ | refine QN rfl ?_ | refine QJ ?_)) | (refine Qm ?_; (first | refine Qo ?_ | refine Qb ?_ | refine Qe ?_ | (refine WO ?_; first | (rename_i g2 hg2 gk hgk gn hgn; refine Qz (fun p => p.1 :: .row g2 [.i 0, .i 0, .i 0, .nil] :: p.2 :: .row gn [.i k, .i n, .i m, .ref 2 gk 0 ks.length 4] :: []) 7 [(0, true), (1, true), (2, true), (3, false), (4, true), (5, false), (6, true), (7, false)] (by rfl) (by rfl) (by kernel_rfl) (by decide +kernel) (by decide +kernel) ⟨(_, _), rfl⟩ ?_) | (refine Qz (fun p => p.1 :: p.2 :: []) 100 [(0, true)] (by rfl) (by rfl) (by kernel_rfl) (by decide +kernel) (by decide +kernel) ⟨(_, _), rfl⟩ ?_) | (refine Qz (fun p => p) 100 [(0, true)] (by rfl) (by rfl) (by kernel_rfl) (by decide +kernel) (by decide +kernel) ⟨_, rfl⟩ ?_) | refine Wn (by rfl) (by kernel_rfl) (by kernel_rfl) ?_ | refine Wm (by kernel_rfl) (by kernel_rfl) ?_) | refine Qg rfl (by omega) ?_ | refine Qx ?_)) | (refine W9 ?_; (first | refine ZO ?_ | refine i_z0 ?_ | refine i_st rfl rfl (fun _ => (by (repeat' first | (refine Qi ?_; (first | refine QM rfl ?_ | refine Qc rfl rfl rfl ?_ | refine Q0 (z := x2) rfl rfl (by decide) ?_ | refine Qd rfl rfl ?_)) | exact ⟨rfl, rfl⟩))) ?_ | refine i_ef rfl ?_)) | refine And.intro (Exists.intro ((_, _)) rfl) ?_)
  exact e_1 (Tryz.results178) (Qr (size := 4) rfl rfl rfl rfl) (Zj (D := fun d => .agg [.i 14, .i n, .i m, d]) (k := 1) (.node rfl rfl rfl) rfl (by rw [We]; rfl) (by rw [QI]; rfl) rfl)
theorem agg4_nil {L : Lay} {a b c : DV} {es : Nat} {v : Value} (h : VRep L (.agg [a, b, c, .sc (.slice none 0 0)]) v) : VRep L (.agg [a, b, c, .sl es []]) v := by
 cases h with | agg _ vs hl ho hg =>
 refine .agg _ _ hl (fun e he => ?_) fun j e hj => ?_
 ·simp only [List.mem_cons, List.not_mem_nil, or_false] at he
  rcases he with rfl | rfl | rfl | rfl
  ·exact ho _ (by simp)
  ·exact ho _ (by simp)
  ·exact ho _ (by simp)
  ·rfl
 ·match j with
  | 0 => exact hg 0 e hj
  | 1 => exact hg 1 e hj
  | 2 => exact hg 2 e hj
  | 3 => simp at hj; subst hj; exact nil_str (hg 3 _ rfl)
  | j + 4 => simp at hj
theorem partD_node (v : Nd) : partD (Enc.enc v) 0 4 = some (Enc.enc v) := by cases v; rw [QI]; rfl
theorem numeralM_le (L : ZC) (S : RS) : 0 <= (QA L S).1 /\ (QA L S).1 <= 999 := by
 unfold QA
 split
 ·rename_i h; exact ⟨(val_num h).2.1, (val_num h).2.2⟩
 ·simp
theorem args_le {F : FuncId} {L : ZC} {E : Rd1} {r0 : Nat} (hE : ElC G F L E r0) (k : Nat) (S : RS) (h : rM L S <= r0) : rM L (WP L E k S).2 <= rM L S := by
 have h1 := rM_take (L := L) (S := S) [40] (by decide)
 unfold WP
 split
 ·rename_i hc
  have := (WV hc (by decide)).1
  show rM L (Qt (Q3 L [40] S)) <= _
  omega
 ·have := list_le hE k (Q3 L [40] S) (by omega)
  omega
theorem one_c (k n : Int) : Go.Av.Pure Tryz.prog G 198 [.i k, .i n] (.agg [.i k, .i n, .i 0, Q5 ([] : List Nd)]) := fun B => by
 refine Qa Tryz.func198 rfl Tryz.ntmps198 rfl (t := [(0, .i k), (1, .i n)]) rfl fun E hE => ?_
 (repeat' first | (refine Qi ?_; (first | refine QM rfl ?_ | refine Ws rfl rfl rfl rfl ?_ | refine Qp rfl rfl ?_ | refine Qq (fun _ _ => ?_))) | (refine Qn ?_; (first | refine Ql ?_ | refine QN rfl ?_ | refine QJ ?_)) | (refine Qm ?_; (first | refine Qo ?_ | refine Qb ?_ | refine Qx ?_)))
 exact e_1 (Tryz.results198) (Qr (size := 4) rfl rfl rfl rfl) (c_conv (d2 := .agg [.i k, .i n, .i 0, .sl 4 []]) (fun L v h => agg4_nil h) (Q8 rfl))
theorem expr_rc (hG1 : G 1 = spaceT) (L : ZC) (hL : OkL L) : ∀ (n : Nat) (S : RS), rM L S + 2 <= n -> CE Tryz.prog G 176 (fun p g => [.ptr p g 0]) (rdC L S) (.agg (Enc.enc (WB L (.mk 4 0 0 []) n S).1)) (rdC L (WB L (.mk 4 0 0 []) n S).2) /\ rM L (WB L (.mk 4 0 0 []) n S).2 <= rM L S := by
 intro n
 induction n with
 | zero => intro S h; omega
 | succ n ih =>
 intro S hn
 rw [WB]
 have htn := tnum_c (G := G) (Q6 L S) (now_len hL S)
 by_cases h1 : qH (Q6 L S) = true
 ·rw [if_pos h1]
  rw [h1] at htn
  have hnm := qz (G := G) L S hL
  have hnl := rM_numeral L S
  refine ⟨fun g B hg => ?_, by first | omega | (simp only; omega)⟩
  refine Qa Tryz.func176 rfl Tryz.ntmps176 rfl (t := [(0, .ptr 0 g 0)]) rfl fun E0 hE1 => ?_
  (repeat' first | (refine Qi ?_; (first | refine QM rfl ?_ | refine QR rfl ?_ | (refine Qu ?_; (first | refine W5 rfl rfl (htn) ?_ | refine ql rfl (one_c _ _) (by repeat' first | exact Wp | exact WG _ | exact WE (QW _) | exact QW _ | refine ZX ?_ ?_ | refine ZJ ?_ | refine W4 ?_ | refine WT ?_ | exact W8 | refine Ww ?_ ?_ | refine WE ?_) ?_ | refine QT 0 (Z4 L S hL) rfl rfl rfl rfl ?_ | refine QT 0 (hnm) rfl rfl rfl rfl ?_)) | refine Ws rfl rfl rfl rfl ?_ | refine Qq (fun _ _ => ?_))) | (refine Qn ?_; (first | refine Ql ?_ | refine QN rfl ?_ | refine QJ ?_)) | (refine Qm ?_; (first | refine Qo ?_ | refine Qb ?_ | refine Qe ?_ | refine Qv rfl ?_ | refine Qx ?_)))
  refine e_1 (Tryz.results176) (Qr (size := 4) rfl rfl rfl rfl) ?_
  rw [QI]
  exact ZI rfl rfl
 rw [if_neg h1]
 rw [show qH (Q6 L S) = false by simpa using h1] at htn
 have his1 := is_c (G := G) L S hL 118
 have hel : rM L S >= 1 -> ElC G 176 L (WB L (.mk 4 0 0 []) n) (rM L S - 1) := fun _ Q hQ => ih Q (by omega)
 by_cases h2 : isM L 118 S = true
 ·rw [if_pos h2]
  rw [h2] at his1
  have hrn := (WV (L := L) (S := S) rfl (is_now h2).1).1
  obtain ⟨hv, hvl⟩ := variable_rc (G := G) L hL _ _ (hel (by omega)) S (by omega)
  have hvar := (hv.pub (frmN_ok _) (by rw [We]; rfl)).conv (frmN_enc _) rfl
  refine ⟨fun g B hg => ?_, by first | exact hvl | omega | (simp only; omega) | (simp only; rw [qn]; omega)⟩
  refine Qa Tryz.func176 rfl Tryz.ntmps176 rfl (t := [(0, .ptr 0 g 0)]) rfl fun E0 hE1 => ?_
  (repeat' first | (refine Qi ?_; (first | refine QM rfl ?_ | refine QR rfl ?_ | (refine Qu ?_; (first | refine W5 rfl rfl (htn) ?_ | refine QT 0 (Z4 L S hL) rfl rfl rfl rfl ?_ | refine QT 0 (his1) rfl rfl rfl rfl ?_ | refine QT 0 (hvar) rfl rfl rfl rfl ?_)) | refine Ws rfl rfl rfl rfl ?_ | refine Qq (fun _ _ => ?_))) | (refine Qn ?_; (first | refine Ql ?_ | refine QN rfl ?_ | refine QJ ?_)) | (refine Qm ?_; (first | refine Qo ?_ | refine Qb ?_ | refine Qe ?_ | refine Qv rfl ?_ | refine Qy rfl ?_ | refine Qx ?_)))
  exact e_1 (Tryz.results176) (Qr (size := 4) rfl rfl (partD_node _) (Enc.len _)) (ZI rfl rfl)
 rw [if_neg h2]
 rw [show isM L 118 S = false by simpa using h2] at his1
 have his2 := is_c (G := G) L S hL 102
 by_cases h3 : isM L 102 S = true
 ·rw [if_pos h3]
  rw [h3] at his2
  have hrn := (WV (L := L) (S := S) rfl (is_now h3).1).1
  have hnb := numbered_c (G := G) L S hL 102
  have hr2 : rM L (Qk L 102 S).2 + 1 = rM L S := by unfold Qk; rw [if_pos h3]; exact hrn
  generalize (Qk L 102 S).1 = v at *
  generalize (Qk L 102 S).2 = S1 at *
  have hargs := args_rc (G := G) 176 L _ _ n hL (hel (by omega)) S1 (by omega) (by omega)
  have hal := args_le (hel (by omega)) n S1 (by omega)
  refine ⟨fun g B hg => ?_, by first | omega | (simp only; omega) | (simp only; rw [qn]; omega)⟩
  refine Qa Tryz.func176 rfl Tryz.ntmps176 rfl (t := [(0, .ptr 0 g 0)]) rfl fun E0 hE1 => ?_
  (repeat' first | (refine Qi ?_; (first | refine QM rfl ?_ | refine QR rfl ?_ | refine W2 rfl rfl ?_ | (refine Qu ?_; (first | refine W5 rfl rfl (htn) ?_ | refine ql rfl (one_c _ _) (by repeat' first | exact Wp | exact WG _ | exact WE (QW _) | exact QW _ | refine ZX ?_ ?_ | refine ZJ ?_ | refine W4 ?_ | refine WT ?_ | exact W8 | refine Ww ?_ ?_ | refine WE ?_) ?_ | refine QT 0 (Z4 L S hL) rfl rfl rfl rfl ?_ | refine QT 0 (his1) rfl rfl rfl rfl ?_ | refine QT 0 (his2) rfl rfl rfl rfl ?_ | refine QT 0 (hnb) rfl rfl rfl rfl ?_ | refine s_co 0 (hargs) (by first | exact .id | exact .node rfl rfl rfl) rfl rfl rfl rfl (QW _) (fun _ _ => ?_))) | (refine QK ?_; (first | refine Ws rfl rfl rfl rfl ?_ | refine QD rfl rfl rfl rfl (by rfl) (by rfl) (by rfl) ?_)) | refine Qd rfl rfl ?_ | refine QQ rfl rfl ?_ | refine Qq (fun _ _ => ?_))) | (refine Qn ?_; (first | refine Ql ?_ | refine QN rfl ?_ | refine QJ ?_)) | (refine Qm ?_; (first | refine Qo ?_ | refine Qb ?_ | refine Qe ?_ | refine Qv rfl ?_ | refine Qy rfl ?_ | refine Qx ?_)))
  exact e_1 (Tryz.results176) (Qr (size := 4) rfl rfl rfl rfl) (Zj (D := fun d => .agg [.i 11, .i v, .i 0, d]) (k := 2) (.node rfl rfl rfl) rfl (by rw [We]; rfl) (by rw [QI]; rfl) rfl)
 rw [if_neg h3]
 rw [show isM L 102 S = false by simpa using h3] at his2
 by_cases h4 : Q6 L S = [45]
 ·rw [if_pos h4]
  have hrn := (WV h4 (by decide)).1
  have hnw2 := Z4 (G := G) L (Qt S) hL
  by_cases h5 : Q6 L (Qt S) = [48]
  ·rw [if_pos h5]
   have hd : decide (Q6 L (Qt S) = [48]) = true := decide_eq_true h5
   have hfl := fail_c (G := G) L (Qt S)
   have hnm := qz (G := G) L (W3 (Qt S)) hL
   rw [show QA L (W3 (Qt S)) = (0, W3 (Qt S)) by unfold QA Q6 W3; simp [qH]] at hnm
   refine ⟨fun g B hg => ?_, by first | omega | (simp only; omega) | (simp only; rw [qn]; omega)⟩
   refine Qa Tryz.func176 rfl Tryz.ntmps176 rfl (t := [(0, .ptr 0 g 0)]) rfl fun E0 hE1 => ?_
   (repeat' first | (refine Qi ?_; (first | refine QM rfl ?_ | refine QR rfl ?_ | refine WH rfl rfl ?_ | (refine Qu ?_; (first | refine W5 rfl rfl (htn) ?_ | refine ql rfl (one_c _ _) (by repeat' first | exact Wp | exact WG _ | exact WE (QW _) | exact QW _ | refine ZX ?_ ?_ | refine ZJ ?_ | refine W4 ?_ | refine WT ?_ | exact W8 | refine Ww ?_ ?_ | refine WE ?_) ?_ | refine QT 0 (Z4 L S hL) rfl rfl rfl rfl ?_ | refine QT 0 (his1) rfl rfl rfl rfl ?_ | refine QT 0 (his2) rfl rfl rfl rfl ?_ | refine QT 0 (hnw2) rfl rfl rfl rfl ?_ | refine QT 0 (ZU L S hL _ (by decide) (by assumption)) rfl rfl rfl rfl ?_ | refine QT 0 (hnm) rfl rfl rfl rfl ?_ | refine QT 0 (hfl) rfl rfl rfl rfl ?_)) | refine Ws rfl rfl rfl rfl ?_ | refine s_neg rfl (by omega) ?_ | refine Qq (fun _ _ => ?_))) | (refine Qn ?_; (first | refine Ql ?_ | refine QN rfl ?_ | refine QJ ?_)) | (refine Qm ?_; (first | refine Qo ?_ | refine Qb ?_ | refine Qe ?_ | refine Qv rfl ?_ | refine Qy rfl ?_ | refine Qh rfl (by omega) ?_ | refine Qx ?_)))
   refine e_1 (Tryz.results176) (Qr (size := 4) rfl rfl rfl rfl) ?_
   rw [QI]
   exact ZI rfl rfl
  ·rw [if_neg h5]
   have hd : decide (Q6 L (Qt S) = [48]) = false := decide_eq_false h5
   have hnm := qz (G := G) L (Qt S) hL
   have hnl := rM_numeral L (Qt S)
   have hnb := numeralM_le L (Qt S)
   generalize (QA L (Qt S)).1 = v at *
   generalize (QA L (Qt S)).2 = S2 at *
   refine ⟨fun g B hg => ?_, by first | omega | (simp only; omega) | (simp only; rw [qn]; omega)⟩
   refine Qa Tryz.func176 rfl Tryz.ntmps176 rfl (t := [(0, .ptr 0 g 0)]) rfl fun E0 hE1 => ?_
   (repeat' first | (refine Qi ?_; (first | refine QM rfl ?_ | refine QR rfl ?_ | refine WH rfl rfl ?_ | (refine Qu ?_; (first | refine W5 rfl rfl (htn) ?_ | refine ql rfl (one_c _ _) (by repeat' first | exact Wp | exact WG _ | exact WE (QW _) | exact QW _ | refine ZX ?_ ?_ | refine ZJ ?_ | refine W4 ?_ | refine WT ?_ | exact W8 | refine Ww ?_ ?_ | refine WE ?_) ?_ | refine QT 0 (Z4 L S hL) rfl rfl rfl rfl ?_ | refine QT 0 (his1) rfl rfl rfl rfl ?_ | refine QT 0 (his2) rfl rfl rfl rfl ?_ | refine QT 0 (hnw2) rfl rfl rfl rfl ?_ | refine QT 0 (ZU L S hL _ (by decide) (by assumption)) rfl rfl rfl rfl ?_ | refine QT 0 (hnm) rfl rfl rfl rfl ?_)) | refine Ws rfl rfl rfl rfl ?_ | refine s_neg rfl (by omega) ?_ | refine Qq (fun _ _ => ?_))) | (refine Qn ?_; (first | refine Ql ?_ | refine QN rfl ?_ | refine QJ ?_)) | (refine Qm ?_; (first | refine Qo ?_ | refine Qb ?_ | refine Qe ?_ | refine QB ?_ | refine Qv rfl ?_ | refine Qy rfl ?_ | refine Qg rfl (by omega) ?_ | refine Qx ?_)))
   refine e_1 (Tryz.results176) (Qr (size := 4) rfl rfl rfl rfl) ?_
   rw [QI]
   exact ZI rfl rfl
 rw [if_neg h4]
 by_cases hwTrue : Q6 L S = wTrue
 ·rw [if_pos hwTrue]
  have hrn := (WV hwTrue (by decide)).1
  refine ⟨fun g B hg => ?_, by first | omega | (simp only; omega) | (simp only; rw [qn]; omega)⟩
  refine Qa Tryz.func176 rfl Tryz.ntmps176 rfl (t := [(0, .ptr 0 g 0)]) rfl fun E0 hE1 => ?_
  (repeat' first | (refine Qi ?_; (first | refine QM rfl ?_ | refine QR rfl ?_ | (refine Qu ?_; (first | refine W5 rfl rfl (htn) ?_ | refine ql rfl (one_c _ _) (by repeat' first | exact Wp | exact WG _ | exact WE (QW _) | exact QW _ | refine ZX ?_ ?_ | refine ZJ ?_ | refine W4 ?_ | refine WT ?_ | exact W8 | refine Ww ?_ ?_ | refine WE ?_) ?_ | refine QT 0 (Z4 L S hL) rfl rfl rfl rfl ?_ | refine QT 0 (his1) rfl rfl rfl rfl ?_ | refine QT 0 (his2) rfl rfl rfl rfl ?_ | refine QT 0 (ZW L S hL _ (by decide) (by assumption)) rfl rfl rfl rfl ?_ | refine QT 0 (ZU L S hL _ (by decide) (by assumption)) rfl rfl rfl rfl ?_)) | refine Ws rfl rfl rfl rfl ?_ | refine Qq (fun _ _ => ?_))) | (refine Qn ?_; (first | refine Ql ?_ | refine QN rfl ?_ | refine QJ ?_)) | (refine Qm ?_; (first | refine Qo ?_ | refine Qb ?_ | refine Qe ?_ | refine Qv rfl ?_ | refine Qy rfl ?_ | refine Qx ?_)))
  refine e_1 (Tryz.results176) (Qr (size := 4) rfl rfl rfl rfl) ?_
  rw [QI]
  exact ZI rfl rfl
 rw [if_neg hwTrue]
 by_cases hwFalse : Q6 L S = wFalse
 ·rw [if_pos hwFalse]
  have hrn := (WV hwFalse (by decide)).1
  refine ⟨fun g B hg => ?_, by first | omega | (simp only; omega) | (simp only; rw [qn]; omega)⟩
  refine Qa Tryz.func176 rfl Tryz.ntmps176 rfl (t := [(0, .ptr 0 g 0)]) rfl fun E0 hE1 => ?_
  (repeat' first | (refine Qi ?_; (first | refine QM rfl ?_ | refine QR rfl ?_ | (refine Qu ?_; (first | refine W5 rfl rfl (htn) ?_ | refine ql rfl (one_c _ _) (by repeat' first | exact Wp | exact WG _ | exact WE (QW _) | exact QW _ | refine ZX ?_ ?_ | refine ZJ ?_ | refine W4 ?_ | refine WT ?_ | exact W8 | refine Ww ?_ ?_ | refine WE ?_) ?_ | refine QT 0 (Z4 L S hL) rfl rfl rfl rfl ?_ | refine QT 0 (his1) rfl rfl rfl rfl ?_ | refine QT 0 (his2) rfl rfl rfl rfl ?_ | refine QT 0 (ZW L S hL _ (by decide) (by assumption)) rfl rfl rfl rfl ?_ | refine QT 0 (ZU L S hL _ (by decide) (by assumption)) rfl rfl rfl rfl ?_)) | refine Ws rfl rfl rfl rfl ?_ | refine Qq (fun _ _ => ?_))) | (refine Qn ?_; (first | refine Ql ?_ | refine QN rfl ?_ | refine QJ ?_)) | (refine Qm ?_; (first | refine Qo ?_ | refine Qb ?_ | refine Qe ?_ | refine Qv rfl ?_ | refine Qy rfl ?_ | refine Qx ?_)))
  refine e_1 (Tryz.results176) (Qr (size := 4) rfl rfl rfl rfl) ?_
  rw [QI]
  exact ZI rfl rfl
 rw [if_neg hwFalse]
 by_cases h6 : Q6 L S = [40]
 ·rw [if_pos h6]
  have hrn := (WV h6 (by decide)).1
  obtain ⟨hbin, hbl⟩ := binary_rc (G := G) hG1 L hL _ _ (hel (by omega)) (Qt S) (by omega)
  refine ⟨fun g B hg => ?_, by omega⟩
  refine Qa Tryz.func176 rfl Tryz.ntmps176 rfl (t := [(0, .ptr 0 g 0)]) rfl fun E0 hE1 => ?_
  (repeat' first | (refine Qi ?_; (first | refine QM rfl ?_ | refine QR rfl ?_ | (refine Qu ?_; (first | refine W5 rfl rfl (htn) ?_ | refine QT 0 (Z4 L S hL) rfl rfl rfl rfl ?_ | refine QT 0 (his1) rfl rfl rfl rfl ?_ | refine QT 0 (his2) rfl rfl rfl rfl ?_ | refine QT 0 (ZW L S hL _ (by decide) (by assumption)) rfl rfl rfl rfl ?_ | refine QT 0 (ZU L S hL _ (by decide) (by assumption)) rfl rfl rfl rfl ?_ | refine QT 0 (hbin) rfl rfl rfl rfl ?_)) | refine Ws rfl rfl rfl rfl ?_ | refine Qq (fun _ _ => ?_))) | (refine Qn ?_; (first | refine Ql ?_ | refine QN rfl ?_ | refine QJ ?_)) | (refine Qm ?_; (first | refine Qo ?_ | refine Qb ?_ | refine Qe ?_ | refine Qv rfl ?_ | refine Qy rfl ?_ | refine Qx ?_)))
  exact e_1 (Tryz.results176) (Qr (size := 4) rfl rfl (partD_node _) (Enc.len _)) (ZI rfl rfl)
 rw [if_neg h6]
 by_cases h7 : Q6 L S = [33]
 ·rw [if_pos h7]
  have hrn := (WV h7 (by decide)).1
  obtain ⟨hE2, hl2⟩ := hel (by omega) (Qt S) (by omega)
  generalize (WB L (.mk 4 0 0 []) n (Qt S)).1 = xE at *
  generalize (WB L (.mk 4 0 0 []) n (Qt S)).2 = S2 at *
  refine ⟨fun g B hg => ?_, by first | omega | (simp only; omega) | (simp only; rw [qn]; omega)⟩
  refine Qa Tryz.func176 rfl Tryz.ntmps176 rfl (t := [(0, .ptr 0 g 0)]) rfl fun E0 hE1 => ?_
  (repeat' first | (refine Qi ?_; (first | refine QM rfl ?_ | refine QR rfl ?_ | (refine Qu ?_; (first | refine W5 rfl rfl (htn) ?_ | refine QT 0 (Z4 L S hL) rfl rfl rfl rfl ?_ | refine QT 0 (his1) rfl rfl rfl rfl ?_ | refine QT 0 (his2) rfl rfl rfl rfl ?_ | refine QT 0 (ZW L S hL _ (by decide) (by assumption)) rfl rfl rfl rfl ?_ | refine QT 0 (ZU L S hL _ (by decide) (by assumption)) rfl rfl rfl rfl ?_ | refine QT 0 (hE2) rfl rfl rfl rfl ?_)) | refine Ws rfl rfl rfl rfl ?_ | refine Q0 (z := xE) rfl rfl (by decide) ?_ | refine Qp rfl rfl ?_ | refine Qq (fun _ _ => ?_))) | (refine Qn ?_; (first | refine Ql ?_ | refine QN rfl ?_ | refine QJ ?_)) | (refine Qm ?_; (first | refine Qo ?_ | refine Qb ?_ | refine Qe ?_ | refine Qv rfl ?_ | refine Qy rfl ?_ | refine Qx ?_)))
  refine e_1 (Tryz.results176) (Qr (size := 4) rfl rfl rfl rfl) ?_
  rw [QI]
  exact ZI (by simp [Q5, Wq]; try rfl) rfl
 rw [if_neg h7]
 by_cases h8 : Q6 L S = wRecv
 ·rw [if_pos h8]
  have hrn := (WV h8 (by decide)).1
  have hnb := numbered_c (G := G) L (Qt S) hL 99
  have hnl := rM_numbered L 99 (Qt S)
  refine ⟨fun g B hg => ?_, by first | omega | (simp only; omega) | (simp only; rw [qn]; omega)⟩
  refine Qa Tryz.func176 rfl Tryz.ntmps176 rfl (t := [(0, .ptr 0 g 0)]) rfl fun E0 hE1 => ?_
  (repeat' first | (refine Qi ?_; (first | refine QM rfl ?_ | refine QR rfl ?_ | (refine Qu ?_; (first | refine W5 rfl rfl (htn) ?_ | refine ql rfl (one_c _ _) (by repeat' first | exact Wp | exact WG _ | exact WE (QW _) | exact QW _ | refine ZX ?_ ?_ | refine ZJ ?_ | refine W4 ?_ | refine WT ?_ | exact W8 | refine Ww ?_ ?_ | refine WE ?_) ?_ | refine QT 0 (Z4 L S hL) rfl rfl rfl rfl ?_ | refine QT 0 (his1) rfl rfl rfl rfl ?_ | refine QT 0 (his2) rfl rfl rfl rfl ?_ | refine QT 0 (ZW L S hL _ (by decide) (by assumption)) rfl rfl rfl rfl ?_ | refine QT 0 (ZU L S hL _ (by decide) (by assumption)) rfl rfl rfl rfl ?_ | refine QT 0 (hnb) rfl rfl rfl rfl ?_)) | refine Ws rfl rfl rfl rfl ?_ | refine Qq (fun _ _ => ?_))) | (refine Qn ?_; (first | refine Ql ?_ | refine QN rfl ?_ | refine QJ ?_)) | (refine Qm ?_; (first | refine Qo ?_ | refine Qb ?_ | refine Qe ?_ | refine Qv rfl ?_ | refine Qy rfl ?_ | refine Qx ?_)))
  refine e_1 (Tryz.results176) (Qr (size := 4) rfl rfl rfl rfl) ?_
  rw [QI]
  exact ZI rfl rfl
 rw [if_neg h8]
 refine ⟨fun g B hg => ?_, by first | omega | (simp only; omega) | (simp only; rw [qn]; omega)⟩
 refine Qa Tryz.func176 rfl Tryz.ntmps176 rfl (t := [(0, .ptr 0 g 0)]) rfl fun E0 hE1 => ?_
 (repeat' first | (refine Qi ?_; (first | refine QM rfl ?_ | refine QR rfl ?_ | (refine Qu ?_; (first | refine W5 rfl rfl (htn) ?_ | refine QT 0 (Z4 L S hL) rfl rfl rfl rfl ?_ | refine QT 0 (his1) rfl rfl rfl rfl ?_ | refine QT 0 (his2) rfl rfl rfl rfl ?_ | refine QT 0 (ZW L S hL _ (by decide) (by assumption)) rfl rfl rfl rfl ?_ | refine QT 0 (fail_c L S) rfl rfl rfl rfl ?_)) | refine Ws rfl rfl rfl rfl ?_ | refine Qp rfl rfl ?_ | refine Qq (fun _ _ => ?_))) | (refine Qn ?_; (first | refine Ql ?_ | refine QN rfl ?_ | refine QJ ?_)) | (refine Qm ?_; (first | refine Qo ?_ | refine Qb ?_ | refine Qe ?_ | refine QB ?_ | refine Qy rfl ?_ | refine Qx ?_)))
 exact e_1 (Tryz.results176) (Qr (size := 4) rfl rfl rfl rfl) (Wk (es := 4) (.node rfl rfl rfl) (by show _ = DV.agg (Enc.enc (Nd.mk 0 0 0 [])); rw [QI]; rfl) rfl)
end Go.Proofs
end
section
namespace Go.Proofs
open Go.Av Go.Bl
theorem jr {α : Type} {L : ZC} {F : RS -> α × RS} (h : ∀ i, J i True F F) (S : RS) : rM L (F S).2 <= rM L S /\ mM L (F S).2 <= mM L S := by
 obtain ⟨h1, h2, _⟩ := h 0 S
 unfold rM mM
 cases hb : S.bad with
 | true => rw [h2 hb]; simp
 | false => constructor <;> split <;> simp <;> omega
theorem jB {L : ZC} {T : Rd1} (hT : ∀ i c, J i c T T) (k i : Nat) (c : Prop) : J i c (Wl L T k) (Wl L T k) := J.block (Ag.refl L i) (hT i) k c
theorem jS {L : ZC} {E : Rd1} (hE : ∀ i c, J i c E E) (q n i : Nat) (c : Prop) : J i c (WF L E q n) (WF L E q n) := J.stmt (Ag.refl L i) (hE i) q n c
theorem mm_is {L : ZC} {S : RS} {c : UInt8} (h : isM L c S = true) : mM L (Qk L c S).2 < mM L S := by
 have h1 := mm_next (L := L) (S := S) rfl (is_now h).1
 unfold Qk; rw [if_pos h]; exact h1
theorem eats_st {L : ZC} {E : Rd1} (hE : ∀ i c, J i c E E) (q n : Nat) : Eats L (WF L E q (n + 1)) := by
 intro S hb
 rw [WF]
 have hB : ∀ i c, J i c (Wl L (WF L E q n) n) (Wl L (WF L E q n) n) := fun i c => jB (fun i c => jS hE q n i c) n i c
 have nx : ∀ {α : Type} {F : RS -> α × RS} {s : List UInt8}, (∀ i, J i True F F) -> Q6 L S = s -> s ≠ [] -> mM L (F (Qt S)).2 < mM L S := fun hF h1 h2 => Nat.lt_of_le_of_lt (jr hF (Qt S)).2 (mm_next h1 h2)
 by_cases h : Q6 L S = [123]
 ·rw [if_pos h]
  have h1 := (mm_take (L := L) (S := S) [123] (by decide)).1
  have h2 := rm_mM L S
  have h3 : rM L S < mM L S := by unfold rM mM; rw [hb]; simp
  have h4 : mM L (Wv L (WF L E q n) n [] (Q3 L [123] S)).2 <= mM L (Q3 L [123] S) := (jr (fun i => J.bloop (Ag.refl L i) (fun c => jS hE q n i c) n True [] [] fun _ => rfl) _).2
  show mM L (Wv L (WF L E q n) n [] (Q3 L [123] S)).2 < _
  omega
 rw [if_neg h]
 clear h
 by_cases h : isM L 118 S = true
 ·rw [if_pos h]
  have h1 := mm_is h
  have h2 : mM L (Wy L E S).2 <= mM L (Qk L 118 S).2 := (jr (fun i => (J.vtail (Ag.refl L i) (hE i) _ _ : J i (True /\ (Qk L 118 S).1 = (Qk L 118 S).1) _ _).weak fun _ => ⟨trivial, rfl⟩) _).2
  have h3 : mM L (qu L E S).2 <= mM L (Wy L E S).2 := (jr (fun i => (J.atail (Ag.refl L i) (hE i) _ _ : J i (True /\ (Wy L E S).1 = (Wy L E S).1) _ _).weak fun _ => ⟨trivial, rfl⟩) _).2
  omega
 rw [if_neg h]
 clear h
 by_cases h : Q6 L S = wIf
 ·rw [if_pos h]
  exact nx (F := ifM L E (Wl L (WF L E q n) n)) (fun i => J.iff (Ag.refl L i) (hE i) (hB i)) h (by decide)
 rw [if_neg h]
 clear h
 by_cases h : Q6 L S = wWhile
 ·rw [if_pos h]
  exact nx (F := whileM E (Wl L (WF L E q n) n)) (fun i => J.whil (hE i) (hB i)) h (by decide)
 rw [if_neg h]
 clear h
 by_cases h : Q6 L S = wReturn
 ·rw [if_pos h]
  exact nx (F := oneM E 19 0) (fun i => J.one (hE i) _ _ _ fun _ => rfl) h (by decide)
 rw [if_neg h]
 clear h
 by_cases h : Q6 L S = wThrow
 ·rw [if_pos h]
  exact nx (F := oneM E 20 0) (fun i => J.one (hE i) _ _ _ fun _ => rfl) h (by decide)
 rw [if_neg h]
 clear h
 by_cases h : Q6 L S = wOut
 ·rw [if_pos h]
  exact nx (F := oneM E 24 0) (fun i => J.one (hE i) _ _ _ fun _ => rfl) h (by decide)
 rw [if_neg h]
 clear h
 by_cases h : Q6 L S = wSkip
 ·rw [if_pos h]
  exact mm_next h (by decide)
 rw [if_neg h]
 clear h
 by_cases h : Q6 L S = wTry
 ·rw [if_pos h]
  exact nx (F := tryM L (Wl L (WF L E q n) n)) (fun i => J.tri (Ag.refl L i) (hB i)) h (by decide)
 rw [if_neg h]
 clear h
 by_cases h : Q6 L S = wSend
 ·rw [if_pos h]
  have h1 := mm_next h (by decide)
  have h2 := (jr (L := L) (F := Qk L 99) (fun i => J.numbered (Ag.refl L i) 99) (Qt S)).2
  have h3 := (jr (L := L) (F := oneM E 22 (Qk L 99 (Qt S)).1) (fun i => J.one (hE i) _ _ _ fun _ => rfl) (Qk L 99 (Qt S)).2).2
  omega
 rw [if_neg h]
 clear h
 by_cases h : Q6 L S = wSpawn
 ·rw [if_pos h]
  have h1 := mm_next h (by decide)
  have h2 := (jr (L := L) (F := Qk L 102) (fun i => J.numbered (Ag.refl L i) 102) (Qt S)).2
  have h3 := (jr (L := L) (F := WP L E q) (fun i => J.arg (Ag.refl L i) (hE i) q) (Qk L 102 (Qt S)).2).2
  show mM L (WP L E q (Qk L 102 (Qt S)).2).2 < _
  omega
 rw [if_neg h]
 exact mm_fail hb
end Go.Proofs
end
section
namespace Go.Proofs
open Go.Av
variable {G : Nat -> DV}
attribute [local irreducible] OpSem Zs ZH qa ACalls qP AClose RV
open Go.Bl
theorem stmt_rc (L : ZC) (hL : OkL L) (E : Rd1) (hEj : ∀ i c, J i c E E) (q : Nat) (r1 : Nat) (hE : ElC G 176 L E r1) (hq : r1 + 1 <= q) : ∀ (n : Nat) (S : RS), rM L S + 2 <= n -> rM L S <= r1 + 1 -> CE Tryz.prog G 152 (fun p g => [.ptr p g 0]) (rdC L S) (.agg (Enc.enc (WF L E q n S).1)) (rdC L (WF L E q n S).2) := by
 intro n
 induction n with
 | zero => intro S h; omega
 | succ n ih =>
 intro S hn hr1
 have hjs := jS (L := L) hEj q n
 have hB := fun i c => jB (L := L) hjs n i c
 have hel : rM L S >= 1 -> ElC G 152 L (WF L E q n) (rM L S - 1) := fun h1 Q hQ => ⟨ih Q (by omega) (by omega), (jr (fun i => hjs i True) Q).1⟩
 have heat : rM L S >= 1 -> Eats L (WF L E q n) := fun h1 => by
  obtain ⟨n', rfl⟩ : ∃ n', n = n' + 1 := ⟨n - 1, by omega⟩
  exact eats_st hEj q n'
 have blk : rM L S >= 1 -> ∀ Q, rM L Q <= rM L S -> CE Tryz.prog G 111 (fun p g => [.ptr p g 0]) (rdC L Q) (.agg (Enc.enc (Wl L (WF L E q n) n Q).1)) (rdC L (Wl L (WF L E q n) n Q).2) := fun h1 Q hQ => block_rc L hL _ (rM L S - 1) n (hel h1) (heat h1) Q (by omega) (by omega)
 have bln : ∀ Q, rM L (Wl L (WF L E q n) n Q).2 <= rM L Q := fun Q => (jr (fun i => hB i True) Q).1
 clear ih hel heat
 rw [WF]
 by_cases h1 : Q6 L S = [123]
 ·rw [if_pos h1]
  have hd : decide (Q6 L S = [123]) = true := decide_eq_true h1
  have hrn := (WV h1 (by decide)).1
  have hblk := blk (by omega) S (Nat.le_refl _)
  clear blk bln
  intro g B hg
  refine Qa Tryz.func152 rfl Tryz.ntmps152 rfl (t := [(0, .ptr 0 g 0)]) rfl fun E0 hE1 => ?_
  (repeat' first | (refine Qi ?_; (first | refine QR rfl ?_ | refine Qc rfl rfl rfl ?_ | refine WH rfl rfl ?_ | (refine Qu ?_; (first | refine QT 0 (Z4 L S hL) rfl rfl rfl rfl ?_ | refine QT 0 (hblk) rfl rfl rfl rfl ?_)) | refine Ws rfl rfl rfl rfl ?_ | refine QQ rfl rfl ?_ | refine Qq (fun _ _ => ?_) | refine Wi rfl rfl (fun _ _ => ?_))) | (refine Qn ?_; (first | refine Ql ?_ | refine QN rfl ?_ | refine QJ ?_)) | (refine Qm ?_; (first | refine Qo ?_ | refine Qb ?_ | refine Qe ?_ | refine Qh rfl (by omega) ?_ | refine Qx ?_)))
  exact e_1 (Tryz.results152) (Qr (size := 4) rfl rfl (partD_node _) (Enc.len _)) (ZI rfl rfl)
 rw [if_neg h1]
 have hd : decide (Q6 L S = [123]) = false := decide_eq_false h1
 have his1 := is_c (G := G) L S hL 118
 by_cases h2 : isM L 118 S = true
 ·rw [if_pos h2]
  rw [h2] at his1
  have hrn := (WV (L := L) (S := S) rfl (is_now h2).1).1
  have hasg := assign_rc (G := G) L hL E r1 hE S (by omega) h2
  clear blk bln
  intro g B hg
  refine Qa Tryz.func152 rfl Tryz.ntmps152 rfl (t := [(0, .ptr 0 g 0)]) rfl fun E0 hE1 => ?_
  (repeat' first | (refine Qi ?_; (first | refine QR rfl ?_ | refine Qc rfl rfl rfl ?_ | refine WH rfl rfl ?_ | (refine Qu ?_; (first | refine QT 0 (Z4 L S hL) rfl rfl rfl rfl ?_ | refine QT 0 (his1) rfl rfl rfl rfl ?_ | refine QT 0 (hasg) rfl rfl rfl rfl ?_)) | refine Ws rfl rfl rfl rfl ?_ | refine QQ rfl rfl ?_ | refine Qq (fun _ _ => ?_) | refine Wi rfl rfl (fun _ _ => ?_))) | (refine Qn ?_; (first | refine Ql ?_ | refine QN rfl ?_ | refine QJ ?_)) | (refine Qm ?_; (first | refine Qo ?_ | refine Qb ?_ | refine Qe ?_ | refine Qv rfl ?_ | refine Qg rfl (by omega) ?_ | refine Qx ?_)))
  exact e_1 (Tryz.results152) (Qr (size := 4) rfl rfl (partD_node _) (Enc.len _)) (ZI rfl rfl)
 rw [if_neg h2]
 rw [show isM L 118 S = false by simpa using h2] at his1
 by_cases hwIf : Q6 L S = wIf
 ·rw [if_pos hwIf]
  have hrn := (WV hwIf (by decide)).1
  unfold ifM
  have hval := fun (gb g2 B' g : Nat) (h : g <= B') => stmt1_rc (G := G) L E r1 hE (Qt S) (by omega) 17 g gb g2 B' h
  have hel := (hE (Qt S) (by omega)).2
  simp only
  generalize (E (Qt S)).1 = xE at *
  generalize (E (Qt S)).2 = S1 at *
  have hbla := blk (by omega) S1 (by omega)
  have hbll := bln S1
  generalize (Wl L (WF L E q n) n S1).1 = xa at *
  generalize (Wl L (WF L E q n) n S1).2 = S2 at *
  have htk := take_c (G := G) L S2 hL wElse (by decide)
  have htl := rM_take (L := L) (S := S2) wElse (by decide)
  generalize Q3 L wElse S2 = S3 at *
  have hblb := blk (by omega) S3 (by omega)
  generalize (Wl L (WF L E q n) n S3).1 = xb at *
  generalize (Wl L (WF L E q n) n S3).2 = S4 at *
  clear blk bln
  intro g B hg
  refine Qa Tryz.func152 rfl Tryz.ntmps152 rfl (t := [(0, .ptr 0 g 0)]) rfl fun E0 hE1 => ?_
  (repeat' first | (refine Qi ?_; (first | refine QM rfl ?_ | refine QR rfl ?_ | (refine QO ?_; (first | refine W2 rfl rfl ?_ | refine Qc rfl rfl rfl ?_)) | refine WH rfl rfl ?_ | (refine Qu ?_; (first | refine s_callv_og rfl rfl (hval _ _ _ _ (by omega)) (fun _ _ => ?_) | refine QT 0 (Z4 L S hL) rfl rfl rfl rfl ?_ | refine QT 0 (his1) rfl rfl rfl rfl ?_ | refine QT 0 (hbla) rfl rfl rfl rfl ?_ | refine QT 0 (hblb) rfl rfl rfl rfl ?_ | refine QT 0 (htk) rfl rfl rfl rfl ?_ | refine QT 0 (ZU L S hL _ (by decide) (by assumption)) rfl rfl rfl rfl ?_ | refine ZG (z := xa) rfl rfl rfl rfl rfl rfl rfl (by first | omega | (simp; done) | (simp; omega)) (by first | omega | (simp; done) | (simp; omega)) (fun _ => rfl) (fun _ _ => ?_) | refine ZG (z := xb) rfl rfl rfl rfl rfl rfl rfl (by first | omega | (simp; done) | (simp; omega)) (by first | omega | (simp; done) | (simp; omega)) (fun _ => rfl) (fun _ _ => ?_))) | (refine QK ?_; (first | refine Ws rfl rfl rfl rfl ?_ | refine QD rfl rfl rfl rfl (by rfl) (by rfl) (by rfl) ?_)) | refine QQ rfl rfl ?_ | refine Qq (fun _ _ => ?_) | refine Wi rfl rfl (fun _ _ => ?_))) | (refine Qn ?_; (first | refine Ql ?_ | refine QN rfl ?_ | refine QJ ?_)) | (refine Qm ?_; (first | refine Qo ?_ | refine Qb ?_ | refine Qe ?_ | (refine WO ?_; first | (rename_i gb hgb g2 hg2 gt hgt; refine Qz (fun p => p :: .row gb [.ptr 0 g 0] :: .row g2 [.i 0, .i 0, .i 0, .nil] :: .row gt (Enc.enc xa) :: []) 6 [(0, true), (1, true), (2, true), (3, false), (4, true), (5, true), (6, false)] (by rfl) (by rfl) (by kernel_rfl) (by decide +kernel) (by decide +kernel) ⟨_, rfl⟩ ?_) | (rename_i gc2 hgc2; refine Qz (fun p => p.1 :: .row gb [.ptr 0 g 0] :: .row g2 [.i 0, .i 0, .i 0, .nil] :: p.2 :: .row gn [.i 17, .i 0, .i 0, .ref 3 gc2 0 ([xE] ++ [xa]).length 4] :: []) 7 [(0, true), (1, true), (2, true), (3, false), (4, true), (5, false), (6, true), (7, false)] (by rfl) (by rfl) (by kernel_rfl) (by decide +kernel) (by decide +kernel) ⟨(_, _), rfl⟩ ?_) | (rename_i gb hgb g2 hg2 gc hgc gn hgn; refine Qz (fun p => p.1 :: .row gb [.ptr 0 g 0] :: .row g2 [.i 0, .i 0, .i 0, .nil] :: p.2 :: .row gn [.i 18, .i 0, .i 0, .ref 3 gc 0 [xE].length 4] :: []) 7 [(0, true), (1, true), (2, true), (3, false), (4, true), (5, false), (6, true), (7, false)] (by rfl) (by rfl) (by kernel_rfl) (by decide +kernel) (by decide +kernel) ⟨(_, _), rfl⟩ ?_) | (rename_i gb hgb g2 hg2 gc hgc gn hgn; refine Qz (fun p => p.1 :: .row gb [.ptr 0 g 0] :: .row g2 [.i 0, .i 0, .i 0, .nil] :: p.2 :: .row gn [.i 17, .i 0, .i 0, .ref 3 gc 0 [xE].length 4] :: []) 7 [(0, true), (1, true), (2, true), (3, false), (4, true), (5, false), (6, true), (7, false)] (by rfl) (by rfl) (by kernel_rfl) (by decide +kernel) (by decide +kernel) ⟨(_, _), rfl⟩ ?_) | (refine Qz (fun p => p.1 :: p.2 :: []) 100 [(0, true)] (by rfl) (by rfl) (by kernel_rfl) (by decide +kernel) (by decide +kernel) ⟨(_, _), rfl⟩ ?_) | (refine Qz (fun p => p) 100 [(0, true)] (by rfl) (by rfl) (by kernel_rfl) (by decide +kernel) (by decide +kernel) ⟨_, rfl⟩ ?_) | refine Wn (by rfl) (by kernel_rfl) (by kernel_rfl) ?_ | refine Wm (by kernel_rfl) (by kernel_rfl) ?_) | refine Qv rfl ?_ | refine Qy rfl ?_ | refine Qg rfl (by omega) ?_ | refine Qx ?_)) | (refine W9 ?_; (first | refine ZO ?_ | refine i_z0 ?_ | refine i_st rfl rfl (fun _ => (by (repeat' first | (refine Qi ?_; (first | refine Qc rfl rfl rfl ?_ | (refine g_buildSlice ?_; (first | refine Q0 (z := xa) rfl rfl (by decide) ?_ | refine Q0 (z := xb) rfl rfl (by decide) ?_)) | refine Qd rfl rfl ?_)) | exact ⟨rfl, rfl⟩))) ?_ | refine i_ef rfl ?_)) | refine And.intro (Exists.intro ((_, _)) rfl) ?_)
  exact e_1 (Tryz.results152) (Qr (size := 4) rfl rfl rfl rfl) (Zj (D := fun d => .agg [.i 17, .i 0, .i 0, d]) (k := 2) (.node rfl rfl rfl) rfl (by rw [We]; rfl) (by rw [QI]; rfl) rfl)
 rw [if_neg hwIf]
 by_cases hwWhile : Q6 L S = wWhile
 ·rw [if_pos hwWhile]
  have hrn := (WV hwWhile (by decide)).1
  unfold whileM
  have hval := fun (gb g2 B' g : Nat) (h : g <= B') => stmt1_rc (G := G) L E r1 hE (Qt S) (by omega) 18 g gb g2 B' h
  have hel := (hE (Qt S) (by omega)).2
  simp only
  generalize (E (Qt S)).1 = xE at *
  generalize (E (Qt S)).2 = S1 at *
  have hbla := blk (by omega) S1 (by omega)
  have hbll := bln S1
  generalize (Wl L (WF L E q n) n S1).1 = xa at *
  generalize (Wl L (WF L E q n) n S1).2 = S2 at *
  clear blk bln
  intro g B hg
  refine Qa Tryz.func152 rfl Tryz.ntmps152 rfl (t := [(0, .ptr 0 g 0)]) rfl fun E0 hE1 => ?_
  (repeat' first | (refine Qi ?_; (first | refine QM rfl ?_ | refine QR rfl ?_ | (refine QO ?_; (first | refine W2 rfl rfl ?_ | refine Qc rfl rfl rfl ?_)) | refine WH rfl rfl ?_ | (refine Qu ?_; (first | refine s_callv_og rfl rfl (hval _ _ _ _ (by omega)) (fun _ _ => ?_) | refine QT 0 (Z4 L S hL) rfl rfl rfl rfl ?_ | refine QT 0 (his1) rfl rfl rfl rfl ?_ | refine QT 0 (hbla) rfl rfl rfl rfl ?_ | refine QT 0 (ZW L S hL _ (by decide) (by assumption)) rfl rfl rfl rfl ?_ | refine QT 0 (ZU L S hL _ (by decide) (by assumption)) rfl rfl rfl rfl ?_ | refine ZG (z := xa) rfl rfl rfl rfl rfl rfl rfl (by first | omega | (simp; done) | (simp; omega)) (by first | omega | (simp; done) | (simp; omega)) (fun _ => rfl) (fun _ _ => ?_))) | (refine QK ?_; (first | refine Ws rfl rfl rfl rfl ?_ | refine QD rfl rfl rfl rfl (by rfl) (by rfl) (by rfl) ?_)) | refine QQ rfl rfl ?_ | refine Qq (fun _ _ => ?_) | refine Wi rfl rfl (fun _ _ => ?_))) | (refine Qn ?_; (first | refine Ql ?_ | refine QN rfl ?_ | refine QJ ?_)) | (refine Qm ?_; (first | refine Qo ?_ | refine Qb ?_ | refine Qe ?_ | (refine WO ?_; first | (rename_i gb hgb g2 hg2 gt hgt; refine Qz (fun p => p :: .row gb [.ptr 0 g 0] :: .row g2 [.i 0, .i 0, .i 0, .nil] :: .row gt (Enc.enc xa) :: []) 6 [(0, true), (1, true), (2, true), (3, false), (4, true), (5, true), (6, false)] (by rfl) (by rfl) (by kernel_rfl) (by decide +kernel) (by decide +kernel) ⟨_, rfl⟩ ?_) | (rename_i gc2 hgc2; refine Qz (fun p => p.1 :: .row gb [.ptr 0 g 0] :: .row g2 [.i 0, .i 0, .i 0, .nil] :: p.2 :: .row gn [.i 17, .i 0, .i 0, .ref 3 gc2 0 ([xE] ++ [xa]).length 4] :: []) 7 [(0, true), (1, true), (2, true), (3, false), (4, true), (5, false), (6, true), (7, false)] (by rfl) (by rfl) (by kernel_rfl) (by decide +kernel) (by decide +kernel) ⟨(_, _), rfl⟩ ?_) | (rename_i gb hgb g2 hg2 gc hgc gn hgn; refine Qz (fun p => p.1 :: .row gb [.ptr 0 g 0] :: .row g2 [.i 0, .i 0, .i 0, .nil] :: p.2 :: .row gn [.i 18, .i 0, .i 0, .ref 3 gc 0 [xE].length 4] :: []) 7 [(0, true), (1, true), (2, true), (3, false), (4, true), (5, false), (6, true), (7, false)] (by rfl) (by rfl) (by kernel_rfl) (by decide +kernel) (by decide +kernel) ⟨(_, _), rfl⟩ ?_) | (rename_i gb hgb g2 hg2 gc hgc gn hgn; refine Qz (fun p => p.1 :: .row gb [.ptr 0 g 0] :: .row g2 [.i 0, .i 0, .i 0, .nil] :: p.2 :: .row gn [.i 17, .i 0, .i 0, .ref 3 gc 0 [xE].length 4] :: []) 7 [(0, true), (1, true), (2, true), (3, false), (4, true), (5, false), (6, true), (7, false)] (by rfl) (by rfl) (by kernel_rfl) (by decide +kernel) (by decide +kernel) ⟨(_, _), rfl⟩ ?_) | (refine Qz (fun p => p.1 :: p.2 :: []) 100 [(0, true)] (by rfl) (by rfl) (by kernel_rfl) (by decide +kernel) (by decide +kernel) ⟨(_, _), rfl⟩ ?_) | (refine Qz (fun p => p) 100 [(0, true)] (by rfl) (by rfl) (by kernel_rfl) (by decide +kernel) (by decide +kernel) ⟨_, rfl⟩ ?_) | refine Wn (by rfl) (by kernel_rfl) (by kernel_rfl) ?_ | refine Wm (by kernel_rfl) (by kernel_rfl) ?_) | refine Qv rfl ?_ | refine Qy rfl ?_ | refine Qg rfl (by omega) ?_ | refine Qx ?_)) | (refine W9 ?_; (first | refine ZO ?_ | refine i_z0 ?_ | refine i_st rfl rfl (fun _ => (by (repeat' first | (refine Qi ?_; (first | refine Qc rfl rfl rfl ?_ | refine Q0 (z := xa) rfl rfl (by decide) ?_ | refine Qd rfl rfl ?_)) | exact ⟨rfl, rfl⟩))) ?_ | refine i_ef rfl ?_)) | refine And.intro (Exists.intro ((_, _)) rfl) ?_)
  exact e_1 (Tryz.results152) (Qr (size := 4) rfl rfl rfl rfl) (Zj (D := fun d => .agg [.i 18, .i 0, .i 0, d]) (k := 2) (.node rfl rfl rfl) rfl (by rw [We]; rfl) (by rw [QI]; rfl) rfl)
 rw [if_neg hwWhile]
 by_cases hwReturn : Q6 L S = wReturn
 ·rw [if_pos hwReturn]
  have hrn := (WV hwReturn (by decide)).1
  unfold oneM
  have hval := fun (gb g2 B' g : Nat) (h : g <= B') => stmt1_rc (G := G) L E r1 hE (Qt S) (by omega) 19 g gb g2 B' h
  generalize (E (Qt S)).1 = xE at *
  generalize (E (Qt S)).2 = S1 at *
  clear blk bln
  intro g B hg
  refine Qa Tryz.func152 rfl Tryz.ntmps152 rfl (t := [(0, .ptr 0 g 0)]) rfl fun E0 hE1 => ?_
  (repeat' first | (refine Qi ?_; (first | refine QM rfl ?_ | refine QR rfl ?_ | refine Qc rfl rfl rfl ?_ | refine WH rfl rfl ?_ | (refine Qu ?_; (first | refine s_callv_og rfl rfl (hval _ _ _ _ (by omega)) (fun _ _ => ?_) | refine QT 0 (Z4 L S hL) rfl rfl rfl rfl ?_ | refine QT 0 (his1) rfl rfl rfl rfl ?_ | refine QT 0 (ZW L S hL _ (by decide) (by assumption)) rfl rfl rfl rfl ?_ | refine QT 0 (ZU L S hL _ (by decide) (by assumption)) rfl rfl rfl rfl ?_)) | refine Ws rfl rfl rfl rfl ?_ | refine QQ rfl rfl ?_ | refine Qq (fun _ _ => ?_) | refine Wi rfl rfl (fun _ _ => ?_))) | (refine Qn ?_; (first | refine Ql ?_ | refine QN rfl ?_ | refine QJ ?_)) | (refine Qm ?_; (first | refine Qo ?_ | refine Qb ?_ | refine Qe ?_ | refine Qv rfl ?_ | refine Qy rfl ?_ | refine Qg rfl (by omega) ?_ | refine Qx ?_)))
  exact e_1 (Tryz.results152) (Qr (size := 4) rfl rfl rfl rfl) (Zj (D := fun d => .agg [.i 19, .i 0, .i 0, d]) (k := 2) (.node rfl rfl rfl) rfl (by rw [We]; rfl) (by rw [QI]; rfl) rfl)
 rw [if_neg hwReturn]
 by_cases hwThrow : Q6 L S = wThrow
 ·rw [if_pos hwThrow]
  have hrn := (WV hwThrow (by decide)).1
  unfold oneM
  have hval := fun (gb g2 B' g : Nat) (h : g <= B') => stmt1_rc (G := G) L E r1 hE (Qt S) (by omega) 20 g gb g2 B' h
  generalize (E (Qt S)).1 = xE at *
  generalize (E (Qt S)).2 = S1 at *
  clear blk bln
  intro g B hg
  refine Qa Tryz.func152 rfl Tryz.ntmps152 rfl (t := [(0, .ptr 0 g 0)]) rfl fun E0 hE1 => ?_
  (repeat' first | (refine Qi ?_; (first | refine QM rfl ?_ | refine QR rfl ?_ | refine Qc rfl rfl rfl ?_ | refine WH rfl rfl ?_ | (refine Qu ?_; (first | refine s_callv_og rfl rfl (hval _ _ _ _ (by omega)) (fun _ _ => ?_) | refine QT 0 (Z4 L S hL) rfl rfl rfl rfl ?_ | refine QT 0 (his1) rfl rfl rfl rfl ?_ | refine QT 0 (ZW L S hL _ (by decide) (by assumption)) rfl rfl rfl rfl ?_ | refine QT 0 (ZU L S hL _ (by decide) (by assumption)) rfl rfl rfl rfl ?_)) | refine Ws rfl rfl rfl rfl ?_ | refine QQ rfl rfl ?_ | refine Qq (fun _ _ => ?_) | refine Wi rfl rfl (fun _ _ => ?_))) | (refine Qn ?_; (first | refine Ql ?_ | refine QN rfl ?_ | refine QJ ?_)) | (refine Qm ?_; (first | refine Qo ?_ | refine Qb ?_ | refine Qe ?_ | refine Qv rfl ?_ | refine Qy rfl ?_ | refine Qg rfl (by omega) ?_ | refine Qx ?_)))
  exact e_1 (Tryz.results152) (Qr (size := 4) rfl rfl rfl rfl) (Zj (D := fun d => .agg [.i 20, .i 0, .i 0, d]) (k := 2) (.node rfl rfl rfl) rfl (by rw [We]; rfl) (by rw [QI]; rfl) rfl)
 rw [if_neg hwThrow]
 by_cases hwOut : Q6 L S = wOut
 ·rw [if_pos hwOut]
  have hrn := (WV hwOut (by decide)).1
  unfold oneM
  have hval := fun (gb g2 B' g : Nat) (h : g <= B') => stmt1_rc (G := G) L E r1 hE (Qt S) (by omega) 24 g gb g2 B' h
  generalize (E (Qt S)).1 = xE at *
  generalize (E (Qt S)).2 = S1 at *
  clear blk bln
  intro g B hg
  refine Qa Tryz.func152 rfl Tryz.ntmps152 rfl (t := [(0, .ptr 0 g 0)]) rfl fun E0 hE1 => ?_
  (repeat' first | (refine Qi ?_; (first | refine QM rfl ?_ | refine QR rfl ?_ | refine Qc rfl rfl rfl ?_ | refine WH rfl rfl ?_ | (refine Qu ?_; (first | refine s_callv_og rfl rfl (hval _ _ _ _ (by omega)) (fun _ _ => ?_) | refine QT 0 (Z4 L S hL) rfl rfl rfl rfl ?_ | refine QT 0 (his1) rfl rfl rfl rfl ?_ | refine QT 0 (ZW L S hL _ (by decide) (by assumption)) rfl rfl rfl rfl ?_ | refine QT 0 (ZU L S hL _ (by decide) (by assumption)) rfl rfl rfl rfl ?_)) | refine Ws rfl rfl rfl rfl ?_ | refine QQ rfl rfl ?_ | refine Qq (fun _ _ => ?_) | refine Wi rfl rfl (fun _ _ => ?_))) | (refine Qn ?_; (first | refine Ql ?_ | refine QN rfl ?_ | refine QJ ?_)) | (refine Qm ?_; (first | refine Qo ?_ | refine Qb ?_ | refine Qe ?_ | refine Qv rfl ?_ | refine Qy rfl ?_ | refine Qg rfl (by omega) ?_ | refine Qx ?_)))
  exact e_1 (Tryz.results152) (Qr (size := 4) rfl rfl rfl rfl) (Zj (D := fun d => .agg [.i 24, .i 0, .i 0, d]) (k := 2) (.node rfl rfl rfl) rfl (by rw [We]; rfl) (by rw [QI]; rfl) rfl)
 rw [if_neg hwOut]
 by_cases hwSkip : Q6 L S = wSkip
 ·rw [if_pos hwSkip]
  have hrn := (WV hwSkip (by decide)).1
  clear blk bln
  intro g B hg
  refine Qa Tryz.func152 rfl Tryz.ntmps152 rfl (t := [(0, .ptr 0 g 0)]) rfl fun E0 hE1 => ?_
  (repeat' first | (refine Qi ?_; (first | refine QR rfl ?_ | refine Qc rfl rfl rfl ?_ | refine WH rfl rfl ?_ | (refine Qu ?_; (first | refine QT 0 (Z4 L S hL) rfl rfl rfl rfl ?_ | refine QT 0 (his1) rfl rfl rfl rfl ?_ | refine QT 0 (ZW L S hL _ (by decide) (by assumption)) rfl rfl rfl rfl ?_ | refine QT 0 (ZU L S hL _ (by decide) (by assumption)) rfl rfl rfl rfl ?_)) | refine Ws rfl rfl rfl rfl ?_ | refine Qp rfl rfl ?_ | refine QQ rfl rfl ?_ | refine Qq (fun _ _ => ?_) | refine Wi rfl rfl (fun _ _ => ?_))) | (refine Qn ?_; (first | refine Ql ?_ | refine QN rfl ?_ | refine QJ ?_)) | (refine Qm ?_; (first | refine Qo ?_ | refine Qb ?_ | refine Qe ?_ | refine Qv rfl ?_ | refine Qy rfl ?_ | refine Qg rfl (by omega) ?_ | refine Qx ?_)))
  exact e_1 (Tryz.results152) (Qr (size := 4) rfl rfl rfl rfl) (Wk (es := 4) (.node rfl rfl rfl) (by rw [QI]; rfl) rfl)
 rw [if_neg hwSkip]
 by_cases hwTry : Q6 L S = wTry
 ·rw [if_pos hwTry]
  have hrn := (WV hwTry (by decide)).1
  unfold tryM
  simp only
  have hbla := blk (by omega) (Qt S) (by omega)
  have hbll := bln (Qt S)
  generalize (Wl L (WF L E q n) n (Qt S)).1 = xa at *
  generalize (Wl L (WF L E q n) n (Qt S)).2 = S2 at *
  have htk := take_c (G := G) L S2 hL qj (by decide)
  have htl := rM_take (L := L) (S := S2) qj (by decide)
  generalize Q3 L qj S2 = S3 at *
  have hnb := numbered_c (G := G) L S3 hL 118
  have hnl := rM_numbered L 118 S3
  generalize (Qk L 118 S3).1 = v at *
  generalize (Qk L 118 S3).2 = S4 at *
  have hblb := blk (by omega) S4 (by omega)
  generalize (Wl L (WF L E q n) n S4).1 = xb at *
  generalize (Wl L (WF L E q n) n S4).2 = S5 at *
  clear blk bln
  intro g B hg
  refine Qa Tryz.func152 rfl Tryz.ntmps152 rfl (t := [(0, .ptr 0 g 0)]) rfl fun E0 hE1 => ?_
  (repeat' first | (refine Qi ?_; (first | refine QR rfl ?_ | refine Qc rfl rfl rfl ?_ | refine WH rfl rfl ?_ | (refine Qu ?_; (first | refine QT 0 (Z4 L S hL) rfl rfl rfl rfl ?_ | refine QT 0 (his1) rfl rfl rfl rfl ?_ | refine QT 0 (hbla) rfl rfl rfl rfl ?_ | refine QT 0 (hblb) rfl rfl rfl rfl ?_ | refine QT 0 (htk) rfl rfl rfl rfl ?_ | refine QT 0 (hnb) rfl rfl rfl rfl ?_ | refine QT 0 (ZW L S hL _ (by decide) (by assumption)) rfl rfl rfl rfl ?_ | refine QT 0 (ZU L S hL _ (by decide) (by assumption)) rfl rfl rfl rfl ?_)) | refine Ws rfl rfl rfl rfl ?_ | refine QQ rfl rfl ?_ | refine Qq (fun _ _ => ?_) | refine Wi rfl rfl (fun _ _ => ?_))) | (refine Qn ?_; (first | refine Ql ?_ | refine QN rfl ?_ | refine QJ ?_)) | (refine Qm ?_; (first | refine Qo ?_ | refine Qb ?_ | refine Qe ?_ | (refine WO ?_; first | (rename_i gb hgb g2 hg2 gt hgt; refine Qz (fun p => p :: .row gb [.ptr 0 g 0] :: .row g2 [.i 0, .i 0, .i 0, .nil] :: .row gt (Enc.enc xa) :: []) 6 [(0, true), (1, true), (2, true), (3, false), (4, true), (5, true), (6, false)] (by rfl) (by rfl) (by kernel_rfl) (by decide +kernel) (by decide +kernel) ⟨_, rfl⟩ ?_) | (rename_i gc2 hgc2; refine Qz (fun p => p.1 :: .row gb [.ptr 0 g 0] :: .row g2 [.i 0, .i 0, .i 0, .nil] :: p.2 :: .row gn [.i 17, .i 0, .i 0, .ref 3 gc2 0 ([xE] ++ [xa]).length 4] :: []) 7 [(0, true), (1, true), (2, true), (3, false), (4, true), (5, false), (6, true), (7, false)] (by rfl) (by rfl) (by kernel_rfl) (by decide +kernel) (by decide +kernel) ⟨(_, _), rfl⟩ ?_) | (rename_i gb hgb g2 hg2 gc hgc gn hgn; refine Qz (fun p => p.1 :: .row gb [.ptr 0 g 0] :: .row g2 [.i 0, .i 0, .i 0, .nil] :: p.2 :: .row gn [.i 18, .i 0, .i 0, .ref 3 gc 0 [xE].length 4] :: []) 7 [(0, true), (1, true), (2, true), (3, false), (4, true), (5, false), (6, true), (7, false)] (by rfl) (by rfl) (by kernel_rfl) (by decide +kernel) (by decide +kernel) ⟨(_, _), rfl⟩ ?_) | (rename_i gb hgb g2 hg2 gc hgc gn hgn; refine Qz (fun p => p.1 :: .row gb [.ptr 0 g 0] :: .row g2 [.i 0, .i 0, .i 0, .nil] :: p.2 :: .row gn [.i 17, .i 0, .i 0, .ref 3 gc 0 [xE].length 4] :: []) 7 [(0, true), (1, true), (2, true), (3, false), (4, true), (5, false), (6, true), (7, false)] (by rfl) (by rfl) (by kernel_rfl) (by decide +kernel) (by decide +kernel) ⟨(_, _), rfl⟩ ?_) | (refine Qz (fun p => p.1 :: p.2 :: []) 100 [(0, true)] (by rfl) (by rfl) (by kernel_rfl) (by decide +kernel) (by decide +kernel) ⟨(_, _), rfl⟩ ?_) | (refine Qz (fun p => p) 100 [(0, true)] (by rfl) (by rfl) (by kernel_rfl) (by decide +kernel) (by decide +kernel) ⟨_, rfl⟩ ?_) | refine Wn (by rfl) (by kernel_rfl) (by kernel_rfl) ?_ | refine Wm (by kernel_rfl) (by kernel_rfl) ?_) | refine Qv rfl ?_ | refine Qy rfl ?_ | refine Qg rfl (by omega) ?_ | refine Qx ?_)) | (refine W9 ?_; (first | refine ZO ?_ | refine i_z0 ?_ | refine i_st rfl rfl (fun _ => (by (repeat' first | (refine Qi ?_; (first | refine QM rfl ?_ | (refine QO ?_; (first | refine W2 rfl rfl ?_ | refine Qc rfl rfl rfl ?_)) | refine Zl (y := xa) (z := xb) rfl rfl (by decide) ?_ | refine Qp rfl rfl ?_)) | exact ⟨rfl, rfl⟩))) ?_ | refine i_ef rfl ?_)) | refine And.intro (Exists.intro (_) rfl) ?_)
  refine e_1 (Tryz.results152) (Qr (size := 4) rfl rfl rfl rfl) ?_
  rw [QI]
  exact ZI rfl rfl
 rw [if_neg hwTry]
 by_cases hwSend : Q6 L S = wSend
 ·rw [if_pos hwSend]
  have hrn := (WV hwSend (by decide)).1
  unfold oneM
  have hnb := numbered_c (G := G) L (Qt S) hL 99
  have hnl := rM_numbered L 99 (Qt S)
  generalize (Qk L 99 (Qt S)).1 = v at *
  generalize (Qk L 99 (Qt S)).2 = S1 at *
  have hval := fun (gb g2 B' g : Nat) (h : g <= B') => stmt1_rc (G := G) L E r1 hE S1 (by omega) 22 g gb g2 B' h
  generalize (E S1).1 = xE at *
  generalize (E S1).2 = S2 at *
  clear blk bln
  intro g B hg
  refine Qa Tryz.func152 rfl Tryz.ntmps152 rfl (t := [(0, .ptr 0 g 0)]) rfl fun E0 hE1 => ?_
  (repeat' first | (refine Qi ?_; (first | refine QM rfl ?_ | refine QR rfl ?_ | (refine QO ?_; (first | refine W2 rfl rfl ?_ | refine Qc rfl rfl rfl ?_)) | refine WH rfl rfl ?_ | (refine Qu ?_; (first | refine s_callv_og rfl rfl (hval _ _ _ _ (by omega)) (fun _ _ => ?_) | refine QT 0 (Z4 L S hL) rfl rfl rfl rfl ?_ | refine QT 0 (his1) rfl rfl rfl rfl ?_ | refine QT 0 (hnb) rfl rfl rfl rfl ?_ | refine QT 0 (ZW L S hL _ (by decide) (by assumption)) rfl rfl rfl rfl ?_ | refine QT 0 (ZU L S hL _ (by decide) (by assumption)) rfl rfl rfl rfl ?_)) | (refine QK ?_; (first | refine Ws rfl rfl rfl rfl ?_ | refine QD rfl rfl rfl rfl (by rfl) (by rfl) (by rfl) ?_)) | refine Qd rfl rfl ?_ | refine QQ rfl rfl ?_ | refine Qq (fun _ _ => ?_) | refine Wi rfl rfl (fun _ _ => ?_))) | (refine Qn ?_; (first | refine Ql ?_ | refine QN rfl ?_ | refine QJ ?_)) | (refine Qm ?_; (first | refine Qo ?_ | refine Qb ?_ | refine Qe ?_ | refine Qv rfl ?_ | refine Qy rfl ?_ | refine Qg rfl (by omega) ?_ | refine Qx ?_)))
  exact e_1 (Tryz.results152) (Qr (size := 4) rfl rfl rfl rfl) (Zj (D := fun d => .agg [.i 22, .i v, .i 0, d]) (k := 2) (.node rfl rfl rfl) rfl (by rw [We]; rfl) (by rw [QI]; rfl) rfl)
 rw [if_neg hwSend]
 by_cases hwSpawn : Q6 L S = wSpawn
 ·rw [if_pos hwSpawn]
  have hrn := (WV hwSpawn (by decide)).1
  have hnb := numbered_c (G := G) L (Qt S) hL 102
  have hnl := rM_numbered L 102 (Qt S)
  generalize (Qk L 102 (Qt S)).1 = v at *
  generalize (Qk L 102 (Qt S)).2 = S1 at *
  have hargs := args_rc (G := G) 176 L E r1 q hL hE S1 (by omega) (by omega)
  clear blk bln
  intro g B hg
  refine Qa Tryz.func152 rfl Tryz.ntmps152 rfl (t := [(0, .ptr 0 g 0)]) rfl fun E0 hE1 => ?_
  (repeat' first | (refine Qi ?_; (first | refine QM rfl ?_ | refine QR rfl ?_ | refine Qc rfl rfl rfl ?_ | refine WH rfl rfl ?_ | (refine Qu ?_; (first | refine QT 0 (Z4 L S hL) rfl rfl rfl rfl ?_ | refine QT 0 (his1) rfl rfl rfl rfl ?_ | refine QT 0 (hnb) rfl rfl rfl rfl ?_ | refine QT 0 (ZW L S hL _ (by decide) (by assumption)) rfl rfl rfl rfl ?_ | refine QT 0 (ZU L S hL _ (by decide) (by assumption)) rfl rfl rfl rfl ?_ | refine s_co 0 (hargs) (by first | exact .id | exact .node rfl rfl rfl) rfl rfl rfl rfl (QW _) (fun _ _ => ?_))) | refine Ws rfl rfl rfl rfl ?_ | refine Qp rfl rfl ?_ | refine QQ rfl rfl ?_ | refine Qq (fun _ _ => ?_) | refine Wi rfl rfl (fun _ _ => ?_))) | (refine Qn ?_; (first | refine Ql ?_ | refine QN rfl ?_ | refine QJ ?_)) | (refine Qm ?_; (first | refine Qo ?_ | refine Qb ?_ | refine Qe ?_ | refine Qv rfl ?_ | refine Qy rfl ?_ | refine Qg rfl (by omega) ?_ | refine Qx ?_)))
  exact e_1 (Tryz.results152) (Qr (size := 4) rfl rfl rfl rfl) (Zj (D := fun d => .agg [.i 23, .i v, .i 0, d]) (k := 2) (.node rfl rfl rfl) rfl (by rw [We]; rfl) (by rw [QI]; rfl) rfl)
 rw [if_neg hwSpawn]
 clear blk bln
 intro g B hg
 refine Qa Tryz.func152 rfl Tryz.ntmps152 rfl (t := [(0, .ptr 0 g 0)]) rfl fun E0 hE1 => ?_
 (repeat' first | (refine Qi ?_; (first | refine QR rfl ?_ | refine Qc rfl rfl rfl ?_ | refine WH rfl rfl ?_ | (refine Qu ?_; (first | refine QT 0 (Z4 L S hL) rfl rfl rfl rfl ?_ | refine QT 0 (his1) rfl rfl rfl rfl ?_ | refine QT 0 (ZW L S hL _ (by decide) (by assumption)) rfl rfl rfl rfl ?_ | refine QT 0 (fail_c L S) rfl rfl rfl rfl ?_)) | refine Ws rfl rfl rfl rfl ?_ | refine Qp rfl rfl ?_ | refine QQ rfl rfl ?_ | refine Qq (fun _ _ => ?_) | refine Wi rfl rfl (fun _ _ => ?_))) | (refine Qn ?_; (first | refine Ql ?_ | refine QN rfl ?_ | refine QJ ?_)) | (refine Qm ?_; (first | refine Qo ?_ | refine Qb ?_ | refine Qe ?_ | refine QB ?_ | refine Qy rfl ?_ | refine Qg rfl (by omega) ?_ | refine Qx ?_)))
 exact e_1 (Tryz.results152) (Qr (size := 4) rfl rfl rfl rfl) (Wk (es := 4) (.node rfl rfl rfl) (by show _ = DV.agg (Enc.enc (Nd.mk 0 0 0 [])); rw [QI]; rfl) rfl)
end Go.Proofs
end
section
namespace Go.Proofs
open Go.Av Go.Bl
section
variable {α β : Type} {c d : Nat} {L : ZC} {z : Nd}
def KW (c : Nat) (ν : α -> Nat) (F : RS -> α × RS) : Prop := ∀ S, (F S).2.bad = false -> S.bad = false /\ S.p + ν (F S).1 <= (F S).2.p + c
theorem KW.bind {μ : α -> Nat} {ν : β -> Nat} {F : RS -> α × RS} {K : α -> RS -> β × RS} (h : KW c μ F) (hk : ∀ a, KW (d + μ a) ν (K a)) : KW (c + d) ν (fun S => K (F S).1 (F S).2) := fun S hb => by
 obtain ⟨h1, h2⟩ := hk _ _ hb
 obtain ⟨h3, h4⟩ := h S h1
 exact ⟨h3, by show S.p + ν (K (F S).1 (F S).2).1 <= (K (F S).1 (F S).2).2.p + (c + d); omega⟩
theorem KW.next {ν : α -> Nat} {F : RS -> α × RS} (h : KW (c + 1) ν F) : KW c ν (fun S => F (Qt S)) := fun S hb => by
 obtain ⟨h1, h2⟩ := h (Qt S) hb
 exact ⟨h1, by have : (Qt S).p = S.p + 1 := rfl; show S.p + ν (F (Qt S)).1 <= (F (Qt S)).2.p + c; omega⟩
theorem KW.take {ν : α -> Nat} {F : RS -> α × RS} (s : List UInt8) (h : KW (c + 1) ν F) : KW c ν (fun S => F (Q3 L s S)) := fun S hb => by
 obtain ⟨h1, h2⟩ := h (Q3 L s S) hb
 unfold Q3 at h1
 split at h1
 ·rename_i hn
  have e : Q3 L s S = Qt S := by unfold Q3; rw [if_pos hn]
  have : (Qt S).p = S.p + 1 := rfl
  rw [e] at h2
  refine ⟨h1, ?_⟩
  show S.p + ν (F (Q3 L s S)).1 <= (F (Q3 L s S)).2.p + c
  rw [e]; omega
 ·cases h1
theorem KW.ite {ν : α -> Nat} {P : RS -> Prop} [DecidablePred P] {F H : RS -> α × RS} (h1 : KW c ν F) (h2 : KW c ν H) : KW c ν (fun S => if P S then F S else H S) := fun S hb => by
 by_cases hp : P S
 ·simp only [if_pos hp] at hb ⊢; exact h1 S hb
 ·simp only [if_neg hp] at hb ⊢; exact h2 S hb
theorem KW.val {ν : α -> Nat} {a : α} (h : ν a <= c) : KW c ν (fun S => (a, S)) := fun S hb => ⟨hb, by show S.p + ν a <= S.p + c; omega⟩
theorem KW.vnext {ν : α -> Nat} {a : α} (h : ν a <= c + 1) : KW c ν (fun S => (a, Qt S)) := KW.next (F := fun S => (a, S)) (KW.val h)
theorem KW.fail {ν : α -> Nat} {F : RS -> α} {G : RS -> RS} : KW c ν (fun S => (F S, W3 (G S))) := fun S hb => by cases hb
theorem KW.map {ν : α -> Nat} {ξ : β -> Nat} {F : RS -> α × RS} {u : α -> β} (h : KW c ν F) (hu : ∀ a, ξ (u a) <= ν a + d) : KW (c + d) ξ (fun S => (u (F S).1, (F S).2)) := h.bind (K := fun a S => (u a, S)) fun a => KW.val (by have := hu a; omega)
theorem KW.conv {ν : α -> Nat} {F : RS -> α × RS} (h : KW c ν F) (e : c = d) : KW d ν F := e ▸ h
abbrev one1 : Int -> Nat := fun _ => 1
theorem KW.numeral : KW 0 one1 (QA L) := by
 refine KW.ite (P := fun S => qH (Q6 L S) = true) (F := fun S => (valM (Q6 L S), Qt S)) (H := fun S => (0, W3 S)) (fun S hb => ⟨hb, ?_⟩) KW.fail
 show S.p + 1 <= S.p + 1 + 0; omega
theorem KW.numbered (x : UInt8) : KW 0 one1 (Qk L x) := by
 refine KW.ite (P := fun S => isM L x S = true) (F := fun S => (valM ((Q6 L S).drop 1), Qt S)) (H := fun S => (0, W3 S)) (fun S hb => ⟨hb, ?_⟩) KW.fail
 show S.p + 1 <= S.p + 1 + 0; omega
theorem ZE (x : Nd) : QC [x] = Qs x := by simp [QC]
theorem KW.loop {E : Rd1} (hE : KW 0 Qs E) : ∀ (k : Nat) (o : List Nd), KW (QC o) QC (Wf L E k o)
 | 0, o => KW.val (Nat.le_refl _)
 | k + 1, o => by
  refine KW.ite (P := fun S => Q6 L S = [44]) (F := fun S => Wf L E k (o ++ [(E (Qt S)).1]) (E (Qt S)).2) (H := fun S => (o, S)) ?_ (KW.val (Nat.le_refl _))
  refine KW.next (F := fun S => Wf L E k (o ++ [(E S).1]) (E S).2) ?_
  refine (hE.bind (d := QC o + 1) (K := fun a S => Wf L E k (o ++ [a]) S) fun a => ?_).conv (by omega)
  have := KW.loop hE k (o ++ [a])
  intro S hb
  obtain ⟨h1, h2⟩ := this S hb
  rw [Z2, ZE] at h2
  exact ⟨h1, by show S.p + QC (Wf L E k (o ++ [a]) S).1 <= (Wf L E k (o ++ [a]) S).2.p + (QC o + 1 + Qs a); omega⟩
theorem KW.lst {E : Rd1} (hE : KW 0 Qs E) (k : Nat) : KW 0 QC (ZD L E k) := by
 refine (hE.bind (d := 0) (K := fun a S => ((Wf L E k [a] S).1, Q3 L [41] (Wf L E k [a] S).2)) fun a => ?_).conv (by omega)
 refine ((KW.loop (L := L) hE k [a]).bind (d := 0) (K := fun b S => (b, Q3 L [41] S)) fun b => ?_).conv (by rw [ZE]; omega)
 exact KW.take (F := fun S => (b, S)) [41] (KW.val (by omega))
theorem KW.arg {E : Rd1} (hE : KW 0 Qs E) (k : Nat) : KW 0 QC (WP L E k) := by
 refine KW.take (F := fun S => if Q6 L S = [41] then ([], Qt S) else ZD L E k S) [40] ?_
 refine KW.ite (P := fun S => Q6 L S = [41]) (F := fun S => ([], Qt S)) (KW.vnext (by simp [QC])) fun S hb => ?_
 obtain ⟨h1, h2⟩ := KW.lst hE k S hb
 exact ⟨h1, by omega⟩
theorem KW.variable {E : Rd1} (hE : KW 0 Qs E) : KW 0 Qs (Wy L E) := by
 refine ((KW.numbered (L := L) 118).bind (d := 0) (K := fun a S => varTail L E a S) fun a => ?_).conv (by omega)
 refine KW.ite (P := fun S => Q6 L S = [91]) (F := fun S => (Nd.mk 7 a 0 [(E (Qt S)).1], Q3 L [93] (E (Qt S)).2)) ?_ ?_
 ·refine KW.next (F := fun S => (Nd.mk 7 a 0 [(E S).1], Q3 L [93] (E S).2)) ?_
  refine (hE.bind (d := 0 + one1 a + 1) (K := fun x S => (Nd.mk 7 a 0 [x], Q3 L [93] S)) fun x => ?_).conv (by omega)
  exact KW.take (F := fun S => (Nd.mk 7 a 0 [x], S)) [93] (KW.val (by rw [Qs, ZE]; show 1 + Qs x <= 0 + 1 + 1 + Qs x + 1; omega))
 ·refine KW.ite (P := fun S => Q6 L S = [46]) (F := fun S => (Nd.mk 8 a (QA L (Qt S)).1 [], (QA L (Qt S)).2)) (H := fun S => (Nd.mk 6 a 0 [], S)) ?_ (KW.val (by rw [Qs, QC]; show 1 + 0 <= 0 + 1; omega))
  refine KW.next (F := fun S => (Nd.mk 8 a (QA L S).1 [], (QA L S).2)) ?_
  exact ((KW.numeral (L := L)).map (ξ := Qs) (d := 0 + one1 a + 1) (u := fun x => Nd.mk 8 a x []) fun x => by rw [Qs, QC]; show 1 + 0 <= 1 + (0 + 1 + 1); omega).conv (by omega)
theorem KW.binary {E : Rd1} (hE : KW 0 Qs E) : KW 0 Qs (Z9 L E) := by
 refine (hE.bind (d := 0) (K := fun a S => if qp (Q6 L S) < 0 then (zNd, W3 S) else (.mk 9 (qp (Q6 L S)) 0 [a, (E (Qt S)).1], Q3 L [41] (E (Qt S)).2)) fun a => ?_).conv (by omega)
 refine KW.ite (P := fun S => qp (Q6 L S) < 0) (F := fun S => (zNd, W3 S)) KW.fail fun S hb => ?_
 have key : ∀ v, KW (0 + Qs a) Qs (fun S => (Nd.mk 9 v 0 [a, (E (Qt S)).1], Q3 L [41] (E (Qt S)).2)) := fun v => by
  refine KW.next (F := fun S => (Nd.mk 9 v 0 [a, (E S).1], Q3 L [41] (E S).2)) ?_
  refine (hE.bind (d := 0 + Qs a + 1) (K := fun x S => (Nd.mk 9 v 0 [a, x], Q3 L [41] S)) fun x => ?_).conv (by omega)
  exact KW.take (F := fun S => (Nd.mk 9 v 0 [a, x], S)) [41] (KW.val (by rw [Qs, QC, ZE]; omega))
 exact key (qp (Q6 L S)) S hb
theorem KW.expr : ∀ (n : Nat), KW 0 Qs (WB L z n)
 | 0 => KW.fail
 | n + 1 => by
  have hE : KW 0 Qs (WB L z n) := KW.expr n
  refine KW.ite (P := fun S => qH (Q6 L S) = true) (F := fun S => (Nd.mk 4 (QA L S).1 0 [], (QA L S).2)) ?_ ?_
  ·exact ((KW.numeral (L := L)).map (ξ := Qs) (d := 0) (u := fun x => Nd.mk 4 x 0 []) fun x => by rw [Qs, QC]; show 1 + 0 <= 1 + 0; omega).conv (by omega)
  refine KW.ite (P := fun S => isM L 118 S = true) (F := Wy L (WB L z n)) (KW.variable hE) ?_
  refine KW.ite (P := fun S => isM L 102 S = true) (F := fun S => (Nd.mk 11 (Qk L 102 S).1 0 (WP L (WB L z n) n (Qk L 102 S).2).1, (WP L (WB L z n) n (Qk L 102 S).2).2)) ?_ ?_
  ·refine ((KW.numbered (L := L) 102).bind (d := 0) (K := fun a S => (Nd.mk 11 a 0 (WP L (WB L z n) n S).1, (WP L (WB L z n) n S).2)) fun a => ?_).conv (by omega)
   exact ((KW.arg (L := L) hE n).map (ξ := Qs) (d := 0 + one1 a) (u := fun x => Nd.mk 11 a 0 x) fun x => by rw [Qs]; show 1 + QC x <= QC x + (0 + 1); omega).conv (by omega)
  refine KW.ite (P := fun S => Q6 L S = [45]) (F := fun S => if Q6 L (Qt S) = [48] then (z, W3 (Qt S)) else (Nd.mk 4 (-(QA L (Qt S)).1) 0 [], (QA L (Qt S)).2)) ?_ ?_
  ·refine KW.next (F := fun S => if Q6 L S = [48] then (z, W3 S) else (Nd.mk 4 (-(QA L S).1) 0 [], (QA L S).2)) ?_
   refine KW.ite (P := fun S => Q6 L S = [48]) (F := fun S => (z, W3 S)) KW.fail ?_
   exact ((KW.numeral (L := L)).map (ξ := Qs) (d := 1) (u := fun x => Nd.mk 4 (-x) 0 []) fun x => by rw [Qs, QC]; show 1 + 0 <= 1 + 1; omega).conv (by omega)
  refine KW.ite (P := fun S => Q6 L S = wTrue) (F := fun S => (Nd.mk 5 1 0 [], Qt S)) (KW.vnext (by rw [Qs, QC]; omega)) ?_
  refine KW.ite (P := fun S => Q6 L S = wFalse) (F := fun S => (Nd.mk 5 0 0 [], Qt S)) (KW.vnext (by rw [Qs, QC]; omega)) ?_
  refine KW.ite (P := fun S => Q6 L S = [40]) (F := fun S => Z9 L (WB L z n) (Qt S)) (KW.next (F := Z9 L (WB L z n)) fun S hb => ?_) ?_
  ·obtain ⟨h1, h2⟩ := KW.binary hE S hb
   exact ⟨h1, by omega⟩
  refine KW.ite (P := fun S => Q6 L S = [33]) (F := fun S => (Nd.mk 10 0 0 [(WB L z n (Qt S)).1], (WB L z n (Qt S)).2)) ?_ ?_
  ·exact KW.next (F := fun S => (Nd.mk 10 0 0 [(WB L z n S).1], (WB L z n S).2)) ((hE.map (ξ := Qs) (d := 1) (u := fun x => Nd.mk 10 0 0 [x]) fun x => by rw [Qs, ZE]; omega).conv (by omega))
  refine KW.ite (P := fun S => Q6 L S = wRecv) (F := fun S => (Nd.mk 12 (Qk L 99 (Qt S)).1 0 [], (Qk L 99 (Qt S)).2)) (H := fun S => (zNd, W3 S)) ?_ KW.fail
  exact KW.next (F := fun S => (Nd.mk 12 (Qk L 99 S).1 0 [], (Qk L 99 S).2)) (((KW.numbered (L := L) 99).map (ξ := Qs) (d := 1) (u := fun x => Nd.mk 12 x 0 []) fun x => by rw [Qs, QC]; show 1 + 0 <= 1 + 1; omega).conv (by omega))
theorem KW.typed : ∀ (n : Nat), KW 0 Qs (WL L n)
 | 0 => KW.fail
 | n + 1 => by
  have hE : KW 0 Qs (WL L n) := KW.typed n
  refine KW.ite (P := fun S => Q6 L S = wInt) (F := fun S => (Nd.mk 0 0 0 [], Qt S)) (KW.vnext (by rw [Qs, QC]; omega)) ?_
  refine KW.ite (P := fun S => Q6 L S = wBool) (F := fun S => (Nd.mk 1 0 0 [], Qt S)) (KW.vnext (by rw [Qs, QC]; omega)) ?_
  refine KW.ite (P := fun S => Q6 L S = wArr) (F := fun S => (Nd.mk 2 (QA L (Qt S)).1 0 [], (QA L (Qt S)).2)) ?_ ?_
  ·exact KW.next (F := fun S => (Nd.mk 2 (QA L S).1 0 [], (QA L S).2)) (((KW.numeral (L := L)).map (ξ := Qs) (d := 1) (u := fun x => Nd.mk 2 x 0 []) fun x => by rw [Qs, QC]; show 1 + 0 <= 1 + 1; omega).conv (by omega))
  refine KW.ite (P := fun S => Q6 L S = wRec) (F := fun S => (Nd.mk 3 0 0 (ZD L (WL L n) n (Q3 L [40] (Qt S))).1, (ZD L (WL L n) n (Q3 L [40] (Qt S))).2)) (H := fun S => (zNd, W3 S)) ?_ KW.fail
  refine KW.next (F := fun S => (Nd.mk 3 0 0 (ZD L (WL L n) n (Q3 L [40] S)).1, (ZD L (WL L n) n (Q3 L [40] S)).2)) ?_
  refine KW.take (F := fun S => (Nd.mk 3 0 0 (ZD L (WL L n) n S).1, (ZD L (WL L n) n S).2)) [40] ?_
  exact ((KW.lst (L := L) hE n).map (ξ := Qs) (d := 0 + 1 + 1) (u := fun x => Nd.mk 3 0 0 x) fun x => by rw [Qs]; omega).conv (by omega)
theorem KW.bloop {T : Rd1} (hT : KW 0 Qs T) : ∀ (k : Nat) (o : List Nd), KW (QC o) QC (Wv L T k o)
 | 0, o => KW.val (Nat.le_refl _)
 | k + 1, o => by
  refine KW.ite (P := fun S => S.bad = true) (F := fun S => (o, S)) (KW.val (Nat.le_refl _)) ?_
  refine KW.ite (P := fun S => Q6 L S = [125]) (F := fun S => (o, Qt S)) (KW.vnext (by omega)) ?_
  refine (hT.bind (d := QC o) (K := fun a S => Wv L T k (o ++ [a]) S) fun a => ?_).conv (by omega)
  have := KW.bloop hT k (o ++ [a])
  rw [Z2, ZE] at this
  exact this
theorem KW.block {T : Rd1} (hT : KW 0 Qs T) (k : Nat) : KW 0 Qs (Wl L T k) := by
 refine KW.take (F := fun S => (Nd.mk 13 0 0 (Wv L T k [] S).1, (Wv L T k [] S).2)) [123] ?_
 exact ((KW.bloop (L := L) hT k []).map (ξ := Qs) (d := 1) (u := fun x => Nd.mk 13 0 0 x) fun x => by rw [Qs]; omega).conv (by rw [QC])
theorem size_set (v x : Nd) : Qs (setM v x) = Qs v + Qs x := by
 obtain ⟨k, n, m, ks⟩ := v
 show Qs (.mk (setKind k) n m (ks ++ [x])) = _
 rw [Qs, Qs, Z2, ZE]; omega
theorem KW.assign {E : Rd1} (hE : KW 0 Qs E) : KW 0 Qs (qu L E) := by
 refine ((KW.variable (L := L) hE).bind (d := 0) (K := fun a S => (setM a (E (Q3 L [61] S)).1, (E (Q3 L [61] S)).2)) fun a => ?_).conv (by omega)
 refine KW.take (F := fun S => (setM a (E S).1, (E S).2)) [61] ?_
 exact (hE.map (ξ := Qs) (d := 0 + Qs a + 1) (u := fun x => setM a x) fun x => by rw [size_set]; omega).conv (by omega)
theorem KW.one {E : Rd1} (hE : KW 0 Qs E) (k n : Int) : KW 1 Qs (oneM E k n) := (hE.map (ξ := Qs) (d := 1) (u := fun x => Nd.mk k n 0 [x]) fun x => by rw [Qs, ZE]; omega).conv (by omega)
theorem KW.iff {E B : Rd1} (hE : KW 0 Qs E) (hB : KW 0 Qs B) : KW 1 Qs (ifM L E B) := by
 refine (hE.bind (d := 1) (K := fun x S => (Nd.mk 17 0 0 [x, (B S).1, (B (Q3 L wElse (B S).2)).1], (B (Q3 L wElse (B S).2)).2)) fun x => ?_).conv (by omega)
 refine (hB.bind (d := 1 + Qs x) (K := fun y S => (Nd.mk 17 0 0 [x, y, (B (Q3 L wElse S)).1], (B (Q3 L wElse S)).2)) fun y => ?_).conv (by omega)
 refine KW.take (F := fun S => (Nd.mk 17 0 0 [x, y, (B S).1], (B S).2)) wElse ?_
 exact (hB.map (ξ := Qs) (d := 1 + Qs x + Qs y + 1) (u := fun w => Nd.mk 17 0 0 [x, y, w]) fun w => by rw [Qs, QC, QC, ZE]; omega).conv (by omega)
theorem KW.whil {E B : Rd1} (hE : KW 0 Qs E) (hB : KW 0 Qs B) : KW 1 Qs (whileM E B) := by
 refine (hE.bind (d := 1) (K := fun x S => (Nd.mk 18 0 0 [x, (B S).1], (B S).2)) fun x => ?_).conv (by omega)
 exact (hB.map (ξ := Qs) (d := 1 + Qs x) (u := fun w => Nd.mk 18 0 0 [x, w]) fun w => by rw [Qs, QC, ZE]; omega).conv (by omega)
theorem KW.tri {B : Rd1} (hB : KW 0 Qs B) : KW 1 Qs (tryM L B) := by
 refine (hB.bind (d := 1) (K := fun x S => (Nd.mk 21 (Qk L 118 (Q3 L qj S)).1 0 [x, (B (Qk L 118 (Q3 L qj S)).2).1], (B (Qk L 118 (Q3 L qj S)).2).2)) fun x => ?_).conv (by omega)
 refine KW.take (F := fun S => (Nd.mk 21 (Qk L 118 S).1 0 [x, (B (Qk L 118 S).2).1], (B (Qk L 118 S).2).2)) qj ?_
 refine ((KW.numbered (L := L) 118).bind (d := 1 + Qs x + 1) (K := fun v S => (Nd.mk 21 v 0 [x, (B S).1], (B S).2)) fun v => ?_).conv (by omega)
 exact (hB.map (ξ := Qs) (d := 1 + Qs x + 1 + one1 v) (u := fun w => Nd.mk 21 v 0 [x, w]) fun w => by rw [Qs, QC, ZE]; omega).conv (by omega)
theorem KW.stmt {E : Rd1} (hE : KW 0 Qs E) (q : Nat) : ∀ (n : Nat), KW 0 Qs (WF L E q n)
 | 0 => KW.fail
 | n + 1 => by
  have hB : KW 0 Qs (Wl L (WF L E q n) n) := KW.block (KW.stmt hE q n) n
  refine KW.ite (P := fun S => Q6 L S = [123]) (F := Wl L (WF L E q n) n) hB ?_
  refine KW.ite (P := fun S => isM L 118 S = true) (F := qu L E) (KW.assign hE) ?_
  refine KW.ite (P := fun S => Q6 L S = wIf) (F := fun S => ifM L E (Wl L (WF L E q n) n) (Qt S)) (KW.next (KW.iff hE hB)) ?_
  refine KW.ite (P := fun S => Q6 L S = wWhile) (F := fun S => whileM E (Wl L (WF L E q n) n) (Qt S)) (KW.next (KW.whil hE hB)) ?_
  refine KW.ite (P := fun S => Q6 L S = wReturn) (F := fun S => oneM E 19 0 (Qt S)) (KW.next (KW.one hE 19 0)) ?_
  refine KW.ite (P := fun S => Q6 L S = wThrow) (F := fun S => oneM E 20 0 (Qt S)) (KW.next (KW.one hE 20 0)) ?_
  refine KW.ite (P := fun S => Q6 L S = wOut) (F := fun S => oneM E 24 0 (Qt S)) (KW.next (KW.one hE 24 0)) ?_
  refine KW.ite (P := fun S => Q6 L S = wSkip) (F := fun S => (Nd.mk 25 0 0 [], Qt S)) (KW.vnext (by rw [Qs, QC]; omega)) ?_
  refine KW.ite (P := fun S => Q6 L S = wTry) (F := fun S => tryM L (Wl L (WF L E q n) n) (Qt S)) (KW.next (KW.tri hB)) ?_
  refine KW.ite (P := fun S => Q6 L S = wSend) (F := fun S => oneM E 22 (Qk L 99 (Qt S)).1 (Qk L 99 (Qt S)).2) ?_ ?_
  ·refine KW.next (F := fun S => oneM E 22 (Qk L 99 S).1 (Qk L 99 S).2) ?_
   refine ((KW.numbered (L := L) 99).bind (d := 1) (K := fun a S => oneM E 22 a S) fun a S hb => ?_).conv (by omega)
   obtain ⟨h1, h2⟩ := KW.one hE 22 a S hb
   exact ⟨h1, by show S.p + Qs (oneM E 22 a S).1 <= (oneM E 22 a S).2.p + (1 + 1); omega⟩
  refine KW.ite (P := fun S => Q6 L S = wSpawn) (F := fun S => (Nd.mk 23 (Qk L 102 (Qt S)).1 0 (WP L E q (Qk L 102 (Qt S)).2).1, (WP L E q (Qk L 102 (Qt S)).2).2)) (H := fun S => (zNd, W3 S)) ?_ KW.fail
  refine KW.next (F := fun S => (Nd.mk 23 (Qk L 102 S).1 0 (WP L E q (Qk L 102 S).2).1, (WP L E q (Qk L 102 S).2).2)) ?_
  refine ((KW.numbered (L := L) 102).bind (d := 1) (K := fun a S => (Nd.mk 23 a 0 (WP L E q S).1, (WP L E q S).2)) fun a => ?_).conv (by omega)
  exact ((KW.arg (L := L) hE q).map (ξ := Qs) (d := 1 + one1 a) (u := fun x => Nd.mk 23 a 0 x) fun x => by rw [Qs]; omega).conv (by omega)
theorem KW.fn {T B : Rd1} (hT : KW 0 Qs T) (hB : KW 0 Qs B) (q : Nat) : KW 0 Qs (funM L T B q) := by
 refine KW.take (F := fun S => (Nd.mk 26 (QA L S).1 0 ((WP L T q (QA L S).2).1 ++ [(B (WP L T q (QA L S).2).2).1]), (B (WP L T q (QA L S).2).2).2)) wFun ?_
 refine ((KW.numeral (L := L)).bind (d := 1) (K := fun v S => (Nd.mk 26 v 0 ((WP L T q S).1 ++ [(B (WP L T q S).2).1]), (B (WP L T q S).2).2)) fun v => ?_).conv (by omega)
 refine ((KW.arg (L := L) hT q).bind (d := 1 + one1 v) (K := fun a S => (Nd.mk 26 v 0 (a ++ [(B S).1]), (B S).2)) fun a => ?_).conv (by omega)
 exact (hB.map (ξ := Qs) (d := 1 + one1 v + QC a) (u := fun x => Nd.mk 26 v 0 (a ++ [x])) fun x => by rw [Qs, Z2, ZE]; omega).conv (by omega)
theorem KW.ploop {F : Rd1} (hF : KW 0 Qs F) : ∀ (k : Nat) (o : List Nd), KW (QC o) QC (WU L F k o)
 | 0, o => KW.val (Nat.le_refl _)
 | k + 1, o => by
  refine KW.ite (P := fun S => S.bad = false /\ S.p < L.length) (F := fun S => WU L F k (o ++ [(F S).1]) (F S).2) (H := fun S => (o, S)) ?_ (KW.val (Nat.le_refl _))
  refine (hF.bind (d := QC o) (K := fun a S => WU L F k (o ++ [a]) S) fun a => ?_).conv (by omega)
  have := KW.ploop hF k (o ++ [a])
  rw [Z2, ZE] at this
  exact this
theorem kw_fun (q : Nat) : KW 0 Qs (qe L z q) := KW.fn (KW.typed q) (KW.block (KW.stmt (KW.expr q) q q) q) q
theorem prog_size (q : Nat) (h : (qo L z q).2.bad = false) : Qs (qo L z q).1 <= (qo L z q).2.p := by
 have key : KW 0 Qs (fun S => (Nd.mk 27 (QA L (Q3 L ZK S)).1 0 (WU L (qe L z q) q [] (QA L (Q3 L ZK S)).2).1, (WU L (qe L z q) q [] (QA L (Q3 L ZK S)).2).2)) := by
  refine KW.take (F := fun S => (Nd.mk 27 (QA L S).1 0 (WU L (qe L z q) q [] (QA L S).2).1, (WU L (qe L z q) q [] (QA L S).2).2)) ZK ?_
  refine ((KW.numeral (L := L)).bind (d := 1) (K := fun v S => (Nd.mk 27 v 0 (WU L (qe L z q) q [] S).1, (WU L (qe L z q) q [] S).2)) fun v => ?_).conv (by omega)
  exact ((KW.ploop (L := L) (kw_fun (z := z) q) q []).map (ξ := Qs) (d := 1 + one1 v) (u := fun x => Nd.mk 27 v 0 x) fun x => by rw [Qs]; omega).conv (by rw [QC]; omega)
 obtain ⟨_, h2⟩ := key ⟨0, false⟩ h
 have : (0 : Nat) + Qs (qo L z q).1 <= (qo L z q).2.p + 0 := h2
 omega
def IB (L : ZC) (F : RS -> α × RS) : Prop := ∀ S, S.p <= L.length -> (F S).2.p <= L.length
theorem IB.bind {F : RS -> α × RS} {K : α -> RS -> β × RS} (h : IB L F) (hk : ∀ a, IB L (K a)) : IB L (fun S => K (F S).1 (F S).2) := fun S hs => hk _ _ (h S hs)
theorem IB.ite {P : RS -> Prop} [DecidablePred P] {F H : RS -> α × RS} (h1 : ∀ S, P S -> S.p <= L.length -> (F S).2.p <= L.length) (h2 : IB L H) : IB L (fun S => if P S then F S else H S) := fun S hs => by
 by_cases hp : P S
 ·simp only [if_pos hp]; exact h1 S hp hs
 ·simp only [if_neg hp]; exact h2 S hs
theorem Zb {S : RS} {w : List UInt8} (h : Q6 L S = w) (hw : w ≠ []) : (Qt S).p <= L.length := by
 obtain ⟨_, h2, _⟩ := now_at (L := L) (S := S) (by rw [h]; exact hw)
 exact h2
theorem ib_take (s : List UInt8) (hs : s ≠ []) {S : RS} (h : S.p <= L.length) : (Q3 L s S).p <= L.length := by
 unfold Q3
 split
 ·rename_i hn; exact Zb hn hs
 ·exact h
theorem IB.take {F : RS -> α × RS} (s : List UInt8) (hs : s ≠ []) (h : IB L F) : IB L (fun S => F (Q3 L s S)) := fun S hS => h _ (ib_take s hs hS)
theorem IB.fail {a : α} : IB L (fun S => (a, W3 S)) := fun S hS => hS
theorem IB.val {a : α} : IB L (fun S => (a, S)) := fun S hS => hS
theorem IB.numeral : IB L (QA L) :=
 IB.ite (P := fun S => qH (Q6 L S) = true) (F := fun S => (valM (Q6 L S), Qt S)) (H := fun S => (0, W3 S)) (fun S hp _ => Zb rfl (numB_ne hp)) IB.fail
theorem isM_ne {S : RS} {c : UInt8} (h : isM L c S = true) : Q6 L S ≠ [] := by
 rintro e
 unfold isM at h
 rw [e] at h
 simp [Lib.hasPrefix] at h
theorem IB.numbered (x : UInt8) : IB L (Qk L x) :=
 IB.ite (P := fun S => isM L x S = true) (F := fun S => (valM ((Q6 L S).drop 1), Qt S)) (H := fun S => (0, W3 S)) (fun S hp _ => Zb rfl (isM_ne hp)) IB.fail
theorem IB.nx {F : RS -> α × RS} (h : IB L F) {w : List UInt8} (hw : w ≠ []) : ∀ S, Q6 L S = w -> S.p <= L.length -> (F (Qt S)).2.p <= L.length := fun S hn _ => h _ (Zb hn hw)
theorem IB.loop {E : Rd1} (hE : IB L E) : ∀ (k : Nat) (o : List Nd), IB L (Wf L E k o)
 | 0, o => IB.val
 | k + 1, o => IB.ite (P := fun S => Q6 L S = [44]) (F := fun S => Wf L E k (o ++ [(E (Qt S)).1]) (E (Qt S)).2) (H := fun S => (o, S)) (fun S hn _ => IB.loop hE k _ _ (hE _ (Zb hn (by decide)))) IB.val
theorem IB.lst {E : Rd1} (hE : IB L E) (k : Nat) : IB L (ZD L E k) := fun S hS => ib_take (L := L) [41] (by decide) (IB.loop hE k _ _ (hE S hS))
theorem IB.arg {E : Rd1} (hE : IB L E) (k : Nat) : IB L (WP L E k) :=
 IB.take (F := fun S => if Q6 L S = [41] then ([], Qt S) else ZD L E k S) [40] (by decide) (IB.ite (P := fun S => Q6 L S = [41]) (F := fun S => ([], Qt S)) (fun S hn _ => Zb hn (by decide)) (IB.lst hE k))
theorem IB.variable {E : Rd1} (hE : IB L E) : IB L (Wy L E) := by
 refine (IB.numbered (L := L) 118).bind (K := fun a S => varTail L E a S) fun a => ?_
 refine IB.ite (P := fun S => Q6 L S = [91]) (F := fun S => (Nd.mk 7 a 0 [(E (Qt S)).1], Q3 L [93] (E (Qt S)).2)) (fun S hn _ => ib_take (L := L) [93] (by decide) (hE _ (Zb hn (by decide)))) ?_
 exact IB.ite (P := fun S => Q6 L S = [46]) (F := fun S => (Nd.mk 8 a (QA L (Qt S)).1 [], (QA L (Qt S)).2)) (H := fun S => (Nd.mk 6 a 0 [], S)) (fun S hn _ => IB.numeral (L := L) _ (Zb hn (by decide))) IB.val
theorem IB.binary {E : Rd1} (hE : IB L E) : IB L (Z9 L E) := by
 refine hE.bind (K := fun a S => if qp (Q6 L S) < 0 then (zNd, W3 S) else (.mk 9 (qp (Q6 L S)) 0 [a, (E (Qt S)).1], Q3 L [41] (E (Qt S)).2)) fun a S hS => ?_
 dsimp only
 by_cases ho : qp (Q6 L S) < 0
 ·rw [if_pos ho]; exact hS
 ·rw [if_neg ho]
  have hne : Q6 L S ≠ [] := by
   intro e
   rw [e] at ho
   exact ho (by decide)
  exact ib_take (L := L) [41] (by decide) (hE _ (Zb rfl hne))
theorem IB.expr : ∀ (n : Nat), IB L (WB L z n)
 | 0 => IB.fail
 | n + 1 => by
  have hE : IB L (WB L z n) := IB.expr n
  refine IB.ite (P := fun S => qH (Q6 L S) = true) (F := fun S => (Nd.mk 4 (QA L S).1 0 [], (QA L S).2)) (fun S _ hS => IB.numeral S hS) ?_
  refine IB.ite (P := fun S => isM L 118 S = true) (F := Wy L (WB L z n)) (fun S _ hS => IB.variable hE S hS) ?_
  refine IB.ite (P := fun S => isM L 102 S = true) (F := fun S => (Nd.mk 11 (Qk L 102 S).1 0 (WP L (WB L z n) n (Qk L 102 S).2).1, (WP L (WB L z n) n (Qk L 102 S).2).2)) (fun S _ hS => IB.arg hE n _ (IB.numbered (L := L) 102 S hS)) ?_
  refine IB.ite (P := fun S => Q6 L S = [45]) (F := fun S => if Q6 L (Qt S) = [48] then (z, W3 (Qt S)) else (Nd.mk 4 (-(QA L (Qt S)).1) 0 [], (QA L (Qt S)).2)) (fun S hn _ => ?_) ?_
  ·have h1 := Zb (L := L) hn (by decide)
   split
   ·exact h1
   ·exact IB.numeral (L := L) _ h1
  refine IB.ite (P := fun S => Q6 L S = wTrue) (F := fun S => (Nd.mk 5 1 0 [], Qt S)) (fun S hn _ => Zb hn (by decide)) ?_
  refine IB.ite (P := fun S => Q6 L S = wFalse) (F := fun S => (Nd.mk 5 0 0 [], Qt S)) (fun S hn _ => Zb hn (by decide)) ?_
  refine IB.ite (P := fun S => Q6 L S = [40]) (F := fun S => Z9 L (WB L z n) (Qt S)) ((IB.binary hE).nx (by decide)) ?_
  refine IB.ite (P := fun S => Q6 L S = [33]) (F := fun S => (Nd.mk 10 0 0 [(WB L z n (Qt S)).1], (WB L z n (Qt S)).2)) (fun S hn _ => hE _ (Zb hn (by decide))) ?_
  exact IB.ite (P := fun S => Q6 L S = wRecv) (F := fun S => (Nd.mk 12 (Qk L 99 (Qt S)).1 0 [], (Qk L 99 (Qt S)).2)) (H := fun S => (zNd, W3 S)) (fun S hn _ => IB.numbered (L := L) 99 _ (Zb hn (by decide))) IB.fail
theorem IB.typed : ∀ (n : Nat), IB L (WL L n)
 | 0 => IB.fail
 | n + 1 => by
  have hE : IB L (WL L n) := IB.typed n
  refine IB.ite (P := fun S => Q6 L S = wInt) (F := fun S => (Nd.mk 0 0 0 [], Qt S)) (fun S hn _ => Zb hn (by decide)) ?_
  refine IB.ite (P := fun S => Q6 L S = wBool) (F := fun S => (Nd.mk 1 0 0 [], Qt S)) (fun S hn _ => Zb hn (by decide)) ?_
  refine IB.ite (P := fun S => Q6 L S = wArr) (F := fun S => (Nd.mk 2 (QA L (Qt S)).1 0 [], (QA L (Qt S)).2)) (fun S hn _ => IB.numeral (L := L) _ (Zb hn (by decide))) ?_
  exact IB.ite (P := fun S => Q6 L S = wRec) (F := fun S => (Nd.mk 3 0 0 (ZD L (WL L n) n (Q3 L [40] (Qt S))).1, (ZD L (WL L n) n (Q3 L [40] (Qt S))).2)) (H := fun S => (zNd, W3 S)) (fun S hn _ => IB.lst hE n _ (ib_take [40] (by decide) (Zb hn (by decide)))) IB.fail
theorem IB.bloop {T : Rd1} (hT : IB L T) : ∀ (k : Nat) (o : List Nd), IB L (Wv L T k o)
 | 0, o => IB.val
 | k + 1, o => by
  refine IB.ite (P := fun S => S.bad = true) (F := fun S => (o, S)) (fun S _ hS => hS) ?_
  refine IB.ite (P := fun S => Q6 L S = [125]) (F := fun S => (o, Qt S)) (fun S hn _ => Zb hn (by decide)) ?_
  exact hT.bind (K := fun a S => Wv L T k (o ++ [a]) S) fun a => IB.bloop hT k _
theorem IB.block {T : Rd1} (hT : IB L T) (k : Nat) : IB L (Wl L T k) := fun S hS => IB.bloop hT k [] _ (ib_take (L := L) [123] (by decide) hS)
theorem IB.stmt {E : Rd1} (hE : IB L E) (q : Nat) : ∀ (n : Nat), IB L (WF L E q n)
 | 0 => IB.fail
 | n + 1 => by
  have hB : IB L (Wl L (WF L E q n) n) := IB.block (IB.stmt hE q n) n
  refine IB.ite (P := fun S => Q6 L S = [123]) (F := Wl L (WF L E q n) n) (fun S _ hS => hB S hS) ?_
  refine IB.ite (P := fun S => isM L 118 S = true) (F := qu L E) (fun S _ hS => hE _ (ib_take (L := L) [61] (by decide) (IB.variable hE S hS))) ?_
  refine IB.ite (P := fun S => Q6 L S = wIf) (F := fun S => ifM L E (Wl L (WF L E q n) n) (Qt S)) (fun S hn _ => hB _ (ib_take (L := L) wElse (by decide) (hB _ (hE _ (Zb hn (by decide)))))) ?_
  refine IB.ite (P := fun S => Q6 L S = wWhile) (F := fun S => whileM E (Wl L (WF L E q n) n) (Qt S)) (fun S hn _ => hB _ (hE _ (Zb hn (by decide)))) ?_
  refine IB.ite (P := fun S => Q6 L S = wReturn) (F := fun S => oneM E 19 0 (Qt S)) (fun S hn _ => hE _ (Zb hn (by decide))) ?_
  refine IB.ite (P := fun S => Q6 L S = wThrow) (F := fun S => oneM E 20 0 (Qt S)) (fun S hn _ => hE _ (Zb hn (by decide))) ?_
  refine IB.ite (P := fun S => Q6 L S = wOut) (F := fun S => oneM E 24 0 (Qt S)) (fun S hn _ => hE _ (Zb hn (by decide))) ?_
  refine IB.ite (P := fun S => Q6 L S = wSkip) (F := fun S => (Nd.mk 25 0 0 [], Qt S)) (fun S hn _ => Zb hn (by decide)) ?_
  refine IB.ite (P := fun S => Q6 L S = wTry) (F := fun S => tryM L (Wl L (WF L E q n) n) (Qt S)) (fun S hn _ => hB _ (IB.numbered (L := L) 118 _ (ib_take (L := L) qj (by decide) (hB _ (Zb hn (by decide)))))) ?_
  refine IB.ite (P := fun S => Q6 L S = wSend) (F := fun S => oneM E 22 (Qk L 99 (Qt S)).1 (Qk L 99 (Qt S)).2) (fun S hn _ => hE _ (IB.numbered (L := L) 99 _ (Zb hn (by decide)))) ?_
  exact IB.ite (P := fun S => Q6 L S = wSpawn) (F := fun S => (Nd.mk 23 (Qk L 102 (Qt S)).1 0 (WP L E q (Qk L 102 (Qt S)).2).1, (WP L E q (Qk L 102 (Qt S)).2).2)) (H := fun S => (zNd, W3 S)) (fun S hn _ => IB.arg hE q _ (IB.numbered (L := L) 102 _ (Zb hn (by decide)))) IB.fail
theorem ib_fun (q : Nat) : IB L (qe L z q) := fun S hS => IB.block (IB.stmt (IB.expr q) q q) q _ (IB.arg (IB.typed q) q _ (IB.numeral (L := L) _ (ib_take (L := L) wFun (by decide) hS)))
theorem IB.ploop {F : Rd1} (hF : IB L F) : ∀ (k : Nat) (o : List Nd), IB L (WU L F k o)
 | 0, o => IB.val
 | k + 1, o => IB.ite (P := fun S => S.bad = false /\ S.p < L.length) (F := fun S => WU L F k (o ++ [(F S).1]) (F S).2) (H := fun S => (o, S)) (fun S _ hS => IB.ploop hF k _ _ (hF S hS)) IB.val
theorem prog_in (q : Nat) : (qo L z q).2.p <= L.length := IB.ploop (ib_fun q) q [] _ (IB.numeral (L := L) _ (ib_take (L := L) ZK (by decide) (Nat.zero_le _)))
end
end Go.Proofs
end
section
namespace Go.Proofs
open Go.Av
variable {G : Nat -> DV}
attribute [local irreducible] OpSem Zs ZH qa ACalls qP AClose RV
open Go.Bl
abbrev zP : Nd := .mk 4 0 0 []
theorem elx (hG1 : G 1 = spaceT) (L : ZC) (hL : OkL L) (q r : Nat) (h : r + 2 <= q) : ElC G 176 L (WB L zP q) r := fun Q hQ => expr_rc hG1 L hL q Q (by omega)
theorem jX (L : ZC) (z : Nd) (q : Nat) : ∀ i c, J i c (WB L z q) (WB L z q) := fun i c => J.expr (Ag.refl L i) q c
theorem loop_len (L : ZC) (E : Rd1) : ∀ (k : Nat) (o : List Nd) (S : RS), (Wf L E k o S).1.length <= o.length + k
 | 0, o, S => by rw [Wf]; show o.length <= o.length + 0; omega
 | k + 1, o, S => by
  rw [Wf]
  split
  ·have := loop_len L E k (o ++ [(E (Qt S)).1]) (E (Qt S)).2
   simp only [List.length_append, List.length_cons, List.length_nil] at this
   omega
  ·show o.length <= o.length + (k + 1); omega
theorem args_len (L : ZC) (E : Rd1) (k : Nat) (S : RS) : (WP L E k S).1.length <= k + 1 := by
 unfold WP
 split
 ·simp
 ·unfold ZD
  have := loop_len L E k [(E (Q3 L [40] S)).1] (E (Q3 L [40] S)).2
  simp only [List.length_cons, List.length_nil] at this
  show (Wf L E k [(E (Q3 L [40] S)).1] (E (Q3 L [40] S)).2).1.length <= k + 1
  omega
theorem fun_rc (hG1 : G 1 = spaceT) (L : ZC) (hL : OkL L) (q : Nat) (hq : L.length + 3 <= q) (hq2 : q <= 2000000) (S : RS) :
  CE Tryz.prog G 61 (fun p g => [.ptr p g 0]) (rdC L S) (.agg (Enc.enc (qe L zP q S).1)) (rdC L (qe L zP q S).2) := fun g B hg => by
 have hrl : ∀ Q : RS, rM L Q <= L.length := fun Q => by unfold rM; split <;> omega
 unfold qe funM
 dsimp only
 have htk := take_c (G := G) L S hL wFun (by decide)
 generalize Q3 L wFun S = S1 at *
 have hnm := qz (G := G) L S1 hL
 generalize (QA L S1).1 = v at *
 generalize (QA L S1).2 = S2 at *
 have htel : ElC G 110 L (WL L q) L.length := fun Q hQ => typed_rc L hL q Q (by omega)
 have hargs := args_rc (G := G) 110 L (WL L q) L.length q hL htel S2 (hrl S2) (by have := hrl S2; omega)
 have hal := args_len L (WL L q) q S2
 generalize (WP L (WL L q) q S2).1 = axs at *
 generalize (WP L (WL L q) q S2).2 = S3 at *
 have hst : ElC G 152 L (WF L (WB L zP q) q q) L.length := fun Q hQ =>
  ⟨stmt_rc L hL (WB L zP q) (jX L zP q) q L.length (elx hG1 L hL q _ (by omega)) (by omega) q Q (by omega) (by omega), (jr (fun i => jS (jX L zP q) q q i True) Q).1⟩
 obtain ⟨q', rfl⟩ : ∃ q', q = q' + 1 := ⟨q - 1, by omega⟩
 have hblk := block_rc (G := G) L hL (WF L (WB L zP (q' + 1)) (q' + 1) (q' + 1)) L.length (q' + 1) hst (eats_st (jX L zP (q' + 1)) (q' + 1) q') S3 (by have := hrl S3; omega) (by have := hrl S3; omega)
 generalize (Wl L (WF L (WB L zP (q' + 1)) (q' + 1) (q' + 1)) (q' + 1) S3).1 = xb at *
 generalize (Wl L (WF L (WB L zP (q' + 1)) (q' + 1) (q' + 1)) (q' + 1) S3).2 = S4 at *
 clear hst htel hrl
 refine Qa Tryz.func61 rfl Tryz.ntmps61 rfl (t := [(0, .ptr 0 g 0)]) rfl fun E0 hE1 => ?_
 (repeat' first | (refine Qi ?_; (first | refine QM rfl ?_ | refine W2 rfl rfl ?_ | (refine Qu ?_; (first | refine ZG (z := xb) rfl rfl rfl rfl rfl rfl rfl (by first | omega | (simp; omega)) (by first | omega | (simp; omega)) (fun _ => rfl) (fun _ _ => ?_) | refine QT 0 (htk) rfl rfl rfl rfl ?_ | refine QT 0 (hnm) rfl rfl rfl rfl ?_ | refine QT 0 (hblk) rfl rfl rfl rfl ?_ | refine s_co 0 (hargs) (by first | exact .id | exact .node rfl rfl rfl) rfl rfl rfl rfl (QW _) (fun _ _ => ?_))) | (refine QK ?_; (first | refine Ws rfl rfl rfl rfl ?_ | refine QD rfl rfl rfl rfl (by rfl) (by rfl) (by rfl) ?_)) | refine Qd rfl rfl ?_ | refine Qp rfl rfl ?_ | refine QQ rfl rfl ?_ | refine Qq (fun _ _ => ?_))) | (refine Qn ?_; (first | refine Ql ?_ | refine QN rfl ?_ | refine QJ ?_)) | (refine Qm ?_; (first | refine Qo ?_ | refine Qb ?_ | (refine WO ?_; first | (rename_i g2 hg2 gn hgn ga hga; refine Qz (fun p => p.1 :: .row g2 [.i 0, .i 0, .i 0, .nil] :: .row gn [.i 26, .i v, .i 0, .ref 3 ga 0 axs.length 4] :: p.2 :: []) 7 [(0, true), (1, true), (2, true), (3, false), (4, true), (5, false), (6, true), (7, false)] (by rfl) (by rfl) (by kernel_rfl) (by decide +kernel) (by decide +kernel) ⟨(_, _), rfl⟩ ?_) | (refine Qz (fun p => p.1 :: p.2 :: []) 100 [(0, true)] (by rfl) (by rfl) (by kernel_rfl) (by decide +kernel) (by decide +kernel) ⟨(_, _), rfl⟩ ?_) | refine Wn (by rfl) (by kernel_rfl) (by kernel_rfl) ?_ | refine Wm (by kernel_rfl) (by kernel_rfl) ?_) | refine Qx ?_)) | (refine W9 ?_; (first | refine ZO ?_ | refine i_z0 ?_ | refine i_st rfl rfl (fun _ => (by (repeat' first | (refine Qi ?_; (first | refine QM rfl ?_ | refine Qc rfl rfl rfl ?_ | refine Q0 (z := xb) rfl rfl (by decide) ?_ | refine Qd rfl rfl ?_)) | exact ⟨rfl, rfl⟩))) ?_ | refine i_ef rfl ?_)) | refine And.intro (Exists.intro ((_, _)) rfl) ?_)
 exact e_1 (Tryz.results61) (Qr (size := 4) rfl rfl rfl rfl) (Zj (D := fun d => .agg [.i 26, .i v, .i 0, d]) (k := 2) (.node rfl rfl rfl) rfl (by rw [We]; rfl) (by rw [QI]; rfl) rfl)
theorem eats_fun (L : ZC) (z : Nd) (q : Nat) : Eats L (qe L z q) := fun S hb => by
 have h1 : mM L (Q3 L wFun S) < mM L S := by
  have h := (mm_take (L := L) (S := S) wFun (by decide)).1
  have : rM L S < mM L S := by unfold rM mM; rw [hb]; simp
  omega
 have h2 : ∀ i, J i True (fun Q => (fun v : Int × RS => (fun a : List Nd × RS => (Nd.mk 26 v.1 0 (a.1 ++ [(Wl L (WF L (WB L z q) q q) q a.2).1]), (Wl L (WF L (WB L z q) q q) q a.2).2)) (WP L (WL L q) q v.2)) (QA L Q)) (fun Q => (fun v : Int × RS => (fun a : List Nd × RS => (Nd.mk 26 v.1 0 (a.1 ++ [(Wl L (WF L (WB L z q) q q) q a.2).1]), (Wl L (WF L (WB L z q) q q) q a.2).2)) (WP L (WL L q) q v.2)) (QA L Q)) := fun i => by
  refine (J.numeral (Ag.refl L i)).bind (K := fun v S => (Nd.mk 26 v 0 ((WP L (WL L q) q S).1 ++ [(Wl L (WF L (WB L z q) q q) q (WP L (WL L q) q S).2).1]), (Wl L (WF L (WB L z q) q q) q (WP L (WL L q) q S).2).2)) (K' := fun v S => (Nd.mk 26 v 0 ((WP L (WL L q) q S).1 ++ [(Wl L (WF L (WB L z q) q q) q (WP L (WL L q) q S).2).1]), (Wl L (WF L (WB L z q) q q) q (WP L (WL L q) q S).2).2)) fun v v' => ?_
  refine (J.arg (Ag.refl L i) (fun c => J.typed (Ag.refl L i) q c) q).bind (K := fun a S => (Nd.mk 26 v 0 (a ++ [(Wl L (WF L (WB L z q) q q) q S).1]), (Wl L (WF L (WB L z q) q q) q S).2)) (K' := fun a S => (Nd.mk 26 v' 0 (a ++ [(Wl L (WF L (WB L z q) q q) q S).1]), (Wl L (WF L (WB L z q) q q) q S).2)) fun a a' => ?_
  exact (jB (fun i c => jS (jX L z q) q q i c) q i _).map (u := fun x => Nd.mk 26 v 0 (a ++ [x])) (u' := fun x => Nd.mk 26 v' 0 (a' ++ [x])) fun x hc => by rw [hc.2, hc.1.2]
 exact Nat.lt_of_le_of_lt (jr h2 (Q3 L wFun S)).2 h1
end Go.Proofs
end
section
namespace Go.Proofs
open Go.Av Go.Bl
mutual
def QS : Nd -> Nat
 | .mk _ _ _ ks => QV ks + 1
def QV : List Nd -> Nat
 | [] => 0
 | x :: r => max (QS x) (QV r)
end
theorem depthL_app (a b : List Nd) : QV (a ++ b) = max (QV a) (QV b) := by
 induction a with
 | nil => simp [QV]
 | cons x r ih => rw [List.cons_append, QV, QV, ih]; omega
theorem depthL_take {ks : List Nd} {i : Nat} (h : i < ks.length) : QV (ks.take (i + 1)) = max (QV (ks.take i)) (QS ks[i]) := by
 rw [List.take_succ_eq_append_getElem h, depthL_app, QV, QV]; omega
theorem depth_size (t : Nd) : QS t <= Qs t := by
 induction t using Nd.ind with
 | h k n m ks ih =>
 rw [QS, Qs]
 have : ∀ ks : List Nd, (∀ x ∈ ks, QS x <= Qs x) -> QV ks <= QC ks := by
  intro ks
  induction ks with
  | nil => intro _; exact Nat.le_refl _
  | cons x r ihr =>
   intro h
   have h1 := h x (by simp)
   have h2 := ihr fun y hy => h y (by simp [hy])
   rw [QV, QC]; omega
 have := this ks ih
 omega
structure Sh where
 is : Int
 low : Int
 high : Int
 last : Int
 kids : List Int
 more : Int
 least : Int
 som : Int
def shapesL : List Sh := [⟨3, 0, 0, 0, [], 0, 0, 0⟩, ⟨3, 0, 0, 0, [], 0, 0, 0⟩, ⟨2, 1, 4, 0, [], 0, 0, 0⟩, ⟨2, 0, 0, 0, [], 3, 1, 3⟩,
 ⟨4, -8, 7, 0, [], 0, 0, 0⟩, ⟨4, 0, 1, 0, [], 0, 0, 0⟩, ⟨4, 0, 5, 0, [], 0, 0, 0⟩, ⟨4, 0, 5, 0, [4], 0, 0, 0⟩, ⟨4, 0, 5, 2, [], 0, 0, 0⟩, ⟨4, 0, 13, 0, [4, 4], 0, 0, 0⟩, ⟨4, 0, 0, 0, [4], 0, 0, 0⟩, ⟨4, 0, 5, 0, [], 3, 0, 4⟩, ⟨4, 0, 2, 0, [], 0, 0, 0⟩,
 ⟨6, 0, 0, 0, [], 8, 0, 5⟩, ⟨5, 0, 5, 0, [4], 0, 0, 0⟩, ⟨5, 0, 5, 0, [4, 4], 0, 0, 0⟩, ⟨5, 0, 5, 2, [4], 0, 0, 0⟩, ⟨5, 0, 0, 0, [4, 6, 6], 0, 0, 0⟩, ⟨5, 0, 0, 0, [4, 6], 0, 0, 0⟩, ⟨5, 0, 0, 0, [4], 0, 0, 0⟩, ⟨5, 0, 0, 0, [4], 0, 0, 0⟩, ⟨5, 0, 5, 0, [6, 6], 0, 0, 0⟩, ⟨5, 0, 2, 0, [4], 0, 0, 0⟩, ⟨5, 0, 5, 0, [], 3, 0, 4⟩, ⟨5, 0, 0, 0, [4], 0, 0, 0⟩, ⟨5, 0, 0, 0, [], 0, 0, 0⟩,
 ⟨1, 0, 3, 0, [], 0, 0, 0⟩, ⟨0, 0, 3, 0, [], 6, 1, 1⟩]
def isB (s : Sh) (w : Int) : Bool := (decide (s.is = w) || (decide (s.is = 3) && decide (w = 2))) || (decide (s.is = 6) && decide (w = 5))
def rngB (s : Sh) (n m : Int) : Bool := (decide (s.low <= n) && decide (n <= s.high)) && (decide (0 <= m) && decide (m <= s.last))
def cntB (s : Sh) (l : Nat) : Bool := decide (s.least <= (l : Int) - (s.kids.length : Int)) && decide ((l : Int) - (s.kids.length : Int) <= s.more)
def wantK (s : Sh) (i : Nat) : Int := if i < s.kids.length then s.kids.getD i 0 else s.som
def noF : Int -> Bool := fun _ => false
def allI (f : Nat -> Bool) (n : Nat) : Bool := (List.range n).all f
def kidsB (s : Sh) (fs : List (Int -> Bool)) : Bool := allI (fun i => fs.getD i noF (wantK s i)) fs.length
def funB (n : Int) (fs : List (Int -> Bool)) : Bool := ((decide (n <= (fs.length : Int) - 1) && decide ((fs.length : Int) - 1 <= 6)) && fs.getD (fs.length - 1) noF 6) && allI (fun i => fs.getD i noF (if (i : Int) < n then 3 else 2)) (fs.length - 1)
def noSh : Sh := ⟨0, 0, 0, 0, [], 0, 0, 0⟩
mutual
def Wr : Nd -> Int -> Bool
 | .mk k n m ks, w =>
  if 0 <= k /\ k < 28 then
   isB (shapesL.getD k.toNat noSh) w && rngB (shapesL.getD k.toNat noSh) n m && (if k = 26 then funB n (fitsF ks) else cntB (shapesL.getD k.toNat noSh) ks.length && kidsB (shapesL.getD k.toNat noSh) (fitsF ks))
  else false
def fitsF : List Nd -> List (Int -> Bool)
 | [] => []
 | x :: r => Wr x :: fitsF r
end
theorem fitsF_eq : ∀ ks, fitsF ks = ks.map Wr
 | [] => rfl
 | x :: r => by rw [fitsF, fitsF_eq r]; rfl
def qF (t : Nd) : Bool := decide (Qs t <= 256) && decide (QS t <= 16) && Wr t 0
theorem allI_iff {f : Nat -> Bool} {n : Nat} : allI f n = true ↔ ∀ i, i < n -> f i = true := by
 unfold allI
 rw [List.all_eq_true]
 simp
theorem Z5 (ks : List Nd) (f : Nd -> Int -> Bool) {i : Nat} (h : i < ks.length) : (ks.map f).getD i noF = f ks[i] := by
 rw [List.getD_eq_getElem?_getD, List.getElem?_map, List.getElem?_eq_getElem h]; rfl
end Go.Proofs
end
section
namespace Go.Proofs
open Go.Av
variable {G : Nat -> DV}
attribute [local irreducible] OpSem Zs ZH qa ACalls qP AClose RV
open Go.Bl
theorem s_max_as {P : Program} {G : Nat -> DV} {B : Nat} {f : Operand -> DV} {σ : List ABlk} {K : DV -> List ABlk -> Prop} {dst : Option Tmp} {type : TypeId} {pos : String} {after : Array Edge} {gd : Option (Nat × Bool)} {ts : Array TypeId} {x y : Operand} {k1 : IntKind} {a b c : Int} (hx : f x = .sc (.int k1 a)) (hy : f y = .sc (.int k1 b)) (hc : max a b = c) (k : K (.sc (.int k1 c)) σ) : OpSem P G B ⟨dst, .call ⟨.builtin .max, #[x, y], ts⟩, type, pos, after, gd⟩ f σ K := s_max hx hy (by rw [hc]; exact k)
theorem trSize_c (t : Nd) : Qs t <= 4000000 -> Go.Av.Pure Tryz.prog G 73 [.agg (Enc.enc t)] (.i (Qs t)) := by
 induction t using Nd.ind with
 | h k n m ks ih =>
 intro hsz B
 have hse : Qs (.mk k n m ks) = 1 + QC ks := by rw [Qs]
 rw [hse] at hsz ⊢
 have hln := Zn ks
 have hi : ∀ x ∈ ks, Go.Av.Pure Tryz.prog G 73 [.agg (Enc.enc x)] (.i (Qs x)) := fun x hx => ih x hx (by have := Wz hx; omega)
 clear ih
 rw [QI]
 refine Qa Tryz.func73 rfl Tryz.ntmps73 rfl (t := [(0, .agg [.i k, .i n, .i m, Q5 ks])]) rfl fun E hE => ?_
 (repeat' first | (refine Qi ?_; (first | refine QM rfl ?_ | refine QR rfl ?_ | refine Qc rfl rfl rfl ?_ | refine Q2 rfl ?_ | refine Qd rfl rfl ?_ | refine Wi rfl rfl (fun _ _ => ?_))) | (refine Qn ?_; (first | refine Ql ?_ | refine QN rfl ?_)) | (refine Qm ?_; (first | refine Qo ?_ | refine Qb ?_ | refine Qe ?_)))
 rename_i g1 hg1
 refine qm (fun (i : Nat) => ⟨[(1, .ptr 0 g1 0), (3, .i ((1 + QC (ks.take i) : Nat) : Int)), (7, Q5 ks), (8, .i ks.length), (9, .i i)], [.row g1 [.i k, .i n, .i m, Q5 ks]]⟩) (fun i => i <= ks.length) (fun i => ks.length - i) 0 ?_ (by omega) ?_
 ·exact zal rfl
 intro i hi2
 by_cases hj : i < ks.length
 ·have hi1 := hi _ (List.getElem_mem hj)
  have hsu := qx ks i hj
  have hle := WR ks i
  have hle2 := WR ks (i + 1)
  have e1 : ((1 + QC (ks.take (i + 1)) : Nat) : Int) = ((1 + QC (ks.take i) : Nat) : Int) + (Qs ks[i] : Int) := by omega
  clear hi
  (repeat' first | (refine Qi ?_; (first | refine QM rfl ?_ | refine QR rfl ?_ | (refine QO ?_; (first | refine W2 rfl rfl ?_ | refine Q4 rfl ?_)) | refine Q1 rfl rfl (by first | assumption | omega | (simp; done) | (simp; omega)) ?_ | (refine Qj ?_; (first | refine Q9 rfl rfl ?_ | refine Zh rfl rfl (by omega) ?_)) | refine W5 rfl rfl (hi1) ?_ | refine Ws rfl rfl rfl rfl ?_ | refine Qq (fun _ _ => ?_))) | (refine Qn ?_; (first | refine Ql ?_ | refine QN rfl ?_ | refine QJ ?_)) | (refine Qm ?_; (first | refine Qo ?_ | refine Qb ?_ | refine Qe ?_ | refine QB ?_ | refine Qh rfl (by omega) ?_)))
  refine ⟨i + 1, by omega, by omega, ?_⟩
  rw [e1]
  exact zal rfl
 ·have hj : i = ks.length := by omega
  subst hj
  rw [List.take_length]
  clear hi
  (repeat' first | (refine Qi ?_; (first | refine QM rfl ?_ | refine QR rfl ?_ | refine Q9 rfl rfl ?_)) | (refine Qn ?_; (first | refine Ql ?_ | refine QN rfl ?_)) | (refine Qm ?_; (first | refine Qo ?_ | refine Qb ?_ | refine Qg rfl (by omega) ?_ | refine WS rfl ?_ | refine Qx ?_)))
  exact e_1 (Tryz.results73) (QH rfl) (Za (σ := []) (r := [_]) ⟨rfl, rfl⟩)
theorem trDepth_c (t : Nd) : Qs t <= 4000000 -> Go.Av.Pure Tryz.prog G 74 [.agg (Enc.enc t)] (.i (QS t)) := by
 induction t using Nd.ind with
 | h k n m ks ih =>
 intro hsz B
 have hds := depth_size (.mk k n m ks)
 have hse : Qs (.mk k n m ks) = 1 + QC ks := by rw [Qs]
 have hde : QS (.mk k n m ks) = QV ks + 1 := by rw [QS]
 rw [hse] at hsz hds
 rw [hde] at hds ⊢
 have hln := Zn ks
 have hi : ∀ x ∈ ks, Go.Av.Pure Tryz.prog G 74 [.agg (Enc.enc x)] (.i (QS x)) := fun x hx => ih x hx (by have := Wz hx; omega)
 clear ih
 rw [QI]
 refine Qa Tryz.func74 rfl Tryz.ntmps74 rfl (t := [(0, .agg [.i k, .i n, .i m, Q5 ks])]) rfl fun E hE => ?_
 (repeat' first | (refine Qi ?_; (first | refine QM rfl ?_ | refine QR rfl ?_ | refine Qc rfl rfl rfl ?_ | refine Q2 rfl ?_ | refine Qd rfl rfl ?_ | refine Wi rfl rfl (fun _ _ => ?_))) | (refine Qn ?_; (first | refine Ql ?_ | refine QN rfl ?_)) | (refine Qm ?_; (first | refine Qo ?_ | refine Qb ?_ | refine Qe ?_)))
 rename_i g1 hg1
 refine qm (fun (i : Nat) => ⟨[(1, .ptr 0 g1 0), (3, .i ((QV (ks.take i) : Nat) : Int)), (7, Q5 ks), (8, .i ks.length), (9, .i i)], [.row g1 [.i k, .i n, .i m, Q5 ks]]⟩) (fun i => i <= ks.length) (fun i => ks.length - i) 0 ?_ (by omega) ?_
 ·exact zal rfl
 intro i hi2
 by_cases hj : i < ks.length
 ·have hi1 := hi _ (List.getElem_mem hj)
  have hsu := depthL_take hj
  have hmx : max ((QV (ks.take i) : Nat) : Int) ((QS ks[i] : Nat) : Int) = ((QV (ks.take (i + 1)) : Nat) : Int) := by rw [hsu]; omega
  clear hi hsu
  (repeat' first | (refine Qi ?_; (first | refine QM rfl ?_ | refine QR rfl ?_ | (refine QO ?_; (first | refine W2 rfl rfl ?_ | refine Q4 rfl ?_)) | refine Q1 rfl rfl (by first | assumption | omega | (simp; done) | (simp; omega)) ?_ | (refine Qj ?_; (first | refine Q9 rfl rfl ?_ | refine Zh rfl rfl (by omega) ?_)) | (refine Qu ?_; (first | refine s_max_as rfl rfl hmx ?_ | refine W5 rfl rfl (hi1) ?_)) | refine Ws rfl rfl rfl rfl ?_ | refine Qq (fun _ _ => ?_))) | (refine Qn ?_; (first | refine Ql ?_ | refine QN rfl ?_ | refine QJ ?_)) | (refine Qm ?_; (first | refine Qo ?_ | refine Qb ?_ | refine Qe ?_ | refine QB ?_ | refine Qh rfl (by omega) ?_)))
  refine ⟨i + 1, by omega, by omega, ?_⟩
  exact zal rfl
 ·have hj : i = ks.length := by omega
  subst hj
  rw [List.take_length]
  have e1 : ((QV ks + 1 : Nat) : Int) = (QV ks : Int) + 1 := by omega
  rw [e1]
  clear hi
  (repeat' first | (refine Qi ?_; (first | refine QM rfl ?_ | refine QR rfl ?_ | (refine Qj ?_; (first | refine Q9 rfl rfl ?_ | refine Zh rfl rfl (by omega) ?_)))) | (refine Qn ?_; (first | refine Ql ?_ | refine QN rfl ?_)) | (refine Qm ?_; (first | refine Qo ?_ | refine Qb ?_ | refine Qg rfl (by omega) ?_ | refine WS rfl ?_ | refine Qx ?_)))
  exact e_1 (Tryz.results74) (QH rfl) (Za (σ := []) (r := [_]) ⟨rfl, rfl⟩)
theorem s_sub_as {P : Program} {G : Nat -> DV} {B : Nat} {f : Operand -> DV} {σ : List ABlk} {K : DV -> List ABlk -> Prop} {dst : Option Tmp} {type : TypeId} {pos : String} {after : Array Edge} {gd : Option (Nat × Bool)} {t t' : TypeId} {x y : Operand} {a b c : Int} (hx : f x = .sc (.int .i64 a)) (hy : f y = .sc (.int .i64 b)) (hc : a - b = c) (h : -9223372036854775808 <= c /\ c <= 9223372036854775807)
  (k : K (.sc (.int .i64 c)) σ) : OpSem P G B ⟨dst, .binOp .sub t x y t', type, pos, after, gd⟩ f σ K :=
 Wt hx hy (by rw [hc]; exact h) (by rw [hc]; exact k)
theorem funFits_c (k n m : Int) (ks : List Nd) (hl : ks.length <= 1048576) (hn : 0 <= n /\ n <= 3) (hx : ∀ x ∈ ks, ∀ w, Go.Av.Pure Tryz.prog G 75 [.agg (Enc.enc x), .i w] (.b (Wr x w))) :
  Go.Av.Pure Tryz.prog G 123 [.agg [.i k, .i n, .i m, Q5 ks]] (.b (funB n (ks.map Wr))) := fun B => by
 have hml : (ks.map Wr).length = ks.length := List.length_map _
 by_cases h0 : ks.length = 0
 ·have hF : funB n (ks.map Wr) = false := by
   unfold funB
   rw [hml, decide_eq_false (by omega : ¬ n <= (ks.length : Int) - 1)]; rfl
  have hvs : (ks.length : Int) - 1 = -1 := by omega
  rw [hF]
  refine Qa Tryz.func123 rfl Tryz.ntmps123 rfl (t := [(0, .agg [.i k, .i n, .i m, Q5 ks])]) rfl fun E hE => ?_
  (repeat' first | (refine Qi ?_; (first | refine QM rfl ?_ | refine QR rfl ?_ | refine Qc rfl rfl rfl ?_ | (refine Qj ?_; (first | refine s_sub_as rfl rfl hvs ⟨by omega, by omega⟩ ?_ | refine Q9 rfl rfl ?_)) | refine Q2 rfl ?_ | refine W6 rfl rfl ?_ | refine Qd rfl rfl ?_ | refine Wi rfl rfl (fun _ _ => ?_))) | (refine Qn ?_; (first | refine Ql ?_ | refine QN rfl ?_ | refine Zd rfl rfl rfl rfl ?_ | refine Wg rfl rfl (by omega) ?_)) | (refine Qm ?_; (first | refine Qo ?_ | refine Qb ?_ | refine Qv rfl ?_ | refine Qx ?_)))
  exact e_1 (Tryz.results123) (QH rfl) (Za (σ := []) (r := [_]) ⟨rfl, rfl⟩)
 obtain ⟨v, hv⟩ : ∃ v : Nat, ks.length = v + 1 := ⟨ks.length - 1, by omega⟩
 have hvs : (ks.length : Int) - 1 = (v : Int) := by omega
 have hvk : v < ks.length := by omega
 have hfl : (ks.map Wr).getD v noF = Wr ks[v] := Z5 ks Wr hvk
 have hlast := hx _ (List.getElem_mem hvk) 6
 have hfun : funB n (ks.map Wr) = (((decide (n <= (v : Int)) && decide ((v : Int) <= 6)) && Wr ks[v] 6) && allI (fun i => (ks.map Wr).getD i noF (if (i : Int) < n then 3 else 2)) v) := by
  unfold funB
  rw [hml, hvs, show ks.length - 1 = v by omega, hfl]
 by_cases hc : n <= (v : Int) /\ (v : Int) <= 6
 case neg =>
  have hF : funB n (ks.map Wr) = false := by
   rw [hfun]
   rcases Classical.not_and_iff_not_or_not.1 hc with h | h
   ·rw [decide_eq_false h]; rfl
   ·rw [decide_eq_false h, Bool.and_false]; rfl
  rw [hF]
  refine Qa Tryz.func123 rfl Tryz.ntmps123 rfl (t := [(0, .agg [.i k, .i n, .i m, Q5 ks])]) rfl fun E hE => ?_
  (repeat' first | (refine Qi ?_; (first | refine QM rfl ?_ | refine QR rfl ?_ | refine Qc rfl rfl rfl ?_ | (refine Qj ?_; (first | refine s_sub_as rfl rfl hvs ⟨by omega, by omega⟩ ?_ | refine Q9 rfl rfl ?_ | refine ZV rfl rfl ?_)) | refine Q2 rfl ?_ | (refine Wh ?_; (first | refine W6 rfl rfl ?_ | refine WK rfl rfl ?_)) | refine Qd rfl rfl ?_ | refine Wi rfl rfl (fun _ _ => ?_))) | (refine Qn ?_; (first | refine Ql ?_ | refine QN rfl ?_ | refine WJ rfl rfl rfl rfl ?_ | refine Zd rfl rfl rfl rfl ?_ | refine Wg rfl rfl (by omega) ?_ | refine qO rfl rfl (fun _ => ?_) (fun _ => ?_))) | (refine Qm ?_; (first | refine Qo ?_ | refine Qb ?_ | refine Qv rfl ?_ | refine Qx ?_)))
  all_goals exact e_1 (Tryz.results123) (QH rfl) (Za (σ := []) (r := [_]) ⟨rfl, rfl⟩)
 cases hb : Wr ks[v] 6 with
 | false =>
  have hF : funB n (ks.map Wr) = false := by rw [hfun, hb]; simp
  rw [hF]
  rw [hb] at hlast
  refine Qa Tryz.func123 rfl Tryz.ntmps123 rfl (t := [(0, .agg [.i k, .i n, .i m, Q5 ks])]) rfl fun E hE => ?_
  (repeat' first | (refine Qi ?_; (first | refine QM rfl ?_ | refine QR rfl ?_ | (refine QO ?_; (first | refine Q4 rfl ?_ | refine Qc rfl rfl rfl ?_)) | refine Q1 rfl rfl (by first | assumption | omega | (simp; done) | (simp; omega)) ?_ | (refine Qj ?_; (first | refine s_sub_as rfl rfl hvs ⟨by omega, by omega⟩ ?_ | refine Q9 rfl rfl ?_ | refine ZV rfl rfl ?_)) | (refine Qu ?_; (first | refine Q2 rfl ?_ | refine W5 rfl rfl (hlast) ?_)) | refine WK rfl rfl ?_ | refine Zq rfl ?_ | refine Qd rfl rfl ?_ | refine Wi rfl rfl (fun _ _ => ?_))) | (refine Qn ?_; (first | refine Ql ?_ | refine QN rfl ?_ | refine WJ rfl rfl rfl rfl ?_ | refine QZ rfl rfl (by omega) ?_)) | (refine Qm ?_; (first | refine Qo ?_ | refine Qb ?_ | refine Qv rfl ?_ | refine Qx ?_)))
  all_goals exact e_1 (Tryz.results123) (QH rfl) (Za (σ := []) (r := [_]) ⟨rfl, rfl⟩)
 | true =>
  rw [hb] at hlast
  rw [hfun, hb, decide_eq_true hc.1, decide_eq_true hc.2, Bool.and_true, Bool.and_true, Bool.true_and]
  have hl2 : ∀ (i : Nat) (h : i < (ks.take v).length), ∀ w, Go.Av.Pure Tryz.prog G 75 [.agg (Enc.enc (ks.take v)[i]), .i w] (.b ((ks.map Wr).getD i noF w)) := fun i h w => by
   have hi : i < ks.length := by rw [List.length_take] at h; omega
   rw [Z5 ks Wr hi, List.getElem_take]
   exact hx _ (List.getElem_mem hi) w
  have htl : (ks.take v).length = v := by rw [List.length_take]; omega
  clear hx hfun hfl
  generalize (fun (i : Nat) (w : Int) => (ks.map Wr).getD i noF w) = ff at *
  refine Qa Tryz.func123 rfl Tryz.ntmps123 rfl (t := [(0, .agg [.i k, .i n, .i m, Q5 ks])]) rfl fun E hE => ?_
  (repeat' first | (refine Qi ?_; (first | refine QM rfl ?_ | refine QR rfl ?_ | (refine QO ?_; (first | refine Q4 rfl ?_ | refine Qc rfl rfl rfl ?_)) | refine Q1 rfl rfl (by first | assumption | omega | (simp; done) | (simp; omega)) ?_ | (refine Qj ?_; (first | refine s_sub_as rfl rfl hvs ⟨by omega, by omega⟩ ?_ | refine Q9 rfl rfl ?_ | refine ZV rfl rfl ?_)) | (refine Qu ?_; (first | refine Q2 rfl ?_ | refine W5 rfl rfl (hlast) ?_)) | refine WK rfl rfl ?_ | refine Zq rfl ?_ | refine Qd rfl rfl ?_ | refine s_slice_hn rfl rfl (by omega) ?_ | refine Wi rfl rfl (fun _ _ => ?_))) | (refine Qn ?_; (first | refine Ql ?_ | refine QN rfl ?_ | refine WJ rfl rfl rfl rfl ?_ | refine QZ rfl rfl (by omega) ?_)) | (refine Qm ?_; (first | refine Qo ?_ | refine Qb ?_ | refine Qe ?_ | refine QB ?_ | refine Qy rfl ?_)))
  rename_i g1 hg1
  generalize hfs : ks.map Wr = fs at *
  generalize hlt : ks.take v = l at *
  refine qm (fun (i : Nat) => ⟨[(1, .ptr 0 g1 0), (2, .b false), (31, Q5 l), (32, .i l.length), (33, .i i)], [.row g1 [.i k, .i n, .i m, Q5 ks]]⟩) (fun i => i <= v /\ ∀ j, j < i -> fs.getD j noF (if (j : Int) < n then 3 else 2) = true) (fun i => v - i) 0 ?_ ⟨by omega, fun j hj => by omega⟩ ?_
  ·exact zal rfl
  intro i ⟨hi, hall⟩
  by_cases hil : i < v
  ·by_cases hin : (i : Int) < n
   ·have hfi := hl2 i (by omega) 3
    cases hbi : fs.getD i noF 3 with
    | false =>
     have hA : allI (fun i => fs.getD i noF (if (i : Int) < n then 3 else 2)) v = false := by
      rw [Bool.eq_false_iff]
      intro h
      have := allI_iff.1 h i hil
      rw [if_pos hin, hbi] at this; cases this
     rw [hA]
     rw [hbi] at hfi
     clear hl2
     (repeat' first | (refine Qi ?_; (first | refine QM rfl ?_ | refine QR rfl ?_ | (refine QO ?_; (first | refine W2 rfl rfl ?_ | refine Q4 rfl ?_ | refine Qc rfl rfl rfl ?_)) | refine Q1 rfl rfl (by first | assumption | omega | (simp; done) | (simp; omega)) ?_ | refine Q9 rfl rfl ?_ | refine W5 rfl rfl (hfi) ?_ | refine Ws rfl rfl rfl rfl ?_ | refine Zq rfl ?_ | refine Qd rfl rfl ?_ | refine Qq (fun _ _ => ?_))) | (refine Qn ?_; (first | refine Ql ?_ | refine QN rfl ?_ | refine QJ ?_)) | (refine Qm ?_; (first | refine Qo ?_ | refine Qb ?_ | refine Qe ?_ | refine QB ?_ | refine Qv rfl ?_ | refine Qh rfl (by omega) ?_ | refine Qx ?_)))
     all_goals exact e_1 (Tryz.results123) (QH rfl) (Za (σ := []) ⟨rfl, rfl⟩)
    | true =>
     rw [hbi] at hfi
     clear hl2
     (repeat' first | (refine Qi ?_; (first | refine QM rfl ?_ | refine QR rfl ?_ | (refine QO ?_; (first | refine W2 rfl rfl ?_ | refine Q4 rfl ?_ | refine Qc rfl rfl rfl ?_)) | refine Q1 rfl rfl (by first | assumption | omega | (simp; done) | (simp; omega)) ?_ | (refine Qj ?_; (first | refine Q9 rfl rfl ?_ | refine Zh rfl rfl (by omega) ?_)) | refine W5 rfl rfl (hfi) ?_ | refine Ws rfl rfl rfl rfl ?_ | refine Zq rfl ?_ | refine Qd rfl rfl ?_ | refine Qq (fun _ _ => ?_))) | (refine Qn ?_; (first | refine Ql ?_ | refine QN rfl ?_ | refine QJ ?_)) | (refine Qm ?_; (first | refine Qo ?_ | refine Qb ?_ | refine Qe ?_ | refine QB ?_ | refine Qy rfl ?_ | refine Qh rfl (by omega) ?_)))
     refine ⟨i + 1, ⟨by omega, fun j hj => ?_⟩, by omega, ?_⟩
     ·rcases Nat.lt_or_ge j i with h | h
      ·exact hall j h
      ·have : j = i := by omega
       subst this; rw [if_pos hin]; exact hbi
     ·exact zal rfl
   ·have hfi := hl2 i (by omega) 2
    cases hbi : fs.getD i noF 2 with
    | false =>
     have hA : allI (fun i => fs.getD i noF (if (i : Int) < n then 3 else 2)) v = false := by
      rw [Bool.eq_false_iff]
      intro h
      have := allI_iff.1 h i hil
      rw [if_neg hin, hbi] at this; cases this
     rw [hA]
     rw [hbi] at hfi
     clear hl2
     (repeat' first | (refine Qi ?_; (first | refine QM rfl ?_ | refine QR rfl ?_ | (refine QO ?_; (first | refine W2 rfl rfl ?_ | refine Q4 rfl ?_ | refine Qc rfl rfl rfl ?_)) | refine Q1 rfl rfl (by first | assumption | omega | (simp; done) | (simp; omega)) ?_ | refine Q9 rfl rfl ?_ | refine W5 rfl rfl (hfi) ?_ | refine Ws rfl rfl rfl rfl ?_ | refine Zq rfl ?_ | refine Qd rfl rfl ?_ | refine Qq (fun _ _ => ?_))) | (refine Qn ?_; (first | refine Ql ?_ | refine QN rfl ?_ | refine QJ ?_)) | (refine Qm ?_; (first | refine Qo ?_ | refine Qb ?_ | refine Qe ?_ | refine QB ?_ | refine Qv rfl ?_ | refine Qh rfl (by omega) ?_ | refine Qg rfl (by omega) ?_ | refine Qx ?_)))
     all_goals exact e_1 (Tryz.results123) (QH rfl) (Za (σ := []) ⟨rfl, rfl⟩)
    | true =>
     rw [hbi] at hfi
     clear hl2
     (repeat' first | (refine Qi ?_; (first | refine QM rfl ?_ | refine QR rfl ?_ | (refine QO ?_; (first | refine W2 rfl rfl ?_ | refine Q4 rfl ?_ | refine Qc rfl rfl rfl ?_)) | refine Q1 rfl rfl (by first | assumption | omega | (simp; done) | (simp; omega)) ?_ | (refine Qj ?_; (first | refine Q9 rfl rfl ?_ | refine Zh rfl rfl (by omega) ?_)) | refine W5 rfl rfl (hfi) ?_ | refine Ws rfl rfl rfl rfl ?_ | refine Zq rfl ?_ | refine Qd rfl rfl ?_ | refine Qq (fun _ _ => ?_))) | (refine Qn ?_; (first | refine Ql ?_ | refine QN rfl ?_ | refine QJ ?_)) | (refine Qm ?_; (first | refine Qo ?_ | refine Qb ?_ | refine Qe ?_ | refine QB ?_ | refine Qy rfl ?_ | refine Qh rfl (by omega) ?_ | refine Qg rfl (by omega) ?_)))
     refine ⟨i + 1, ⟨by omega, fun j hj => ?_⟩, by omega, ?_⟩
     ·rcases Nat.lt_or_ge j i with h | h
      ·exact hall j h
      ·have : j = i := by omega
       subst this; rw [if_neg hin]; exact hbi
     ·exact zal rfl
  ·have hiv : i = v := by omega
   subst hiv
   have hA : allI (fun j => fs.getD j noF (if (j : Int) < n then 3 else 2)) i = true := allI_iff.2 hall
   rw [hA]
   clear hl2
   (repeat' first | (refine Qi ?_; (first | refine QR rfl ?_ | refine Q9 rfl rfl ?_)) | (refine Qn ?_; (first | refine Ql ?_ | refine QN rfl ?_)) | (refine Qm ?_; (first | refine Qo ?_ | refine Qb ?_ | refine Qg rfl (by omega) ?_ | refine WS rfl ?_ | refine Qx ?_)))
   exact e_1 (Tryz.results123) (QH rfl) (Za (σ := []) (r := [_]) ⟨rfl, rfl⟩)
end Go.Proofs
end
