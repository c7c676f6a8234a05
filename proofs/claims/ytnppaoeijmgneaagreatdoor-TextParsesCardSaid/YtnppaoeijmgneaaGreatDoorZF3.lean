/-
  Part 3 of the proof: PX R7 R8 R6 RE R9 PZ RA VM V0 V1 V2 LX RB RC EL TS T8.
-/
import Derived.Test.YtnppaoeijmgneaaGreatDoorZF1
import Derived.Test.YtnppaoeijmgneaaGreatDoorZF2
set_option linter.unusedSimpArgs false
set_option linter.unusedVariables false
set_option maxRecDepth 10000
set_option maxHeartbeats 4000000
section
namespace Go.Proofs
open Go.Av Go.Bl
section
variable {α β : Type} {i : Nat} {c : Prop}
def JT (i : Nat) (T T' : RS -> RS) : Prop := ∀ S, S.p <= (T S).p /\ (S.bad = true -> (T S).bad = true) /\ ((T S).p <= i -> T' S = T S)
def J (i : Nat) (c : Prop) (F F' : RS -> α × RS) : Prop := ∀ S, S.p <= (F S).2.p /\ (S.bad = true -> (F S).2.bad = true) /\ ((F S).2.p <= i -> (F' S).2 = (F S).2 /\ (c -> (F S).2.bad = false -> (F' S).1 = (F S).1))
theorem J.pre {T T' : RS -> RS} {F F' : RS -> α × RS} (hT : JT i T T') (h : J i c F F') : J i c (fun S => F (T S)) (fun S => F' (T' S)) := fun S => by
 obtain ⟨a1, a2, a3⟩ := hT S
 obtain ⟨b1, b2, b3⟩ := h (T S)
 refine ⟨Nat.le_trans a1 b1, fun hb => b2 (a2 hb), fun hp => ?_⟩
 show (F' (T' S)).2 = (F (T S)).2 /\ (c -> (F (T S)).2.bad = false -> (F' (T' S)).1 = (F (T S)).1)
 rw [a3 (Nat.le_trans b1 hp)]
 exact b3 hp
theorem J.bind {F F' : RS -> α × RS} {K K' : α -> RS -> β × RS} (h : J i c F F') (hk : ∀ a a', J i (c /\ a' = a) (K a) (K' a')) : J i c (fun S => K (F S).1 (F S).2) (fun S => K' (F' S).1 (F' S).2) := fun S => by
 obtain ⟨a1, a2, a3⟩ := h S
 obtain ⟨b1, b2, b3⟩ := hk (F S).1 (F' S).1 (F S).2
 refine ⟨Nat.le_trans a1 b1, fun hb => b2 (a2 hb), fun hp => ?_⟩
 obtain ⟨e1, e2⟩ := a3 (Nat.le_trans b1 hp)
 obtain ⟨f1, f2⟩ := b3 hp
 show (K' (F' S).1 (F' S).2).2 = (K (F S).1 (F S).2).2 /\ (c -> (K (F S).1 (F S).2).2.bad = false -> (K' (F' S).1 (F' S).2).1 = (K (F S).1 (F S).2).1)
 rw [e1]
 refine ⟨f1, fun hc hb => f2 ⟨hc, e2 hc ?_⟩ hb⟩
 cases hbb : (F S).2.bad with
 | false => rfl
 | true => rw [b2 hbb] at hb;cases hb
theorem J.ite {P P' : RS -> Prop} [DecidablePred P] [DecidablePred P'] {F F' H H' : RS -> α × RS} (hP : ∀ S, S.p <= i -> (P' S ↔ P S)) (h1 : J i c F F') (h2 : J i c H H') : J i c (fun S => if P S then F S else H S) (fun S => if P' S then F' S else H' S) := fun S => by
 obtain ⟨a1, a2, a3⟩ := h1 S
 obtain ⟨b1, b2, b3⟩ := h2 S
 by_cases hp : P S
 ·simp only [if_pos hp]
  refine ⟨a1, a2, fun h => ?_⟩
  rw [if_pos ((hP S (Nat.le_trans a1 h)).2 hp)]
  exact a3 h
 ·simp only [if_neg hp]
  refine ⟨b1, b2, fun h => ?_⟩
  rw [if_neg fun h' => hp ((hP S (Nat.le_trans b1 h)).1 h')]
  exact b3 h
theorem J.val {T T' : RS -> RS} {a a' : α} (hT : JT i T T') (h : c -> a' = a) : J i c (fun S => (a, T S)) (fun S => (a', T' S)) := fun S => by
 obtain ⟨a1, a2, a3⟩ := hT S
 exact ⟨a1, a2, fun hp => ⟨a3 hp, fun hc _ => h hc⟩⟩
theorem JT.id : JT i (fun S => S) (fun S => S) := fun S => ⟨Nat.le_refl _, fun h => h, fun _ => rfl⟩
theorem J.fail {F F' : RS -> α × RS} (h : ∀ S, S.p <= (F S).2.p /\ (F S).2.bad = true /\ ((F S).2.p <= i -> (F' S).2 = (F S).2)) : J i c F F' := fun S => by
 obtain ⟨a1, a2, a3⟩ := h S
 exact ⟨a1, fun _ => a2, fun hp => ⟨a3 hp, fun _ hb => by rw [a2] at hb;cases hb⟩⟩
theorem J.post {T T' : RS -> RS} {F F' : RS -> α × RS} (hT : JT i T T') (h : J i c F F') : J i c (fun S => ((F S).1, T (F S).2)) (fun S => ((F' S).1, T' (F' S).2)) :=
 h.bind (K := fun a S => (a, T S)) (K' := fun a S => (a, T' S)) fun a a' => J.val hT fun hc => hc.2
theorem J.map {F F' : RS -> α × RS} {u u' : α -> β} (h : J i c F F') (hu : ∀ a, c -> u' a = u a) : J i c (fun S => (u (F S).1, (F S).2)) (fun S => (u' (F' S).1, (F' S).2)) :=
 h.bind (K := fun a S => (u a, S)) (K' := fun a S => (u' a, S)) fun a a' => J.val JT.id fun hc => by rw [hc.2];exact hu a hc.1
theorem J.weak {c' : Prop} {F F' : RS -> α × RS} (h : J i c F F') (hc : c' -> c) : J i c' F F' := fun S => by
 obtain ⟨a1, a2, a3⟩ := h S
 exact ⟨a1, a2, fun hp => ⟨(a3 hp).1, fun h' => (a3 hp).2 (hc h')⟩⟩
end
structure Ag (L L' : W7) (i : Nat) : Prop where
 tok : ∀ j, j <= i -> (L'.getD j ([], 0)).1 = (L.getD j ([], 0)).1
 len : ∀ j, j <= i -> (j < L'.length ↔ j < L.length)
theorem Ag.refl (L : W7) (i : Nat) : Ag L L i := ⟨fun _ _ => rfl, fun _ _ => Iff.rfl⟩
section
variable {L L' : W7} {i : Nat} {c : Prop} {z z' : Nd}
theorem Ag.now (h : Ag L L' i) {S : RS} (hp : S.p <= i) : QH L' S = QH L S := by unfold QH;rw [h.tok _ hp]
theorem JT.next : JT i Qi Qi := fun S => ⟨Nat.le_succ _, fun h => h, fun _ => rfl⟩
theorem JT.fail : JT i WJ WJ := fun S => ⟨Nat.le_refl _, fun h => rfl, fun _ => rfl⟩
theorem JT.take (h : Ag L L' i) (s : List UInt8) : JT i (QC L s) (QC L' s) := fun S => by
 unfold QC
 by_cases hn : QH L S = s
 ·simp only [if_pos hn]
  refine ⟨Nat.le_succ _, fun h => h, fun hp => ?_⟩
  rw [h.now (Nat.le_trans (Nat.le_succ _) hp), if_pos hn]
 ·simp only [if_neg hn]
  refine ⟨Nat.le_refl _, fun h => rfl, fun hp => ?_⟩
  rw [h.now (S := S) hp, if_neg hn]
theorem J.numeral (h : Ag L L' i) : J i c (Qh L) (Qh L') := by
 refine J.ite (P := fun S => qx (QH L S) = true) (P' := fun S => qx (QH L' S) = true) (F := fun S => (valM (QH L S), Qi S)) (F' := fun S => (valM (QH L' S), Qi S)) (H := fun S => (0, WJ S)) (H' := fun S => (0, WJ S)) (fun S hp => by rw [h.now hp]) (fun S => ?_) (J.val JT.fail fun _ => rfl)
 refine ⟨Nat.le_succ _, fun h => h, fun hp => ⟨rfl, fun _ _ => ?_⟩⟩
 show valM (QH L' S) = valM (QH L S)
 rw [h.now (Nat.le_trans (Nat.le_succ _) hp)]
theorem Ag.is (h : Ag L L' i) {S : RS} (hp : S.p <= i) (x : UInt8) : isM L' x S = isM L x S := by unfold isM;rw [h.now hp]
theorem J.numbered (h : Ag L L' i) (x : UInt8) : J i c (Qf L x) (Qf L' x) := by
 refine J.ite (P := fun S => isM L x S = true) (P' := fun S => isM L' x S = true) (F := fun S => (valM ((QH L S).drop 1), Qi S)) (F' := fun S => (valM ((QH L' S).drop 1), Qi S)) (H := fun S => (0, WJ S)) (H' := fun S => (0, WJ S)) (fun S hp => by rw [h.is hp]) (fun S => ?_) (J.val JT.fail fun _ => rfl)
 refine ⟨Nat.le_succ _, fun h => h, fun hp => ⟨rfl, fun _ _ => ?_⟩⟩
 show valM ((QH L' S).drop 1) = valM ((QH L S).drop 1)
 rw [h.now (Nat.le_trans (Nat.le_succ _) hp)]
theorem Ag.nowIff (h : Ag L L' i) (s : List UInt8) : ∀ S : RS, S.p <= i -> (QH L' S = s ↔ QH L S = s) := fun S hp => by rw [h.now hp]
theorem J.loop (h : Ag L L' i) {E E' : Rd1} (hE : ∀ c, J i c E E') : ∀ (k : Nat) (c : Prop) (o o' : List Nd), (c -> o' = o) -> J i c (QJ L E k o) (QJ L' E' k o')
 | 0, c, o, o', ho => J.val (a := o) (a' := o') JT.id ho
 | k + 1, c, o, o', ho => by
  refine J.ite (P := fun S => QH L S = [44]) (P' := fun S => QH L' S = [44]) (F := fun S => QJ L E k (o ++ [(E (Qi S)).1]) (E (Qi S)).2) (F' := fun S => QJ L' E' k (o' ++ [(E' (Qi S)).1]) (E' (Qi S)).2) (H := fun S => (o, S)) (H' := fun S => (o', S)) (h.nowIff _) ?_ (J.val JT.id ho)
  refine J.pre (F := fun S => QJ L E k (o ++ [(E S).1]) (E S).2) (F' := fun S => QJ L' E' k (o' ++ [(E' S).1]) (E' S).2) JT.next ?_
  exact (hE c).bind (K := fun a S => QJ L E k (o ++ [a]) S) (K' := fun a S => QJ L' E' k (o' ++ [a]) S) fun a a' => J.loop h hE k _ _ _ fun hc => by rw [ho hc.1, hc.2]
theorem J.lst (h : Ag L L' i) {E E' : Rd1} (hE : ∀ c, J i c E E') (k : Nat) : J i c (ZM L E k) (ZM L' E' k) :=
 (hE c).bind (K := fun a S => ((QJ L E k [a] S).1, QC L [41] (QJ L E k [a] S).2)) (K' := fun a S => ((QJ L' E' k [a] S).1, QC L' [41] (QJ L' E' k [a] S).2)) fun a a' => J.post (JT.take h _) (J.loop h hE k _ _ _ fun hc => by rw [hc.2])
theorem J.arg (h : Ag L L' i) {E E' : Rd1} (hE : ∀ c, J i c E E') (k : Nat) : J i c (Wv L E k) (Wv L' E' k) := by
 refine J.pre (F := fun S => if QH L S = [41] then ([], Qi S) else ZM L E k S) (F' := fun S => if QH L' S = [41] then ([], Qi S) else ZM L' E' k S) (JT.take h [40]) ?_
 exact J.ite (P := fun S => QH L S = [41]) (P' := fun S => QH L' S = [41]) (F := fun S => ([], Qi S)) (F' := fun S => ([], Qi S)) (h.nowIff _) (J.val JT.next fun _ => rfl) (J.lst h hE k)
theorem J.vtail (h : Ag L L' i) {E E' : Rd1} (hE : ∀ c, J i c E E') (a a' : Int) : J i (c /\ a' = a) (qP L E a) (qP L' E' a') := by
 refine J.ite (P := fun S => QH L S = [91]) (P' := fun S => QH L' S = [91]) (F := fun S => (Nd.mk 7 a 0 [(E (Qi S)).1], QC L [93] (E (Qi S)).2)) (F' := fun S => (Nd.mk 7 a' 0 [(E' (Qi S)).1], QC L' [93] (E' (Qi S)).2)) (h.nowIff _) ?_ ?_
 ·refine J.pre (F := fun S => (Nd.mk 7 a 0 [(E S).1], QC L [93] (E S).2)) (F' := fun S => (Nd.mk 7 a' 0 [(E' S).1], QC L' [93] (E' S).2)) JT.next ?_
  exact (hE _).bind (K := fun x S => (Nd.mk 7 a 0 [x], QC L [93] S)) (K' := fun x S => (Nd.mk 7 a' 0 [x], QC L' [93] S)) fun x x' => J.val (JT.take h _) fun hc => by rw [hc.2, hc.1.2]
 ·refine J.ite (P := fun S => QH L S = [46]) (P' := fun S => QH L' S = [46]) (F := fun S => (Nd.mk 8 a (Qh L (Qi S)).1 [], (Qh L (Qi S)).2)) (F' := fun S => (Nd.mk 8 a' (Qh L' (Qi S)).1 [], (Qh L' (Qi S)).2)) (H := fun S => (Nd.mk 6 a 0 [], S)) (H' := fun S => (Nd.mk 6 a' 0 [], S)) (h.nowIff _) ?_ (J.val JT.id fun hc => by rw [hc.2])
  refine J.pre (F := fun S => (Nd.mk 8 a (Qh L S).1 [], (Qh L S).2)) (F' := fun S => (Nd.mk 8 a' (Qh L' S).1 [], (Qh L' S).2)) JT.next ?_
  exact (J.numeral h).map (u := fun x => Nd.mk 8 a x []) (u' := fun x => Nd.mk 8 a' x []) fun x hc => by rw [hc.2]
theorem J.variable (h : Ag L L' i) {E E' : Rd1} (hE : ∀ c, J i c E E') : J i c (QX L E) (QX L' E') :=
 (J.numbered h 118).bind (K := fun a S => qP L E a S) (K' := fun a S => qP L' E' a S) fun a a' => J.vtail h hE a a'
theorem J.binary (h : Ag L L' i) {E E' : Rd1} (hE : ∀ c, J i c E E') : J i c (Z0 L E) (Z0 L' E') := by
 refine (hE c).bind (K := fun a S => if qF (QH L S) < 0 then (zNd, WJ S) else (Nd.mk 9 (qF (QH L S)) 0 [a, (E (Qi S)).1], QC L [41] (E (Qi S)).2)) (K' := fun a S => if qF (QH L' S) < 0 then (zNd, WJ S) else (Nd.mk 9 (qF (QH L' S)) 0 [a, (E' (Qi S)).1], QC L' [41] (E' (Qi S)).2)) fun a a' => ?_
 refine J.ite (P := fun S => qF (QH L S) < 0) (P' := fun S => qF (QH L' S) < 0) (F := fun S => (zNd, WJ S)) (F' := fun S => (zNd, WJ S)) (fun S hp => by rw [h.now hp]) (J.val JT.fail fun _ => rfl) fun S => ?_
 have hb : ∀ c x x', (c -> x' = x) -> J i c (fun S => (Nd.mk 9 x 0 [a, (E S).1], QC L [41] (E S).2)) (fun S => (Nd.mk 9 x' 0 [a', (E' S).1], QC L' [41] (E' S).2)) -> True := fun _ _ _ _ _ => trivial
 have key : ∀ x, J i (c /\ a' = a) (fun S => (Nd.mk 9 x 0 [a, (E S).1], QC L [41] (E S).2)) (fun S => (Nd.mk 9 x 0 [a', (E' S).1], QC L' [41] (E' S).2)) := fun x =>
  (hE _).bind (K := fun y S => (Nd.mk 9 x 0 [a, y], QC L [41] S)) (K' := fun y S => (Nd.mk 9 x 0 [a', y], QC L' [41] S)) fun y y' => J.val (JT.take h _) fun hc => by rw [hc.2, hc.1.2]
 obtain ⟨a1, a2, a3⟩ := key (qF (QH L S)) (Qi S)
 refine ⟨Nat.le_trans (Nat.le_succ _) a1, a2, fun hp => ?_⟩
 have := a3 hp
 show (Nd.mk 9 (qF (QH L' S)) 0 [a', (E' (Qi S)).1], QC L' [41] (E' (Qi S)).2).2 = _ /\ (_ -> _ -> (Nd.mk 9 (qF (QH L' S)) 0 [a', (E' (Qi S)).1], QC L' [41] (E' (Qi S)).2).1 = _)
 rw [h.now (Nat.le_trans (Nat.le_trans (Nat.le_succ _) a1) hp)]
 exact this
theorem J.node1 {E E' : Rd1} (k : Int) (hE : ∀ c, J i c E E') : J i c (fun S => (Nd.mk k 0 0 [(E S).1], (E S).2)) (fun S => (Nd.mk k 0 0 [(E' S).1], (E' S).2)) := (hE c).map (u := fun x => Nd.mk k 0 0 [x]) (u' := fun x => Nd.mk k 0 0 [x]) fun _ _ => rfl
theorem J.expr (h : Ag L L' i) : ∀ (n : Nat) (c : Prop), J i c (Wm L z n) (Wm L' z' n)
 | 0, c => J.val (a := zNd) (a' := zNd) JT.fail fun _ => rfl
 | n + 1, c => by
  have hE := J.expr h n
  refine J.ite (P := fun S => qx (QH L S) = true) (P' := fun S => qx (QH L' S) = true) (F := fun S => (Nd.mk 4 (Qh L S).1 0 [], (Qh L S).2)) (F' := fun S => (Nd.mk 4 (Qh L' S).1 0 [], (Qh L' S).2)) (fun S hp => by rw [h.now hp]) ((J.numeral h).map (u := fun x => Nd.mk 4 x 0 []) (u' := fun x => Nd.mk 4 x 0 []) fun _ _ => rfl) ?_
  refine J.ite (P := fun S => isM L 118 S = true) (P' := fun S => isM L' 118 S = true) (F := QX L (Wm L z n)) (F' := QX L' (Wm L' z' n)) (fun S hp => by rw [h.is hp]) (J.variable h hE) ?_
  refine J.ite (P := fun S => isM L 102 S = true) (P' := fun S => isM L' 102 S = true) (F := fun S => (Nd.mk 11 (Qf L 102 S).1 0 (Wv L (Wm L z n) n (Qf L 102 S).2).1, (Wv L (Wm L z n) n (Qf L 102 S).2).2)) (F' := fun S => (Nd.mk 11 (Qf L' 102 S).1 0 (Wv L' (Wm L' z' n) n (Qf L' 102 S).2).1, (Wv L' (Wm L' z' n) n (Qf L' 102 S).2).2)) (fun S hp => by rw [h.is hp]) ?_ ?_
  ·refine (J.numbered h 102).bind (K := fun a S => (Nd.mk 11 a 0 (Wv L (Wm L z n) n S).1, (Wv L (Wm L z n) n S).2)) (K' := fun a S => (Nd.mk 11 a 0 (Wv L' (Wm L' z' n) n S).1, (Wv L' (Wm L' z' n) n S).2)) fun a a' => ?_
   exact (J.arg h hE n).map (u := fun x => Nd.mk 11 a 0 x) (u' := fun x => Nd.mk 11 a' 0 x) fun x hc => by rw [hc.2]
  refine J.ite (P := fun S => QH L S = [45]) (P' := fun S => QH L' S = [45]) (F := fun S => if QH L (Qi S) = [48] then (z, WJ (Qi S)) else (Nd.mk 4 (-(Qh L (Qi S)).1) 0 [], (Qh L (Qi S)).2)) (F' := fun S => if QH L' (Qi S) = [48] then (z', WJ (Qi S)) else (Nd.mk 4 (-(Qh L' (Qi S)).1) 0 [], (Qh L' (Qi S)).2)) (h.nowIff _) ?_ ?_
  ·refine J.pre (F := fun S => if QH L S = [48] then (z, WJ S) else (Nd.mk 4 (-(Qh L S).1) 0 [], (Qh L S).2)) (F' := fun S => if QH L' S = [48] then (z', WJ S) else (Nd.mk 4 (-(Qh L' S).1) 0 [], (Qh L' S).2)) JT.next ?_
   refine J.ite (P := fun S => QH L S = [48]) (P' := fun S => QH L' S = [48]) (F := fun S => (z, WJ S)) (F' := fun S => (z', WJ S)) (h.nowIff _) (J.fail fun S => ⟨Nat.le_refl _, rfl, fun _ => rfl⟩) ?_
   exact (J.numeral h).map (u := fun x => Nd.mk 4 (-x) 0 []) (u' := fun x => Nd.mk 4 (-x) 0 []) fun _ _ => rfl
  refine J.ite (P := fun S => QH L S = wTrue) (P' := fun S => QH L' S = wTrue) (F := fun S => (Nd.mk 5 1 0 [], Qi S)) (F' := fun S => (Nd.mk 5 1 0 [], Qi S)) (h.nowIff _) (J.val JT.next fun _ => rfl) ?_
  refine J.ite (P := fun S => QH L S = wFalse) (P' := fun S => QH L' S = wFalse) (F := fun S => (Nd.mk 5 0 0 [], Qi S)) (F' := fun S => (Nd.mk 5 0 0 [], Qi S)) (h.nowIff _) (J.val JT.next fun _ => rfl) ?_
  refine J.ite (P := fun S => QH L S = [40]) (P' := fun S => QH L' S = [40]) (F := fun S => Z0 L (Wm L z n) (Qi S)) (F' := fun S => Z0 L' (Wm L' z' n) (Qi S)) (h.nowIff _) (J.pre JT.next (J.binary h hE)) ?_
  refine J.ite (P := fun S => QH L S = [33]) (P' := fun S => QH L' S = [33]) (F := fun S => (Nd.mk 10 0 0 [(Wm L z n (Qi S)).1], (Wm L z n (Qi S)).2)) (F' := fun S => (Nd.mk 10 0 0 [(Wm L' z' n (Qi S)).1], (Wm L' z' n (Qi S)).2)) (h.nowIff _) (J.pre (F := fun S => (Nd.mk 10 0 0 [(Wm L z n S).1], (Wm L z n S).2)) (F' := fun S => (Nd.mk 10 0 0 [(Wm L' z' n S).1], (Wm L' z' n S).2)) JT.next (J.node1 10 hE)) ?_
  refine J.ite (P := fun S => QH L S = wRecv) (P' := fun S => QH L' S = wRecv) (F := fun S => (Nd.mk 12 (Qf L 99 (Qi S)).1 0 [], (Qf L 99 (Qi S)).2)) (F' := fun S => (Nd.mk 12 (Qf L' 99 (Qi S)).1 0 [], (Qf L' 99 (Qi S)).2)) (H := fun S => (zNd, WJ S)) (H' := fun S => (zNd, WJ S)) (h.nowIff _) ?_ (J.val JT.fail fun _ => rfl)
  exact J.pre (F := fun S => (Nd.mk 12 (Qf L 99 S).1 0 [], (Qf L 99 S).2)) (F' := fun S => (Nd.mk 12 (Qf L' 99 S).1 0 [], (Qf L' 99 S).2)) JT.next ((J.numbered h 99).map (u := fun x => Nd.mk 12 x 0 []) (u' := fun x => Nd.mk 12 x 0 []) fun _ _ => rfl)
theorem J.typed (h : Ag L L' i) : ∀ (n : Nat) (c : Prop), J i c (QY L n) (QY L' n)
 | 0, c => J.val (a := zNd) (a' := zNd) JT.fail fun _ => rfl
 | n + 1, c => by
  have hE := J.typed h n
  refine J.ite (P := fun S => QH L S = wInt) (P' := fun S => QH L' S = wInt) (F := fun S => (Nd.mk 0 0 0 [], Qi S)) (F' := fun S => (Nd.mk 0 0 0 [], Qi S)) (h.nowIff _) (J.val JT.next fun _ => rfl) ?_
  refine J.ite (P := fun S => QH L S = wBool) (P' := fun S => QH L' S = wBool) (F := fun S => (Nd.mk 1 0 0 [], Qi S)) (F' := fun S => (Nd.mk 1 0 0 [], Qi S)) (h.nowIff _) (J.val JT.next fun _ => rfl) ?_
  refine J.ite (P := fun S => QH L S = wArr) (P' := fun S => QH L' S = wArr) (F := fun S => (Nd.mk 2 (Qh L (Qi S)).1 0 [], (Qh L (Qi S)).2)) (F' := fun S => (Nd.mk 2 (Qh L' (Qi S)).1 0 [], (Qh L' (Qi S)).2)) (h.nowIff _) ?_ ?_
  ·exact J.pre (F := fun S => (Nd.mk 2 (Qh L S).1 0 [], (Qh L S).2)) (F' := fun S => (Nd.mk 2 (Qh L' S).1 0 [], (Qh L' S).2)) JT.next ((J.numeral h).map (u := fun x => Nd.mk 2 x 0 []) (u' := fun x => Nd.mk 2 x 0 []) fun _ _ => rfl)
  refine J.ite (P := fun S => QH L S = wRec) (P' := fun S => QH L' S = wRec) (F := fun S => (Nd.mk 3 0 0 (ZM L (QY L n) n (QC L [40] (Qi S))).1, (ZM L (QY L n) n (QC L [40] (Qi S))).2)) (F' := fun S => (Nd.mk 3 0 0 (ZM L' (QY L' n) n (QC L' [40] (Qi S))).1, (ZM L' (QY L' n) n (QC L' [40] (Qi S))).2)) (H := fun S => (zNd, WJ S)) (H' := fun S => (zNd, WJ S)) (h.nowIff _) ?_ (J.val JT.fail fun _ => rfl)
  refine J.pre (F := fun S => (Nd.mk 3 0 0 (ZM L (QY L n) n (QC L [40] S)).1, (ZM L (QY L n) n (QC L [40] S)).2)) (F' := fun S => (Nd.mk 3 0 0 (ZM L' (QY L' n) n (QC L' [40] S)).1, (ZM L' (QY L' n) n (QC L' [40] S)).2)) JT.next ?_
  refine J.pre (F := fun S => (Nd.mk 3 0 0 (ZM L (QY L n) n S).1, (ZM L (QY L n) n S).2)) (F' := fun S => (Nd.mk 3 0 0 (ZM L' (QY L' n) n S).1, (ZM L' (QY L' n) n S).2)) (JT.take h [40]) ?_
  exact (J.lst h hE n).map (u := fun x => Nd.mk 3 0 0 x) (u' := fun x => Nd.mk 3 0 0 x) fun _ _ => rfl
theorem J.bloop (h : Ag L L' i) {E E' : Rd1} (hE : ∀ c, J i c E E') : ∀ (k : Nat) (c : Prop) (o o' : List Nd), (c -> o' = o) -> J i c (Q4 L E k o) (Q4 L' E' k o')
 | 0, c, o, o', ho => J.val (a := o) (a' := o') JT.id ho
 | k + 1, c, o, o', ho => by
  refine J.ite (P := fun S => S.bad = true) (P' := fun S => S.bad = true) (F := fun S => (o, S)) (F' := fun S => (o', S)) (fun _ _ => Iff.rfl) (J.val JT.id ho) ?_
  refine J.ite (P := fun S => QH L S = [125]) (P' := fun S => QH L' S = [125]) (F := fun S => (o, Qi S)) (F' := fun S => (o', Qi S)) (h.nowIff _) (J.val JT.next ho) ?_
  exact (hE c).bind (K := fun a S => Q4 L E k (o ++ [a]) S) (K' := fun a S => Q4 L' E' k (o' ++ [a]) S) fun a a' => J.bloop h hE k _ _ _ fun hc => by rw [ho hc.1, hc.2]
theorem J.block (h : Ag L L' i) {E E' : Rd1} (hE : ∀ c, J i c E E') (k : Nat) (c : Prop) : J i c (QW L E k) (QW L' E' k) := by
 refine J.pre (F := fun S => (Nd.mk 13 0 0 (Q4 L E k [] S).1, (Q4 L E k [] S).2)) (F' := fun S => (Nd.mk 13 0 0 (Q4 L' E' k [] S).1, (Q4 L' E' k [] S).2)) (JT.take h [123]) ?_
 exact (J.bloop h hE k c [] [] fun _ => rfl).map (u := fun x => Nd.mk 13 0 0 x) (u' := fun x => Nd.mk 13 0 0 x) fun _ _ => rfl
theorem J.atail (h : Ag L L' i) {E E' : Rd1} (hE : ∀ c, J i c E E') (a a' : Nd) : J i (c /\ a' = a) (fun S => (setM a (E (QC L [61] S)).1, (E (QC L [61] S)).2)) (fun S => (setM a' (E' (QC L' [61] S)).1, (E' (QC L' [61] S)).2)) := by
 refine J.pre (F := fun S => (setM a (E S).1, (E S).2)) (F' := fun S => (setM a' (E' S).1, (E' S).2)) (JT.take h [61]) ?_
 exact (hE _).map (u := fun x => setM a x) (u' := fun x => setM a' x) fun x hc => by rw [hc.2]
theorem J.assign (h : Ag L L' i) {E E' : Rd1} (hE : ∀ c, J i c E E') : J i c (qe L E) (qe L' E') :=
 (J.variable h hE).bind (K := fun a S => (setM a (E (QC L [61] S)).1, (E (QC L [61] S)).2)) (K' := fun a S => (setM a (E' (QC L' [61] S)).1, (E' (QC L' [61] S)).2)) fun a a' => J.atail h hE a a'
theorem J.one {E E' : Rd1} (hE : ∀ c, J i c E E') (k n n' : Int) (hn : c -> n' = n) : J i c (oneM E k n) (oneM E' k n') :=
 (hE c).map (u := fun x => Nd.mk k n 0 [x]) (u' := fun x => Nd.mk k n' 0 [x]) fun x hc => by rw [hn hc]
theorem J.iff (h : Ag L L' i) {E E' B B' : Rd1} (hE : ∀ c, J i c E E') (hB : ∀ c, J i c B B') : J i c (ifM L E B) (ifM L' E' B') := by
 refine (hE c).bind (K := fun x S => (Nd.mk 17 0 0 [x, (B S).1, (B (QC L wElse (B S).2)).1], (B (QC L wElse (B S).2)).2)) (K' := fun x S => (Nd.mk 17 0 0 [x, (B' S).1, (B' (QC L' wElse (B' S).2)).1], (B' (QC L' wElse (B' S).2)).2)) fun x x' => ?_
 refine (hB _).bind (K := fun y S => (Nd.mk 17 0 0 [x, y, (B (QC L wElse S)).1], (B (QC L wElse S)).2)) (K' := fun y S => (Nd.mk 17 0 0 [x', y, (B' (QC L' wElse S)).1], (B' (QC L' wElse S)).2)) fun y y' => ?_
 refine J.pre (F := fun S => (Nd.mk 17 0 0 [x, y, (B S).1], (B S).2)) (F' := fun S => (Nd.mk 17 0 0 [x', y', (B' S).1], (B' S).2)) (JT.take h wElse) ?_
 exact (hB _).map (u := fun w => Nd.mk 17 0 0 [x, y, w]) (u' := fun w => Nd.mk 17 0 0 [x', y', w]) fun w hc => by rw [hc.2, hc.1.2]
theorem J.whil {E E' B B' : Rd1} (hE : ∀ c, J i c E E') (hB : ∀ c, J i c B B') : J i c (whileM E B) (whileM E' B') := by
 refine (hE c).bind (K := fun x S => (Nd.mk 18 0 0 [x, (B S).1], (B S).2)) (K' := fun x S => (Nd.mk 18 0 0 [x, (B' S).1], (B' S).2)) fun x x' => ?_
 exact (hB _).map (u := fun w => Nd.mk 18 0 0 [x, w]) (u' := fun w => Nd.mk 18 0 0 [x', w]) fun w hc => by rw [hc.2]
theorem J.tri (h : Ag L L' i) {B B' : Rd1} (hB : ∀ c, J i c B B') : J i c (tryM L B) (tryM L' B') := by
 refine (hB c).bind (K := fun x S => (Nd.mk 21 (Qf L 118 (QC L qy S)).1 0 [x, (B (Qf L 118 (QC L qy S)).2).1], (B (Qf L 118 (QC L qy S)).2).2)) (K' := fun x S => (Nd.mk 21 (Qf L' 118 (QC L' qy S)).1 0 [x, (B' (Qf L' 118 (QC L' qy S)).2).1], (B' (Qf L' 118 (QC L' qy S)).2).2)) fun x x' => ?_
 refine J.pre (F := fun S => (Nd.mk 21 (Qf L 118 S).1 0 [x, (B (Qf L 118 S).2).1], (B (Qf L 118 S).2).2)) (F' := fun S => (Nd.mk 21 (Qf L' 118 S).1 0 [x', (B' (Qf L' 118 S).2).1], (B' (Qf L' 118 S).2).2)) (JT.take h qy) ?_
 refine (J.numbered h 118).bind (K := fun v S => (Nd.mk 21 v 0 [x, (B S).1], (B S).2)) (K' := fun v S => (Nd.mk 21 v 0 [x', (B' S).1], (B' S).2)) fun v v' => ?_
 exact (hB _).map (u := fun w => Nd.mk 21 v 0 [x, w]) (u' := fun w => Nd.mk 21 v' 0 [x', w]) fun w hc => by rw [hc.2, hc.1.2]
theorem J.stmt (h : Ag L L' i) {E E' : Rd1} (hE : ∀ c, J i c E E') (q : Nat) : ∀ (n : Nat) (c : Prop), J i c (Wl L E q n) (Wl L' E' q n)
 | 0, c => J.val (a := zNd) (a' := zNd) JT.fail fun _ => rfl
 | n + 1, c => by
  have hB : ∀ c, J i c (QW L (Wl L E q n) n) (QW L' (Wl L' E' q n) n) := fun c => J.block h (J.stmt h hE q n) n c
  refine J.ite (P := fun S => QH L S = [123]) (P' := fun S => QH L' S = [123]) (F := QW L (Wl L E q n) n) (F' := QW L' (Wl L' E' q n) n) (h.nowIff _) (hB c) ?_
  refine J.ite (P := fun S => isM L 118 S = true) (P' := fun S => isM L' 118 S = true) (F := qe L E) (F' := qe L' E') (fun S hp => by rw [h.is hp]) (J.assign h hE) ?_
  refine J.ite (P := fun S => QH L S = wIf) (P' := fun S => QH L' S = wIf) (F := fun S => ifM L E (QW L (Wl L E q n) n) (Qi S)) (F' := fun S => ifM L' E' (QW L' (Wl L' E' q n) n) (Qi S)) (h.nowIff _) (J.pre JT.next (J.iff h hE hB)) ?_
  refine J.ite (P := fun S => QH L S = wWhile) (P' := fun S => QH L' S = wWhile) (F := fun S => whileM E (QW L (Wl L E q n) n) (Qi S)) (F' := fun S => whileM E' (QW L' (Wl L' E' q n) n) (Qi S)) (h.nowIff _) (J.pre JT.next (J.whil hE hB)) ?_
  refine J.ite (P := fun S => QH L S = wReturn) (P' := fun S => QH L' S = wReturn) (F := fun S => oneM E 19 0 (Qi S)) (F' := fun S => oneM E' 19 0 (Qi S)) (h.nowIff _) (J.pre JT.next (J.one hE 19 0 0 fun _ => rfl)) ?_
  refine J.ite (P := fun S => QH L S = wThrow) (P' := fun S => QH L' S = wThrow) (F := fun S => oneM E 20 0 (Qi S)) (F' := fun S => oneM E' 20 0 (Qi S)) (h.nowIff _) (J.pre JT.next (J.one hE 20 0 0 fun _ => rfl)) ?_
  refine J.ite (P := fun S => QH L S = wOut) (P' := fun S => QH L' S = wOut) (F := fun S => oneM E 24 0 (Qi S)) (F' := fun S => oneM E' 24 0 (Qi S)) (h.nowIff _) (J.pre JT.next (J.one hE 24 0 0 fun _ => rfl)) ?_
  refine J.ite (P := fun S => QH L S = wSkip) (P' := fun S => QH L' S = wSkip) (F := fun S => (Nd.mk 25 0 0 [], Qi S)) (F' := fun S => (Nd.mk 25 0 0 [], Qi S)) (h.nowIff _) (J.val JT.next fun _ => rfl) ?_
  refine J.ite (P := fun S => QH L S = wTry) (P' := fun S => QH L' S = wTry) (F := fun S => tryM L (QW L (Wl L E q n) n) (Qi S)) (F' := fun S => tryM L' (QW L' (Wl L' E' q n) n) (Qi S)) (h.nowIff _) (J.pre JT.next (J.tri h hB)) ?_
  refine J.ite (P := fun S => QH L S = wSend) (P' := fun S => QH L' S = wSend) (F := fun S => oneM E 22 (Qf L 99 (Qi S)).1 (Qf L 99 (Qi S)).2) (F' := fun S => oneM E' 22 (Qf L' 99 (Qi S)).1 (Qf L' 99 (Qi S)).2) (h.nowIff _) ?_ ?_
  ·exact J.pre (F := fun S => oneM E 22 (Qf L 99 S).1 (Qf L 99 S).2) (F' := fun S => oneM E' 22 (Qf L' 99 S).1 (Qf L' 99 S).2) JT.next ((J.numbered h 99).bind (K := fun a S => oneM E 22 a S) (K' := fun a S => oneM E' 22 a S) fun a a' => J.one hE 22 a a' fun hc => hc.2)
  refine J.ite (P := fun S => QH L S = wSpawn) (P' := fun S => QH L' S = wSpawn) (F := fun S => (Nd.mk 23 (Qf L 102 (Qi S)).1 0 (Wv L E q (Qf L 102 (Qi S)).2).1, (Wv L E q (Qf L 102 (Qi S)).2).2)) (F' := fun S => (Nd.mk 23 (Qf L' 102 (Qi S)).1 0 (Wv L' E' q (Qf L' 102 (Qi S)).2).1, (Wv L' E' q (Qf L' 102 (Qi S)).2).2)) (H := fun S => (zNd, WJ S)) (H' := fun S => (zNd, WJ S)) (h.nowIff _) ?_ (J.val JT.fail fun _ => rfl)
  refine J.pre (F := fun S => (Nd.mk 23 (Qf L 102 S).1 0 (Wv L E q (Qf L 102 S).2).1, (Wv L E q (Qf L 102 S).2).2)) (F' := fun S => (Nd.mk 23 (Qf L' 102 S).1 0 (Wv L' E' q (Qf L' 102 S).2).1, (Wv L' E' q (Qf L' 102 S).2).2)) JT.next ?_
  refine (J.numbered h 102).bind (K := fun a S => (Nd.mk 23 a 0 (Wv L E q S).1, (Wv L E q S).2)) (K' := fun a S => (Nd.mk 23 a 0 (Wv L' E' q S).1, (Wv L' E' q S).2)) fun a a' => ?_
  exact (J.arg h hE q).map (u := fun x => Nd.mk 23 a 0 x) (u' := fun x => Nd.mk 23 a' 0 x) fun x hc => by rw [hc.2]
theorem J.fn (h : Ag L L' i) {T T' B B' : Rd1} (hT : ∀ c, J i c T T') (hB : ∀ c, J i c B B') (q : Nat) : J i c (funM L T B q) (funM L' T' B' q) := by
 refine J.pre (F := fun S => (Nd.mk 26 (Qh L S).1 0 ((Wv L T q (Qh L S).2).1 ++ [(B (Wv L T q (Qh L S).2).2).1]), (B (Wv L T q (Qh L S).2).2).2)) (F' := fun S => (Nd.mk 26 (Qh L' S).1 0 ((Wv L' T' q (Qh L' S).2).1 ++ [(B' (Wv L' T' q (Qh L' S).2).2).1]), (B' (Wv L' T' q (Qh L' S).2).2).2)) (JT.take h wFun) ?_
 refine (J.numeral h).bind (K := fun v S => (Nd.mk 26 v 0 ((Wv L T q S).1 ++ [(B (Wv L T q S).2).1]), (B (Wv L T q S).2).2)) (K' := fun v S => (Nd.mk 26 v 0 ((Wv L' T' q S).1 ++ [(B' (Wv L' T' q S).2).1]), (B' (Wv L' T' q S).2).2)) fun v v' => ?_
 refine (J.arg h hT q).bind (K := fun a S => (Nd.mk 26 v 0 (a ++ [(B S).1]), (B S).2)) (K' := fun a S => (Nd.mk 26 v' 0 (a ++ [(B' S).1]), (B' S).2)) fun a a' => ?_
 exact (hB _).map (u := fun x => Nd.mk 26 v 0 (a ++ [x])) (u' := fun x => Nd.mk 26 v' 0 (a' ++ [x])) fun x hc => by rw [hc.2, hc.1.2]
theorem J.ploop (h : Ag L L' i) {F F' : Rd1} (hF : ∀ c, J i c F F') : ∀ (k : Nat) (c : Prop) (o o' : List Nd), (c -> o' = o) -> J i c (QT L F k o) (QT L' F' k o')
 | 0, c, o, o', ho => J.val (a := o) (a' := o') JT.id ho
 | k + 1, c, o, o', ho => by
  refine J.ite (P := fun S => S.bad = false /\ S.p < L.length) (P' := fun S => S.bad = false /\ S.p < L'.length) (F := fun S => QT L F k (o ++ [(F S).1]) (F S).2) (F' := fun S => QT L' F' k (o' ++ [(F' S).1]) (F' S).2) (H := fun S => (o, S)) (H' := fun S => (o', S)) (fun S hp => by rw [h.len _ hp]) ?_ (J.val JT.id ho)
  exact (hF c).bind (K := fun a S => QT L F k (o ++ [a]) S) (K' := fun a S => QT L' F' k (o' ++ [a]) S) fun a a' => J.ploop h hF k _ _ _ fun hc => by rw [ho hc.1, hc.2]
theorem J.prog (h : Ag L L' i) (q : Nat) : (Zi L z q).2.p <= i -> (Zi L' z' q).2 = (Zi L z q).2 /\ ((Zi L z q).2.bad = false -> (Zi L' z' q).1 = (Zi L z q).1) := by
 have hE : ∀ c, J i c (Wm L z q) (Wm L' z' q) := J.expr h q
 have hF : ∀ c, J i c (Za L z q) (Za L' z' q) := fun c => J.fn h (J.typed h q) (fun c => J.block h (J.stmt h hE q q) q c) q
 have key : J i True (fun S => (Nd.mk 27 (Qh L (QC L WT S)).1 0 (QT L (Za L z q) q [] (Qh L (QC L WT S)).2).1, (QT L (Za L z q) q [] (Qh L (QC L WT S)).2).2)) (fun S => (Nd.mk 27 (Qh L' (QC L' WT S)).1 0 (QT L' (Za L' z' q) q [] (Qh L' (QC L' WT S)).2).1, (QT L' (Za L' z' q) q [] (Qh L' (QC L' WT S)).2).2)) := by
  refine J.pre (F := fun S => (Nd.mk 27 (Qh L S).1 0 (QT L (Za L z q) q [] (Qh L S).2).1, (QT L (Za L z q) q [] (Qh L S).2).2)) (F' := fun S => (Nd.mk 27 (Qh L' S).1 0 (QT L' (Za L' z' q) q [] (Qh L' S).2).1, (QT L' (Za L' z' q) q [] (Qh L' S).2).2)) (JT.take h WT) ?_
  refine (J.numeral h).bind (K := fun v S => (Nd.mk 27 v 0 (QT L (Za L z q) q [] S).1, (QT L (Za L z q) q [] S).2)) (K' := fun v S => (Nd.mk 27 v 0 (QT L' (Za L' z' q) q [] S).1, (QT L' (Za L' z' q) q [] S).2)) fun v v' => ?_
  exact (J.ploop h hF q _ [] [] fun _ => rfl).map (u := fun x => Nd.mk 27 v 0 x) (u' := fun x => Nd.mk 27 v' 0 x) fun x hc => by rw [hc.2]
 intro hp
 obtain ⟨_, _, k3⟩ := key ⟨0, false⟩
 obtain ⟨e1, e2⟩ := k3 hp
 exact ⟨e1, e2 trivial⟩
end
theorem prog_z (L : W7) (z z' : Nd) (q : Nat) : (Zi L z' q).2 = (Zi L z q).2 /\ ((Zi L z q).2.bad = false -> (Zi L z' q).1 = (Zi L z q).1) := J.prog (Ag.refl L (Zi L z q).2.p) q (Nat.le_refl _)
end Go.Proofs
end
section
namespace Go.Proofs
open Go.Av
variable {G : Nat -> DV}
attribute [local irreducible] OpSem WR Zc Zp ACalls ZS AClose RV
open Go.Bl
abbrev Lp3 {α β γ : Type} (I : α -> β -> γ -> ASt) (pre : α -> β -> γ -> Prop) (μ : α -> β -> γ -> Nat) (x : α) (y : β) (z : γ) (st' : ASt) : Prop := ∃ x' y' z', pre x' y' z' /\ μ x' y' z' < μ x y z /\ ALe st' (I x' y' z')
theorem r_loop3n {P : Program} {G : Nat -> DV} {E : AX} {n : Nat} {N : ASt -> Prop} {xs : List (Nat × (ASt -> Prop))} {R : ASt -> Prop} {st : ASt} {c : Code} {α β γ : Type} (I : α -> β -> γ -> ASt) (pre : α -> β -> γ -> Prop) (μ : α -> β -> γ -> Nat) (x0 : α) (y0 : β) (z0 : γ) (h0 : ALe st (I x0 y0 z0)) (hp0 : pre x0 y0 z0)
  (round : ∀ x y z, pre x y z -> WR P G E n c (Lp3 I pre μ x y z) xs R (I x y z)) : WR P G E n (.loop c) N xs R st := r_loop3 I pre μ x0 y0 z0 h0 hp0 round
def mM (L : W7) (S : RS) : Nat := if S.bad = true then 0 else L.length - S.p + 1
theorem rm_mM (L : W7) (S : RS) : rM L S <= mM L S /\ mM L S <= rM L S + 1 := by
 unfold rM mM;split <;> omega
def Eats (L : W7) (T : Rd1) : Prop := ∀ S, S.bad = false -> mM L (T S).2 < mM L S
theorem mm_next {L : W7} {S : RS} {s : List UInt8} (h : QH L S = s) (hs : s ≠ []) : mM L (Qi S) < mM L S := by
 obtain ⟨h1, h2, h3⟩ := now_at (L := L) (S := S) (by rw [h];exact hs)
 unfold mM Qi
 rw [h1]
 simp;omega
theorem mm_fail {L : W7} {S : RS} (h : S.bad = false) : mM L (WJ S) < mM L S := by
 unfold mM WJ;rw [h];simp
theorem mm_take {L : W7} {S : RS} (s : List UInt8) (hs : s ≠ []) : mM L (QC L s S) <= rM L S /\ rM L (QC L s S) <= rM L S - 1 := by
 unfold QC
 split
 ·rename_i h
  obtain ⟨h1, h2, h3⟩ := now_at (L := L) (S := S) (by rw [h];exact hs)
  unfold mM rM Qi
  rw [h1]
  simp;omega
 ·unfold mM rM WJ;simp
theorem bad_neg {S : RS} (h : S.bad = false) : badI S < 0 := by unfold badI;rw [h];simp
theorem bad_pos {S : RS} (h : S.bad = true) : 0 <= badI S := by unfold badI;rw [if_pos h];omega
theorem bloop_bad {L : W7} {T : Rd1} {o : List Nd} {S : RS} (h : S.bad = true) : ∀ k, Q4 L T k o S = (o, S)
 | 0 => rfl
 | k + 1 => by rw [Q4, if_pos h]
theorem wkR7 {X W0 W1 W2 : Prop} (w0 : W0 := by exact True.intro) (w1 : W1 := by exact True.intro) (w2 : W2 := by exact True.intro) (s : (Unit -> W0) -> (Unit -> W1) -> (Unit -> W2) -> Unit -> X := by (intro w0 w1 w2 _;(repeat' first|(refine Qz ?_;(first|refine Ws rfl ?_|(refine QN ?_;(first|refine Z4 rfl rfl ?_|refine Qc rfl rfl rfl ?_))|refine Zw rfl rfl ?_|(refine QK ?_;(first|refine Zy (z := x2) rfl rfl rfl rfl rfl rfl rfl (by first|omega|(simp;omega)) (by first|omega|(simp;omega)) (fun _ => rfl) (fun _ _ => ?_)|refine Wh 0 (htk) rfl rfl rfl rfl ?_|refine Wh 0 (hv1) rfl rfl rfl rfl ?_|refine Wh 0 (hT2) rfl rfl rfl rfl ?_))|(refine Q1 ?_;(first|refine ZO rfl rfl ?_|refine W9 rfl rfl ?_))|(refine Wr ?_;(first|refine qh rfl rfl rfl rfl ?_|refine Wg rfl rfl rfl rfl (by rfl) (by rfl) (by rfl) ?_))|refine qK rfl ?_|refine Qe rfl rfl ?_|refine QB rfl rfl ?_|refine Qj rfl rfl ?_|refine QU (fun _ _ => ?_)))|(refine We ?_;(first|refine Wb ?_|refine Zg rfl ?_|refine WI ?_|refine qd rfl rfl rfl rfl ?_|refine qw rfl rfl rfl rfl ?_|refine WN rfl rfl (by omega) ?_|refine WD rfl rfl (by omega) ?_))|(refine Wc ?_;(first|refine Q7 ?_|refine Qm ?_|refine QM ?_|(refine WC ?_;first|(refine Ql (fun p => p.1 :: .row g2 [.i 0, .i 0, .i 0, .nil] :: .row gn [.i 13, .i 0, .i 0, .ref 3 gg 0 o.length 4] :: p.2) 7 [(0, true), (1, true), (2, true), (3, false), (4, true), (5, false), (6, true), (7, false)] (by rfl) (by rfl) (by kernel_rfl) (by decide +kernel) (by decide +kernel) ⟨(_, _), rfl⟩ ?_)|refine Q9 (by rfl) (by kernel_rfl) (by kernel_rfl) ?_|refine Q8 (by kernel_rfl) (by kernel_rfl) ?_)|refine QV ?_|refine QD rfl ?_|refine QR rfl ?_|refine W8 rfl ?_|refine Wi ?_))|(refine ZG ?_;(first|refine qL ?_|refine i_z0 ?_|refine i_st rfl rfl (fun _ => (by (repeat' first|(refine Qz ?_;(first|refine Ws rfl ?_|refine Qc rfl rfl rfl ?_|refine QO (z := x2) rfl rfl (by decide) ?_|refine Qe rfl rfl ?_))|exact ⟨rfl, rfl⟩))) ?_|refine i_ef rfl ?_))|refine And.intro (Exists.intro ((_, _)) rfl) ?_);all_goals (repeat (rename_i x;(fail_if_success have : Unit := x);revert x));(first|done|exact w0 ());(first|done|exact w1 ());(first|done|exact w2 ()))) (u : (W0 \/ True) /\ (W1 \/ True) /\ (W2 \/ True) := by (refine ⟨?_, ?_, ?_⟩ <;> first|exact Or.inl True.intro|exact Or.inr True.intro)) : X := s (fun _ => w0) (fun _ => w1) (fun _ => w2) ()
theorem block_rc (L : W7) (hL : OkL L) (T : Rd1) (r0 k : Nat) (hT : ElC G 152 L T r0) (he : Eats L T) (S : RS) (hr : rM L S <= r0 + 1) (hk : rM L S + 1 <= k) :
  CE Tryz.prog G 111 (fun p g => [.ptr p g 0]) (rdC L S) (.agg (Enc.enc (QW L T k S).1)) (rdC L (QW L T k S).2) := fun g B hg => by
 have htk := take_c (G := G) L S hL [123] (by decide)
 have hle := mm_take (L := L) (S := S) [123] (by decide)
 have hle0 : rM L (QC L [123] S) <= r0 := by omega
 unfold QW
 generalize QC L [123] S = S1 at *
 have hr1000 : rM L S <= 1000000 := by unfold rM;split <;> have := hL.1 <;> omega
 refine Qa Tryz.func111 rfl Tryz.ntmps111 rfl (t := [(0, .ptr 0 g 0)]) rfl fun E0 hE1 => ?_
 (refine wkR7 ?_;intros)
 rename_i g2 hg2 gn hgn
 refine r_ownin 2 3 4 rfl rfl (fun _ => rfl) (fun gk hgk => ?_)
 refine r_loop3n (fun (o : List Nd) (Q : RS) (gg : Nat) => ⟨[(0, .ptr 0 g 0), (2, .ptr 1 g2 0), (3, .ptr 2 gn 0)], [.row g (rdC L Q), .row g2 [.i 0, .i 0, .i 0, .nil], .row gn [.i 13, .i 0, .i 0, .ref 3 gg 0 o.length 4], .row gg (Wf o)]⟩) (fun o Q gg => E0.N < gg /\ rM L Q <= r0 /\ o.length + mM L Q <= rM L S + 1 /\ ∃ k', Q4 L T k [] S1 = Q4 L T k' o Q /\ mM L Q + 1 <= k') (fun o Q gg => mM L Q) [] S1 gk ?_ ⟨hgk, hle0, by have := rm_mM L S1;simp;omega, k, rfl, by have := rm_mM L S1;omega⟩ ?_
 ·exact zal rfl
 intro o Q gg ⟨hgg, hq1, hq2, k', hk1, hk2⟩
 have hol : o.length <= 2000000 := by omega
 rw [hk1]
 cases hb : Q.bad with
 | true =>
  have hbi := bad_pos hb
  rw [bloop_bad hb]
  (refine wkR7 ?_;intros)
  exact e_1 (Tryz.results111) (Qg (size := 4) rfl rfl rfl rfl) (WK (D := fun d => .agg [.i 13, .i 0, .i 0, d]) (k := 2) (.node rfl rfl rfl) rfl (by rw [Qx];rfl) (by rw [Qr];rfl) rfl)
 | false =>
  have hbi := bad_neg hb
  match k', hk1, hk2 with
  | k2 + 1, hk1, hk2 =>
  by_cases hc : QH L Q = [125]
  ·have hv1 := have_t (G := G) L Q hL [125] (by decide) hc
   have hend : Q4 L T (k2 + 1) o Q = (o, Qi Q) := by rw [Q4, if_neg (by rw [hb];decide), if_pos hc]
   rw [hend]
   (refine wkR7 ?_;intros)
   exact e_1 (Tryz.results111) (Qg (size := 4) rfl rfl rfl rfl) (WK (D := fun d => .agg [.i 13, .i 0, .i 0, d]) (k := 2) (.node rfl rfl rfl) rfl (by rw [Qx];rfl) (by rw [Qr];rfl) rfl)
  ·have hv1 := have_f (G := G) L Q hL [125] (by decide) hc
   have hrec : Q4 L T (k2 + 1) o Q = Q4 L T k2 (o ++ [(T Q).1]) (T Q).2 := by rw [Q4, if_neg (by rw [hb];decide), if_neg hc]
   have hlt := he Q hb
   obtain ⟨hT2, hrT⟩ := hT Q hq1
   generalize hx2 : (T Q).1 = x2 at *
   generalize hS2 : (T Q).2 = S2 at *
   (refine wkR7 ?_;intros)
   refine ⟨o ++ [x2], S2, _, ⟨by assumption, by omega, by simp;omega, k2, hrec, by omega⟩, by omega, ?_⟩
   exact zal rfl
section
variable {P : Program} {G : Nat -> DV} {B : Nat} {f : Operand -> DV} {σ : List ABlk} {K : DV -> List ABlk -> Prop} {dst : Option Tmp} {type : TypeId} {pos : String} {after : Array Edge} {gd : Option (Nat × Bool)} {E : AX}
theorem s_callv_og {x : Operand} {args : Array Operand} {ts : Array TypeId} {fid : FuncId} {first cap es : List DV} {d0 : Nat -> DV} {σ1 : Nat -> List ABlk} [FnOk P fid] (hx : f x = .fn (.func fid) first cap) (hds : reL (first ++ args.toList.map f ++ cap) = some es) (h : ACalls P G B fid es σ (fun d τ => ∃ g', B < g' /\ d = d0 g' /\ τ = σ1 g')) (kk : ∀ g', B < g' -> K (d0 g') (σ1 g')) :
  OpSem P G B ⟨dst, .call ⟨.value x, args, ts⟩, type, pos, after, gd⟩ f σ K := s_callv hx hds (h.mono fun _ _ ⟨g', hg, e1, e2⟩ => by rw [e1, e2];exact kk g' hg)
theorem c_co3 {D D2 : DV -> DV} {B k gk len len2 es es2 : Nat} {ks k2 : List DV} {b0 b1 b2 : ABlk} {r : List ABlk} (hD : FrmD D) (hB : B <= E.N) (hk1 : 3 <= k) (hk : (b0 :: b1 :: b2 :: r)[k]? = some (.row gk k2)) (hDD : D2 = D) (hl : len2 = len) (he : es2 = es) (hks : k2 = ks) :
  AClose E (fun d' τ' => ∃ g', B < g' /\ d' = D (.ref 3 g' 0 len es) /\ τ' = [b0, b1, b2, .row g' ks]) (D2 (.ref k gk 0 len2 es2)) (b0 :: b1 :: b2 :: r) := by
 subst hDD hl he hks
 refine (hD.close (c_own (m := 3) (R := fun d' τ' => ∃ g', B < g' /\ d' = .ref 3 g' 0 len2 es2 /\ τ' = [b0, b1, b2, .row g' k2]) hk1 hk fun g' hg' => ⟨g', by omega, rfl, rfl⟩) ?_).mono ?_
 ·rintro d0 σ' ⟨g', _, rfl, _⟩;rfl
 ·rintro d' σ' ⟨d0, ⟨g', h1, rfl, h3⟩, rfl⟩
  exact ⟨g', h1, rfl, h3⟩
end
theorem wkR8 {X W0 W1 W2 : Prop} (w0 : W0 := by exact True.intro) (w1 : W1 := by exact True.intro) (w2 : W2 := by exact True.intro) (s : (Unit -> W0) -> (Unit -> W1) -> (Unit -> W2) -> Unit -> X := by (intro w0 w1 w2 _;(repeat' first|(refine Qz ?_;(first|refine Ws rfl ?_|refine WM rfl ?_|(refine QN ?_;(first|refine Z4 rfl rfl ?_|refine Qc rfl rfl rfl ?_))|refine WX rfl rfl ?_|(refine QK ?_;(first|refine Zy (z := x2) rfl rfl rfl rfl rfl rfl rfl (by first|omega|(simp;omega)) (by first|omega|(simp;omega)) (fun _ => rfl) (fun _ _ => ?_)|refine Wh 0 (hE2) rfl rfl rfl rfl ?_|refine Wh 0 (hx2) rfl rfl rfl rfl ?_|refine Wh 0 (htk) rfl rfl rfl rfl ?_|refine s_co 0 (hvar) (by first|exact .id|exact .node rfl rfl rfl) rfl rfl rfl rfl (Qy _) (fun _ _ => ?_)))|(refine Wr ?_;(first|refine qh rfl rfl rfl rfl ?_|refine Wg rfl rfl rfl rfl (by rfl) (by rfl) (by rfl) ?_))|refine qD (z := xE) rfl rfl rfl rfl (fun _ _ => ?_)|refine Qe rfl rfl ?_|refine QB rfl rfl ?_|refine QU (fun _ _ => ?_)))|(refine We ?_;(first|refine Wb ?_|refine Zg rfl ?_|refine WI ?_))|(refine Wc ?_;(first|refine Q7 ?_|refine Qm ?_|refine QM ?_|(refine WC ?_;first|(refine Ql ((fun g2 gn gk p => p.1 :: .row g2 [.i 0, .i 0, .i 0, .nil] :: p.2 :: .row gn [.i k, .i n, .i m, .ref 2 gk 0 ks.length 4] :: []) _ _ _) 7 [(0, true), (1, true), (2, true), (3, false), (4, true), (5, false), (6, true), (7, false)] (by rfl) (by rfl) (by kernel_rfl) (by decide +kernel) (by decide +kernel) ⟨(_, _), rfl⟩ ?_)|(refine Ql (fun p => p.1 :: p.2 :: []) 100 [(0, true)] (by rfl) (by rfl) (by kernel_rfl) (by decide +kernel) (by decide +kernel) ⟨(_, _), rfl⟩ ?_)|(refine Ql (fun p => p) 100 [(0, true)] (by rfl) (by rfl) (by kernel_rfl) (by decide +kernel) (by decide +kernel) ⟨_, rfl⟩ ?_)|refine Q9 (by rfl) (by kernel_rfl) (by kernel_rfl) ?_|refine Q8 (by kernel_rfl) (by kernel_rfl) ?_)|refine Qu rfl (by omega) ?_|refine Qn rfl (by omega) ?_|refine Wi ?_))|(refine ZG ?_;(first|refine qL ?_|refine i_z0 ?_|refine i_st rfl rfl (fun _ => (by (repeat' first|(refine Qz ?_;(first|refine Ws rfl ?_|refine Qc rfl rfl rfl ?_|refine QO (z := x2) rfl rfl (by decide) ?_|refine Qe rfl rfl ?_))|exact ⟨rfl, rfl⟩))) ?_|refine i_ef rfl ?_))|refine And.intro (Exists.intro ((_, _)) rfl) ?_);(all_goals (repeat (rename_i x;(fail_if_success have : Unit := x);revert x)));(first|done|exact w0 ());(first|done|exact w1 ());(first|done|exact w2 ()))) (u : (W0 \/ True) /\ (W1 \/ True) /\ (W2 \/ True) := by (refine ⟨?_, ?_, ?_⟩ <;> first|exact Or.inl True.intro|exact Or.inr True.intro)) : X := s (fun _ => w0) (fun _ => w1) (fun _ => w2) ()
theorem stmt1_rc (L : W7) (E : Rd1) (r0 : Nat) (hE : ElC G 176 L E r0) (S : RS) (hr : rM L S <= r0) (kk : Int) (g gb g2 B : Nat) (hg : g <= B) :
  ACalls Tryz.prog G B 175 [.i kk, .ptr 1 gb 0] [.row g (rdC L S), .row gb [.ptr 0 g 0], .row g2 [.i 0, .i 0, .i 0, .nil]] (fun d τ => ∃ g', B < g' /\ d = .agg [.i kk, .i 0, .i 0, .ref 3 g' 0 [(E S).1].length 4] /\ τ = [.row g (rdC L (E S).2), .row gb [.ptr 0 g 0], .row g2 [.i 0, .i 0, .i 0, .nil], .row g' (Wf [(E S).1])]) := by
 obtain ⟨hE2, _⟩ := hE S hr
 generalize (E S).1 = xE at *
 generalize (E S).2 = S2 at *
 refine Qa Tryz.func175 rfl Tryz.ntmps175 rfl (t := [(0, .i kk), (1, .ptr 1 gb 0)]) rfl fun E0 hE1 => ?_
 (refine wkR8 ?_;intros)
 exact e_1 (Tryz.results175) (Qg (size := 4) rfl rfl rfl rfl) (c_co3 (k := 4) (D := fun d => .agg [.i kk, .i 0, .i 0, d]) (.node rfl rfl rfl) hE1 (by omega) rfl rfl rfl rfl rfl)
theorem assign_rc (L : W7) (hL : OkL L) (E : Rd1) (r0 : Nat) (hE : ElC G 176 L E r0) (S : RS) (hr : rM L S <= r0 + 1) (hw : isM L 118 S = true) :
  CE Tryz.prog G 178 (fun p g => [.ptr p g 0]) (rdC L S) (.agg (Enc.enc (qe L E S).1)) (rdC L (qe L E S).2) := fun g B hg => by
 obtain ⟨hv, hvl⟩ := variable_rc (G := G) L hL E r0 hE S hr
 have hlt : rM L (QX L E S).2 <= r0 := by
  have h1 := (Wo (L := L) (S := S) rfl (is_now hw).1).1
  have h2 : (Qf L 118 S).2 = Qi S := by unfold Qf;rw [if_pos hw]
  have hn : rM L (Qf L 118 S).2 <= r0 := by rw [h2];omega
  unfold QX qP
  generalize (Qf L 118 S).2 = S1 at *
  split
  ·rename_i hc
   have h3 := (Wo hc (by decide)).1
   have h4 := (hE (Qi S1) (by omega)).2
   have h5 := qc (L := L) (S := (E (Qi S1)).2) [93] (by decide)
   show rM L (QC L [93] (E (Qi S1)).2) <= r0
   omega
  ·split
   ·rename_i hc
    have h3 := (Wo hc (by decide)).1
    have h4 := rM_numeral L (Qi S1)
    show rM L (Qh L (Qi S1)).2 <= r0
    omega
   ·exact hn
 have hkl : (kidsN (QX L E S).1).length <= 1 := by
  unfold QX qP
  repeat' split
  all_goals simp [kidsN]
 unfold qe
 generalize (QX L E S).1 = v at *
 generalize (QX L E S).2 = S1 at *
 obtain ⟨k, n, m, ks⟩ := v
 have hvar : CO Tryz.prog G 199 (fun p g => [.ptr p g 0]) (rdC L S) (fun d => .agg [.i k, .i n, .i m, d]) ks.length 4 (Wf ks) (rdC L S1) := hv
 have htk := take_c (G := G) L S1 hL [61] (by decide)
 have hle := qc (L := L) (S := S1) [61] (by decide)
 generalize QC L [61] S1 = S2 at *
 obtain ⟨hx2, _⟩ := hE S2 (by omega)
 generalize (E S2).1 = x2 at *
 generalize (E S2).2 = S3 at *
 unfold setM setKind
 dsimp only
 have hkl : ks.length <= 1 := hkl
 by_cases k7 : k = 7
 ·rw [if_pos k7]
  refine Qa Tryz.func178 rfl Tryz.ntmps178 rfl (t := [(0, .ptr 0 g 0)]) rfl fun E0 hE1 => ?_
  (refine wkR8 ?_;intros)
  exact e_1 (Tryz.results178) (Qg (size := 4) rfl rfl rfl rfl) (WK (D := fun d => .agg [.i 15, .i n, .i m, d]) (k := 1) (.node rfl rfl rfl) rfl (by rw [Qx];rfl) (by rw [Qr];rfl) rfl)
 rw [if_neg k7]
 by_cases k8 : k = 8
 ·rw [if_pos k8]
  refine Qa Tryz.func178 rfl Tryz.ntmps178 rfl (t := [(0, .ptr 0 g 0)]) rfl fun E0 hE1 => ?_
  (refine wkR8 ?_;intros)
  exact e_1 (Tryz.results178) (Qg (size := 4) rfl rfl rfl rfl) (WK (D := fun d => .agg [.i 16, .i n, .i m, d]) (k := 1) (.node rfl rfl rfl) rfl (by rw [Qx];rfl) (by rw [Qr];rfl) rfl)
 ·rw [if_neg k8]
  refine Qa Tryz.func178 rfl Tryz.ntmps178 rfl (t := [(0, .ptr 0 g 0)]) rfl fun E0 hE1 => ?_
  (refine wkR8 ?_;intros)
  exact e_1 (Tryz.results178) (Qg (size := 4) rfl rfl rfl rfl) (WK (D := fun d => .agg [.i 14, .i n, .i m, d]) (k := 1) (.node rfl rfl rfl) rfl (by rw [Qx];rfl) (by rw [Qr];rfl) rfl)
theorem agg4_nil {L : Lay} {a b c : DV} {es : Nat} {v : Value} (h : VRep L (.agg [a, b, c, .sc (.slice none 0 0)]) v) : VRep L (.agg [a, b, c, .sl es []]) v := by
 cases h with|agg _ vs hl ho hg =>
 refine .agg _ _ hl (fun e he => ?_) fun j e hj => ?_
 ·simp only [List.mem_cons, List.not_mem_nil, or_false] at he
  rcases he with rfl|rfl|rfl|rfl
  ·exact ho _ (by simp)
  ·exact ho _ (by simp)
  ·exact ho _ (by simp)
  ·rfl
 ·match j with
  | 0 => exact hg 0 e hj
  | 1 => exact hg 1 e hj
  | 2 => exact hg 2 e hj
  | 3 => simp at hj;subst hj;exact Zj (hg 3 _ rfl)
  | j + 4 => simp at hj
theorem WZ (v : Nd) : partD (Enc.enc v) 0 4 = some (Enc.enc v) := by cases v;rw [Qr];rfl
theorem numeralM_le (L : W7) (S : RS) : 0 <= (Qh L S).1 /\ (Qh L S).1 <= 999 := by
 unfold Qh
 split
 ·rename_i h;exact ⟨(val_num h).2.1, (val_num h).2.2⟩
 ·simp
theorem args_le {F : FuncId} {L : W7} {E : Rd1} {r0 : Nat} (hE : ElC G F L E r0) (k : Nat) (S : RS) (h : rM L S <= r0) : rM L (Wv L E k S).2 <= rM L S := by
 have h1 := qc (L := L) (S := S) [40] (by decide)
 unfold Wv
 split
 ·rename_i hc
  have := (Wo hc (by decide)).1
  show rM L (Qi (QC L [40] S)) <= _
  omega
 ·have := list_le hE k (QC L [40] S) (by omega)
  omega
theorem wkR6 {X W0 W1 W2 : Prop} (w0 : W0 := by exact True.intro) (w1 : W1 := by exact True.intro) (w2 : W2 := by exact True.intro) (s : (Unit -> W0) -> (Unit -> W1) -> (Unit -> W2) -> Unit -> X := by (intro w0 w1 w2 _;(repeat' first|(refine Qz ?_;(first|refine Ws rfl ?_|refine WM rfl ?_|refine Z4 rfl rfl ?_|refine Zr rfl rfl ?_|(refine QK ?_;(first|refine WA rfl rfl (htn) ?_|refine s_callv_q rfl (one_c _ _) (by repeat' first|exact Wj|exact WB _|exact WH (Qy _)|exact Qy _|refine qi ?_ ?_|refine Z3 ?_|refine W4 ?_|refine WS ?_|exact Zb|refine Ww ?_ ?_|refine WH ?_) ?_|refine Wh 0 (now_c L S hL) rfl rfl rfl rfl ?_|refine Wh 0 (his1) rfl rfl rfl rfl ?_|refine Wh 0 (his2) rfl rfl rfl rfl ?_|refine Wh 0 (hnw2) rfl rfl rfl rfl ?_|refine Wh 0 (have_f L S hL _ (by decide) (by assumption)) rfl rfl rfl rfl ?_|refine Wh 0 (have_t L S hL _ (by decide) (by assumption)) rfl rfl rfl rfl ?_|refine Wh 0 (hnm) rfl rfl rfl rfl ?_|refine Wh 0 (hnb) rfl rfl rfl rfl ?_|refine Wh 0 (hvar) rfl rfl rfl rfl ?_|refine Wh 0 (hbin) rfl rfl rfl rfl ?_|refine Wh 0 (hE2) rfl rfl rfl rfl ?_|refine Wh 0 (hfl) rfl rfl rfl rfl ?_|refine Wh 0 (fail_c L S) rfl rfl rfl rfl ?_|refine s_co 0 (hargs) (by first|exact .id|exact .node rfl rfl rfl) rfl rfl rfl rfl (Qy _) (fun _ _ => ?_)))|(refine Wr ?_;(first|refine qh rfl rfl rfl rfl ?_|refine Wg rfl rfl rfl rfl (by rfl) (by rfl) (by rfl) ?_))|refine QO (z := xE) rfl rfl (by decide) ?_|refine s_neg rfl (by omega) ?_|refine Qe rfl rfl ?_|refine QB rfl rfl ?_|refine Zu rfl rfl ?_|refine QU (fun _ _ => ?_)))|(refine We ?_;(first|refine Wb ?_|refine Zg rfl ?_|refine WI ?_))|(refine Wc ?_;(first|refine Q7 ?_|refine Qm ?_|refine QM ?_|refine QV ?_|refine QD rfl ?_|refine QR rfl ?_|refine Qu rfl (by omega) ?_|refine Qn rfl (by omega) ?_|refine Wi ?_)));all_goals (repeat (rename_i x;(fail_if_success have : Unit := x);revert x));(first|done|exact w0 ());(first|done|exact w1 ());(first|done|exact w2 ()))) (u : (W0 \/ True) /\ (W1 \/ True) /\ (W2 \/ True) := by (refine ⟨?_, ?_, ?_⟩ <;> first|exact Or.inl True.intro|exact Or.inr True.intro)) : X := s (fun _ => w0) (fun _ => w1) (fun _ => w2) ()
theorem one_c (k n : Int) : Go.Av.Pure Tryz.prog G 198 [.i k, .i n] (.agg [.i k, .i n, .i 0, Qo ([] : List Nd)]) := fun B => by
 refine Qa Tryz.func198 rfl Tryz.ntmps198 rfl (t := [(0, .i k), (1, .i n)]) rfl fun E hE => ?_
 (refine wkR6 ?_;intros)
 exact e_1 (Tryz.results198) (Qg (size := 4) rfl rfl rfl rfl) (Ze (d2 := .agg [.i k, .i n, .i 0, .sl 4 []]) (fun L v h => agg4_nil h) (Qd rfl))
theorem expr_rc (hG1 : G 1 = spaceT) (L : W7) (hL : OkL L) : ∀ (n : Nat) (S : RS), rM L S + 2 <= n -> CE Tryz.prog G 176 (fun p g => [.ptr p g 0]) (rdC L S) (.agg (Enc.enc (Wm L (.mk 4 0 0 []) n S).1)) (rdC L (Wm L (.mk 4 0 0 []) n S).2) /\ rM L (Wm L (.mk 4 0 0 []) n S).2 <= rM L S := by
 intro n
 induction n with
 | zero => intro S h;omega
 | succ n ih =>
 intro S hn
 rw [Wm]
 have htn := tnum_c (G := G) (QH L S) (now_len hL S)
 by_cases h1 : qx (QH L S) = true
 ·rw [if_pos h1]
  rw [h1] at htn
  have hnm := qQ (G := G) L S hL
  have hnl := rM_numeral L S
  refine ⟨fun g B hg => ?_, by first|omega|(simp only;omega)⟩
  refine Qa Tryz.func176 rfl Tryz.ntmps176 rfl (t := [(0, .ptr 0 g 0)]) rfl fun E0 hE1 => ?_
  (refine wkR6 ?_;intros)
  refine e_1 (Tryz.results176) (Qg (size := 4) rfl rfl rfl rfl) ?_
  rw [Qr]
  exact ZI rfl rfl
 rw [if_neg h1]
 rw [show qx (QH L S) = false by simpa using h1] at htn
 have his1 := is_c (G := G) L S hL 118
 have hel : rM L S >= 1 -> ElC G 176 L (Wm L (.mk 4 0 0 []) n) (rM L S - 1) := fun _ Q hQ => ih Q (by omega)
 by_cases h2 : isM L 118 S = true
 ·rw [if_pos h2]
  rw [h2] at his1
  have hrn := (Wo (L := L) (S := S) rfl (is_now h2).1).1
  obtain ⟨hv, hvl⟩ := variable_rc (G := G) L hL _ _ (hel (by omega)) S (by omega)
  have hvar := (hv.pub (frmN_ok _) (by rw [Qx];rfl)).conv (frmN_enc _) rfl
  refine ⟨fun g B hg => ?_, by first|exact hvl|omega|(simp only;omega)|(simp only;rw [qE];omega)⟩
  refine Qa Tryz.func176 rfl Tryz.ntmps176 rfl (t := [(0, .ptr 0 g 0)]) rfl fun E0 hE1 => ?_
  (refine wkR6 ?_;intros)
  exact e_1 (Tryz.results176) (Qg (size := 4) rfl rfl (WZ _) (Enc.len _)) (ZI rfl rfl)
 rw [if_neg h2]
 rw [show isM L 118 S = false by simpa using h2] at his1
 have his2 := is_c (G := G) L S hL 102
 by_cases h3 : isM L 102 S = true
 ·rw [if_pos h3]
  rw [h3] at his2
  have hrn := (Wo (L := L) (S := S) rfl (is_now h3).1).1
  have hnb := numbered_c (G := G) L S hL 102
  have hr2 : rM L (Qf L 102 S).2 + 1 = rM L S := by unfold Qf;rw [if_pos h3];exact hrn
  generalize (Qf L 102 S).1 = v at *
  generalize (Qf L 102 S).2 = S1 at *
  have hargs := args_rc (G := G) 176 L _ _ n hL (hel (by omega)) S1 (by omega) (by omega)
  have hal := args_le (hel (by omega)) n S1 (by omega)
  refine ⟨fun g B hg => ?_, by first|omega|(simp only;omega)|(simp only;rw [qE];omega)⟩
  refine Qa Tryz.func176 rfl Tryz.ntmps176 rfl (t := [(0, .ptr 0 g 0)]) rfl fun E0 hE1 => ?_
  (refine wkR6 ?_;intros)
  exact e_1 (Tryz.results176) (Qg (size := 4) rfl rfl rfl rfl) (WK (D := fun d => .agg [.i 11, .i v, .i 0, d]) (k := 2) (.node rfl rfl rfl) rfl (by rw [Qx];rfl) (by rw [Qr];rfl) rfl)
 rw [if_neg h3]
 rw [show isM L 102 S = false by simpa using h3] at his2
 by_cases h4 : QH L S = [45]
 ·rw [if_pos h4]
  have hrn := (Wo h4 (by decide)).1
  have hnw2 := now_c (G := G) L (Qi S) hL
  by_cases h5 : QH L (Qi S) = [48]
  ·rw [if_pos h5]
   have hd : decide (QH L (Qi S) = [48]) = true := decide_eq_true h5
   have hfl := fail_c (G := G) L (Qi S)
   have hnm := qQ (G := G) L (WJ (Qi S)) hL
   rw [show Qh L (WJ (Qi S)) = (0, WJ (Qi S)) by unfold Qh QH WJ;simp [qx]] at hnm
   refine ⟨fun g B hg => ?_, by first|omega|(simp only;omega)|(simp only;rw [qE];omega)⟩
   refine Qa Tryz.func176 rfl Tryz.ntmps176 rfl (t := [(0, .ptr 0 g 0)]) rfl fun E0 hE1 => ?_
   (refine wkR6 ?_;intros)
   refine e_1 (Tryz.results176) (Qg (size := 4) rfl rfl rfl rfl) ?_
   rw [Qr]
   exact ZI rfl rfl
  ·rw [if_neg h5]
   have hd : decide (QH L (Qi S) = [48]) = false := decide_eq_false h5
   have hnm := qQ (G := G) L (Qi S) hL
   have hnl := rM_numeral L (Qi S)
   have hnb := numeralM_le L (Qi S)
   generalize (Qh L (Qi S)).1 = v at *
   generalize (Qh L (Qi S)).2 = S2 at *
   refine ⟨fun g B hg => ?_, by first|omega|(simp only;omega)|(simp only;rw [qE];omega)⟩
   refine Qa Tryz.func176 rfl Tryz.ntmps176 rfl (t := [(0, .ptr 0 g 0)]) rfl fun E0 hE1 => ?_
   (refine wkR6 ?_;intros)
   refine e_1 (Tryz.results176) (Qg (size := 4) rfl rfl rfl rfl) ?_
   rw [Qr]
   exact ZI rfl rfl
 rw [if_neg h4]
 by_cases hwTrue : QH L S = wTrue
 ·rw [if_pos hwTrue]
  have hrn := (Wo hwTrue (by decide)).1
  refine ⟨fun g B hg => ?_, by first|omega|(simp only;omega)|(simp only;rw [qE];omega)⟩
  refine Qa Tryz.func176 rfl Tryz.ntmps176 rfl (t := [(0, .ptr 0 g 0)]) rfl fun E0 hE1 => ?_
  (refine wkR6 ?_;intros)
  refine e_1 (Tryz.results176) (Qg (size := 4) rfl rfl rfl rfl) ?_
  rw [Qr]
  exact ZI rfl rfl
 rw [if_neg hwTrue]
 by_cases hwFalse : QH L S = wFalse
 ·rw [if_pos hwFalse]
  have hrn := (Wo hwFalse (by decide)).1
  refine ⟨fun g B hg => ?_, by first|omega|(simp only;omega)|(simp only;rw [qE];omega)⟩
  refine Qa Tryz.func176 rfl Tryz.ntmps176 rfl (t := [(0, .ptr 0 g 0)]) rfl fun E0 hE1 => ?_
  (refine wkR6 ?_;intros)
  refine e_1 (Tryz.results176) (Qg (size := 4) rfl rfl rfl rfl) ?_
  rw [Qr]
  exact ZI rfl rfl
 rw [if_neg hwFalse]
 by_cases h6 : QH L S = [40]
 ·rw [if_pos h6]
  have hrn := (Wo h6 (by decide)).1
  obtain ⟨hbin, hbl⟩ := binary_rc (G := G) hG1 L hL _ _ (hel (by omega)) (Qi S) (by omega)
  refine ⟨fun g B hg => ?_, by omega⟩
  refine Qa Tryz.func176 rfl Tryz.ntmps176 rfl (t := [(0, .ptr 0 g 0)]) rfl fun E0 hE1 => ?_
  (refine wkR6 ?_;intros)
  exact e_1 (Tryz.results176) (Qg (size := 4) rfl rfl (WZ _) (Enc.len _)) (ZI rfl rfl)
 rw [if_neg h6]
 by_cases h7 : QH L S = [33]
 ·rw [if_pos h7]
  have hrn := (Wo h7 (by decide)).1
  obtain ⟨hE2, hl2⟩ := hel (by omega) (Qi S) (by omega)
  generalize (Wm L (.mk 4 0 0 []) n (Qi S)).1 = xE at *
  generalize (Wm L (.mk 4 0 0 []) n (Qi S)).2 = S2 at *
  refine ⟨fun g B hg => ?_, by first|omega|(simp only;omega)|(simp only;rw [qE];omega)⟩
  refine Qa Tryz.func176 rfl Tryz.ntmps176 rfl (t := [(0, .ptr 0 g 0)]) rfl fun E0 hE1 => ?_
  (refine wkR6 ?_;intros)
  refine e_1 (Tryz.results176) (Qg (size := 4) rfl rfl rfl rfl) ?_
  rw [Qr]
  exact ZI (by simp [Qo, Wf];try rfl) rfl
 rw [if_neg h7]
 by_cases h8 : QH L S = wRecv
 ·rw [if_pos h8]
  have hrn := (Wo h8 (by decide)).1
  have hnb := numbered_c (G := G) L (Qi S) hL 99
  have hnl := ZP L 99 (Qi S)
  refine ⟨fun g B hg => ?_, by first|omega|(simp only;omega)|(simp only;rw [qE];omega)⟩
  refine Qa Tryz.func176 rfl Tryz.ntmps176 rfl (t := [(0, .ptr 0 g 0)]) rfl fun E0 hE1 => ?_
  (refine wkR6 ?_;intros)
  refine e_1 (Tryz.results176) (Qg (size := 4) rfl rfl rfl rfl) ?_
  rw [Qr]
  exact ZI rfl rfl
 rw [if_neg h8]
 refine ⟨fun g B hg => ?_, by first|omega|(simp only;omega)|(simp only;rw [qE];omega)⟩
 refine Qa Tryz.func176 rfl Tryz.ntmps176 rfl (t := [(0, .ptr 0 g 0)]) rfl fun E0 hE1 => ?_
 (refine wkR6 ?_;intros)
 exact e_1 (Tryz.results176) (Qg (size := 4) rfl rfl rfl rfl) (WU (es := 4) (.node rfl rfl rfl) (by show _ = DV.agg (Enc.enc (Nd.mk 0 0 0 []));rw [Qr];rfl) rfl)
end Go.Proofs
end
section
namespace Go.Proofs
open Go.Av Go.Bl
theorem jr {α : Type} {L : W7} {F : RS -> α × RS} (h : ∀ i, J i True F F) (S : RS) : rM L (F S).2 <= rM L S /\ mM L (F S).2 <= mM L S := by
 obtain ⟨h1, h2, _⟩ := h 0 S
 unfold rM mM
 cases hb : S.bad with
 | true => rw [h2 hb];simp
 | false => constructor <;> split <;> simp <;> omega
theorem jB {L : W7} {T : Rd1} (hT : ∀ i c, J i c T T) (k i : Nat) (c : Prop) : J i c (QW L T k) (QW L T k) := J.block (Ag.refl L i) (hT i) k c
theorem jS {L : W7} {E : Rd1} (hE : ∀ i c, J i c E E) (q n i : Nat) (c : Prop) : J i c (Wl L E q n) (Wl L E q n) := J.stmt (Ag.refl L i) (hE i) q n c
theorem mm_is {L : W7} {S : RS} {c : UInt8} (h : isM L c S = true) : mM L (Qf L c S).2 < mM L S := by
 have h1 := mm_next (L := L) (S := S) rfl (is_now h).1
 unfold Qf;rw [if_pos h];exact h1
theorem eats_st {L : W7} {E : Rd1} (hE : ∀ i c, J i c E E) (q n : Nat) : Eats L (Wl L E q (n + 1)) := by
 intro S hb
 rw [Wl]
 have hB : ∀ i c, J i c (QW L (Wl L E q n) n) (QW L (Wl L E q n) n) := fun i c => jB (fun i c => jS hE q n i c) n i c
 have nx : ∀ {α : Type} {F : RS -> α × RS} {s : List UInt8}, (∀ i, J i True F F) -> QH L S = s -> s ≠ [] -> mM L (F (Qi S)).2 < mM L S := fun hF h1 h2 => Nat.lt_of_le_of_lt (jr hF (Qi S)).2 (mm_next h1 h2)
 by_cases h : QH L S = [123]
 ·rw [if_pos h]
  have h1 := (mm_take (L := L) (S := S) [123] (by decide)).1
  have h2 := rm_mM L S
  have h3 : rM L S < mM L S := by unfold rM mM;rw [hb];simp
  have h4 : mM L (Q4 L (Wl L E q n) n [] (QC L [123] S)).2 <= mM L (QC L [123] S) := (jr (fun i => J.bloop (Ag.refl L i) (fun c => jS hE q n i c) n True [] [] fun _ => rfl) _).2
  show mM L (Q4 L (Wl L E q n) n [] (QC L [123] S)).2 < _
  omega
 rw [if_neg h]
 clear h
 by_cases h : isM L 118 S = true
 ·rw [if_pos h]
  have h1 := mm_is h
  have h2 : mM L (QX L E S).2 <= mM L (Qf L 118 S).2 := (jr (fun i => (J.vtail (Ag.refl L i) (hE i) _ _ : J i (True /\ (Qf L 118 S).1 = (Qf L 118 S).1) _ _).weak fun _ => ⟨trivial, rfl⟩) _).2
  have h3 : mM L (qe L E S).2 <= mM L (QX L E S).2 := (jr (fun i => (J.atail (Ag.refl L i) (hE i) _ _ : J i (True /\ (QX L E S).1 = (QX L E S).1) _ _).weak fun _ => ⟨trivial, rfl⟩) _).2
  omega
 rw [if_neg h]
 clear h
 by_cases h : QH L S = wIf
 ·rw [if_pos h]
  exact nx (F := ifM L E (QW L (Wl L E q n) n)) (fun i => J.iff (Ag.refl L i) (hE i) (hB i)) h (by decide)
 rw [if_neg h]
 clear h
 by_cases h : QH L S = wWhile
 ·rw [if_pos h]
  exact nx (F := whileM E (QW L (Wl L E q n) n)) (fun i => J.whil (hE i) (hB i)) h (by decide)
 rw [if_neg h]
 clear h
 by_cases h : QH L S = wReturn
 ·rw [if_pos h]
  exact nx (F := oneM E 19 0) (fun i => J.one (hE i) _ _ _ fun _ => rfl) h (by decide)
 rw [if_neg h]
 clear h
 by_cases h : QH L S = wThrow
 ·rw [if_pos h]
  exact nx (F := oneM E 20 0) (fun i => J.one (hE i) _ _ _ fun _ => rfl) h (by decide)
 rw [if_neg h]
 clear h
 by_cases h : QH L S = wOut
 ·rw [if_pos h]
  exact nx (F := oneM E 24 0) (fun i => J.one (hE i) _ _ _ fun _ => rfl) h (by decide)
 rw [if_neg h]
 clear h
 by_cases h : QH L S = wSkip
 ·rw [if_pos h]
  exact mm_next h (by decide)
 rw [if_neg h]
 clear h
 by_cases h : QH L S = wTry
 ·rw [if_pos h]
  exact nx (F := tryM L (QW L (Wl L E q n) n)) (fun i => J.tri (Ag.refl L i) (hB i)) h (by decide)
 rw [if_neg h]
 clear h
 by_cases h : QH L S = wSend
 ·rw [if_pos h]
  have h1 := mm_next h (by decide)
  have h2 := (jr (L := L) (F := Qf L 99) (fun i => J.numbered (Ag.refl L i) 99) (Qi S)).2
  have h3 := (jr (L := L) (F := oneM E 22 (Qf L 99 (Qi S)).1) (fun i => J.one (hE i) _ _ _ fun _ => rfl) (Qf L 99 (Qi S)).2).2
  omega
 rw [if_neg h]
 clear h
 by_cases h : QH L S = wSpawn
 ·rw [if_pos h]
  have h1 := mm_next h (by decide)
  have h2 := (jr (L := L) (F := Qf L 102) (fun i => J.numbered (Ag.refl L i) 102) (Qi S)).2
  have h3 := (jr (L := L) (F := Wv L E q) (fun i => J.arg (Ag.refl L i) (hE i) q) (Qf L 102 (Qi S)).2).2
  show mM L (Wv L E q (Qf L 102 (Qi S)).2).2 < _
  omega
 rw [if_neg h]
 exact mm_fail hb
end Go.Proofs
end
section
namespace Go.Proofs
open Go.Av
variable {G : Nat -> DV}
attribute [local irreducible] OpSem WR Zc Zp ACalls ZS AClose RV
open Go.Bl
theorem wkR9 {X W0 W1 W2 : Prop} (w0 : W0 := by exact True.intro) (w1 : W1 := by exact True.intro) (w2 : W2 := by exact True.intro) (s : (Unit -> W0) -> (Unit -> W1) -> (Unit -> W2) -> Unit -> X := by (intro w0 w1 w2 _;(repeat' first|(refine Qz ?_;(first|refine Ws rfl ?_|refine WM rfl ?_|(refine QN ?_;(first|refine Z4 rfl rfl ?_|refine Qc rfl rfl rfl ?_))|refine Zr rfl rfl ?_|(refine QK ?_;(first|refine s_callv_og rfl rfl (hval _ _ _ _ (by omega)) (fun _ _ => ?_)|refine Wh 0 (now_c L S hL) rfl rfl rfl rfl ?_|refine Wh 0 (his1) rfl rfl rfl rfl ?_|refine Wh 0 (hblk) rfl rfl rfl rfl ?_|refine Wh 0 (hbla) rfl rfl rfl rfl ?_|refine Wh 0 (hblb) rfl rfl rfl rfl ?_|refine Wh 0 (hasg) rfl rfl rfl rfl ?_|refine Wh 0 (htk) rfl rfl rfl rfl ?_|refine Wh 0 (hnb) rfl rfl rfl rfl ?_|refine Wh 0 (have_f L S hL _ (by decide) (by assumption)) rfl rfl rfl rfl ?_|refine Wh 0 (have_t L S hL _ (by decide) (by assumption)) rfl rfl rfl rfl ?_|refine Wh 0 (fail_c L S) rfl rfl rfl rfl ?_|refine s_co 0 (hargs) (by first|exact .id|exact .node rfl rfl rfl) rfl rfl rfl rfl (Qy _) (fun _ _ => ?_)|refine Zy (z := xa) rfl rfl rfl rfl rfl rfl rfl (by first|omega|(simp;done)|(simp;omega)) (by first|omega|(simp;done)|(simp;omega)) (fun _ => rfl) (fun _ _ => ?_)|refine Zy (z := xb) rfl rfl rfl rfl rfl rfl rfl (by first|omega|(simp;done)|(simp;omega)) (by first|omega|(simp;done)|(simp;omega)) (fun _ => rfl) (fun _ _ => ?_)))|(refine Wr ?_;(first|refine qh rfl rfl rfl rfl ?_|refine Wg rfl rfl rfl rfl (by rfl) (by rfl) (by rfl) ?_))|refine Qe rfl rfl ?_|refine QB rfl rfl ?_|refine Zu rfl rfl ?_|refine QU (fun _ _ => ?_)|refine ZC rfl rfl (fun _ _ => ?_)))|(refine We ?_;(first|refine Wb ?_|refine Zg rfl ?_|refine WI ?_))|(refine Wc ?_;(first|refine Q7 ?_|refine Qm ?_|refine QM ?_|(refine WC ?_;first|(refine Ql ((fun gb g2 gt g p => p :: .row gb [.ptr 0 g 0] :: .row g2 [.i 0, .i 0, .i 0, .nil] :: .row gt (Enc.enc xa) :: []) _ _ _ _) 6 [(0, true), (1, true), (2, true), (3, false), (4, true), (5, true), (6, false)] (by rfl) (by rfl) (by kernel_rfl) (by decide +kernel) (by decide +kernel) ⟨_, rfl⟩ ?_)|(refine Ql ((fun gb g2 gn g gc2 p => p.1 :: .row gb [.ptr 0 g 0] :: .row g2 [.i 0, .i 0, .i 0, .nil] :: p.2 :: .row gn [.i 17, .i 0, .i 0, .ref 3 gc2 0 ([xE] ++ [xa]).length 4] :: []) _ _ _ _ _) 7 [(0, true), (1, true), (2, true), (3, false), (4, true), (5, false), (6, true), (7, false)] (by rfl) (by rfl) (by kernel_rfl) (by decide +kernel) (by decide +kernel) ⟨(_, _), rfl⟩ ?_)|(refine Ql ((fun gb g2 gn g gc p => p.1 :: .row gb [.ptr 0 g 0] :: .row g2 [.i 0, .i 0, .i 0, .nil] :: p.2 :: .row gn [.i 18, .i 0, .i 0, .ref 3 gc 0 [xE].length 4] :: []) _ _ _ _ _) 7 [(0, true), (1, true), (2, true), (3, false), (4, true), (5, false), (6, true), (7, false)] (by rfl) (by rfl) (by kernel_rfl) (by decide +kernel) (by decide +kernel) ⟨(_, _), rfl⟩ ?_)|(refine Ql ((fun gb g2 gn g gc p => p.1 :: .row gb [.ptr 0 g 0] :: .row g2 [.i 0, .i 0, .i 0, .nil] :: p.2 :: .row gn [.i 17, .i 0, .i 0, .ref 3 gc 0 [xE].length 4] :: []) _ _ _ _ _) 7 [(0, true), (1, true), (2, true), (3, false), (4, true), (5, false), (6, true), (7, false)] (by rfl) (by rfl) (by kernel_rfl) (by decide +kernel) (by decide +kernel) ⟨(_, _), rfl⟩ ?_)|(refine Ql (fun p => p.1 :: p.2 :: []) 100 [(0, true)] (by rfl) (by rfl) (by kernel_rfl) (by decide +kernel) (by decide +kernel) ⟨(_, _), rfl⟩ ?_)|(refine Ql (fun p => p) 100 [(0, true)] (by rfl) (by rfl) (by kernel_rfl) (by decide +kernel) (by decide +kernel) ⟨_, rfl⟩ ?_)|refine Q9 (by rfl) (by kernel_rfl) (by kernel_rfl) ?_|refine Q8 (by kernel_rfl) (by kernel_rfl) ?_)|refine QV ?_|refine QD rfl ?_|refine QR rfl ?_|refine Qu rfl (by omega) ?_|refine Qn rfl (by omega) ?_|refine Wi ?_))|(refine ZG ?_;(first|refine qL ?_|refine i_z0 ?_|refine i_st rfl rfl (fun _ => (by (repeat' first|(refine Qz ?_;(first|refine Ws rfl ?_|(refine QN ?_;(first|refine Z4 rfl rfl ?_|refine Qc rfl rfl rfl ?_))|(refine ZA ?_;(first|refine WO (y := xa) (z := xb) rfl rfl (by decide) ?_|refine QO (z := xa) rfl rfl (by decide) ?_|refine QO (z := xb) rfl rfl (by decide) ?_))|refine Qe rfl rfl ?_|refine QB rfl rfl ?_))|exact ⟨rfl, rfl⟩))) ?_|refine i_ef rfl ?_))|refine And.intro (Exists.intro (_) rfl) ?_|refine And.intro (Exists.intro ((_, _)) rfl) ?_);(all_goals (repeat (rename_i x;(fail_if_success have : Unit := x);revert x)));(first|done|exact w0 ());(first|done|exact w1 ());(first|done|exact w2 ()))) (u : (W0 \/ True) /\ (W1 \/ True) /\ (W2 \/ True) := by (refine ⟨?_, ?_, ?_⟩ <;> first|exact Or.inl True.intro|exact Or.inr True.intro)) : X := s (fun _ => w0) (fun _ => w1) (fun _ => w2) ()
theorem stmt_rc (L : W7) (hL : OkL L) (E : Rd1) (hEj : ∀ i c, J i c E E) (q : Nat) (r1 : Nat) (hE : ElC G 176 L E r1) (hq : r1 + 1 <= q) : ∀ (n : Nat) (S : RS), rM L S + 2 <= n -> rM L S <= r1 + 1 -> CE Tryz.prog G 152 (fun p g => [.ptr p g 0]) (rdC L S) (.agg (Enc.enc (Wl L E q n S).1)) (rdC L (Wl L E q n S).2) := by
 intro n
 induction n with
 | zero => intro S h;omega
 | succ n ih =>
 intro S hn hr1
 have hjs := jS (L := L) hEj q n
 have hB := fun i c => jB (L := L) hjs n i c
 have hel : rM L S >= 1 -> ElC G 152 L (Wl L E q n) (rM L S - 1) := fun h1 Q hQ => ⟨ih Q (by omega) (by omega), (jr (fun i => hjs i True) Q).1⟩
 have heat : rM L S >= 1 -> Eats L (Wl L E q n) := fun h1 => by
  obtain ⟨n', rfl⟩ : ∃ n', n = n' + 1 := ⟨n - 1, by omega⟩
  exact eats_st hEj q n'
 have blk : rM L S >= 1 -> ∀ Q, rM L Q <= rM L S -> CE Tryz.prog G 111 (fun p g => [.ptr p g 0]) (rdC L Q) (.agg (Enc.enc (QW L (Wl L E q n) n Q).1)) (rdC L (QW L (Wl L E q n) n Q).2) := fun h1 Q hQ => block_rc L hL _ (rM L S - 1) n (hel h1) (heat h1) Q (by omega) (by omega)
 have bln : ∀ Q, rM L (QW L (Wl L E q n) n Q).2 <= rM L Q := fun Q => (jr (fun i => hB i True) Q).1
 clear ih hel heat
 rw [Wl]
 by_cases h1 : QH L S = [123]
 ·rw [if_pos h1]
  have hd : decide (QH L S = [123]) = true := decide_eq_true h1
  have hrn := (Wo h1 (by decide)).1
  have hblk := blk (by omega) S (Nat.le_refl _)
  clear blk bln
  intro g B hg
  refine Qa Tryz.func152 rfl Tryz.ntmps152 rfl (t := [(0, .ptr 0 g 0)]) rfl fun E0 hE1 => ?_
  (refine wkR9 ?_;intros)
  exact e_1 (Tryz.results152) (Qg (size := 4) rfl rfl (WZ _) (Enc.len _)) (ZI rfl rfl)
 rw [if_neg h1]
 have hd : decide (QH L S = [123]) = false := decide_eq_false h1
 have his1 := is_c (G := G) L S hL 118
 by_cases h2 : isM L 118 S = true
 ·rw [if_pos h2]
  rw [h2] at his1
  have hrn := (Wo (L := L) (S := S) rfl (is_now h2).1).1
  have hasg := assign_rc (G := G) L hL E r1 hE S (by omega) h2
  clear blk bln
  intro g B hg
  refine Qa Tryz.func152 rfl Tryz.ntmps152 rfl (t := [(0, .ptr 0 g 0)]) rfl fun E0 hE1 => ?_
  (refine wkR9 ?_;intros)
  exact e_1 (Tryz.results152) (Qg (size := 4) rfl rfl (WZ _) (Enc.len _)) (ZI rfl rfl)
 rw [if_neg h2]
 rw [show isM L 118 S = false by simpa using h2] at his1
 by_cases hwIf : QH L S = wIf
 ·rw [if_pos hwIf]
  have hrn := (Wo hwIf (by decide)).1
  unfold ifM
  have hval := fun (gb g2 B' g : Nat) (h : g <= B') => stmt1_rc (G := G) L E r1 hE (Qi S) (by omega) 17 g gb g2 B' h
  have hel := (hE (Qi S) (by omega)).2
  simp only
  generalize (E (Qi S)).1 = xE at *
  generalize (E (Qi S)).2 = S1 at *
  have hbla := blk (by omega) S1 (by omega)
  have hbll := bln S1
  generalize (QW L (Wl L E q n) n S1).1 = xa at *
  generalize (QW L (Wl L E q n) n S1).2 = S2 at *
  have htk := take_c (G := G) L S2 hL wElse (by decide)
  have htl := qc (L := L) (S := S2) wElse (by decide)
  generalize QC L wElse S2 = S3 at *
  have hblb := blk (by omega) S3 (by omega)
  generalize (QW L (Wl L E q n) n S3).1 = xb at *
  generalize (QW L (Wl L E q n) n S3).2 = S4 at *
  clear blk bln
  intro g B hg
  refine Qa Tryz.func152 rfl Tryz.ntmps152 rfl (t := [(0, .ptr 0 g 0)]) rfl fun E0 hE1 => ?_
  (refine wkR9 ?_;intros)
  exact e_1 (Tryz.results152) (Qg (size := 4) rfl rfl rfl rfl) (WK (D := fun d => .agg [.i 17, .i 0, .i 0, d]) (k := 2) (.node rfl rfl rfl) rfl (by rw [Qx];rfl) (by rw [Qr];rfl) rfl)
 rw [if_neg hwIf]
 by_cases hwWhile : QH L S = wWhile
 ·rw [if_pos hwWhile]
  have hrn := (Wo hwWhile (by decide)).1
  unfold whileM
  have hval := fun (gb g2 B' g : Nat) (h : g <= B') => stmt1_rc (G := G) L E r1 hE (Qi S) (by omega) 18 g gb g2 B' h
  have hel := (hE (Qi S) (by omega)).2
  simp only
  generalize (E (Qi S)).1 = xE at *
  generalize (E (Qi S)).2 = S1 at *
  have hbla := blk (by omega) S1 (by omega)
  have hbll := bln S1
  generalize (QW L (Wl L E q n) n S1).1 = xa at *
  generalize (QW L (Wl L E q n) n S1).2 = S2 at *
  clear blk bln
  intro g B hg
  refine Qa Tryz.func152 rfl Tryz.ntmps152 rfl (t := [(0, .ptr 0 g 0)]) rfl fun E0 hE1 => ?_
  (refine wkR9 ?_;intros)
  exact e_1 (Tryz.results152) (Qg (size := 4) rfl rfl rfl rfl) (WK (D := fun d => .agg [.i 18, .i 0, .i 0, d]) (k := 2) (.node rfl rfl rfl) rfl (by rw [Qx];rfl) (by rw [Qr];rfl) rfl)
 rw [if_neg hwWhile]
 by_cases hwReturn : QH L S = wReturn
 ·rw [if_pos hwReturn]
  have hrn := (Wo hwReturn (by decide)).1
  unfold oneM
  have hval := fun (gb g2 B' g : Nat) (h : g <= B') => stmt1_rc (G := G) L E r1 hE (Qi S) (by omega) 19 g gb g2 B' h
  generalize (E (Qi S)).1 = xE at *
  generalize (E (Qi S)).2 = S1 at *
  clear blk bln
  intro g B hg
  refine Qa Tryz.func152 rfl Tryz.ntmps152 rfl (t := [(0, .ptr 0 g 0)]) rfl fun E0 hE1 => ?_
  (refine wkR9 ?_;intros)
  exact e_1 (Tryz.results152) (Qg (size := 4) rfl rfl rfl rfl) (WK (D := fun d => .agg [.i 19, .i 0, .i 0, d]) (k := 2) (.node rfl rfl rfl) rfl (by rw [Qx];rfl) (by rw [Qr];rfl) rfl)
 rw [if_neg hwReturn]
 by_cases hwThrow : QH L S = wThrow
 ·rw [if_pos hwThrow]
  have hrn := (Wo hwThrow (by decide)).1
  unfold oneM
  have hval := fun (gb g2 B' g : Nat) (h : g <= B') => stmt1_rc (G := G) L E r1 hE (Qi S) (by omega) 20 g gb g2 B' h
  generalize (E (Qi S)).1 = xE at *
  generalize (E (Qi S)).2 = S1 at *
  clear blk bln
  intro g B hg
  refine Qa Tryz.func152 rfl Tryz.ntmps152 rfl (t := [(0, .ptr 0 g 0)]) rfl fun E0 hE1 => ?_
  (refine wkR9 ?_;intros)
  exact e_1 (Tryz.results152) (Qg (size := 4) rfl rfl rfl rfl) (WK (D := fun d => .agg [.i 20, .i 0, .i 0, d]) (k := 2) (.node rfl rfl rfl) rfl (by rw [Qx];rfl) (by rw [Qr];rfl) rfl)
 rw [if_neg hwThrow]
 by_cases hwOut : QH L S = wOut
 ·rw [if_pos hwOut]
  have hrn := (Wo hwOut (by decide)).1
  unfold oneM
  have hval := fun (gb g2 B' g : Nat) (h : g <= B') => stmt1_rc (G := G) L E r1 hE (Qi S) (by omega) 24 g gb g2 B' h
  generalize (E (Qi S)).1 = xE at *
  generalize (E (Qi S)).2 = S1 at *
  clear blk bln
  intro g B hg
  refine Qa Tryz.func152 rfl Tryz.ntmps152 rfl (t := [(0, .ptr 0 g 0)]) rfl fun E0 hE1 => ?_
  (refine wkR9 ?_;intros)
  exact e_1 (Tryz.results152) (Qg (size := 4) rfl rfl rfl rfl) (WK (D := fun d => .agg [.i 24, .i 0, .i 0, d]) (k := 2) (.node rfl rfl rfl) rfl (by rw [Qx];rfl) (by rw [Qr];rfl) rfl)
 rw [if_neg hwOut]
 by_cases hwSkip : QH L S = wSkip
 ·rw [if_pos hwSkip]
  have hrn := (Wo hwSkip (by decide)).1
  clear blk bln
  intro g B hg
  refine Qa Tryz.func152 rfl Tryz.ntmps152 rfl (t := [(0, .ptr 0 g 0)]) rfl fun E0 hE1 => ?_
  (refine wkR9 ?_;intros)
  exact e_1 (Tryz.results152) (Qg (size := 4) rfl rfl rfl rfl) (WU (es := 4) (.node rfl rfl rfl) (by rw [Qr];rfl) rfl)
 rw [if_neg hwSkip]
 by_cases hwTry : QH L S = wTry
 ·rw [if_pos hwTry]
  have hrn := (Wo hwTry (by decide)).1
  unfold tryM
  simp only
  have hbla := blk (by omega) (Qi S) (by omega)
  have hbll := bln (Qi S)
  generalize (QW L (Wl L E q n) n (Qi S)).1 = xa at *
  generalize (QW L (Wl L E q n) n (Qi S)).2 = S2 at *
  have htk := take_c (G := G) L S2 hL qy (by decide)
  have htl := qc (L := L) (S := S2) qy (by decide)
  generalize QC L qy S2 = S3 at *
  have hnb := numbered_c (G := G) L S3 hL 118
  have hnl := ZP L 118 S3
  generalize (Qf L 118 S3).1 = v at *
  generalize (Qf L 118 S3).2 = S4 at *
  have hblb := blk (by omega) S4 (by omega)
  generalize (QW L (Wl L E q n) n S4).1 = xb at *
  generalize (QW L (Wl L E q n) n S4).2 = S5 at *
  clear blk bln
  intro g B hg
  refine Qa Tryz.func152 rfl Tryz.ntmps152 rfl (t := [(0, .ptr 0 g 0)]) rfl fun E0 hE1 => ?_
  (refine wkR9 ?_;intros)
  refine e_1 (Tryz.results152) (Qg (size := 4) rfl rfl rfl rfl) ?_
  rw [Qr]
  exact ZI rfl rfl
 rw [if_neg hwTry]
 by_cases hwSend : QH L S = wSend
 ·rw [if_pos hwSend]
  have hrn := (Wo hwSend (by decide)).1
  unfold oneM
  have hnb := numbered_c (G := G) L (Qi S) hL 99
  have hnl := ZP L 99 (Qi S)
  generalize (Qf L 99 (Qi S)).1 = v at *
  generalize (Qf L 99 (Qi S)).2 = S1 at *
  have hval := fun (gb g2 B' g : Nat) (h : g <= B') => stmt1_rc (G := G) L E r1 hE S1 (by omega) 22 g gb g2 B' h
  generalize (E S1).1 = xE at *
  generalize (E S1).2 = S2 at *
  clear blk bln
  intro g B hg
  refine Qa Tryz.func152 rfl Tryz.ntmps152 rfl (t := [(0, .ptr 0 g 0)]) rfl fun E0 hE1 => ?_
  (refine wkR9 ?_;intros)
  exact e_1 (Tryz.results152) (Qg (size := 4) rfl rfl rfl rfl) (WK (D := fun d => .agg [.i 22, .i v, .i 0, d]) (k := 2) (.node rfl rfl rfl) rfl (by rw [Qx];rfl) (by rw [Qr];rfl) rfl)
 rw [if_neg hwSend]
 by_cases hwSpawn : QH L S = wSpawn
 ·rw [if_pos hwSpawn]
  have hrn := (Wo hwSpawn (by decide)).1
  have hnb := numbered_c (G := G) L (Qi S) hL 102
  have hnl := ZP L 102 (Qi S)
  generalize (Qf L 102 (Qi S)).1 = v at *
  generalize (Qf L 102 (Qi S)).2 = S1 at *
  have hargs := args_rc (G := G) 176 L E r1 q hL hE S1 (by omega) (by omega)
  clear blk bln
  intro g B hg
  refine Qa Tryz.func152 rfl Tryz.ntmps152 rfl (t := [(0, .ptr 0 g 0)]) rfl fun E0 hE1 => ?_
  (refine wkR9 ?_;intros)
  exact e_1 (Tryz.results152) (Qg (size := 4) rfl rfl rfl rfl) (WK (D := fun d => .agg [.i 23, .i v, .i 0, d]) (k := 2) (.node rfl rfl rfl) rfl (by rw [Qx];rfl) (by rw [Qr];rfl) rfl)
 rw [if_neg hwSpawn]
 clear blk bln
 intro g B hg
 refine Qa Tryz.func152 rfl Tryz.ntmps152 rfl (t := [(0, .ptr 0 g 0)]) rfl fun E0 hE1 => ?_
 (refine wkR9 ?_;intros)
 exact e_1 (Tryz.results152) (Qg (size := 4) rfl rfl rfl rfl) (WU (es := 4) (.node rfl rfl rfl) (by show _ = DV.agg (Enc.enc (Nd.mk 0 0 0 []));rw [Qr];rfl) rfl)
end Go.Proofs
end
section
namespace Go.Proofs
open Go.Av Go.Bl
section
variable {α β : Type} {c d : Nat} {L : W7} {z : Nd}
def KW (c : Nat) (ν : α -> Nat) (F : RS -> α × RS) : Prop := ∀ S, (F S).2.bad = false -> S.bad = false /\ S.p + ν (F S).1 <= (F S).2.p + c
theorem KW.bind {μ : α -> Nat} {ν : β -> Nat} {F : RS -> α × RS} {K : α -> RS -> β × RS} (h : KW c μ F) (hk : ∀ a, KW (d + μ a) ν (K a)) : KW (c + d) ν (fun S => K (F S).1 (F S).2) := fun S hb => by
 obtain ⟨h1, h2⟩ := hk _ _ hb
 obtain ⟨h3, h4⟩ := h S h1
 exact ⟨h3, by show S.p + ν (K (F S).1 (F S).2).1 <= (K (F S).1 (F S).2).2.p + (c + d);omega⟩
theorem KW.next {ν : α -> Nat} {F : RS -> α × RS} (h : KW (c + 1) ν F) : KW c ν (fun S => F (Qi S)) := fun S hb => by
 obtain ⟨h1, h2⟩ := h (Qi S) hb
 exact ⟨h1, by have : (Qi S).p = S.p + 1 := rfl;show S.p + ν (F (Qi S)).1 <= (F (Qi S)).2.p + c;omega⟩
theorem KW.take {ν : α -> Nat} {F : RS -> α × RS} (s : List UInt8) (h : KW (c + 1) ν F) : KW c ν (fun S => F (QC L s S)) := fun S hb => by
 obtain ⟨h1, h2⟩ := h (QC L s S) hb
 unfold QC at h1
 split at h1
 ·rename_i hn
  have e : QC L s S = Qi S := by unfold QC;rw [if_pos hn]
  have : (Qi S).p = S.p + 1 := rfl
  rw [e] at h2
  refine ⟨h1, ?_⟩
  show S.p + ν (F (QC L s S)).1 <= (F (QC L s S)).2.p + c
  rw [e];omega
 ·cases h1
theorem KW.ite {ν : α -> Nat} {P : RS -> Prop} [DecidablePred P] {F H : RS -> α × RS} (h1 : KW c ν F) (h2 : KW c ν H) : KW c ν (fun S => if P S then F S else H S) := fun S hb => by
 by_cases hp : P S
 ·simp only [if_pos hp] at hb ⊢;exact h1 S hb
 ·simp only [if_neg hp] at hb ⊢;exact h2 S hb
theorem KW.val {ν : α -> Nat} {a : α} (h : ν a <= c) : KW c ν (fun S => (a, S)) := fun S hb => ⟨hb, by show S.p + ν a <= S.p + c;omega⟩
theorem KW.vnext {ν : α -> Nat} {a : α} (h : ν a <= c + 1) : KW c ν (fun S => (a, Qi S)) := KW.next (F := fun S => (a, S)) (KW.val h)
theorem KW.fail {ν : α -> Nat} {F : RS -> α} {G : RS -> RS} : KW c ν (fun S => (F S, WJ (G S))) := fun S hb => by cases hb
theorem KW.map {ν : α -> Nat} {ξ : β -> Nat} {F : RS -> α × RS} {u : α -> β} (h : KW c ν F) (hu : ∀ a, ξ (u a) <= ν a + d) : KW (c + d) ξ (fun S => (u (F S).1, (F S).2)) := h.bind (K := fun a S => (u a, S)) fun a => KW.val (by have := hu a;omega)
theorem KW.conv {ν : α -> Nat} {F : RS -> α × RS} (h : KW c ν F) (e : c = d) : KW d ν F := e ▸ h
abbrev one1 : Int -> Nat := fun _ => 1
theorem KW.numeral : KW 0 one1 (Qh L) := by
 refine KW.ite (P := fun S => qx (QH L S) = true) (F := fun S => (valM (QH L S), Qi S)) (H := fun S => (0, WJ S)) (fun S hb => ⟨hb, ?_⟩) KW.fail
 show S.p + 1 <= S.p + 1 + 0;omega
theorem KW.numbered (x : UInt8) : KW 0 one1 (Qf L x) := by
 refine KW.ite (P := fun S => isM L x S = true) (F := fun S => (valM ((QH L S).drop 1), Qi S)) (H := fun S => (0, WJ S)) (fun S hb => ⟨hb, ?_⟩) KW.fail
 show S.p + 1 <= S.p + 1 + 0;omega
theorem ZJ (x : Nd) : Qs [x] = Qk x := by simp [Qs]
theorem KW.loop {E : Rd1} (hE : KW 0 Qk E) : ∀ (k : Nat) (o : List Nd), KW (Qs o) Qs (QJ L E k o)
 | 0, o => KW.val (Nat.le_refl _)
 | k + 1, o => by
  refine KW.ite (P := fun S => QH L S = [44]) (F := fun S => QJ L E k (o ++ [(E (Qi S)).1]) (E (Qi S)).2) (H := fun S => (o, S)) ?_ (KW.val (Nat.le_refl _))
  refine KW.next (F := fun S => QJ L E k (o ++ [(E S).1]) (E S).2) ?_
  refine (hE.bind (d := Qs o + 1) (K := fun a S => QJ L E k (o ++ [a]) S) fun a => ?_).conv (by omega)
  have := KW.loop hE k (o ++ [a])
  intro S hb
  obtain ⟨h1, h2⟩ := this S hb
  rw [qA, ZJ] at h2
  exact ⟨h1, by show S.p + Qs (QJ L E k (o ++ [a]) S).1 <= (QJ L E k (o ++ [a]) S).2.p + (Qs o + 1 + Qk a);omega⟩
theorem KW.lst {E : Rd1} (hE : KW 0 Qk E) (k : Nat) : KW 0 Qs (ZM L E k) := by
 refine (hE.bind (d := 0) (K := fun a S => ((QJ L E k [a] S).1, QC L [41] (QJ L E k [a] S).2)) fun a => ?_).conv (by omega)
 refine ((KW.loop (L := L) hE k [a]).bind (d := 0) (K := fun b S => (b, QC L [41] S)) fun b => ?_).conv (by rw [ZJ];omega)
 exact KW.take (F := fun S => (b, S)) [41] (KW.val (by omega))
theorem KW.arg {E : Rd1} (hE : KW 0 Qk E) (k : Nat) : KW 0 Qs (Wv L E k) := by
 refine KW.take (F := fun S => if QH L S = [41] then ([], Qi S) else ZM L E k S) [40] ?_
 refine KW.ite (P := fun S => QH L S = [41]) (F := fun S => ([], Qi S)) (KW.vnext (by simp [Qs])) fun S hb => ?_
 obtain ⟨h1, h2⟩ := KW.lst hE k S hb
 exact ⟨h1, by omega⟩
theorem KW.variable {E : Rd1} (hE : KW 0 Qk E) : KW 0 Qk (QX L E) := by
 refine ((KW.numbered (L := L) 118).bind (d := 0) (K := fun a S => qP L E a S) fun a => ?_).conv (by omega)
 refine KW.ite (P := fun S => QH L S = [91]) (F := fun S => (Nd.mk 7 a 0 [(E (Qi S)).1], QC L [93] (E (Qi S)).2)) ?_ ?_
 ·refine KW.next (F := fun S => (Nd.mk 7 a 0 [(E S).1], QC L [93] (E S).2)) ?_
  refine (hE.bind (d := 0 + one1 a + 1) (K := fun x S => (Nd.mk 7 a 0 [x], QC L [93] S)) fun x => ?_).conv (by omega)
  exact KW.take (F := fun S => (Nd.mk 7 a 0 [x], S)) [93] (KW.val (by rw [Qk, ZJ];show 1 + Qk x <= 0 + 1 + 1 + Qk x + 1;omega))
 ·refine KW.ite (P := fun S => QH L S = [46]) (F := fun S => (Nd.mk 8 a (Qh L (Qi S)).1 [], (Qh L (Qi S)).2)) (H := fun S => (Nd.mk 6 a 0 [], S)) ?_ (KW.val (by rw [Qk, Qs];show 1 + 0 <= 0 + 1;omega))
  refine KW.next (F := fun S => (Nd.mk 8 a (Qh L S).1 [], (Qh L S).2)) ?_
  exact ((KW.numeral (L := L)).map (ξ := Qk) (d := 0 + one1 a + 1) (u := fun x => Nd.mk 8 a x []) fun x => by rw [Qk, Qs];show 1 + 0 <= 1 + (0 + 1 + 1);omega).conv (by omega)
theorem KW.binary {E : Rd1} (hE : KW 0 Qk E) : KW 0 Qk (Z0 L E) := by
 refine (hE.bind (d := 0) (K := fun a S => if qF (QH L S) < 0 then (zNd, WJ S) else (.mk 9 (qF (QH L S)) 0 [a, (E (Qi S)).1], QC L [41] (E (Qi S)).2)) fun a => ?_).conv (by omega)
 refine KW.ite (P := fun S => qF (QH L S) < 0) (F := fun S => (zNd, WJ S)) KW.fail fun S hb => ?_
 have key : ∀ v, KW (0 + Qk a) Qk (fun S => (Nd.mk 9 v 0 [a, (E (Qi S)).1], QC L [41] (E (Qi S)).2)) := fun v => by
  refine KW.next (F := fun S => (Nd.mk 9 v 0 [a, (E S).1], QC L [41] (E S).2)) ?_
  refine (hE.bind (d := 0 + Qk a + 1) (K := fun x S => (Nd.mk 9 v 0 [a, x], QC L [41] S)) fun x => ?_).conv (by omega)
  exact KW.take (F := fun S => (Nd.mk 9 v 0 [a, x], S)) [41] (KW.val (by rw [Qk, Qs, ZJ];omega))
 exact key (qF (QH L S)) S hb
theorem KW.expr : ∀ (n : Nat), KW 0 Qk (Wm L z n)
 | 0 => KW.fail
 | n + 1 => by
  have hE : KW 0 Qk (Wm L z n) := KW.expr n
  refine KW.ite (P := fun S => qx (QH L S) = true) (F := fun S => (Nd.mk 4 (Qh L S).1 0 [], (Qh L S).2)) ?_ ?_
  ·exact ((KW.numeral (L := L)).map (ξ := Qk) (d := 0) (u := fun x => Nd.mk 4 x 0 []) fun x => by rw [Qk, Qs];show 1 + 0 <= 1 + 0;omega).conv (by omega)
  refine KW.ite (P := fun S => isM L 118 S = true) (F := QX L (Wm L z n)) (KW.variable hE) ?_
  refine KW.ite (P := fun S => isM L 102 S = true) (F := fun S => (Nd.mk 11 (Qf L 102 S).1 0 (Wv L (Wm L z n) n (Qf L 102 S).2).1, (Wv L (Wm L z n) n (Qf L 102 S).2).2)) ?_ ?_
  ·refine ((KW.numbered (L := L) 102).bind (d := 0) (K := fun a S => (Nd.mk 11 a 0 (Wv L (Wm L z n) n S).1, (Wv L (Wm L z n) n S).2)) fun a => ?_).conv (by omega)
   exact ((KW.arg (L := L) hE n).map (ξ := Qk) (d := 0 + one1 a) (u := fun x => Nd.mk 11 a 0 x) fun x => by rw [Qk];show 1 + Qs x <= Qs x + (0 + 1);omega).conv (by omega)
  refine KW.ite (P := fun S => QH L S = [45]) (F := fun S => if QH L (Qi S) = [48] then (z, WJ (Qi S)) else (Nd.mk 4 (-(Qh L (Qi S)).1) 0 [], (Qh L (Qi S)).2)) ?_ ?_
  ·refine KW.next (F := fun S => if QH L S = [48] then (z, WJ S) else (Nd.mk 4 (-(Qh L S).1) 0 [], (Qh L S).2)) ?_
   refine KW.ite (P := fun S => QH L S = [48]) (F := fun S => (z, WJ S)) KW.fail ?_
   exact ((KW.numeral (L := L)).map (ξ := Qk) (d := 1) (u := fun x => Nd.mk 4 (-x) 0 []) fun x => by rw [Qk, Qs];show 1 + 0 <= 1 + 1;omega).conv (by omega)
  refine KW.ite (P := fun S => QH L S = wTrue) (F := fun S => (Nd.mk 5 1 0 [], Qi S)) (KW.vnext (by rw [Qk, Qs];omega)) ?_
  refine KW.ite (P := fun S => QH L S = wFalse) (F := fun S => (Nd.mk 5 0 0 [], Qi S)) (KW.vnext (by rw [Qk, Qs];omega)) ?_
  refine KW.ite (P := fun S => QH L S = [40]) (F := fun S => Z0 L (Wm L z n) (Qi S)) (KW.next (F := Z0 L (Wm L z n)) fun S hb => ?_) ?_
  ·obtain ⟨h1, h2⟩ := KW.binary hE S hb
   exact ⟨h1, by omega⟩
  refine KW.ite (P := fun S => QH L S = [33]) (F := fun S => (Nd.mk 10 0 0 [(Wm L z n (Qi S)).1], (Wm L z n (Qi S)).2)) ?_ ?_
  ·exact KW.next (F := fun S => (Nd.mk 10 0 0 [(Wm L z n S).1], (Wm L z n S).2)) ((hE.map (ξ := Qk) (d := 1) (u := fun x => Nd.mk 10 0 0 [x]) fun x => by rw [Qk, ZJ];omega).conv (by omega))
  refine KW.ite (P := fun S => QH L S = wRecv) (F := fun S => (Nd.mk 12 (Qf L 99 (Qi S)).1 0 [], (Qf L 99 (Qi S)).2)) (H := fun S => (zNd, WJ S)) ?_ KW.fail
  exact KW.next (F := fun S => (Nd.mk 12 (Qf L 99 S).1 0 [], (Qf L 99 S).2)) (((KW.numbered (L := L) 99).map (ξ := Qk) (d := 1) (u := fun x => Nd.mk 12 x 0 []) fun x => by rw [Qk, Qs];show 1 + 0 <= 1 + 1;omega).conv (by omega))
theorem KW.typed : ∀ (n : Nat), KW 0 Qk (QY L n)
 | 0 => KW.fail
 | n + 1 => by
  have hE : KW 0 Qk (QY L n) := KW.typed n
  refine KW.ite (P := fun S => QH L S = wInt) (F := fun S => (Nd.mk 0 0 0 [], Qi S)) (KW.vnext (by rw [Qk, Qs];omega)) ?_
  refine KW.ite (P := fun S => QH L S = wBool) (F := fun S => (Nd.mk 1 0 0 [], Qi S)) (KW.vnext (by rw [Qk, Qs];omega)) ?_
  refine KW.ite (P := fun S => QH L S = wArr) (F := fun S => (Nd.mk 2 (Qh L (Qi S)).1 0 [], (Qh L (Qi S)).2)) ?_ ?_
  ·exact KW.next (F := fun S => (Nd.mk 2 (Qh L S).1 0 [], (Qh L S).2)) (((KW.numeral (L := L)).map (ξ := Qk) (d := 1) (u := fun x => Nd.mk 2 x 0 []) fun x => by rw [Qk, Qs];show 1 + 0 <= 1 + 1;omega).conv (by omega))
  refine KW.ite (P := fun S => QH L S = wRec) (F := fun S => (Nd.mk 3 0 0 (ZM L (QY L n) n (QC L [40] (Qi S))).1, (ZM L (QY L n) n (QC L [40] (Qi S))).2)) (H := fun S => (zNd, WJ S)) ?_ KW.fail
  refine KW.next (F := fun S => (Nd.mk 3 0 0 (ZM L (QY L n) n (QC L [40] S)).1, (ZM L (QY L n) n (QC L [40] S)).2)) ?_
  refine KW.take (F := fun S => (Nd.mk 3 0 0 (ZM L (QY L n) n S).1, (ZM L (QY L n) n S).2)) [40] ?_
  exact ((KW.lst (L := L) hE n).map (ξ := Qk) (d := 0 + 1 + 1) (u := fun x => Nd.mk 3 0 0 x) fun x => by rw [Qk];omega).conv (by omega)
theorem KW.bloop {T : Rd1} (hT : KW 0 Qk T) : ∀ (k : Nat) (o : List Nd), KW (Qs o) Qs (Q4 L T k o)
 | 0, o => KW.val (Nat.le_refl _)
 | k + 1, o => by
  refine KW.ite (P := fun S => S.bad = true) (F := fun S => (o, S)) (KW.val (Nat.le_refl _)) ?_
  refine KW.ite (P := fun S => QH L S = [125]) (F := fun S => (o, Qi S)) (KW.vnext (by omega)) ?_
  refine (hT.bind (d := Qs o) (K := fun a S => Q4 L T k (o ++ [a]) S) fun a => ?_).conv (by omega)
  have := KW.bloop hT k (o ++ [a])
  rw [qA, ZJ] at this
  exact this
theorem KW.block {T : Rd1} (hT : KW 0 Qk T) (k : Nat) : KW 0 Qk (QW L T k) := by
 refine KW.take (F := fun S => (Nd.mk 13 0 0 (Q4 L T k [] S).1, (Q4 L T k [] S).2)) [123] ?_
 exact ((KW.bloop (L := L) hT k []).map (ξ := Qk) (d := 1) (u := fun x => Nd.mk 13 0 0 x) fun x => by rw [Qk];omega).conv (by rw [Qs])
theorem size_set (v x : Nd) : Qk (setM v x) = Qk v + Qk x := by
 obtain ⟨k, n, m, ks⟩ := v
 show Qk (.mk (setKind k) n m (ks ++ [x])) = _
 rw [Qk, Qk, qA, ZJ];omega
theorem KW.assign {E : Rd1} (hE : KW 0 Qk E) : KW 0 Qk (qe L E) := by
 refine ((KW.variable (L := L) hE).bind (d := 0) (K := fun a S => (setM a (E (QC L [61] S)).1, (E (QC L [61] S)).2)) fun a => ?_).conv (by omega)
 refine KW.take (F := fun S => (setM a (E S).1, (E S).2)) [61] ?_
 exact (hE.map (ξ := Qk) (d := 0 + Qk a + 1) (u := fun x => setM a x) fun x => by rw [size_set];omega).conv (by omega)
theorem KW.one {E : Rd1} (hE : KW 0 Qk E) (k n : Int) : KW 1 Qk (oneM E k n) := (hE.map (ξ := Qk) (d := 1) (u := fun x => Nd.mk k n 0 [x]) fun x => by rw [Qk, ZJ];omega).conv (by omega)
theorem KW.iff {E B : Rd1} (hE : KW 0 Qk E) (hB : KW 0 Qk B) : KW 1 Qk (ifM L E B) := by
 refine (hE.bind (d := 1) (K := fun x S => (Nd.mk 17 0 0 [x, (B S).1, (B (QC L wElse (B S).2)).1], (B (QC L wElse (B S).2)).2)) fun x => ?_).conv (by omega)
 refine (hB.bind (d := 1 + Qk x) (K := fun y S => (Nd.mk 17 0 0 [x, y, (B (QC L wElse S)).1], (B (QC L wElse S)).2)) fun y => ?_).conv (by omega)
 refine KW.take (F := fun S => (Nd.mk 17 0 0 [x, y, (B S).1], (B S).2)) wElse ?_
 exact (hB.map (ξ := Qk) (d := 1 + Qk x + Qk y + 1) (u := fun w => Nd.mk 17 0 0 [x, y, w]) fun w => by rw [Qk, Qs, Qs, ZJ];omega).conv (by omega)
theorem KW.whil {E B : Rd1} (hE : KW 0 Qk E) (hB : KW 0 Qk B) : KW 1 Qk (whileM E B) := by
 refine (hE.bind (d := 1) (K := fun x S => (Nd.mk 18 0 0 [x, (B S).1], (B S).2)) fun x => ?_).conv (by omega)
 exact (hB.map (ξ := Qk) (d := 1 + Qk x) (u := fun w => Nd.mk 18 0 0 [x, w]) fun w => by rw [Qk, Qs, ZJ];omega).conv (by omega)
theorem KW.tri {B : Rd1} (hB : KW 0 Qk B) : KW 1 Qk (tryM L B) := by
 refine (hB.bind (d := 1) (K := fun x S => (Nd.mk 21 (Qf L 118 (QC L qy S)).1 0 [x, (B (Qf L 118 (QC L qy S)).2).1], (B (Qf L 118 (QC L qy S)).2).2)) fun x => ?_).conv (by omega)
 refine KW.take (F := fun S => (Nd.mk 21 (Qf L 118 S).1 0 [x, (B (Qf L 118 S).2).1], (B (Qf L 118 S).2).2)) qy ?_
 refine ((KW.numbered (L := L) 118).bind (d := 1 + Qk x + 1) (K := fun v S => (Nd.mk 21 v 0 [x, (B S).1], (B S).2)) fun v => ?_).conv (by omega)
 exact (hB.map (ξ := Qk) (d := 1 + Qk x + 1 + one1 v) (u := fun w => Nd.mk 21 v 0 [x, w]) fun w => by rw [Qk, Qs, ZJ];omega).conv (by omega)
theorem KW.stmt {E : Rd1} (hE : KW 0 Qk E) (q : Nat) : ∀ (n : Nat), KW 0 Qk (Wl L E q n)
 | 0 => KW.fail
 | n + 1 => by
  have hB : KW 0 Qk (QW L (Wl L E q n) n) := KW.block (KW.stmt hE q n) n
  refine KW.ite (P := fun S => QH L S = [123]) (F := QW L (Wl L E q n) n) hB ?_
  refine KW.ite (P := fun S => isM L 118 S = true) (F := qe L E) (KW.assign hE) ?_
  refine KW.ite (P := fun S => QH L S = wIf) (F := fun S => ifM L E (QW L (Wl L E q n) n) (Qi S)) (KW.next (KW.iff hE hB)) ?_
  refine KW.ite (P := fun S => QH L S = wWhile) (F := fun S => whileM E (QW L (Wl L E q n) n) (Qi S)) (KW.next (KW.whil hE hB)) ?_
  refine KW.ite (P := fun S => QH L S = wReturn) (F := fun S => oneM E 19 0 (Qi S)) (KW.next (KW.one hE 19 0)) ?_
  refine KW.ite (P := fun S => QH L S = wThrow) (F := fun S => oneM E 20 0 (Qi S)) (KW.next (KW.one hE 20 0)) ?_
  refine KW.ite (P := fun S => QH L S = wOut) (F := fun S => oneM E 24 0 (Qi S)) (KW.next (KW.one hE 24 0)) ?_
  refine KW.ite (P := fun S => QH L S = wSkip) (F := fun S => (Nd.mk 25 0 0 [], Qi S)) (KW.vnext (by rw [Qk, Qs];omega)) ?_
  refine KW.ite (P := fun S => QH L S = wTry) (F := fun S => tryM L (QW L (Wl L E q n) n) (Qi S)) (KW.next (KW.tri hB)) ?_
  refine KW.ite (P := fun S => QH L S = wSend) (F := fun S => oneM E 22 (Qf L 99 (Qi S)).1 (Qf L 99 (Qi S)).2) ?_ ?_
  ·refine KW.next (F := fun S => oneM E 22 (Qf L 99 S).1 (Qf L 99 S).2) ?_
   refine ((KW.numbered (L := L) 99).bind (d := 1) (K := fun a S => oneM E 22 a S) fun a S hb => ?_).conv (by omega)
   obtain ⟨h1, h2⟩ := KW.one hE 22 a S hb
   exact ⟨h1, by show S.p + Qk (oneM E 22 a S).1 <= (oneM E 22 a S).2.p + (1 + 1);omega⟩
  refine KW.ite (P := fun S => QH L S = wSpawn) (F := fun S => (Nd.mk 23 (Qf L 102 (Qi S)).1 0 (Wv L E q (Qf L 102 (Qi S)).2).1, (Wv L E q (Qf L 102 (Qi S)).2).2)) (H := fun S => (zNd, WJ S)) ?_ KW.fail
  refine KW.next (F := fun S => (Nd.mk 23 (Qf L 102 S).1 0 (Wv L E q (Qf L 102 S).2).1, (Wv L E q (Qf L 102 S).2).2)) ?_
  refine ((KW.numbered (L := L) 102).bind (d := 1) (K := fun a S => (Nd.mk 23 a 0 (Wv L E q S).1, (Wv L E q S).2)) fun a => ?_).conv (by omega)
  exact ((KW.arg (L := L) hE q).map (ξ := Qk) (d := 1 + one1 a) (u := fun x => Nd.mk 23 a 0 x) fun x => by rw [Qk];omega).conv (by omega)
theorem KW.fn {T B : Rd1} (hT : KW 0 Qk T) (hB : KW 0 Qk B) (q : Nat) : KW 0 Qk (funM L T B q) := by
 refine KW.take (F := fun S => (Nd.mk 26 (Qh L S).1 0 ((Wv L T q (Qh L S).2).1 ++ [(B (Wv L T q (Qh L S).2).2).1]), (B (Wv L T q (Qh L S).2).2).2)) wFun ?_
 refine ((KW.numeral (L := L)).bind (d := 1) (K := fun v S => (Nd.mk 26 v 0 ((Wv L T q S).1 ++ [(B (Wv L T q S).2).1]), (B (Wv L T q S).2).2)) fun v => ?_).conv (by omega)
 refine ((KW.arg (L := L) hT q).bind (d := 1 + one1 v) (K := fun a S => (Nd.mk 26 v 0 (a ++ [(B S).1]), (B S).2)) fun a => ?_).conv (by omega)
 exact (hB.map (ξ := Qk) (d := 1 + one1 v + Qs a) (u := fun x => Nd.mk 26 v 0 (a ++ [x])) fun x => by rw [Qk, qA, ZJ];omega).conv (by omega)
theorem KW.ploop {F : Rd1} (hF : KW 0 Qk F) : ∀ (k : Nat) (o : List Nd), KW (Qs o) Qs (QT L F k o)
 | 0, o => KW.val (Nat.le_refl _)
 | k + 1, o => by
  refine KW.ite (P := fun S => S.bad = false /\ S.p < L.length) (F := fun S => QT L F k (o ++ [(F S).1]) (F S).2) (H := fun S => (o, S)) ?_ (KW.val (Nat.le_refl _))
  refine (hF.bind (d := Qs o) (K := fun a S => QT L F k (o ++ [a]) S) fun a => ?_).conv (by omega)
  have := KW.ploop hF k (o ++ [a])
  rw [qA, ZJ] at this
  exact this
theorem kw_fun (q : Nat) : KW 0 Qk (Za L z q) := KW.fn (KW.typed q) (KW.block (KW.stmt (KW.expr q) q q) q) q
theorem prog_size (q : Nat) (h : (Zi L z q).2.bad = false) : Qk (Zi L z q).1 <= (Zi L z q).2.p := by
 have key : KW 0 Qk (fun S => (Nd.mk 27 (Qh L (QC L WT S)).1 0 (QT L (Za L z q) q [] (Qh L (QC L WT S)).2).1, (QT L (Za L z q) q [] (Qh L (QC L WT S)).2).2)) := by
  refine KW.take (F := fun S => (Nd.mk 27 (Qh L S).1 0 (QT L (Za L z q) q [] (Qh L S).2).1, (QT L (Za L z q) q [] (Qh L S).2).2)) WT ?_
  refine ((KW.numeral (L := L)).bind (d := 1) (K := fun v S => (Nd.mk 27 v 0 (QT L (Za L z q) q [] S).1, (QT L (Za L z q) q [] S).2)) fun v => ?_).conv (by omega)
  exact ((KW.ploop (L := L) (kw_fun (z := z) q) q []).map (ξ := Qk) (d := 1 + one1 v) (u := fun x => Nd.mk 27 v 0 x) fun x => by rw [Qk];omega).conv (by rw [Qs];omega)
 obtain ⟨_, h2⟩ := key ⟨0, false⟩ h
 have : (0 : Nat) + Qk (Zi L z q).1 <= (Zi L z q).2.p + 0 := h2
 omega
def IB (L : W7) (F : RS -> α × RS) : Prop := ∀ S, S.p <= L.length -> (F S).2.p <= L.length
theorem IB.bind {F : RS -> α × RS} {K : α -> RS -> β × RS} (h : IB L F) (hk : ∀ a, IB L (K a)) : IB L (fun S => K (F S).1 (F S).2) := fun S hs => hk _ _ (h S hs)
theorem IB.ite {P : RS -> Prop} [DecidablePred P] {F H : RS -> α × RS} (h1 : ∀ S, P S -> S.p <= L.length -> (F S).2.p <= L.length) (h2 : IB L H) : IB L (fun S => if P S then F S else H S) := fun S hs => by
 by_cases hp : P S
 ·simp only [if_pos hp];exact h1 S hp hs
 ·simp only [if_neg hp];exact h2 S hs
theorem W3 {S : RS} {w : List UInt8} (h : QH L S = w) (hw : w ≠ []) : (Qi S).p <= L.length := by
 obtain ⟨_, h2, _⟩ := now_at (L := L) (S := S) (by rw [h];exact hw)
 exact h2
theorem ib_take (s : List UInt8) (hs : s ≠ []) {S : RS} (h : S.p <= L.length) : (QC L s S).p <= L.length := by
 unfold QC
 split
 ·rename_i hn;exact W3 hn hs
 ·exact h
theorem IB.take {F : RS -> α × RS} (s : List UInt8) (hs : s ≠ []) (h : IB L F) : IB L (fun S => F (QC L s S)) := fun S hS => h _ (ib_take s hs hS)
theorem IB.fail {a : α} : IB L (fun S => (a, WJ S)) := fun S hS => hS
theorem IB.val {a : α} : IB L (fun S => (a, S)) := fun S hS => hS
theorem IB.numeral : IB L (Qh L) :=
 IB.ite (P := fun S => qx (QH L S) = true) (F := fun S => (valM (QH L S), Qi S)) (H := fun S => (0, WJ S)) (fun S hp _ => W3 rfl (numB_ne hp)) IB.fail
theorem isM_ne {S : RS} {c : UInt8} (h : isM L c S = true) : QH L S ≠ [] := by
 rintro e
 unfold isM at h
 rw [e] at h
 simp [Lib.hasPrefix] at h
theorem IB.numbered (x : UInt8) : IB L (Qf L x) :=
 IB.ite (P := fun S => isM L x S = true) (F := fun S => (valM ((QH L S).drop 1), Qi S)) (H := fun S => (0, WJ S)) (fun S hp _ => W3 rfl (isM_ne hp)) IB.fail
theorem IB.nx {F : RS -> α × RS} (h : IB L F) {w : List UInt8} (hw : w ≠ []) : ∀ S, QH L S = w -> S.p <= L.length -> (F (Qi S)).2.p <= L.length := fun S hn _ => h _ (W3 hn hw)
theorem IB.loop {E : Rd1} (hE : IB L E) : ∀ (k : Nat) (o : List Nd), IB L (QJ L E k o)
 | 0, o => IB.val
 | k + 1, o => IB.ite (P := fun S => QH L S = [44]) (F := fun S => QJ L E k (o ++ [(E (Qi S)).1]) (E (Qi S)).2) (H := fun S => (o, S)) (fun S hn _ => IB.loop hE k _ _ (hE _ (W3 hn (by decide)))) IB.val
theorem IB.lst {E : Rd1} (hE : IB L E) (k : Nat) : IB L (ZM L E k) := fun S hS => ib_take (L := L) [41] (by decide) (IB.loop hE k _ _ (hE S hS))
theorem IB.arg {E : Rd1} (hE : IB L E) (k : Nat) : IB L (Wv L E k) :=
 IB.take (F := fun S => if QH L S = [41] then ([], Qi S) else ZM L E k S) [40] (by decide) (IB.ite (P := fun S => QH L S = [41]) (F := fun S => ([], Qi S)) (fun S hn _ => W3 hn (by decide)) (IB.lst hE k))
theorem IB.variable {E : Rd1} (hE : IB L E) : IB L (QX L E) := by
 refine (IB.numbered (L := L) 118).bind (K := fun a S => qP L E a S) fun a => ?_
 refine IB.ite (P := fun S => QH L S = [91]) (F := fun S => (Nd.mk 7 a 0 [(E (Qi S)).1], QC L [93] (E (Qi S)).2)) (fun S hn _ => ib_take (L := L) [93] (by decide) (hE _ (W3 hn (by decide)))) ?_
 exact IB.ite (P := fun S => QH L S = [46]) (F := fun S => (Nd.mk 8 a (Qh L (Qi S)).1 [], (Qh L (Qi S)).2)) (H := fun S => (Nd.mk 6 a 0 [], S)) (fun S hn _ => IB.numeral (L := L) _ (W3 hn (by decide))) IB.val
theorem IB.binary {E : Rd1} (hE : IB L E) : IB L (Z0 L E) := by
 refine hE.bind (K := fun a S => if qF (QH L S) < 0 then (zNd, WJ S) else (.mk 9 (qF (QH L S)) 0 [a, (E (Qi S)).1], QC L [41] (E (Qi S)).2)) fun a S hS => ?_
 dsimp only
 by_cases ho : qF (QH L S) < 0
 ·rw [if_pos ho];exact hS
 ·rw [if_neg ho]
  have hne : QH L S ≠ [] := by
   intro e
   rw [e] at ho
   exact ho (by decide)
  exact ib_take (L := L) [41] (by decide) (hE _ (W3 rfl hne))
theorem IB.expr : ∀ (n : Nat), IB L (Wm L z n)
 | 0 => IB.fail
 | n + 1 => by
  have hE : IB L (Wm L z n) := IB.expr n
  refine IB.ite (P := fun S => qx (QH L S) = true) (F := fun S => (Nd.mk 4 (Qh L S).1 0 [], (Qh L S).2)) (fun S _ hS => IB.numeral S hS) ?_
  refine IB.ite (P := fun S => isM L 118 S = true) (F := QX L (Wm L z n)) (fun S _ hS => IB.variable hE S hS) ?_
  refine IB.ite (P := fun S => isM L 102 S = true) (F := fun S => (Nd.mk 11 (Qf L 102 S).1 0 (Wv L (Wm L z n) n (Qf L 102 S).2).1, (Wv L (Wm L z n) n (Qf L 102 S).2).2)) (fun S _ hS => IB.arg hE n _ (IB.numbered (L := L) 102 S hS)) ?_
  refine IB.ite (P := fun S => QH L S = [45]) (F := fun S => if QH L (Qi S) = [48] then (z, WJ (Qi S)) else (Nd.mk 4 (-(Qh L (Qi S)).1) 0 [], (Qh L (Qi S)).2)) (fun S hn _ => ?_) ?_
  ·have h1 := W3 (L := L) hn (by decide)
   split
   ·exact h1
   ·exact IB.numeral (L := L) _ h1
  refine IB.ite (P := fun S => QH L S = wTrue) (F := fun S => (Nd.mk 5 1 0 [], Qi S)) (fun S hn _ => W3 hn (by decide)) ?_
  refine IB.ite (P := fun S => QH L S = wFalse) (F := fun S => (Nd.mk 5 0 0 [], Qi S)) (fun S hn _ => W3 hn (by decide)) ?_
  refine IB.ite (P := fun S => QH L S = [40]) (F := fun S => Z0 L (Wm L z n) (Qi S)) ((IB.binary hE).nx (by decide)) ?_
  refine IB.ite (P := fun S => QH L S = [33]) (F := fun S => (Nd.mk 10 0 0 [(Wm L z n (Qi S)).1], (Wm L z n (Qi S)).2)) (fun S hn _ => hE _ (W3 hn (by decide))) ?_
  exact IB.ite (P := fun S => QH L S = wRecv) (F := fun S => (Nd.mk 12 (Qf L 99 (Qi S)).1 0 [], (Qf L 99 (Qi S)).2)) (H := fun S => (zNd, WJ S)) (fun S hn _ => IB.numbered (L := L) 99 _ (W3 hn (by decide))) IB.fail
theorem IB.typed : ∀ (n : Nat), IB L (QY L n)
 | 0 => IB.fail
 | n + 1 => by
  have hE : IB L (QY L n) := IB.typed n
  refine IB.ite (P := fun S => QH L S = wInt) (F := fun S => (Nd.mk 0 0 0 [], Qi S)) (fun S hn _ => W3 hn (by decide)) ?_
  refine IB.ite (P := fun S => QH L S = wBool) (F := fun S => (Nd.mk 1 0 0 [], Qi S)) (fun S hn _ => W3 hn (by decide)) ?_
  refine IB.ite (P := fun S => QH L S = wArr) (F := fun S => (Nd.mk 2 (Qh L (Qi S)).1 0 [], (Qh L (Qi S)).2)) (fun S hn _ => IB.numeral (L := L) _ (W3 hn (by decide))) ?_
  exact IB.ite (P := fun S => QH L S = wRec) (F := fun S => (Nd.mk 3 0 0 (ZM L (QY L n) n (QC L [40] (Qi S))).1, (ZM L (QY L n) n (QC L [40] (Qi S))).2)) (H := fun S => (zNd, WJ S)) (fun S hn _ => IB.lst hE n _ (ib_take [40] (by decide) (W3 hn (by decide)))) IB.fail
theorem IB.bloop {T : Rd1} (hT : IB L T) : ∀ (k : Nat) (o : List Nd), IB L (Q4 L T k o)
 | 0, o => IB.val
 | k + 1, o => by
  refine IB.ite (P := fun S => S.bad = true) (F := fun S => (o, S)) (fun S _ hS => hS) ?_
  refine IB.ite (P := fun S => QH L S = [125]) (F := fun S => (o, Qi S)) (fun S hn _ => W3 hn (by decide)) ?_
  exact hT.bind (K := fun a S => Q4 L T k (o ++ [a]) S) fun a => IB.bloop hT k _
theorem IB.block {T : Rd1} (hT : IB L T) (k : Nat) : IB L (QW L T k) := fun S hS => IB.bloop hT k [] _ (ib_take (L := L) [123] (by decide) hS)
theorem IB.stmt {E : Rd1} (hE : IB L E) (q : Nat) : ∀ (n : Nat), IB L (Wl L E q n)
 | 0 => IB.fail
 | n + 1 => by
  have hB : IB L (QW L (Wl L E q n) n) := IB.block (IB.stmt hE q n) n
  refine IB.ite (P := fun S => QH L S = [123]) (F := QW L (Wl L E q n) n) (fun S _ hS => hB S hS) ?_
  refine IB.ite (P := fun S => isM L 118 S = true) (F := qe L E) (fun S _ hS => hE _ (ib_take (L := L) [61] (by decide) (IB.variable hE S hS))) ?_
  refine IB.ite (P := fun S => QH L S = wIf) (F := fun S => ifM L E (QW L (Wl L E q n) n) (Qi S)) (fun S hn _ => hB _ (ib_take (L := L) wElse (by decide) (hB _ (hE _ (W3 hn (by decide)))))) ?_
  refine IB.ite (P := fun S => QH L S = wWhile) (F := fun S => whileM E (QW L (Wl L E q n) n) (Qi S)) (fun S hn _ => hB _ (hE _ (W3 hn (by decide)))) ?_
  refine IB.ite (P := fun S => QH L S = wReturn) (F := fun S => oneM E 19 0 (Qi S)) (fun S hn _ => hE _ (W3 hn (by decide))) ?_
  refine IB.ite (P := fun S => QH L S = wThrow) (F := fun S => oneM E 20 0 (Qi S)) (fun S hn _ => hE _ (W3 hn (by decide))) ?_
  refine IB.ite (P := fun S => QH L S = wOut) (F := fun S => oneM E 24 0 (Qi S)) (fun S hn _ => hE _ (W3 hn (by decide))) ?_
  refine IB.ite (P := fun S => QH L S = wSkip) (F := fun S => (Nd.mk 25 0 0 [], Qi S)) (fun S hn _ => W3 hn (by decide)) ?_
  refine IB.ite (P := fun S => QH L S = wTry) (F := fun S => tryM L (QW L (Wl L E q n) n) (Qi S)) (fun S hn _ => hB _ (IB.numbered (L := L) 118 _ (ib_take (L := L) qy (by decide) (hB _ (W3 hn (by decide)))))) ?_
  refine IB.ite (P := fun S => QH L S = wSend) (F := fun S => oneM E 22 (Qf L 99 (Qi S)).1 (Qf L 99 (Qi S)).2) (fun S hn _ => hE _ (IB.numbered (L := L) 99 _ (W3 hn (by decide)))) ?_
  exact IB.ite (P := fun S => QH L S = wSpawn) (F := fun S => (Nd.mk 23 (Qf L 102 (Qi S)).1 0 (Wv L E q (Qf L 102 (Qi S)).2).1, (Wv L E q (Qf L 102 (Qi S)).2).2)) (H := fun S => (zNd, WJ S)) (fun S hn _ => IB.arg hE q _ (IB.numbered (L := L) 102 _ (W3 hn (by decide)))) IB.fail
theorem ib_fun (q : Nat) : IB L (Za L z q) := fun S hS => IB.block (IB.stmt (IB.expr q) q q) q _ (IB.arg (IB.typed q) q _ (IB.numeral (L := L) _ (ib_take (L := L) wFun (by decide) hS)))
theorem IB.ploop {F : Rd1} (hF : IB L F) : ∀ (k : Nat) (o : List Nd), IB L (QT L F k o)
 | 0, o => IB.val
 | k + 1, o => IB.ite (P := fun S => S.bad = false /\ S.p < L.length) (F := fun S => QT L F k (o ++ [(F S).1]) (F S).2) (H := fun S => (o, S)) (fun S _ hS => IB.ploop hF k _ _ (hF S hS)) IB.val
theorem prog_in (q : Nat) : (Zi L z q).2.p <= L.length := IB.ploop (ib_fun q) q [] _ (IB.numeral (L := L) _ (ib_take (L := L) WT (by decide) (Nat.zero_le _)))
end
end Go.Proofs
end
section
namespace Go.Proofs
open Go.Av
variable {G : Nat -> DV}
attribute [local irreducible] OpSem WR Zc Zp ACalls ZS AClose RV
open Go.Bl
abbrev zP : Nd := .mk 4 0 0 []
theorem elx (hG1 : G 1 = spaceT) (L : W7) (hL : OkL L) (q r : Nat) (h : r + 2 <= q) : ElC G 176 L (Wm L zP q) r := fun Q hQ => expr_rc hG1 L hL q Q (by omega)
theorem jX (L : W7) (z : Nd) (q : Nat) : ∀ i c, J i c (Wm L z q) (Wm L z q) := fun i c => J.expr (Ag.refl L i) q c
theorem loop_len (L : W7) (E : Rd1) : ∀ (k : Nat) (o : List Nd) (S : RS), (QJ L E k o S).1.length <= o.length + k
 | 0, o, S => by rw [QJ];show o.length <= o.length + 0;omega
 | k + 1, o, S => by
  rw [QJ]
  split
  ·have := loop_len L E k (o ++ [(E (Qi S)).1]) (E (Qi S)).2
   simp only [List.length_append, List.length_cons, List.length_nil] at this
   omega
  ·show o.length <= o.length + (k + 1);omega
theorem args_len (L : W7) (E : Rd1) (k : Nat) (S : RS) : (Wv L E k S).1.length <= k + 1 := by
 unfold Wv
 split
 ·simp
 ·unfold ZM
  have := loop_len L E k [(E (QC L [40] S)).1] (E (QC L [40] S)).2
  simp only [List.length_cons, List.length_nil] at this
  show (QJ L E k [(E (QC L [40] S)).1] (E (QC L [40] S)).2).1.length <= k + 1
  omega
theorem wkRA {X W0 W1 W2 : Prop} (w0 : W0 := by exact True.intro) (w1 : W1 := by exact True.intro) (w2 : W2 := by exact True.intro) (s : (Unit -> W0) -> (Unit -> W1) -> (Unit -> W2) -> Unit -> X := by (intro w0 w1 w2 _;(repeat' first|(refine Qz ?_;(first|refine Ws rfl ?_|refine Z4 rfl rfl ?_|(refine QK ?_;(first|refine Zy (z := xb) rfl rfl rfl rfl rfl rfl rfl (by first|omega|(simp;omega)) (by first|omega|(simp;omega)) (fun _ => rfl) (fun _ _ => ?_)|refine Wh 0 (htk) rfl rfl rfl rfl ?_|refine Wh 0 (hnm) rfl rfl rfl rfl ?_|refine Wh 0 (hblk) rfl rfl rfl rfl ?_|refine s_co 0 (hargs) (by first|exact .id|exact .node rfl rfl rfl) rfl rfl rfl rfl (Qy _) (fun _ _ => ?_)))|(refine Wr ?_;(first|refine qh rfl rfl rfl rfl ?_|refine Wg rfl rfl rfl rfl (by rfl) (by rfl) (by rfl) ?_))|refine Qe rfl rfl ?_|refine QB rfl rfl ?_|refine Zu rfl rfl ?_|refine QU (fun _ _ => ?_)))|(refine We ?_;(first|refine Wb ?_|refine Zg rfl ?_|refine WI ?_))|(refine Wc ?_;(first|refine Q7 ?_|refine Qm ?_|(refine WC ?_;first|(refine Ql ((fun g2 gn ga p => p.1 :: .row g2 [.i 0, .i 0, .i 0, .nil] :: .row gn [.i 26, .i v, .i 0, .ref 3 ga 0 axs.length 4] :: p.2 :: []) _ _ _) 7 [(0, true), (1, true), (2, true), (3, false), (4, true), (5, false), (6, true), (7, false)] (by rfl) (by rfl) (by kernel_rfl) (by decide +kernel) (by decide +kernel) ⟨(_, _), rfl⟩ ?_)|(refine Ql (fun p => p.1 :: p.2 :: []) 100 [(0, true)] (by rfl) (by rfl) (by kernel_rfl) (by decide +kernel) (by decide +kernel) ⟨(_, _), rfl⟩ ?_)|refine Q9 (by rfl) (by kernel_rfl) (by kernel_rfl) ?_|refine Q8 (by kernel_rfl) (by kernel_rfl) ?_)|refine Wi ?_))|(refine ZG ?_;(first|refine qL ?_|refine i_z0 ?_|refine i_st rfl rfl (fun _ => (by (repeat' first|(refine Qz ?_;(first|refine Ws rfl ?_|refine Qc rfl rfl rfl ?_|refine QO (z := xb) rfl rfl (by decide) ?_|refine Qe rfl rfl ?_))|exact ⟨rfl, rfl⟩))) ?_|refine i_ef rfl ?_))|refine And.intro (Exists.intro ((_, _)) rfl) ?_);(all_goals (repeat (rename_i x;(fail_if_success have : Unit := x);revert x)));(first|done|exact w0 ());(first|done|exact w1 ());(first|done|exact w2 ()))) (u : (W0 \/ True) /\ (W1 \/ True) /\ (W2 \/ True) := by (refine ⟨?_, ?_, ?_⟩ <;> first|exact Or.inl True.intro|exact Or.inr True.intro)) : X := s (fun _ => w0) (fun _ => w1) (fun _ => w2) ()
theorem fun_rc (hG1 : G 1 = spaceT) (L : W7) (hL : OkL L) (q : Nat) (hq : L.length + 3 <= q) (hq2 : q <= 2000000) (S : RS) :
  CE Tryz.prog G 61 (fun p g => [.ptr p g 0]) (rdC L S) (.agg (Enc.enc (Za L zP q S).1)) (rdC L (Za L zP q S).2) := fun g B hg => by
 have hrl : ∀ Q : RS, rM L Q <= L.length := fun Q => by unfold rM;split <;> omega
 unfold Za funM
 dsimp only
 have htk := take_c (G := G) L S hL wFun (by decide)
 generalize QC L wFun S = S1 at *
 have hnm := qQ (G := G) L S1 hL
 generalize (Qh L S1).1 = v at *
 generalize (Qh L S1).2 = S2 at *
 have htel : ElC G 110 L (QY L q) L.length := fun Q hQ => typed_rc L hL q Q (by omega)
 have hargs := args_rc (G := G) 110 L (QY L q) L.length q hL htel S2 (hrl S2) (by have := hrl S2;omega)
 have hal := args_len L (QY L q) q S2
 generalize (Wv L (QY L q) q S2).1 = axs at *
 generalize (Wv L (QY L q) q S2).2 = S3 at *
 have hst : ElC G 152 L (Wl L (Wm L zP q) q q) L.length := fun Q hQ =>
  ⟨stmt_rc L hL (Wm L zP q) (jX L zP q) q L.length (elx hG1 L hL q _ (by omega)) (by omega) q Q (by omega) (by omega), (jr (fun i => jS (jX L zP q) q q i True) Q).1⟩
 obtain ⟨q', rfl⟩ : ∃ q', q = q' + 1 := ⟨q - 1, by omega⟩
 have hblk := block_rc (G := G) L hL (Wl L (Wm L zP (q' + 1)) (q' + 1) (q' + 1)) L.length (q' + 1) hst (eats_st (jX L zP (q' + 1)) (q' + 1) q') S3 (by have := hrl S3;omega) (by have := hrl S3;omega)
 generalize (QW L (Wl L (Wm L zP (q' + 1)) (q' + 1) (q' + 1)) (q' + 1) S3).1 = xb at *
 generalize (QW L (Wl L (Wm L zP (q' + 1)) (q' + 1) (q' + 1)) (q' + 1) S3).2 = S4 at *
 clear hst htel hrl
 refine Qa Tryz.func61 rfl Tryz.ntmps61 rfl (t := [(0, .ptr 0 g 0)]) rfl fun E0 hE1 => ?_
 (refine wkRA ?_;intros)
 exact e_1 (Tryz.results61) (Qg (size := 4) rfl rfl rfl rfl) (WK (D := fun d => .agg [.i 26, .i v, .i 0, d]) (k := 2) (.node rfl rfl rfl) rfl (by rw [Qx];rfl) (by rw [Qr];rfl) rfl)
theorem eats_fun (L : W7) (z : Nd) (q : Nat) : Eats L (Za L z q) := fun S hb => by
 have h1 : mM L (QC L wFun S) < mM L S := by
  have h := (mm_take (L := L) (S := S) wFun (by decide)).1
  have : rM L S < mM L S := by unfold rM mM;rw [hb];simp
  omega
 have h2 : ∀ i, J i True (fun Q => (fun v : Int × RS => (fun a : List Nd × RS => (Nd.mk 26 v.1 0 (a.1 ++ [(QW L (Wl L (Wm L z q) q q) q a.2).1]), (QW L (Wl L (Wm L z q) q q) q a.2).2)) (Wv L (QY L q) q v.2)) (Qh L Q)) (fun Q => (fun v : Int × RS => (fun a : List Nd × RS => (Nd.mk 26 v.1 0 (a.1 ++ [(QW L (Wl L (Wm L z q) q q) q a.2).1]), (QW L (Wl L (Wm L z q) q q) q a.2).2)) (Wv L (QY L q) q v.2)) (Qh L Q)) := fun i => by
  refine (J.numeral (Ag.refl L i)).bind (K := fun v S => (Nd.mk 26 v 0 ((Wv L (QY L q) q S).1 ++ [(QW L (Wl L (Wm L z q) q q) q (Wv L (QY L q) q S).2).1]), (QW L (Wl L (Wm L z q) q q) q (Wv L (QY L q) q S).2).2)) (K' := fun v S => (Nd.mk 26 v 0 ((Wv L (QY L q) q S).1 ++ [(QW L (Wl L (Wm L z q) q q) q (Wv L (QY L q) q S).2).1]), (QW L (Wl L (Wm L z q) q q) q (Wv L (QY L q) q S).2).2)) fun v v' => ?_
  refine (J.arg (Ag.refl L i) (fun c => J.typed (Ag.refl L i) q c) q).bind (K := fun a S => (Nd.mk 26 v 0 (a ++ [(QW L (Wl L (Wm L z q) q q) q S).1]), (QW L (Wl L (Wm L z q) q q) q S).2)) (K' := fun a S => (Nd.mk 26 v' 0 (a ++ [(QW L (Wl L (Wm L z q) q q) q S).1]), (QW L (Wl L (Wm L z q) q q) q S).2)) fun a a' => ?_
  exact (jB (fun i c => jS (jX L z q) q q i c) q i _).map (u := fun x => Nd.mk 26 v 0 (a ++ [x])) (u' := fun x => Nd.mk 26 v' 0 (a' ++ [x])) fun x hc => by rw [hc.2, hc.1.2]
 exact Nat.lt_of_le_of_lt (jr h2 (QC L wFun S)).2 h1
end Go.Proofs
end
section
namespace Go.Proofs
open Go.Av Go.Bl
mutual
def Q5 : Nd -> Nat
 | .mk _ _ _ ks => Q6 ks + 1
def Q6 : List Nd -> Nat
 | [] => 0
 | x :: r => max (Q5 x) (Q6 r)
end
theorem depthL_app (a b : List Nd) : Q6 (a ++ b) = max (Q6 a) (Q6 b) := by
 induction a with
 | nil => simp [Q6]
 | cons x r ih => rw [List.cons_append, Q6, Q6, ih];omega
theorem depthL_take {ks : List Nd} {i : Nat} (h : i < ks.length) : Q6 (ks.take (i + 1)) = max (Q6 (ks.take i)) (Q5 ks[i]) := by
 rw [List.take_succ_eq_append_getElem h, depthL_app, Q6, Q6];omega
theorem depth_size (t : Nd) : Q5 t <= Qk t := by
 induction t using Nd.ind with
 | h k n m ks ih =>
 rw [Q5, Qk]
 have : ∀ ks : List Nd, (∀ x ∈ ks, Q5 x <= Qk x) -> Q6 ks <= Qs ks := by
  intro ks
  induction ks with
  | nil => intro _;exact Nat.le_refl _
  | cons x r ihr =>
   intro h
   have h1 := h x (by simp)
   have h2 := ihr fun y hy => h y (by simp [hy])
   rw [Q6, Qs];omega
 have := this ks ih
 omega
structure Sh where
 is : Int
 low : Int
 high : Int
 last : Int
 kids : List Int
 more : Int
 least : Int
 som : Int
def shapesL : List Sh := [⟨3, 0, 0, 0, [], 0, 0, 0⟩, ⟨3, 0, 0, 0, [], 0, 0, 0⟩, ⟨2, 1, 4, 0, [], 0, 0, 0⟩, ⟨2, 0, 0, 0, [], 3, 1, 3⟩,
 ⟨4, -8, 7, 0, [], 0, 0, 0⟩, ⟨4, 0, 1, 0, [], 0, 0, 0⟩, ⟨4, 0, 5, 0, [], 0, 0, 0⟩, ⟨4, 0, 5, 0, [4], 0, 0, 0⟩, ⟨4, 0, 5, 2, [], 0, 0, 0⟩, ⟨4, 0, 13, 0, [4, 4], 0, 0, 0⟩, ⟨4, 0, 0, 0, [4], 0, 0, 0⟩, ⟨4, 0, 5, 0, [], 3, 0, 4⟩, ⟨4, 0, 2, 0, [], 0, 0, 0⟩,
 ⟨6, 0, 0, 0, [], 8, 0, 5⟩, ⟨5, 0, 5, 0, [4], 0, 0, 0⟩, ⟨5, 0, 5, 0, [4, 4], 0, 0, 0⟩, ⟨5, 0, 5, 2, [4], 0, 0, 0⟩, ⟨5, 0, 0, 0, [4, 6, 6], 0, 0, 0⟩, ⟨5, 0, 0, 0, [4, 6], 0, 0, 0⟩, ⟨5, 0, 0, 0, [4], 0, 0, 0⟩, ⟨5, 0, 0, 0, [4], 0, 0, 0⟩, ⟨5, 0, 5, 0, [6, 6], 0, 0, 0⟩, ⟨5, 0, 2, 0, [4], 0, 0, 0⟩, ⟨5, 0, 5, 0, [], 3, 0, 4⟩, ⟨5, 0, 0, 0, [4], 0, 0, 0⟩, ⟨5, 0, 0, 0, [], 0, 0, 0⟩,
 ⟨1, 0, 3, 0, [], 0, 0, 0⟩, ⟨0, 0, 3, 0, [], 6, 1, 1⟩]
def isB (s : Sh) (w : Int) : Bool := (decide (s.is = w) || (decide (s.is = 3) && decide (w = 2))) || (decide (s.is = 6) && decide (w = 5))
def ZD (s : Sh) (n m : Int) : Bool := (decide (s.low <= n) && decide (n <= s.high)) && (decide (0 <= m) && decide (m <= s.last))
def Zf (s : Sh) (l : Nat) : Bool := decide (s.least <= (l : Int) - (s.kids.length : Int)) && decide ((l : Int) - (s.kids.length : Int) <= s.more)
def qu (s : Sh) (i : Nat) : Int := if i < s.kids.length then s.kids.getD i 0 else s.som
def noF : Int -> Bool := fun _ => false
def allI (f : Nat -> Bool) (n : Nat) : Bool := (List.range n).all f
def Zd (s : Sh) (fs : List (Int -> Bool)) : Bool := allI (fun i => fs.getD i noF (qu s i)) fs.length
def funB (n : Int) (fs : List (Int -> Bool)) : Bool := ((decide (n <= (fs.length : Int) - 1) && decide ((fs.length : Int) - 1 <= 6)) && fs.getD (fs.length - 1) noF 6) && allI (fun i => fs.getD i noF (if (i : Int) < n then 3 else 2)) (fs.length - 1)
def noSh : Sh := ⟨0, 0, 0, 0, [], 0, 0, 0⟩
mutual
def Qp : Nd -> Int -> Bool
 | .mk k n m ks, w =>
  if 0 <= k /\ k < 28 then
   isB (shapesL.getD k.toNat noSh) w && ZD (shapesL.getD k.toNat noSh) n m && (if k = 26 then funB n (Zk ks) else Zf (shapesL.getD k.toNat noSh) ks.length && Zd (shapesL.getD k.toNat noSh) (Zk ks))
  else false
def Zk : List Nd -> List (Int -> Bool)
 | [] => []
 | x :: r => Qp x :: Zk r
end
theorem fitsF_eq : ∀ ks, Zk ks = ks.map Qp
 | [] => rfl
 | x :: r => by rw [Zk, fitsF_eq r];rfl
def qX (t : Nd) : Bool := decide (Qk t <= 256) && decide (Q5 t <= 16) && Qp t 0
theorem allI_iff {f : Nat -> Bool} {n : Nat} : allI f n = true ↔ ∀ i, i < n -> f i = true := by
 unfold allI
 rw [List.all_eq_true]
 simp
theorem Z2 (ks : List Nd) (f : Nd -> Int -> Bool) {i : Nat} (h : i < ks.length) : (ks.map f).getD i noF = f ks[i] := by
 rw [List.getD_eq_getElem?_getD, List.getElem?_map, List.getElem?_eq_getElem h];rfl
end Go.Proofs
end
section
namespace Go.Proofs
open Go.Av
variable {G : Nat -> DV}
attribute [local irreducible] OpSem WR Zc Zp ACalls ZS AClose RV
open Go.Bl
theorem s_max_as {P : Program} {G : Nat -> DV} {B : Nat} {f : Operand -> DV} {σ : List ABlk} {K : DV -> List ABlk -> Prop} {dst : Option Tmp} {type : TypeId} {pos : String} {after : Array Edge} {gd : Option (Nat × Bool)} {ts : Array TypeId} {x y : Operand} {k1 : IntKind} {a b c : Int} (hx : f x = .sc (.int k1 a)) (hy : f y = .sc (.int k1 b)) (hc : max a b = c) (k : K (.sc (.int k1 c)) σ) : OpSem P G B ⟨dst, .call ⟨.builtin .max, #[x, y], ts⟩, type, pos, after, gd⟩ f σ K := s_max hx hy (by rw [hc];exact k)
theorem wkV0 {X W0 W1 W2 : Prop} (w0 : W0 := by exact True.intro) (w1 : W1 := by exact True.intro) (w2 : W2 := by exact True.intro) (s : (Unit -> W0) -> (Unit -> W1) -> (Unit -> W2) -> Unit -> X := by (intro w0 w1 w2 _;(repeat' first|(refine Qz ?_;(first|refine Ws rfl ?_|refine WM rfl ?_|(refine QN ?_;(first|refine Z4 rfl rfl ?_|refine Q0 rfl ?_|refine Qc rfl rfl rfl ?_))|refine Qq rfl rfl (by first|assumption|omega|(simp;done)|(simp;omega)) ?_|(refine Qw ?_;(first|refine Zw rfl rfl ?_|refine ZU rfl rfl (by omega) ?_))|(refine QK ?_;(first|refine s_max_as rfl rfl hmx ?_|refine Qv rfl ?_|refine WA rfl rfl (hi1) ?_))|refine qh rfl rfl rfl rfl ?_|refine Qe rfl rfl ?_|refine QU (fun _ _ => ?_)|refine ZC rfl rfl (fun _ _ => ?_)))|(refine We ?_;(first|refine Wb ?_|refine Zg rfl ?_|refine WI ?_))|(refine Wc ?_;(first|refine Q7 ?_|refine Qm ?_|refine QM ?_|refine QV ?_|refine Qu rfl (by omega) ?_|refine Qn rfl (by omega) ?_|refine W8 rfl ?_|refine Wi ?_)));all_goals (repeat (rename_i x;(fail_if_success have : Unit := x);revert x));(first|done|exact w0 ());(first|done|exact w1 ());(first|done|exact w2 ()))) (u : (W0 \/ True) /\ (W1 \/ True) /\ (W2 \/ True) := by (refine ⟨?_, ?_, ?_⟩ <;> first|exact Or.inl True.intro|exact Or.inr True.intro)) : X := s (fun _ => w0) (fun _ => w1) (fun _ => w2) ()
theorem trSize_c (t : Nd) : Qk t <= 4000000 -> Go.Av.Pure Tryz.prog G 73 [.agg (Enc.enc t)] (.i (Qk t)) := by
 induction t using Nd.ind with
 | h k n m ks ih =>
 intro hsz B
 have hse : Qk (.mk k n m ks) = 1 + Qs ks := by rw [Qk]
 rw [hse] at hsz ⊢
 have hln := Wk ks
 have hi : ∀ x ∈ ks, Go.Av.Pure Tryz.prog G 73 [.agg (Enc.enc x)] (.i (Qk x)) := fun x hx => ih x hx (by have := QG hx;omega)
 clear ih
 rw [Qr]
 refine Qa Tryz.func73 rfl Tryz.ntmps73 rfl (t := [(0, .agg [.i k, .i n, .i m, Qo ks])]) rfl fun E hE => ?_
 (refine wkV0 ?_;intros)
 rename_i g1 hg1
 refine WY (fun (i : Nat) => ⟨[(1, .ptr 0 g1 0), (3, .i ((1 + Qs (ks.take i) : Nat) : Int)), (7, Qo ks), (8, .i ks.length), (9, .i i)], [.row g1 [.i k, .i n, .i m, Qo ks]]⟩) (fun i => i <= ks.length) (fun i => ks.length - i) 0 ?_ (by omega) ?_
 ·exact zal rfl
 intro i hi2
 by_cases hj : i < ks.length
 ·have hi1 := hi _ (List.getElem_mem hj)
  have hsu := qr ks i hj
  have hle := Wp ks i
  have hle2 := Wp ks (i + 1)
  have e1 : ((1 + Qs (ks.take (i + 1)) : Nat) : Int) = ((1 + Qs (ks.take i) : Nat) : Int) + (Qk ks[i] : Int) := by omega
  clear hi
  (refine wkV0 ?_;intros)
  refine ⟨i + 1, by omega, by omega, ?_⟩
  rw [e1]
  exact zal rfl
 ·have hj : i = ks.length := by omega
  subst hj
  rw [List.take_length]
  clear hi
  (refine wkV0 ?_;intros)
  exact e_1 (Tryz.results73) (Qb rfl) (WV (σ := []) (r := [_]) ⟨rfl, rfl⟩)
theorem trDepth_c (t : Nd) : Qk t <= 4000000 -> Go.Av.Pure Tryz.prog G 74 [.agg (Enc.enc t)] (.i (Q5 t)) := by
 induction t using Nd.ind with
 | h k n m ks ih =>
 intro hsz B
 have hds := depth_size (.mk k n m ks)
 have hse : Qk (.mk k n m ks) = 1 + Qs ks := by rw [Qk]
 have hde : Q5 (.mk k n m ks) = Q6 ks + 1 := by rw [Q5]
 rw [hse] at hsz hds
 rw [hde] at hds ⊢
 have hln := Wk ks
 have hi : ∀ x ∈ ks, Go.Av.Pure Tryz.prog G 74 [.agg (Enc.enc x)] (.i (Q5 x)) := fun x hx => ih x hx (by have := QG hx;omega)
 clear ih
 rw [Qr]
 refine Qa Tryz.func74 rfl Tryz.ntmps74 rfl (t := [(0, .agg [.i k, .i n, .i m, Qo ks])]) rfl fun E hE => ?_
 (refine wkV0 ?_;intros)
 rename_i g1 hg1
 refine WY (fun (i : Nat) => ⟨[(1, .ptr 0 g1 0), (3, .i ((Q6 (ks.take i) : Nat) : Int)), (7, Qo ks), (8, .i ks.length), (9, .i i)], [.row g1 [.i k, .i n, .i m, Qo ks]]⟩) (fun i => i <= ks.length) (fun i => ks.length - i) 0 ?_ (by omega) ?_
 ·exact zal rfl
 intro i hi2
 by_cases hj : i < ks.length
 ·have hi1 := hi _ (List.getElem_mem hj)
  have hsu := depthL_take hj
  have hmx : max ((Q6 (ks.take i) : Nat) : Int) ((Q5 ks[i] : Nat) : Int) = ((Q6 (ks.take (i + 1)) : Nat) : Int) := by rw [hsu];omega
  clear hi hsu
  (refine wkV0 ?_;intros)
  refine ⟨i + 1, by omega, by omega, ?_⟩
  exact zal rfl
 ·have hj : i = ks.length := by omega
  subst hj
  rw [List.take_length]
  have e1 : ((Q6 ks + 1 : Nat) : Int) = (Q6 ks : Int) + 1 := by omega
  rw [e1]
  clear hi
  (refine wkV0 ?_;intros)
  exact e_1 (Tryz.results74) (Qb rfl) (WV (σ := []) (r := [_]) ⟨rfl, rfl⟩)
theorem r05Size_c (t : Nd) : Qk t <= 4000000 -> Go.Av.Pure Tryz.prog G 17 [.agg (Enc.enc t)] (.i (Qk t)) := by
 induction t using Nd.ind with
 | h k n m ks ih =>
 intro hsz B
 have hse : Qk (.mk k n m ks) = 1 + Qs ks := by rw [Qk]
 rw [hse] at hsz ⊢
 have hln := Wk ks
 have hi : ∀ x ∈ ks, Go.Av.Pure Tryz.prog G 17 [.agg (Enc.enc x)] (.i (Qk x)) := fun x hx => ih x hx (by have := QG hx;omega)
 clear ih
 rw [Qr]
 refine Qa Tryz.func17 rfl Tryz.ntmps17 rfl (t := [(0, .agg [.i k, .i n, .i m, Qo ks])]) rfl fun E hE => ?_
 (refine wkV0 ?_;intros)
 rename_i g1 hg1
 refine WY (fun (i : Nat) => ⟨[(1, .ptr 0 g1 0), (3, .i ((1 + Qs (ks.take i) : Nat) : Int)), (4, .i i)], [.row g1 [.i k, .i n, .i m, Qo ks]]⟩) (fun i => i <= ks.length) (fun i => ks.length - i) 0 ?_ (by omega) ?_
 ·exact zal rfl
 intro i hi2
 by_cases hj : i < ks.length
 ·have hi1 := hi _ (List.getElem_mem hj)
  have hsu := qr ks i hj
  have hle := Wp ks i
  have hle2 := Wp ks (i + 1)
  have e1 : ((1 + Qs (ks.take (i + 1)) : Nat) : Int) = ((1 + Qs (ks.take i) : Nat) : Int) + (Qk ks[i] : Int) := by omega
  clear hi
  (refine wkV0 ?_;intros)
  refine ⟨i + 1, by omega, by omega, ?_⟩
  rw [e1]
  exact zal rfl
 ·have hj : i = ks.length := by omega
  subst hj
  rw [List.take_length]
  clear hi
  (refine wkV0 ?_;intros)
  exact e_1 (Tryz.results17) (Qb rfl) (WV (σ := []) (r := [_]) ⟨rfl, rfl⟩)
theorem r05Depth_c (t : Nd) : Qk t <= 4000000 -> Go.Av.Pure Tryz.prog G 118 [.agg (Enc.enc t)] (.i (Q5 t)) := by
 induction t using Nd.ind with
 | h k n m ks ih =>
 intro hsz B
 have hds := depth_size (.mk k n m ks)
 have hse : Qk (.mk k n m ks) = 1 + Qs ks := by rw [Qk]
 have hde : Q5 (.mk k n m ks) = Q6 ks + 1 := by rw [Q5]
 rw [hse] at hsz hds
 rw [hde] at hds ⊢
 have hln := Wk ks
 have hi : ∀ x ∈ ks, Go.Av.Pure Tryz.prog G 118 [.agg (Enc.enc x)] (.i (Q5 x)) := fun x hx => ih x hx (by have := QG hx;omega)
 clear ih
 rw [Qr]
 refine Qa Tryz.func118 rfl Tryz.ntmps118 rfl (t := [(0, .agg [.i k, .i n, .i m, Qo ks])]) rfl fun E hE => ?_
 (refine wkV0 ?_;intros)
 rename_i g1 hg1
 refine WY (fun (i : Nat) => ⟨[(1, .ptr 0 g1 0), (3, .i ((Q6 (ks.take i) : Nat) : Int)), (4, .i i)], [.row g1 [.i k, .i n, .i m, Qo ks]]⟩) (fun i => i <= ks.length) (fun i => ks.length - i) 0 ?_ (by omega) ?_
 ·exact zal rfl
 intro i hi2
 by_cases hj : i < ks.length
 ·have hi1 := hi _ (List.getElem_mem hj)
  have hsu := depthL_take hj
  have hmx : max ((Q6 (ks.take i) : Nat) : Int) ((Q5 ks[i] : Nat) : Int) = ((Q6 (ks.take (i + 1)) : Nat) : Int) := by rw [hsu];omega
  clear hi hsu
  (refine wkV0 ?_;intros)
  refine ⟨i + 1, by omega, by omega, ?_⟩
  exact zal rfl
 ·have hj : i = ks.length := by omega
  subst hj
  rw [List.take_length]
  have e1 : ((Q6 ks + 1 : Nat) : Int) = (Q6 ks : Int) + 1 := by omega
  rw [e1]
  clear hi
  (refine wkV0 ?_;intros)
  exact e_1 (Tryz.results118) (Qb rfl) (WV (σ := []) (r := [_]) ⟨rfl, rfl⟩)
theorem s_sub_as {P : Program} {G : Nat -> DV} {B : Nat} {f : Operand -> DV} {σ : List ABlk} {K : DV -> List ABlk -> Prop} {dst : Option Tmp} {type : TypeId} {pos : String} {after : Array Edge} {gd : Option (Nat × Bool)} {t t' : TypeId} {x y : Operand} {a b c : Int} (hx : f x = .sc (.int .i64 a)) (hy : f y = .sc (.int .i64 b)) (hc : a - b = c) (h : -9223372036854775808 <= c /\ c <= 9223372036854775807)
  (k : K (.sc (.int .i64 c)) σ) : OpSem P G B ⟨dst, .binOp .sub t x y t', type, pos, after, gd⟩ f σ K :=
 qC hx hy (by rw [hc];exact h) (by rw [hc];exact k)
theorem wkV1 {X W0 W1 W2 : Prop} (w0 : W0 := by exact True.intro) (w1 : W1 := by exact True.intro) (w2 : W2 := by exact True.intro) (s : (Unit -> W0) -> (Unit -> W1) -> (Unit -> W2) -> Unit -> X := by (intro w0 w1 w2 _;(repeat' first|(refine Qz ?_;(first|refine Ws rfl ?_|refine WM rfl ?_|(refine QN ?_;(first|refine Z4 rfl rfl ?_|refine Q0 rfl ?_|refine Qc rfl rfl rfl ?_))|refine Qq rfl rfl (by first|assumption|omega|(simp;done)|(simp;omega)) ?_|(refine Qw ?_;(first|refine s_sub_as rfl rfl hvs ⟨by omega, by omega⟩ ?_|refine Zw rfl rfl ?_|refine s_gtr rfl rfl ?_|refine ZU rfl rfl (by omega) ?_))|(refine QK ?_;(first|refine Qv rfl ?_|refine WA rfl rfl (hlast) ?_|refine WA rfl rfl (hfi) ?_))|(refine Q1 ?_;(first|refine ZO rfl rfl ?_|refine W9 rfl rfl ?_))|refine qh rfl rfl rfl rfl ?_|refine qK rfl ?_|refine Qe rfl rfl ?_|refine s_slice_hn rfl rfl (by omega) ?_|refine QU (fun _ _ => ?_)|refine ZC rfl rfl (fun _ _ => ?_)))|(refine We ?_;(first|refine Wb ?_|refine Zg rfl ?_|refine WI ?_|refine qd rfl rfl rfl rfl ?_|refine qw rfl rfl rfl rfl ?_|refine WN rfl rfl (by omega) ?_|refine WD rfl rfl (by omega) ?_|refine za rfl rfl (fun _ => ?_) (fun _ => ?_)))|(refine Wc ?_;(first|refine Q7 ?_|refine Qm ?_|refine QM ?_|refine QV ?_|refine QD rfl ?_|refine QR rfl ?_|refine Qu rfl (by omega) ?_|refine Qn rfl (by omega) ?_|refine W8 rfl ?_|refine Wi ?_)));(all_goals (repeat (rename_i x;(fail_if_success have : Unit := x);revert x)));(first|done|exact w0 ());(first|done|exact w1 ());(first|done|exact w2 ()))) (u : (W0 \/ True) /\ (W1 \/ True) /\ (W2 \/ True) := by (refine ⟨?_, ?_, ?_⟩ <;> first|exact Or.inl True.intro|exact Or.inr True.intro)) : X := s (fun _ => w0) (fun _ => w1) (fun _ => w2) ()
theorem funFits_c (k n m : Int) (ks : List Nd) (hl : ks.length <= 1048576) (hn : 0 <= n /\ n <= 3) (hx : ∀ x ∈ ks, ∀ w, Go.Av.Pure Tryz.prog G 75 [.agg (Enc.enc x), .i w] (.b (Qp x w))) :
  Go.Av.Pure Tryz.prog G 123 [.agg [.i k, .i n, .i m, Qo ks]] (.b (funB n (ks.map Qp))) := fun B => by
 have hml : (ks.map Qp).length = ks.length := List.length_map _
 by_cases h0 : ks.length = 0
 ·have hF : funB n (ks.map Qp) = false := by
   unfold funB
   rw [hml, decide_eq_false (by omega : ¬ n <= (ks.length : Int) - 1)];rfl
  have hvs : (ks.length : Int) - 1 = -1 := by omega
  rw [hF]
  refine Qa Tryz.func123 rfl Tryz.ntmps123 rfl (t := [(0, .agg [.i k, .i n, .i m, Qo ks])]) rfl fun E hE => ?_
  (refine wkV1 ?_;intros)
  exact e_1 (Tryz.results123) (Qb rfl) (WV (σ := []) (r := [_]) ⟨rfl, rfl⟩)
 obtain ⟨v, hv⟩ : ∃ v : Nat, ks.length = v + 1 := ⟨ks.length - 1, by omega⟩
 have hvs : (ks.length : Int) - 1 = (v : Int) := by omega
 have hvk : v < ks.length := by omega
 have hfl : (ks.map Qp).getD v noF = Qp ks[v] := Z2 ks Qp hvk
 have hlast := hx _ (List.getElem_mem hvk) 6
 have hfun : funB n (ks.map Qp) = (((decide (n <= (v : Int)) && decide ((v : Int) <= 6)) && Qp ks[v] 6) && allI (fun i => (ks.map Qp).getD i noF (if (i : Int) < n then 3 else 2)) v) := by
  unfold funB
  rw [hml, hvs, show ks.length - 1 = v by omega, hfl]
 by_cases hc : n <= (v : Int) /\ (v : Int) <= 6
 case neg =>
  have hF : funB n (ks.map Qp) = false := by
   rw [hfun]
   rcases Classical.not_and_iff_not_or_not.1 hc with h|h
   ·rw [decide_eq_false h];rfl
   ·rw [decide_eq_false h, Bool.and_false];rfl
  rw [hF]
  refine Qa Tryz.func123 rfl Tryz.ntmps123 rfl (t := [(0, .agg [.i k, .i n, .i m, Qo ks])]) rfl fun E hE => ?_
  (refine wkV1 ?_ ?_ <;> first|exact True.intro|intros)
  all_goals exact e_1 (Tryz.results123) (Qb rfl) (WV (σ := []) (r := [_]) ⟨rfl, rfl⟩)
 cases hb : Qp ks[v] 6 with
 | false =>
  have hF : funB n (ks.map Qp) = false := by rw [hfun, hb];simp
  rw [hF]
  rw [hb] at hlast
  refine Qa Tryz.func123 rfl Tryz.ntmps123 rfl (t := [(0, .agg [.i k, .i n, .i m, Qo ks])]) rfl fun E hE => ?_
  (refine wkV1 ?_;intros)
  all_goals exact e_1 (Tryz.results123) (Qb rfl) (WV (σ := []) (r := [_]) ⟨rfl, rfl⟩)
 | true =>
  rw [hb] at hlast
  rw [hfun, hb, decide_eq_true hc.1, decide_eq_true hc.2, Bool.and_true, Bool.and_true, Bool.true_and]
  have hl2 : ∀ (i : Nat) (h : i < (ks.take v).length), ∀ w, Go.Av.Pure Tryz.prog G 75 [.agg (Enc.enc (ks.take v)[i]), .i w] (.b ((ks.map Qp).getD i noF w)) := fun i h w => by
   have hi : i < ks.length := by rw [List.length_take] at h;omega
   rw [Z2 ks Qp hi, List.getElem_take]
   exact hx _ (List.getElem_mem hi) w
  have htl : (ks.take v).length = v := by rw [List.length_take];omega
  clear hx hfun hfl
  generalize (fun (i : Nat) (w : Int) => (ks.map Qp).getD i noF w) = ff at *
  refine Qa Tryz.func123 rfl Tryz.ntmps123 rfl (t := [(0, .agg [.i k, .i n, .i m, Qo ks])]) rfl fun E hE => ?_
  (refine wkV1 ?_;intros)
  rename_i g1 hg1
  generalize hfs : ks.map Qp = fs at *
  generalize hlt : ks.take v = l at *
  refine WY (fun (i : Nat) => ⟨[(1, .ptr 0 g1 0), (2, .b false), (31, Qo l), (32, .i l.length), (33, .i i)], [.row g1 [.i k, .i n, .i m, Qo ks]]⟩) (fun i => i <= v /\ ∀ j, j < i -> fs.getD j noF (if (j : Int) < n then 3 else 2) = true) (fun i => v - i) 0 ?_ ⟨by omega, fun j hj => by omega⟩ ?_
  ·exact zal rfl
  intro i ⟨hi, hall⟩
  by_cases hil : i < v
  ·by_cases hin : (i : Int) < n
   ·have hfi := hl2 i (by omega) 3
    cases hbi : fs.getD i noF 3 with
    | false =>
     have hA : allI (fun i => fs.getD i noF (if (i : Int) < n then 3 else 2)) v = false := by
      rw [Bool.eq_false_iff]
      intro h
      have := allI_iff.1 h i hil
      rw [if_pos hin, hbi] at this;cases this
     rw [hA]
     rw [hbi] at hfi
     clear hl2
     (refine wkV1 ?_;intros)
     all_goals exact e_1 (Tryz.results123) (Qb rfl) (WV (σ := []) ⟨rfl, rfl⟩)
    | true =>
     rw [hbi] at hfi
     clear hl2
     (refine wkV1 ?_;intros)
     refine ⟨i + 1, ⟨by omega, fun j hj => ?_⟩, by omega, ?_⟩
     ·rcases Nat.lt_or_ge j i with h|h
      ·exact hall j h
      ·have : j = i := by omega
       subst this;rw [if_pos hin];exact hbi
     ·exact zal rfl
   ·have hfi := hl2 i (by omega) 2
    cases hbi : fs.getD i noF 2 with
    | false =>
     have hA : allI (fun i => fs.getD i noF (if (i : Int) < n then 3 else 2)) v = false := by
      rw [Bool.eq_false_iff]
      intro h
      have := allI_iff.1 h i hil
      rw [if_neg hin, hbi] at this;cases this
     rw [hA]
     rw [hbi] at hfi
     clear hl2
     (refine wkV1 ?_;intros)
     all_goals exact e_1 (Tryz.results123) (Qb rfl) (WV (σ := []) ⟨rfl, rfl⟩)
    | true =>
     rw [hbi] at hfi
     clear hl2
     (refine wkV1 ?_;intros)
     refine ⟨i + 1, ⟨by omega, fun j hj => ?_⟩, by omega, ?_⟩
     ·rcases Nat.lt_or_ge j i with h|h
      ·exact hall j h
      ·have : j = i := by omega
       subst this;rw [if_neg hin];exact hbi
     ·exact zal rfl
  ·have hiv : i = v := by omega
   subst hiv
   have hA : allI (fun j => fs.getD j noF (if (j : Int) < n then 3 else 2)) i = true := allI_iff.2 hall
   rw [hA]
   clear hl2
   (refine wkV1 ?_;intros)
   exact e_1 (Tryz.results123) (Qb rfl) (WV (σ := []) (r := [_]) ⟨rfl, rfl⟩)
instance : Enc Sh where
 enc s := [.i s.is, .i s.low, .i s.high, .i s.last, Qo s.kids, .i s.more, .i s.least, .i s.som]
 es := 8
 len _ := rfl
 one _ d hd := by
  simp only [List.mem_cons, List.not_mem_nil, or_false] at hd
  rcases hd with rfl|rfl|rfl|rfl|rfl|rfl|rfl|rfl <;> rfl
 clo r d hd := by
  simp only [List.mem_cons, List.not_mem_nil, or_false] at hd
  rcases hd with rfl|rfl|rfl|rfl|rfl|rfl|rfl|rfl <;> first|exact Wj|exact WB _
 pos := by decide
def shapesT : DV := .ep (Wf shapesL)
theorem shape_at {k : Int} (h0 : 0 <= k) (h1 : k < 28) : ∃ is low high last kids more least som, shapesL.getD k.toNat noSh = ⟨is, low, high, last, kids, more, least, som⟩ /\ kids.length <= 3 /\ (k = 26 -> is = 1 /\ low = 0 /\ high = 3 /\ last = 0) /\
  partD ((Wf shapesL).drop (k.toNat * 8)) 0 8 = some [.i is, .i low, .i high, .i last, Qo kids, .i more, .i least, .i som] := by
 have : k = 0 \/ k = 1 \/ k = 2 \/ k = 3 \/ k = 4 \/ k = 5 \/ k = 6 \/ k = 7 \/ k = 8 \/ k = 9 \/ k = 10 \/ k = 11 \/ k = 12 \/ k = 13 \/ k = 14 \/ k = 15 \/ k = 16 \/ k = 17 \/ k = 18 \/ k = 19 \/ k = 20 \/ k = 21 \/ k = 22 \/ k = 23 \/ k = 24 \/ k = 25 \/ k = 26 \/ k = 27 := by omega
 rcases this with rfl|rfl|rfl|rfl|rfl|rfl|rfl|rfl|rfl|rfl|rfl|rfl|rfl|rfl|rfl|rfl|rfl|rfl|rfl|rfl|rfl|rfl|rfl|rfl|rfl|rfl|rfl|rfl <;> exact ⟨_, _, _, _, _, _, _, _, rfl, by decide, by decide, rfl⟩
theorem wkV2 {X W0 W1 W2 : Prop} (w0 : W0 := by exact True.intro) (w1 : W1 := by exact True.intro) (w2 : W2 := by exact True.intro) (s : (Unit -> W0) -> (Unit -> W1) -> (Unit -> W2) -> Unit -> X := by (intro w0 w1 w2 _;(repeat' first|(refine Qz ?_;(first|refine Ws rfl ?_|refine WM rfl ?_|(refine QN ?_;(first|refine Z4 rfl rfl ?_|refine s_load_epa rfl hpart rfl ?_|refine QA rfl ?_|refine Q0 rfl ?_|refine Qc rfl rfl rfl ?_))|(refine qp ?_;(first|refine s_idx_ep (cs := Wf shapesL) hG0 rfl (by omega) (by omega) ?_|refine Qq rfl rfl (by first|assumption|omega|(simp;done)|(simp;omega)) ?_))|(refine Qw ?_;(first|refine Zw rfl rfl ?_|refine qv rfl rfl ?_|refine s_gtr rfl rfl ?_|refine WG rfl rfl ?_|refine WX rfl rfl ?_|refine ZU rfl rfl (by omega) ?_|refine qC rfl rfl (by omega) ?_))|(refine QK ?_;(first|refine Qv rfl ?_|refine WA rfl rfl (hfun) ?_|refine WA rfl rfl (hfi) ?_|refine WA rfl rfl (hsiz) ?_|refine WA rfl rfl (hdep) ?_|refine WA rfl rfl (hfit) ?_))|(refine Q1 ?_;(first|refine ZO rfl rfl ?_|refine W9 rfl rfl ?_))|refine qh rfl rfl rfl rfl ?_|(refine g_unOp ?_;(first|refine s_not_d rfl ?_|refine qK rfl ?_))|refine Qe rfl rfl ?_|refine QU (fun _ _ => ?_)|refine ZC rfl rfl (fun _ _ => ?_)))|(refine We ?_;(first|refine Wb ?_|refine Zg rfl ?_|refine WI ?_|refine qd rfl rfl rfl rfl ?_|refine qw rfl rfl rfl rfl ?_|refine o_gu rfl rfl rfl rfl rfl ?_|refine WN rfl rfl (by omega) ?_|refine WD rfl rfl (by omega) ?_|refine za rfl rfl (fun _ => ?_) (fun _ => ?_)))|(refine Wc ?_;(first|refine Q7 ?_|refine Qm ?_|refine QM ?_|refine QV ?_|refine QD rfl ?_|refine QR rfl ?_|refine Qu rfl (by omega) ?_|refine Qn rfl (by omega) ?_|refine W8 rfl ?_|refine Wi ?_)));(all_goals (repeat (rename_i x;(fail_if_success have : Unit := x);revert x)));(first|done|exact w0 ());(first|done|exact w1 ());(first|done|exact w2 ()))) (u : (W0 \/ True) /\ (W1 \/ True) /\ (W2 \/ True) := by (refine ⟨?_, ?_, ?_⟩ <;> first|exact Or.inl True.intro|exact Or.inr True.intro)) : X := s (fun _ => w0) (fun _ => w1) (fun _ => w2) ()
theorem fits_c (hG0 : G 0 = shapesT) (t : Nd) : Qk t <= 1000000 -> ∀ w, Go.Av.Pure Tryz.prog G 75 [.agg (Enc.enc t), .i w] (.b (Qp t w)) := by
 induction t using Nd.ind with
 | h k n m ks ih =>
 intro hsz w B
 have hse : Qk (.mk k n m ks) = 1 + Qs ks := by rw [Qk]
 rw [hse] at hsz
 have hln := Wk ks
 have hx : ∀ x ∈ ks, ∀ w, Go.Av.Pure Tryz.prog G 75 [.agg (Enc.enc x), .i w] (.b (Qp x w)) := fun x hx w => ih x hx (by have := QG hx;omega) w
 clear ih
 rw [Qp, fitsF_eq, Qr]
 have hml : (ks.map Qp).length = ks.length := List.length_map _
 by_cases hk : 0 <= k /\ k < 28
 case neg =>
  rw [if_neg hk]
  clear hx
  refine Qa Tryz.func75 rfl Tryz.ntmps75 rfl (t := [(0, .agg [.i k, .i n, .i m, Qo ks]), (1, .i w)]) rfl fun E hE => ?_
  (refine wkV2 ?_ ?_ <;> first|exact True.intro|intros)
  all_goals exact e_1 (Tryz.results75) (Qb rfl) (WV (σ := []) (r := [_]) ⟨rfl, rfl⟩)
 rw [if_pos hk]
 obtain ⟨is, low, high, last, kids, more, least, som, hs, hkl, h26, hpart⟩ := shape_at hk.1 hk.2
 rw [hs]
 clear hs
 by_cases hI : isB ⟨is, low, high, last, kids, more, least, som⟩ w = true
 case neg =>
  have hI2 : is ≠ w /\ ¬ (is = 3 /\ w = 2) /\ ¬ (is = 6 /\ w = 5) := by
   have : ¬ ((is = w \/ (is = 3 /\ w = 2)) \/ (is = 6 /\ w = 5)) := by simpa [isB] using hI
   omega
  rw [show isB ⟨is, low, high, last, kids, more, least, som⟩ w = false by simpa using hI, Bool.false_and, Bool.false_and]
  clear hx hI h26
  refine Qa Tryz.func75 rfl Tryz.ntmps75 rfl (t := [(0, .agg [.i k, .i n, .i m, Qo ks]), (1, .i w)]) rfl fun E hE => ?_
  (refine wkV2 ?_ ?_ ?_ <;> first|exact True.intro|intros)
  all_goals exact e_1 (Tryz.results75) (Qb rfl) (WV (σ := []) (r := [_, _]) ⟨rfl, rfl⟩)
 rw [hI, Bool.true_and]
 have hI3 : is = w \/ (is ≠ w /\ is = 3 /\ w = 2) \/ (is ≠ w /\ is ≠ 3 /\ is = 6 /\ w = 5) := by
  have : (is = w \/ (is = 3 /\ w = 2)) \/ (is = 6 /\ w = 5) := by simpa [isB] using hI
  omega
 clear hI
 have hrng : ZD ⟨is, low, high, last, kids, more, least, som⟩ n m = true ↔ (low <= n /\ n <= high) /\ 0 <= m /\ m <= last := by simp [ZD]
 have hcnt : Zf ⟨is, low, high, last, kids, more, least, som⟩ ks.length = true ↔ least <= (ks.length : Int) - (kids.length : Int) /\ (ks.length : Int) - (kids.length : Int) <= more := by simp [Zf]
 have hkd : Zd ⟨is, low, high, last, kids, more, least, som⟩ (ks.map Qp) = allI (fun i => (ks.map Qp).getD i noF (if i < kids.length then kids.getD i 0 else som)) ks.length := by unfold Zd;rw [hml];rfl
 have hfun0 := fun (h : 0 <= n /\ n <= 3) => funFits_c (G := G) k n m ks (by omega) h hx
 have hl2 : ∀ (i : Nat) (h : i < ks.length), ∀ w, Go.Av.Pure Tryz.prog G 75 [.agg (Enc.enc ks[i]), .i w] (.b ((ks.map Qp).getD i noF w)) := fun i h w => by
  rw [Z2 ks Qp h]
  exact hx _ (List.getElem_mem h) w
 clear hx
 generalize ks.map Qp = fs at *
 rcases hI3 with hI3|hI3|hI3
 ·by_cases hr : (low <= n /\ n <= high) /\ 0 <= m /\ m <= last
  case neg =>
   rw [show ZD ⟨is, low, high, last, kids, more, least, som⟩ n m = false from Bool.eq_false_iff.2 fun h => hr (hrng.1 h), Bool.false_and]
   clear hl2 hfun0 hrng hcnt hkd h26
   refine Qa Tryz.func75 rfl Tryz.ntmps75 rfl (t := [(0, .agg [.i k, .i n, .i m, Qo ks]), (1, .i w)]) rfl fun E hE => ?_
   (repeat' first|(refine Qz ?_;(first|refine Ws rfl ?_|refine WM rfl ?_|(refine QN ?_;(first|refine s_load_epa rfl hpart rfl ?_|refine Qc rfl rfl rfl ?_))|refine s_idx_ep (cs := Wf shapesL) hG0 rfl (by omega) (by omega) ?_|(refine Qw ?_;(first|refine Zw rfl rfl ?_|refine s_gtr rfl rfl ?_|refine WG rfl rfl ?_|refine WX rfl rfl ?_))|(refine Q1 ?_;(first|refine ZO rfl rfl ?_|refine W9 rfl rfl ?_))|refine qh rfl rfl rfl rfl ?_|refine qK rfl ?_|refine Qe rfl rfl ?_|refine QU (fun _ _ => ?_)|refine ZC rfl rfl (fun _ _ => ?_)))|(refine We ?_;(first|refine Wb ?_|refine Zg rfl ?_|refine WI ?_|refine qd rfl rfl rfl rfl ?_|refine qw rfl rfl rfl rfl ?_|refine o_gu rfl rfl rfl rfl rfl ?_|refine WN rfl rfl (by omega) ?_|refine WD rfl rfl (by omega) ?_|refine za rfl rfl (fun _ => ?_) (fun _ => ?_)))|(refine Wc ?_;(first|refine Q7 ?_|refine Qm ?_|refine QV ?_|refine QD rfl ?_|refine Qu rfl (by omega) ?_|refine Qn rfl (by omega) ?_|refine Wi ?_)))
   all_goals exact e_1 (Tryz.results75) (Qb rfl) (WV (σ := []) (r := [_, _]) ⟨rfl, rfl⟩)
  rw [hrng.2 hr, Bool.true_and]
  by_cases k26 : k = 26
  ·rw [if_pos k26]
   obtain ⟨e1, e2, e3, e4⟩ := h26 k26
   have hfun := hfun0 ⟨by omega, by omega⟩
   clear hl2 hfun0 hrng hcnt hkd h26
   refine Qa Tryz.func75 rfl Tryz.ntmps75 rfl (t := [(0, .agg [.i k, .i n, .i m, Qo ks]), (1, .i w)]) rfl fun E hE => ?_
   (refine wkV2 ?_;intros)
   exact e_1 (Tryz.results75) (Qb rfl) (WV (σ := []) (r := [_, _]) ⟨rfl, rfl⟩)
  rw [if_neg k26]
  by_cases hc : least <= (ks.length : Int) - (kids.length : Int) /\ (ks.length : Int) - (kids.length : Int) <= more
  case neg =>
   rw [show Zf ⟨is, low, high, last, kids, more, least, som⟩ ks.length = false from Bool.eq_false_iff.2 fun h => hc (hcnt.1 h), Bool.false_and]
   clear hl2 hfun0 hrng hcnt hkd h26
   refine Qa Tryz.func75 rfl Tryz.ntmps75 rfl (t := [(0, .agg [.i k, .i n, .i m, Qo ks]), (1, .i w)]) rfl fun E hE => ?_
   (refine wkV2 ?_ ?_ <;> first|exact True.intro|intros)
   all_goals exact e_1 (Tryz.results75) (Qb rfl) (WV (σ := []) (r := [_, _]) ⟨rfl, rfl⟩)
  rw [hcnt.2 hc, Bool.true_and, hkd]
  clear hfun0 hrng hcnt hkd h26
  refine Qa Tryz.func75 rfl Tryz.ntmps75 rfl (t := [(0, .agg [.i k, .i n, .i m, Qo ks]), (1, .i w)]) rfl fun E hE => ?_
  (refine wkV2 ?_;intros)
  rename_i g1 hg1 g2 hg2
  refine WY (fun (i : Nat) => ⟨[(2, .ptr 0 g1 0), (4, .b false), (5, .ptr 1 g2 0), (96, Qo ks), (97, .i ks.length), (98, .i i)], [.row g1 [.i k, .i n, .i m, Qo ks], .row g2 [.i is, .i low, .i high, .i last, Qo kids, .i more, .i least, .i som]]⟩) (fun i => i <= ks.length /\ ∀ j, j < i -> fs.getD j noF (if j < kids.length then kids.getD j 0 else som) = true) (fun i => ks.length - i) 0 ?_ ⟨by omega, fun j hj => by omega⟩ ?_
  ·exact zal rfl
  intro i ⟨hi, hall⟩
  by_cases hil : i < ks.length
  ·by_cases hik : i < kids.length
   ·have hgd : kids.getD i 0 = kids[i] := by rw [List.getD_eq_getElem?_getD, List.getElem?_eq_getElem hik];rfl
    have hfi := hl2 i hil kids[i]
    cases hbi : fs.getD i noF kids[i] with
    | false =>
     have hA : allI (fun i => fs.getD i noF (if i < kids.length then kids.getD i 0 else som)) ks.length = false := by
      rw [Bool.eq_false_iff]
      intro h
      have := allI_iff.1 h i hil
      rw [if_pos hik, hgd, hbi] at this;cases this
     rw [hA]
     rw [hbi] at hfi
     clear hl2 hall
     (refine wkV2 ?_;intros)
     all_goals exact e_1 (Tryz.results75) (Qb rfl) (WV (σ := []) ⟨rfl, rfl⟩)
    | true =>
     rw [hbi] at hfi
     clear hl2
     (refine wkV2 ?_;intros)
     refine ⟨i + 1, ⟨by omega, fun j hj => ?_⟩, by omega, ?_⟩
     ·rcases Nat.lt_or_ge j i with h|h
      ·exact hall j h
      ·have : j = i := by omega
       subst this;rw [if_pos hik, hgd];exact hbi
     ·exact zal rfl
   ·have hfi := hl2 i hil som
    cases hbi : fs.getD i noF som with
    | false =>
     have hA : allI (fun i => fs.getD i noF (if i < kids.length then kids.getD i 0 else som)) ks.length = false := by
      rw [Bool.eq_false_iff]
      intro h
      have := allI_iff.1 h i hil
      rw [if_neg hik, hbi] at this;cases this
     rw [hA]
     rw [hbi] at hfi
     clear hl2 hall
     (refine wkV2 ?_;intros)
     all_goals exact e_1 (Tryz.results75) (Qb rfl) (WV (σ := []) ⟨rfl, rfl⟩)
    | true =>
     rw [hbi] at hfi
     clear hl2
     (refine wkV2 ?_;intros)
     refine ⟨i + 1, ⟨by omega, fun j hj => ?_⟩, by omega, ?_⟩
     ·rcases Nat.lt_or_ge j i with h|h
      ·exact hall j h
      ·have : j = i := by omega
       subst this;rw [if_neg hik];exact hbi
     ·exact zal rfl
  ·have hiv : i = ks.length := by omega
   subst hiv
   have hA : allI (fun i => fs.getD i noF (if i < kids.length then kids.getD i 0 else som)) ks.length = true := allI_iff.2 hall
   rw [hA]
   clear hl2 hall
   (refine wkV2 ?_;intros)
   exact e_1 (Tryz.results75) (Qb rfl) (WV (σ := []) (r := [_, _]) ⟨rfl, rfl⟩)
 ·by_cases hr : (low <= n /\ n <= high) /\ 0 <= m /\ m <= last
  case neg =>
   rw [show ZD ⟨is, low, high, last, kids, more, least, som⟩ n m = false from Bool.eq_false_iff.2 fun h => hr (hrng.1 h), Bool.false_and]
   clear hl2 hfun0 hrng hcnt hkd h26
   refine Qa Tryz.func75 rfl Tryz.ntmps75 rfl (t := [(0, .agg [.i k, .i n, .i m, Qo ks]), (1, .i w)]) rfl fun E hE => ?_
   (repeat' first|(refine Qz ?_;(first|refine Ws rfl ?_|refine WM rfl ?_|(refine QN ?_;(first|refine s_load_epa rfl hpart rfl ?_|refine Qc rfl rfl rfl ?_))|refine s_idx_ep (cs := Wf shapesL) hG0 rfl (by omega) (by omega) ?_|(refine Qw ?_;(first|refine Zw rfl rfl ?_|refine s_gtr rfl rfl ?_|refine WG rfl rfl ?_|refine WX rfl rfl ?_))|(refine Q1 ?_;(first|refine ZO rfl rfl ?_|refine W9 rfl rfl ?_))|refine qh rfl rfl rfl rfl ?_|refine qK rfl ?_|refine Qe rfl rfl ?_|refine QU (fun _ _ => ?_)|refine ZC rfl rfl (fun _ _ => ?_)))|(refine We ?_;(first|refine Wb ?_|refine Zg rfl ?_|refine WI ?_|refine qd rfl rfl rfl rfl ?_|refine qw rfl rfl rfl rfl ?_|refine o_gu rfl rfl rfl rfl rfl ?_|refine WN rfl rfl (by omega) ?_|refine WD rfl rfl (by omega) ?_|refine za rfl rfl (fun _ => ?_) (fun _ => ?_)))|(refine Wc ?_;(first|refine Q7 ?_|refine Qm ?_|refine QV ?_|refine QD rfl ?_|refine Qu rfl (by omega) ?_|refine Qn rfl (by omega) ?_|refine Wi ?_)))
   all_goals exact e_1 (Tryz.results75) (Qb rfl) (WV (σ := []) (r := [_, _]) ⟨rfl, rfl⟩)
  rw [hrng.2 hr, Bool.true_and]
  by_cases k26 : k = 26
  ·rw [if_pos k26]
   exfalso
   have := h26 k26
   omega
  rw [if_neg k26]
  by_cases hc : least <= (ks.length : Int) - (kids.length : Int) /\ (ks.length : Int) - (kids.length : Int) <= more
  case neg =>
   rw [show Zf ⟨is, low, high, last, kids, more, least, som⟩ ks.length = false from Bool.eq_false_iff.2 fun h => hc (hcnt.1 h), Bool.false_and]
   clear hl2 hfun0 hrng hcnt hkd h26
   refine Qa Tryz.func75 rfl Tryz.ntmps75 rfl (t := [(0, .agg [.i k, .i n, .i m, Qo ks]), (1, .i w)]) rfl fun E hE => ?_
   (refine wkV2 ?_ ?_ <;> first|exact True.intro|intros)
   all_goals exact e_1 (Tryz.results75) (Qb rfl) (WV (σ := []) (r := [_, _]) ⟨rfl, rfl⟩)
  rw [hcnt.2 hc, Bool.true_and, hkd]
  clear hfun0 hrng hcnt hkd h26
  refine Qa Tryz.func75 rfl Tryz.ntmps75 rfl (t := [(0, .agg [.i k, .i n, .i m, Qo ks]), (1, .i w)]) rfl fun E hE => ?_
  (refine wkV2 ?_;intros)
  rename_i g1 hg1 g2 hg2
  refine WY (fun (i : Nat) => ⟨[(2, .ptr 0 g1 0), (4, .b false), (5, .ptr 1 g2 0), (96, Qo ks), (97, .i ks.length), (98, .i i)], [.row g1 [.i k, .i n, .i m, Qo ks], .row g2 [.i is, .i low, .i high, .i last, Qo kids, .i more, .i least, .i som]]⟩) (fun i => i <= ks.length /\ ∀ j, j < i -> fs.getD j noF (if j < kids.length then kids.getD j 0 else som) = true) (fun i => ks.length - i) 0 ?_ ⟨by omega, fun j hj => by omega⟩ ?_
  ·exact zal rfl
  intro i ⟨hi, hall⟩
  by_cases hil : i < ks.length
  ·by_cases hik : i < kids.length
   ·have hgd : kids.getD i 0 = kids[i] := by rw [List.getD_eq_getElem?_getD, List.getElem?_eq_getElem hik];rfl
    have hfi := hl2 i hil kids[i]
    cases hbi : fs.getD i noF kids[i] with
    | false =>
     have hA : allI (fun i => fs.getD i noF (if i < kids.length then kids.getD i 0 else som)) ks.length = false := by
      rw [Bool.eq_false_iff]
      intro h
      have := allI_iff.1 h i hil
      rw [if_pos hik, hgd, hbi] at this;cases this
     rw [hA]
     rw [hbi] at hfi
     clear hl2 hall
     (refine wkV2 ?_;intros)
     all_goals exact e_1 (Tryz.results75) (Qb rfl) (WV (σ := []) ⟨rfl, rfl⟩)
    | true =>
     rw [hbi] at hfi
     clear hl2
     (refine wkV2 ?_;intros)
     refine ⟨i + 1, ⟨by omega, fun j hj => ?_⟩, by omega, ?_⟩
     ·rcases Nat.lt_or_ge j i with h|h
      ·exact hall j h
      ·have : j = i := by omega
       subst this;rw [if_pos hik, hgd];exact hbi
     ·exact zal rfl
   ·have hfi := hl2 i hil som
    cases hbi : fs.getD i noF som with
    | false =>
     have hA : allI (fun i => fs.getD i noF (if i < kids.length then kids.getD i 0 else som)) ks.length = false := by
      rw [Bool.eq_false_iff]
      intro h
      have := allI_iff.1 h i hil
      rw [if_neg hik, hbi] at this;cases this
     rw [hA]
     rw [hbi] at hfi
     clear hl2 hall
     (refine wkV2 ?_;intros)
     all_goals exact e_1 (Tryz.results75) (Qb rfl) (WV (σ := []) ⟨rfl, rfl⟩)
    | true =>
     rw [hbi] at hfi
     clear hl2
     (refine wkV2 ?_;intros)
     refine ⟨i + 1, ⟨by omega, fun j hj => ?_⟩, by omega, ?_⟩
     ·rcases Nat.lt_or_ge j i with h|h
      ·exact hall j h
      ·have : j = i := by omega
       subst this;rw [if_neg hik];exact hbi
     ·exact zal rfl
  ·have hiv : i = ks.length := by omega
   subst hiv
   have hA : allI (fun i => fs.getD i noF (if i < kids.length then kids.getD i 0 else som)) ks.length = true := allI_iff.2 hall
   rw [hA]
   clear hl2 hall
   (refine wkV2 ?_;intros)
   exact e_1 (Tryz.results75) (Qb rfl) (WV (σ := []) (r := [_, _]) ⟨rfl, rfl⟩)
 ·by_cases hr : (low <= n /\ n <= high) /\ 0 <= m /\ m <= last
  case neg =>
   rw [show ZD ⟨is, low, high, last, kids, more, least, som⟩ n m = false from Bool.eq_false_iff.2 fun h => hr (hrng.1 h), Bool.false_and]
   clear hl2 hfun0 hrng hcnt hkd h26
   refine Qa Tryz.func75 rfl Tryz.ntmps75 rfl (t := [(0, .agg [.i k, .i n, .i m, Qo ks]), (1, .i w)]) rfl fun E hE => ?_
   (repeat' first|(refine Qz ?_;(first|refine Ws rfl ?_|refine WM rfl ?_|(refine QN ?_;(first|refine s_load_epa rfl hpart rfl ?_|refine Qc rfl rfl rfl ?_))|refine s_idx_ep (cs := Wf shapesL) hG0 rfl (by omega) (by omega) ?_|(refine Qw ?_;(first|refine Zw rfl rfl ?_|refine s_gtr rfl rfl ?_|refine WG rfl rfl ?_|refine WX rfl rfl ?_))|(refine Q1 ?_;(first|refine ZO rfl rfl ?_|refine W9 rfl rfl ?_))|refine qh rfl rfl rfl rfl ?_|refine s_not_d rfl ?_|refine Qe rfl rfl ?_|refine QU (fun _ _ => ?_)|refine ZC rfl rfl (fun _ _ => ?_)))|(refine We ?_;(first|refine Wb ?_|refine Zg rfl ?_|refine WI ?_|refine qd rfl rfl rfl rfl ?_|refine qw rfl rfl rfl rfl ?_|refine WN rfl rfl (by omega) ?_|refine WD rfl rfl (by omega) ?_|refine za rfl rfl (fun _ => ?_) (fun _ => ?_)))|(refine Wc ?_;(first|refine Q7 ?_|refine Qm ?_|refine QV ?_|refine QD rfl ?_|refine Qu rfl (by omega) ?_|refine Qn rfl (by omega) ?_|refine Wi ?_)))
   all_goals exact e_1 (Tryz.results75) (Qb rfl) (WV (σ := []) (r := [_, _]) ⟨rfl, rfl⟩)
  rw [hrng.2 hr, Bool.true_and]
  by_cases k26 : k = 26
  ·rw [if_pos k26]
   exfalso
   have := h26 k26
   omega
  rw [if_neg k26]
  by_cases hc : least <= (ks.length : Int) - (kids.length : Int) /\ (ks.length : Int) - (kids.length : Int) <= more
  case neg =>
   rw [show Zf ⟨is, low, high, last, kids, more, least, som⟩ ks.length = false from Bool.eq_false_iff.2 fun h => hc (hcnt.1 h), Bool.false_and]
   clear hl2 hfun0 hrng hcnt hkd h26
   refine Qa Tryz.func75 rfl Tryz.ntmps75 rfl (t := [(0, .agg [.i k, .i n, .i m, Qo ks]), (1, .i w)]) rfl fun E hE => ?_
   (refine wkV2 ?_ ?_ <;> first|exact True.intro|intros)
   all_goals exact e_1 (Tryz.results75) (Qb rfl) (WV (σ := []) (r := [_, _]) ⟨rfl, rfl⟩)
  rw [hcnt.2 hc, Bool.true_and, hkd]
  clear hfun0 hrng hcnt hkd h26
  refine Qa Tryz.func75 rfl Tryz.ntmps75 rfl (t := [(0, .agg [.i k, .i n, .i m, Qo ks]), (1, .i w)]) rfl fun E hE => ?_
  (refine wkV2 ?_;intros)
  rename_i g1 hg1 g2 hg2
  refine WY (fun (i : Nat) => ⟨[(2, .ptr 0 g1 0), (4, .b false), (5, .ptr 1 g2 0), (96, Qo ks), (97, .i ks.length), (98, .i i)], [.row g1 [.i k, .i n, .i m, Qo ks], .row g2 [.i is, .i low, .i high, .i last, Qo kids, .i more, .i least, .i som]]⟩) (fun i => i <= ks.length /\ ∀ j, j < i -> fs.getD j noF (if j < kids.length then kids.getD j 0 else som) = true) (fun i => ks.length - i) 0 ?_ ⟨by omega, fun j hj => by omega⟩ ?_
  ·exact zal rfl
  intro i ⟨hi, hall⟩
  by_cases hil : i < ks.length
  ·by_cases hik : i < kids.length
   ·have hgd : kids.getD i 0 = kids[i] := by rw [List.getD_eq_getElem?_getD, List.getElem?_eq_getElem hik];rfl
    have hfi := hl2 i hil kids[i]
    cases hbi : fs.getD i noF kids[i] with
    | false =>
     have hA : allI (fun i => fs.getD i noF (if i < kids.length then kids.getD i 0 else som)) ks.length = false := by
      rw [Bool.eq_false_iff]
      intro h
      have := allI_iff.1 h i hil
      rw [if_pos hik, hgd, hbi] at this;cases this
     rw [hA]
     rw [hbi] at hfi
     clear hl2 hall
     (refine wkV2 ?_;intros)
     all_goals exact e_1 (Tryz.results75) (Qb rfl) (WV (σ := []) ⟨rfl, rfl⟩)
    | true =>
     rw [hbi] at hfi
     clear hl2
     (refine wkV2 ?_;intros)
     refine ⟨i + 1, ⟨by omega, fun j hj => ?_⟩, by omega, ?_⟩
     ·rcases Nat.lt_or_ge j i with h|h
      ·exact hall j h
      ·have : j = i := by omega
       subst this;rw [if_pos hik, hgd];exact hbi
     ·exact zal rfl
   ·have hfi := hl2 i hil som
    cases hbi : fs.getD i noF som with
    | false =>
     have hA : allI (fun i => fs.getD i noF (if i < kids.length then kids.getD i 0 else som)) ks.length = false := by
      rw [Bool.eq_false_iff]
      intro h
      have := allI_iff.1 h i hil
      rw [if_neg hik, hbi] at this;cases this
     rw [hA]
     rw [hbi] at hfi
     clear hl2 hall
     (refine wkV2 ?_;intros)
     all_goals exact e_1 (Tryz.results75) (Qb rfl) (WV (σ := []) ⟨rfl, rfl⟩)
    | true =>
     rw [hbi] at hfi
     clear hl2
     (refine wkV2 ?_;intros)
     refine ⟨i + 1, ⟨by omega, fun j hj => ?_⟩, by omega, ?_⟩
     ·rcases Nat.lt_or_ge j i with h|h
      ·exact hall j h
      ·have : j = i := by omega
       subst this;rw [if_neg hik];exact hbi
     ·exact zal rfl
  ·have hiv : i = ks.length := by omega
   subst hiv
   have hA : allI (fun i => fs.getD i noF (if i < kids.length then kids.getD i 0 else som)) ks.length = true := allI_iff.2 hall
   rw [hA]
   clear hl2 hall
   (refine wkV2 ?_;intros)
   exact e_1 (Tryz.results75) (Qb rfl) (WV (σ := []) (r := [_, _]) ⟨rfl, rfl⟩)
theorem valid_c (hG0 : G 0 = shapesT) (t : Nd) (hsz : Qk t <= 1000000) : Go.Av.Pure Tryz.prog G 31 [.agg (Enc.enc t)] (.b (qX t)) := fun B => by
 have hsiz := trSize_c (G := G) t (by omega)
 have hdep := trDepth_c (G := G) t (by omega)
 have hfit := fits_c hG0 t hsz 0
 unfold qX
 by_cases h1 : Qk t <= 256
 ·by_cases h2 : Q5 t <= 16
  ·rw [decide_eq_true h1, decide_eq_true h2, Bool.true_and, Bool.true_and]
   refine Qa Tryz.func31 rfl Tryz.ntmps31 rfl (t := [(0, .agg (Enc.enc t))]) rfl fun E hE => ?_
   (refine wkV2 ?_;intros)
   all_goals exact e_1 (Tryz.results31) (Qb rfl) (WV (σ := []) (r := [_]) ⟨rfl, rfl⟩)
  ·rw [decide_eq_true h1, decide_eq_false h2, Bool.true_and, Bool.false_and]
   refine Qa Tryz.func31 rfl Tryz.ntmps31 rfl (t := [(0, .agg (Enc.enc t))]) rfl fun E hE => ?_
   (refine wkV2 ?_;intros)
   all_goals exact e_1 (Tryz.results31) (Qb rfl) (WV (σ := []) (r := [_]) ⟨rfl, rfl⟩)
 ·rw [decide_eq_false h1, Bool.false_and, Bool.false_and]
  refine Qa Tryz.func31 rfl Tryz.ntmps31 rfl (t := [(0, .agg (Enc.enc t))]) rfl fun E hE => ?_
  (refine wkV2 ?_;intros)
  all_goals exact e_1 (Tryz.results31) (Qb rfl) (WV (σ := []) (r := [_]) ⟨rfl, rfl⟩)
end Go.Proofs
end
section
namespace Go.Proofs
open Go.Av Go.Bl
theorem scan_nil {s : List UInt8} {a : Nat} (h : Wq (s.dropWhile spB) = []) : WL s a = ([], a + (s.length - (s.dropWhile spB).length)) := by
 rw [WL];simp only;rw [dif_pos h]
theorem scan_cons {s r t : List UInt8} {a b : Nat} (hr : s.dropWhile spB = r) (ht : Wq r = t) (h : t ≠ []) (hb : b = a + (s.length - r.length)) :
  WL s a = ((t, b) :: (WL (r.drop t.length) (b + t.length)).1, (WL (r.drop t.length) (b + t.length)).2) := by
 subst hr ht hb
 rw [WL];simp only;rw [dif_neg h]
theorem num_dig {w : List UInt8} (h : qx w = true) : w ≠ [] /\ w.all digB = true := by
 unfold qx at h
 simp only [Bool.and_eq_true, decide_eq_true_eq] at h
 exact ⟨by rintro rfl;simp at h, h.2⟩
theorem dig_let {b : UInt8} (h : digB b = true) : letB b = false := by
 unfold digB at h
 unfold letB
 simp only [Bool.and_eq_true, decide_eq_true_eq] at h
 have h1 : ¬ 97 <= b.toNat := by omega
 have h2 : ¬ 65 <= b.toNat := by omega
 simp [h1, h2]
theorem sign_mem {u : List UInt8} (h : signM u ≠ []) : signM u ∈ signsT /\ signM u <+: u := by
 unfold signM at h ⊢
 cases hf : signsT.find? (fun t => Lib.hasPrefix u t) with
 | none => rw [hf] at h;exact absurd rfl h
 | some t =>
  have h2 := List.find?_some hf
  exact ⟨List.mem_of_find?_eq_some hf, List.isPrefixOf_iff_prefix.1 h2⟩
end Go.Proofs
end
section
namespace Go.Proofs
open Go.Av
variable {G : Nat -> DV}
attribute [local irreducible] OpSem WR Zc Zp ACalls ZS AClose RV
open Go.Bl
def ZV (z : Nd) (s : List UInt8) : Nd × Int :=
 if 8192 < s.length then (zNd, 8192)
 else if (Zi (WL s 0).1 z ((WL s 0).1.length + 3)).2.bad = true then
  (if h : (Zi (WL s 0).1 z ((WL s 0).1.length + 3)).2.p < (WL s 0).1.length then (zNd, ((WL s 0).1[(Zi (WL s 0).1 z ((WL s 0).1.length + 3)).2.p].2 : Int)) else (zNd, ((WL s 0).2 : Int)))
 else if (WL s 0).2 < s.length then (zNd, ((WL s 0).2 : Int))
 else if qX (Zi (WL s 0).1 z ((WL s 0).1.length + 3)).1 = true then ((Zi (WL s 0).1 z ((WL s 0).1.length + 3)).1, -1) else (zNd, 0)
theorem tup_nil {L : Lay} {a b c d : DV} {es : Nat} {v : Value} (h : VRep L (.tup [.agg [a, b, c, .sc (.slice none 0 0)], d]) v) : VRep L (.tup [.agg [a, b, c, .sl es []], d]) v := by
 cases h with|tup _ vs hl hg =>
 refine .tup _ _ hl fun j e hj => ?_
 match j with
 | 0 => simp at hj;subst hj;exact agg4_nil (hg 0 _ rfl)
 | j + 1 => exact hg (j + 1) e hj
theorem scan_ok (s : List UInt8) (hs : s.length <= 8192) : OkL (WL s 0).1 /\ (WL s 0).2 <= s.length /\ (WL s 0).1.length <= s.length /\ ∀ x ∈ (WL s 0).1, x.2 <= s.length := by
 have key : ∀ (n : Nat) (u : List UInt8) (a : Nat), u.length = n -> ((WL u a).2 <= a + u.length /\ (WL u a).1.length <= u.length /\ ∀ x ∈ (WL u a).1, x.1 ≠ [] /\ x.1.length <= u.length /\ x.2 <= a + u.length) := by
  intro n
  induction n using Nat.strongRecOn with
  | _ n ih =>
  intro u a hu
  have hd := (List.dropWhile_sublist (l := u) spB).length_le
  by_cases hf : Wq (u.dropWhile spB) = []
  ·rw [scan_nil hf]
   refine ⟨by show a + (u.length - (u.dropWhile spB).length) <= a + u.length;omega, Nat.zero_le _, fun x hx => by cases hx⟩
  ·have hle := firstM_le (u.dropWhile spB)
   have hpos : 1 <= (Wq (u.dropWhile spB)).length := by
    cases hq : Wq (u.dropWhile spB) with
    | nil => exact absurd hq hf
    | cons b q => simp
   rw [scan_cons rfl rfl hf rfl]
   have hdl : ((u.dropWhile spB).drop (Wq (u.dropWhile spB)).length).length = (u.dropWhile spB).length - (Wq (u.dropWhile spB)).length := List.length_drop
   obtain ⟨i1, i2, i3⟩ := ih _ (by rw [hdl];omega) ((u.dropWhile spB).drop (Wq (u.dropWhile spB)).length) (a + (u.length - (u.dropWhile spB).length) + (Wq (u.dropWhile spB)).length) rfl
   rw [hdl] at i1 i2 i3
   refine ⟨by dsimp only;omega, by rw [List.length_cons];omega, fun x hx => ?_⟩
   rcases List.mem_cons.1 hx with rfl|hx
   ·exact ⟨hf, by dsimp only;omega, by dsimp only;omega⟩
   ·obtain ⟨j1, j2, j3⟩ := i3 x hx
    exact ⟨j1, by omega, by omega⟩
 obtain ⟨h1, h2, h3⟩ := key _ s 0 rfl
 exact ⟨⟨by omega, fun x hx => ⟨(h3 x hx).1, by have := (h3 x hx).2.1;omega⟩⟩, by omega, h2, fun x hx => by have := (h3 x hx).2.2;omega⟩
theorem wkRB {X W0 W1 W2 : Prop} (w0 : W0 := by exact True.intro) (w1 : W1 := by exact True.intro) (w2 : W2 := by exact True.intro) (s : (Unit -> W0) -> (Unit -> W1) -> (Unit -> W2) -> Unit -> X := by (intro w0 w1 w2 _;(repeat' first|(refine Qz ?_;(first|refine Ws rfl ?_|refine WM rfl ?_|(refine QN ?_;(first|refine Z4 rfl rfl ?_|refine Qc rfl rfl rfl ?_))|(refine Qw ?_;(first|refine Zw rfl rfl ?_|refine s_gtr rfl rfl ?_|refine WG rfl rfl ?_))|(refine QK ?_;(first|refine Zy (z := xb) rfl rfl rfl rfl rfl rfl rfl (by first|omega|(simp;omega)) (by first|omega|(simp;omega)) (fun _ => rfl) (fun _ _ => ?_)|refine Qv rfl ?_|refine Zx rfl ?_|refine WA rfl rfl (hscan) ?_|refine WA rfl rfl (hval) ?_|refine Wh 1 (htk) rfl rfl rfl rfl ?_|refine Wh 1 (hnm) rfl rfl rfl rfl ?_|refine Wh 1 (hfun) rfl rfl rfl rfl ?_))|(refine Q1 ?_;(first|refine ZO rfl rfl ?_|refine W9 rfl rfl ?_))|(refine Wr ?_;(first|refine qh rfl rfl rfl rfl ?_|refine Wg rfl rfl rfl rfl (by rfl) (by rfl) (by rfl) ?_))|refine qK rfl ?_|refine Qe rfl rfl ?_|refine Zm rfl rfl rfl ?_|refine QB rfl rfl ?_|refine Qj rfl rfl ?_|refine QU (fun _ _ => ?_)|refine ZC rfl rfl (fun _ _ => ?_)))|(refine We ?_;(first|refine Wb ?_|refine Zg rfl ?_|refine WI ?_|refine qd rfl rfl rfl rfl ?_|refine qw rfl rfl rfl rfl ?_|refine WN rfl rfl (by omega) ?_|refine WD rfl rfl (by omega) ?_))|(refine Wc ?_;(first|refine Q7 ?_|refine Qm ?_|refine QM ?_|(refine WC ?_;first|(refine Ql (fun p => p.1 :: .row gr [Qo (tks L), .i (Q.p : Nat), .i (Q.p : Nat)] :: p.2) 100 [(1, true), (2, true), (3, true), (4, true), (5, true), (6, true), (7, true), (8, true), (0, true), (9, false), (10, true)] (by rfl) (by rfl) (by kernel_rfl) (by decide +kernel) (by decide +kernel) ⟨(_, _), rfl⟩ ?_)|(refine Ql (fun p => .row g2 [.i 0, .i 0, .i 0, .nil] :: p.1 :: .row gn [.i 27, .i v, .i 0, .ref 3 gg 0 o.length 4] :: p.2) 7 [(0, true), (1, true), (2, true), (3, false), (4, true), (5, false), (6, true), (7, false)] (by rfl) (by rfl) (by kernel_rfl) (by decide +kernel) (by decide +kernel) ⟨(_, _), rfl⟩ ?_)|refine Q9 (by rfl) (by kernel_rfl) (by kernel_rfl) ?_|refine Q8 (by kernel_rfl) (by kernel_rfl) ?_)|refine QV ?_|refine QD rfl ?_|refine QR rfl ?_|refine Qu rfl (by omega) ?_|refine Qn rfl (by omega) ?_|refine W8 rfl ?_|refine Wi ?_))|(refine ZG ?_;(first|refine qL ?_|refine i_z0 ?_|refine i_st rfl rfl (fun _ => (by (repeat' first|(refine Qz ?_;(first|refine Ws rfl ?_|refine WM rfl ?_|(refine QN ?_;(first|refine QA rfl ?_|refine Qc rfl rfl rfl ?_))|refine Qq rfl rfl (by first|assumption|omega|(simp;done)|(simp;omega)) ?_|refine QO (z := xb) rfl rfl (by decide) ?_|(refine QS ?_;(first|refine Qe rfl rfl ?_|refine Wz rfl rfl ?_))|refine QB rfl rfl ?_|refine Qj rfl rfl ?_))|exact ⟨rfl, rfl⟩))) ?_|refine i_ef rfl ?_|refine i_ef0 ?_))|refine And.intro (Exists.intro ((_, _)) rfl) ?_);all_goals (repeat (rename_i x;(fail_if_success have : Unit := x);revert x));(first|done|exact w0 ());(first|done|exact w1 ());(first|done|exact w2 ()))) (u : (W0 \/ True) /\ (W1 \/ True) /\ (W2 \/ True) := by (refine ⟨?_, ?_, ?_⟩ <;> first|exact Or.inl True.intro|exact Or.inr True.intro)) : X := s (fun _ => w0) (fun _ => w1) (fun _ => w2) ()
theorem parse_c (hG0 : G 0 = shapesT) (hG1 : G 1 = spaceT) (s : List UInt8) (hsl : s.length <= 1000000000) : Go.Av.Pure Tryz.prog G 23 [Q2 s] (.tup [.agg (Enc.enc (ZV zP s).1), .i (ZV zP s).2]) := fun B => by
 unfold ZV
 by_cases h8 : 8192 < s.length
 ·rw [if_pos h8]
  refine Qa Tryz.func23 rfl Tryz.ntmps23 rfl (t := [(0, Q2 s)]) rfl fun E hE => ?_
  (refine wkRB ?_;intros)
  exact e_2 (Tryz.results23) (Qg (size := 4) rfl rfl rfl rfl) (Qb rfl) (Ze (d2 := .tup [.agg [.i 0, .i 0, .i 0, .sl 4 []], .i 8192]) (fun L v h => tup_nil h) (Qd (by show _ = DV.tup [.agg (Enc.enc zNd), .i 8192];unfold zNd;rw [Qr];rfl)))
 rw [if_neg h8]
 have hscan := scan_c (G := G) hG1 s (by omega)
 obtain ⟨hL, he, hlen, hat⟩ := scan_ok s (by omega)
 generalize (WL s 0).2 = e at *
 generalize (WL s 0).1 = L at *
 obtain ⟨q, hqq⟩ : ∃ q, q = L.length + 3 := ⟨_, rfl⟩
 rw [<- hqq]
 have hq : L.length + 3 <= q := by omega
 have hfn := fun Q => fun_rc (G := G) hG1 L hL q hq (by omega) Q
 have hea := eats_fun L zP q
 have hkw := kw_fun (L := L) (z := zP) q
 have hps := fun h => Nat.le_trans (prog_size (L := L) (z := zP) q h) (prog_in q)
 have hpa : Zi L zP q = (Nd.mk 27 (Qh L (QC L WT ⟨0, false⟩)).1 0 (QT L (Za L zP q) q [] (Qh L (QC L WT ⟨0, false⟩)).2).1, (QT L (Za L zP q) q [] (Qh L (QC L WT ⟨0, false⟩)).2).2) := rfl
 rw [hpa] at hps ⊢
 clear hpa
 generalize Za L zP q = F at *
 have htk := take_c (G := G) L ⟨0, false⟩ hL WT (by decide)
 have hmt := (mm_take (L := L) (S := ⟨0, false⟩) WT (by decide)).1
 have hr0 : rM L ⟨0, false⟩ = L.length := by unfold rM;simp
 generalize QC L WT ⟨0, false⟩ = S1 at *
 have hnm := qQ (G := G) L S1 hL
 have hmn := (jr (L := L) (F := Qh L) (fun i => J.numeral (Ag.refl L i)) S1).2
 generalize (Qh L S1).1 = v at *
 generalize (Qh L S1).2 = S2 at *
 have htl : (tks L).length = L.length := by simp [tks]
 dsimp only at hps ⊢
 refine Qa Tryz.func23 rfl Tryz.ntmps23 rfl (t := [(0, Q2 s)]) rfl fun E hE => ?_
 (refine wkRB ?_;intros)
 rename_i g2 hg2 gr hgr gn hgn
 refine r_ownin 2 3 4 rfl rfl (fun _ => rfl) (fun gk hgk => ?_)
 refine r_loop3n (fun (o : List Nd) (Q : RS) (gg : Nat) => ⟨[(0, Q2 s), (2, .ptr 0 g2 0), (4, Qo (tks L)), (5, .i e), (6, .ptr 1 gr 0), (7, .ptr 2 gn 0)], [.row g2 [.i 0, .i 0, .i 0, .nil], .row gr (rdC L Q), .row gn [.i 27, .i v, .i 0, .ref 3 gg 0 o.length 4], .row gg (Wf o)]⟩) (fun o Q gg => E.N < gg /\ o.length + mM L Q <= L.length /\ ∃ k', QT L F q [] S2 = QT L F k' o Q /\ mM L Q + 1 <= k') (fun o Q gg => mM L Q) [] S2 gk ?_ ⟨hgk, by simp;omega, q, rfl, by omega⟩ ?_
 ·exact zal rfl
 intro o Q gg ⟨hgg, hq2, k', hk1, hk2⟩
 have hol : o.length <= 2000000 := by omega
 rw [hk1] at hps ⊢
 have c1 := Qx o
 cases hb : Q.bad with
 | true =>
  have hend : QT L F k' o Q = (o, Q) := by
   cases k' with
   | zero => rfl
   | succ k2 => rw [QT, if_neg (by rw [hb];simp)]
  rw [hend]
  dsimp only
  rw [if_pos hb]
  clear hps hk1 hend hfn hkw hea
  have ecell : rdC L Q = [Qo (tks L), .i (Q.p : Nat), .i (Q.p : Nat)] := by unfold rdC badI;rw [if_pos hb]
  rw [ecell]
  by_cases hpl : Q.p < L.length
  ·rw [dif_pos hpl]
   have hpl2 : Q.p < (tks L).length := by omega
   have hta : ((tks L)[Q.p].a : Int) = (L[Q.p].2 : Int) := by rw [tks_get hpl]
   (refine wkRB ?_;intros)
   exact e_2 (Tryz.results23) (Qg (size := 4) rfl rfl rfl rfl) (Qb rfl) (Ze (d2 := .tup [.agg [.i 0, .i 0, .i 0, .sl 4 []], .i (tks L)[Q.p].a]) (fun L v h => tup_nil h) (Qd (by rw [hta];show _ = DV.tup [.agg (Enc.enc zNd), _];unfold zNd;rw [Qr];rfl)))
  ·rw [dif_neg hpl]
   (refine wkRB ?_;intros)
   exact e_2 (Tryz.results23) (Qg (size := 4) rfl rfl rfl rfl) (Qb rfl) (Ze (d2 := .tup [.agg [.i 0, .i 0, .i 0, .sl 4 []], .i e]) (fun L v h => tup_nil h) (Qd (by show _ = DV.tup [.agg (Enc.enc zNd), _];unfold zNd;rw [Qr];rfl)))
 | false =>
  have hbi := bad_neg hb
  match k', hk1, hk2 with
  | k2 + 1, hk1, hk2 =>
  by_cases hpl : Q.p < L.length
  ·have hrec : QT L F (k2 + 1) o Q = QT L F k2 (o ++ [(F Q).1]) (F Q).2 := by rw [QT, if_pos ⟨hb, hpl⟩]
   have hlt := hea Q hb
   have hfun := hfn Q
   clear hps hk1 hfn hkw hea
   generalize hx2 : (F Q).1 = xb at *
   generalize hS2 : (F Q).2 = S3 at *
   (refine wkRB ?_;intros)
   refine ⟨o ++ [xb], S3, _, ⟨by assumption, by simp;omega, k2, hrec, by omega⟩, by omega, ?_⟩
   exact zal rfl
  ·have hend : QT L F (k2 + 1) o Q = (o, Q) := by rw [QT, if_neg (by rw [hb];simp;omega)]
   rw [hend] at hps ⊢
   dsimp only at hps ⊢
   rw [if_neg (by rw [hb];decide)]
   have hsz : Qk (.mk 27 v 0 o) <= 1000000 := by
    have := hps hb
    omega
   have hval := valid_c hG0 (.mk 27 v 0 o) hsz
   rw [Qr] at hval
   clear hps hk1 hend hfn hkw hea
   refine r_pubin 2 3 rfl rfl rfl c1.symm rfl rfl ?_
   by_cases hes : e < s.length
   ·rw [if_pos hes]
    (refine wkRB ?_;intros)
    exact e_2 (Tryz.results23) (Qg (size := 4) rfl rfl rfl rfl) (Qb rfl) (Ze (d2 := .tup [.agg [.i 0, .i 0, .i 0, .sl 4 []], .i e]) (fun L v h => tup_nil h) (Qd (by show _ = DV.tup [.agg (Enc.enc zNd), _];unfold zNd;rw [Qr];rfl)))
   ·rw [if_neg hes]
    cases hvv : qX (.mk 27 v 0 o) with
    | true =>
     rw [hvv] at hval
     rw [if_pos rfl]
     (refine wkRB ?_;intros)
     exact e_2 (Tryz.results23) (Qg (size := 4) rfl rfl rfl rfl) (Qb rfl) (Qd (by rw [Qr];rfl))
    | false =>
     rw [hvv] at hval
     rw [if_neg (by decide)]
     (refine wkRB ?_;intros)
     exact e_2 (Tryz.results23) (Qg (size := 4) rfl rfl rfl rfl) (Qb rfl) (Ze (d2 := .tup [.agg [.i 0, .i 0, .i 0, .sl 4 []], .i 0]) (fun L v h => tup_nil h) (Qd (by show _ = DV.tup [.agg (Enc.enc zNd), _];unfold zNd;rw [Qr];rfl)))
end Go.Proofs
end
section
namespace Go.Proofs
open Go.Av Go.Bl
theorem drop_dw (p : UInt8 -> Bool) (u : List UInt8) : u.drop (u.length - (u.dropWhile p).length) = u.dropWhile p := by
 have h : u = u.takeWhile p ++ u.dropWhile p := (List.takeWhile_append_dropWhile ..).symm
 have hl : u.length = (u.takeWhile p).length + (u.dropWhile p).length := by rw [<- List.length_append, <- h]
 have e : u.length - (u.dropWhile p).length = (u.takeWhile p).length := by omega
 rw [e]
 have h2 := List.drop_left (l₁ := u.takeWhile p) (l₂ := u.dropWhile p)
 rwa [<- h] at h2
theorem scan_mem : ∀ (n : Nat) (u : List UInt8) (a : Nat), u.length = n -> (∀ x ∈ (WL u a).1, a <= x.2 /\ x.2 + x.1.length <= a + u.length /\ Wq (u.drop (x.2 - a)) = x.1 /\ x.1 ≠ []) /\ a <= (WL u a).2 /\ (WL u a).2 <= a + u.length /\ Wq (u.drop ((WL u a).2 - a)) = [] := by
 intro n
 induction n using Nat.strongRecOn with
 | _ n ih =>
 intro u a hu
 have hd := (List.dropWhile_sublist (l := u) spB).length_le
 have hdw := drop_dw spB u
 by_cases hf : Wq (u.dropWhile spB) = []
 ·rw [scan_nil hf]
  refine ⟨fun x hx => (by cases hx), by dsimp only;omega, by dsimp only;omega, ?_⟩
  dsimp only
  rw [show a + (u.length - (u.dropWhile spB).length) - a = u.length - (u.dropWhile spB).length by omega, hdw]
  exact hf
 ·have hle := firstM_le (u.dropWhile spB)
  have hpos : 1 <= (Wq (u.dropWhile spB)).length := by
   cases hq : Wq (u.dropWhile spB) with
   | nil => exact absurd hq hf
   | cons b q => simp
  rw [scan_cons rfl rfl hf rfl]
  generalize hr : u.dropWhile spB = r at *
  generalize ht : Wq r = t at *
  have hdl : (r.drop t.length).length = r.length - t.length := List.length_drop
  obtain ⟨i1, i2, i3, i4⟩ := ih _ (by rw [hdl];omega) (r.drop t.length) (a + (u.length - r.length) + t.length) rfl
  rw [hdl] at i1 i3
  have hdd : ∀ o, a + (u.length - r.length) + t.length <= o -> u.drop (o - a) = (r.drop t.length).drop (o - (a + (u.length - r.length) + t.length)) := fun o ho => by
   have key : ∀ m, r.drop m = u.drop (u.length - r.length + m) := fun m => by rw [<- List.drop_drop, hdw]
   rw [List.drop_drop, key]
   congr 1;omega
  refine ⟨fun x hx => ?_, by dsimp only;omega, by dsimp only;omega, ?_⟩
  ·rcases List.mem_cons.1 hx with rfl|hx
   ·refine ⟨by dsimp only;omega, by dsimp only;omega, ?_, hf⟩
    dsimp only
    rw [show a + (u.length - r.length) - a = u.length - r.length by omega, hdw]
    exact ht
   ·obtain ⟨j1, j2, j3, j4⟩ := i1 x hx
    refine ⟨by omega, by omega, ?_, j4⟩
    rw [hdd _ j1];exact j3
  ·dsimp only
   rw [hdd _ i2];exact i4
def moreT (t o : List UInt8) : List (List UInt8) := [[], t ++ [32] ++ t, o, [40] ++ t ++ [41], [118, 49], [55], [45], [48, 120], [49, 50, 51, 52], [35], [48, 48, 55], [45, 48], [118, 48, 49], [101, 108, 115, 101], [57]]
theorem moreT_len (t o : List UInt8) : ∀ x ∈ moreT t o, x.length <= 2 * t.length + o.length + 4 := by
 intro x hx
 unfold moreT at hx
 simp only [List.mem_cons, List.not_mem_nil, or_false] at hx
 rcases hx with rfl|rfl|rfl|rfl|rfl|rfl|rfl|rfl|rfl|rfl|rfl|rfl|rfl|rfl|rfl
 all_goals try simp only [List.length_append, List.length_cons, List.length_nil]
 all_goals omega
def simT : Nd -> List UInt8
 | .mk k n m ks =>
  if k = 14 then (if QI m ks.length 1 = true then [118] ++ Lib.itoa n ++ [32, 61, 32] ++ Wy (ks.map exT) else []) else
  if k = 15 then (if QI m ks.length 2 = true then [118] ++ Lib.itoa n ++ [91] ++ (ks.map exT).getD 0 [] ++ [93, 32, 61, 32] ++ (ks.map exT).getD 1 [] else []) else
  if k = 16 then (if ks.length = 1 then [118] ++ Lib.itoa n ++ [46] ++ Lib.itoa m ++ [32, 61, 32] ++ Wy (ks.map exT) else []) else
  if k = 19 then (if Wu n m ks.length 1 = true then [114, 101, 116, 117, 114, 110, 32] ++ Wy (ks.map exT) else []) else
  if k = 20 then (if Wu n m ks.length 1 = true then [116, 104, 114, 111, 119, 32] ++ Wy (ks.map exT) else []) else
  if k = 24 then (if Wu n m ks.length 1 = true then [111, 117, 116, 32] ++ Wy (ks.map exT) else []) else
  if k = 25 then (if Wu n m ks.length 0 = true then [115, 107, 105, 112] else []) else
  if k = 22 then (if QI m ks.length 1 = true then [115, 101, 110, 100, 32, 99] ++ Lib.itoa n ++ [32] ++ Wy (ks.map exT) else []) else
  if k = 23 then (if QI m ks.length (-1) = true then [115, 112, 97, 119, 110, 32, 102] ++ Lib.itoa n ++ [40] ++ Wy (ks.map exT) ++ [41] else []) else []
def Zt : Nd -> Bool
 | .mk k n m ks =>
  if k = 14 then QI m ks.length 1 && WF n && ks.all Zn else if k = 15 then QI m ks.length 2 && WF n && ks.all Zn else if k = 16 then decide (ks.length = 1) && WF n && WF m && ks.all Zn else
  if k = 19 then Wu n m ks.length 1 && ks.all Zn else if k = 20 then Wu n m ks.length 1 && ks.all Zn else if k = 24 then Wu n m ks.length 1 && ks.all Zn else if k = 25 then Wu n m ks.length 0 else
  if k = 22 then QI m ks.length 1 && WF n && ks.all Zn else if k = 23 then QI m ks.length (-1) && WF n && ks.all Zn else false
theorem exs_len {ks : List Nd} (h : okL ks) : ∀ x ∈ ks, (exT x).length + 2 <= 60 * Qk x := fun x hx => qS x (Wa h hx)
theorem getD2_len {ks : List Nd} (h : okL ks) (h2 : ks.length = 2) : ((ks.map exT).getD 0 []).length + ((ks.map exT).getD 1 []).length <= 60 * Qs ks := by
 match ks, h2 with
 | [a, b], _ =>
  have ha := exs_len h a (by simp)
  have hb := exs_len h b (by simp)
  simp only [List.map_cons, List.map_nil, List.getD_cons_zero, List.getD_cons_succ, Qs];omega
theorem simT_len (t : Nd) (hok : okN t) : (simT t).length <= 60 * Qk t := by
 obtain ⟨k, n, m, ks⟩ := t
 rw [okN] at hok
 have hn := WP hok.1.2.1
 have hm := WP hok.1.2.2
 have hs := ZN exT ks (exs_len hok.2)
 have h2 : QI m ks.length 2 = true -> ((ks.map exT).getD 0 []).length + ((ks.map exT).getD 1 []).length <= 60 * Qs ks := fun h => getD2_len hok.2 (by simp [QI] at h;omega)
 rw [simT]
 rw [Qk]
 repeat' split
 all_goals (try have h2 := h2 (by assumption));simp only [List.length_append, List.length_cons, List.length_nil];omega
def ZQ (i : Nat) (s : List UInt8) : List UInt8 := Lib.repeatL [32, 32] i ++ s ++ [10]
theorem Wx (i : Nat) (s : List UInt8) : (ZQ i s).length = 2 * i + s.length + 1 := by
 unfold ZQ
 rw [List.length_append, List.length_append, Lib.repeatL_length]
 show i * 2 + s.length + 1 = _
 omega
abbrev sOpen : List UInt8 := [123]
abbrev sClose : List UInt8 := [125]
abbrev sElse : List UInt8 := [125, 32, 101, 108, 115, 101, 32, 123]
abbrev sIf : List UInt8 := [105, 102, 32]
abbrev sWhile : List UInt8 := [119, 104, 105, 108, 101, 32]
abbrev sTry : List UInt8 := [116, 114, 121, 32, 123]
abbrev sCatch : List UInt8 := [125, 32, 99, 97, 116, 99, 104, 32, 118]
abbrev sBr : List UInt8 := [32, 123]
mutual
def stT : Nd -> Nat -> List UInt8
 | .mk k n m ks, i =>
  if k = 13 then ZQ i sOpen ++ (if Wu n m ks.length (-1) = true then stTs ks (i + 1) else []) ++ ZQ i sClose else
  if k = 17 /\ Wu n m ks.length 3 = true then ZQ i (sIf ++ (ks.map exT).getD 0 [] ++ sBr) ++ (inTs ks i).getD 1 [] ++ ZQ i sElse ++ (inTs ks i).getD 2 [] ++ ZQ i sClose else
  if k = 18 /\ Wu n m ks.length 2 = true then ZQ i (sWhile ++ (ks.map exT).getD 0 [] ++ sBr) ++ (inTs ks i).getD 1 [] ++ ZQ i sClose else
  if k = 21 /\ QI m ks.length 2 = true then ZQ i sTry ++ (inTs ks i).getD 0 [] ++ ZQ i (sCatch ++ Lib.itoa n ++ sBr) ++ (inTs ks i).getD 1 [] ++ ZQ i sClose else
  ZQ i (simT (.mk k n m ks))
def stTs : List Nd -> Nat -> List UInt8
 | [], _ => []
 | x :: r, i => stT x i ++ stTs r i
def inT : Nd -> Nat -> List UInt8
 | .mk k n m ks, i => if (decide (k = 13) && Wu n m ks.length (-1)) = true then stTs ks (i + 1) else []
def inTs : List Nd -> Nat -> List (List UInt8)
 | [], _ => []
 | x :: r, i => inT x i :: inTs r i
end
theorem inTs_eq (i : Nat) : ∀ ks, inTs ks i = ks.map fun x => inT x i
 | [] => rfl
 | x :: r => by rw [inTs, inTs_eq i r];rfl
mutual
def qj : Nd -> Bool
 | .mk k n m ks =>
  if k = 13 then Wu n m ks.length (-1) && stOks ks else
  if k = 17 then Wu n m ks.length 3 && (ks.map Zn).getD 0 false && (inOks ks).getD 1 false && (inOks ks).getD 2 false else
  if k = 18 then Wu n m ks.length 2 && (ks.map Zn).getD 0 false && (inOks ks).getD 1 false else
  if k = 21 then QI m ks.length 2 && WF n && (inOks ks).getD 0 false && (inOks ks).getD 1 false else Zt (.mk k n m ks)
def stOks : List Nd -> Bool
 | [] => true
 | x :: r => qj x && stOks r
def inOk : Nd -> Bool
 | .mk k n m ks => decide (k = 13) && Wu n m ks.length (-1) && stOks ks
def inOks : List Nd -> List Bool
 | [] => []
 | x :: r => inOk x :: inOks r
end
theorem ql : ∀ ks, inOks ks = ks.map inOk
 | [] => rfl
 | x :: r => by rw [inOks, ql r];rfl
theorem stOks_eq : ∀ ks, stOks ks = ks.all qj
 | [] => rfl
 | x :: r => by rw [stOks, stOks_eq r];rfl
theorem stTs_app (a b : List Nd) (i : Nat) : stTs (a ++ b) i = stTs a i ++ stTs b i := by
 induction a with
 | nil => simp [stTs]
 | cons x r ih => rw [List.cons_append, stTs, stTs, ih, List.append_assoc]
theorem stTs_take {ks : List Nd} {j : Nat} (h : j < ks.length) (i : Nat) : stTs (ks.take (j + 1)) i = stTs (ks.take j) i ++ stT ks[j] i := by
 rw [List.take_succ_eq_append_getElem h, stTs_app, stTs, stTs, List.append_nil]
theorem stOks_take {ks : List Nd} {j : Nat} (h : j < ks.length) : stOks (ks.take (j + 1)) = (stOks (ks.take j) && qj ks[j]) := by
 rw [stOks_eq, stOks_eq, List.take_succ_eq_append_getElem h, List.all_append];simp
def bnd (i s : Nat) : Nat := (6 * (i + s) + 100) * s
theorem stTs_len {C : Nat} : ∀ (ks : List Nd) (i : Nat), (∀ x ∈ ks, (stT x i).length <= C * Qk x) -> (stTs ks i).length <= C * Qs ks
 | [], i, _ => by simp [stTs]
 | x :: r, i, h => by
  have h1 := h x (by simp)
  have h2 := stTs_len r i fun y hy => h y (by simp [hy])
  rw [stTs, Qs, List.length_append, Nat.mul_add];omega
theorem getD_map_le {ks : List Nd} {f : Nd -> List UInt8} {C : Nat} (h : ∀ x ∈ ks, (f x).length <= C * Qk x) (j : Nat) (hj : j < ks.length) : ((ks.map f).getD j []).length <= C * Qk ks[j] := by
 rw [List.getD_eq_getElem?_getD, List.getElem?_map, List.getElem?_eq_getElem hj]
 exact h _ (List.getElem_mem hj)
theorem st_len (t : Nd) : okN t -> ∀ i, (stT t i).length <= bnd i (Qk t) /\ (inT t i).length <= (6 * (i + Qk t) + 100) * (Qk t - 1) := by
 induction t using Nd.ind with
 | h k n m ks ih =>
 intro hok0 i
 have hsim := simT_len (.mk k n m ks) hok0
 have hok := hok0
 rw [okN] at hok
 have hn := WP hok.1.2.1
 rw [Qk] at hsim ⊢
 have hin : (stTs ks (i + 1)).length <= (6 * (i + (1 + Qs ks)) + 100) * Qs ks := by
  refine stTs_len ks (i + 1) fun x hx => ?_
  refine Nat.le_trans (ih x hx (Wa hok.2 hx) (i + 1)).1 (Nat.mul_le_mul ?_ (Nat.le_refl _))
  have := QG hx;omega
 have hC : (6 * (i + (1 + Qs ks)) + 100) * (1 + Qs ks) = (6 * (i + (1 + Qs ks)) + 100) + (6 * (i + (1 + Qs ks)) + 100) * Qs ks := by rw [Nat.mul_add, Nat.mul_one]
 have hex : ∀ x ∈ ks, (exT x).length <= (6 * (i + (1 + Qs ks)) + 100) * Qk x := fun x hx => by
  have := exs_len hok.2 x hx
  have : 60 * Qk x <= (6 * (i + (1 + Qs ks)) + 100) * Qk x := Nat.mul_le_mul (by omega) (Nat.le_refl _)
  omega
 have hib : ∀ x ∈ ks, (inT x i).length <= (6 * (i + (1 + Qs ks)) + 100) * Qk x := fun x hx => by
  refine Nat.le_trans (ih x hx (Wa hok.2 hx) i).2 (Nat.mul_le_mul ?_ (by omega))
  have := QG hx;omega
 have h60 : 60 * (1 + Qs ks) <= 60 + (6 * (i + (1 + Qs ks)) + 100) * Qs ks := by
  have : 60 * Qs ks <= (6 * (i + (1 + Qs ks)) + 100) * Qs ks := Nat.mul_le_mul (by omega) (Nat.le_refl _)
  omega
 have h2 : ks.length = 2 -> ((6 * (i + (1 + Qs ks)) + 100) * Qk (ks.getD 0 (.mk 0 0 0 [])) + (6 * (i + (1 + Qs ks)) + 100) * Qk (ks.getD 1 (.mk 0 0 0 []))) <= (6 * (i + (1 + Qs ks)) + 100) * Qs ks := fun h => by
  match ks, h with
  | [a, b], _ =>
   rw [<- Nat.mul_add]
   refine Nat.mul_le_mul (Nat.le_refl _) ?_
   show Qk a + Qk b <= _
   rw [Qs, Qs, Qs];omega
 have h3 : ks.length = 3 -> ((6 * (i + (1 + Qs ks)) + 100) * Qk (ks.getD 0 (.mk 0 0 0 [])) + (6 * (i + (1 + Qs ks)) + 100) * Qk (ks.getD 1 (.mk 0 0 0 [])) + (6 * (i + (1 + Qs ks)) + 100) * Qk (ks.getD 2 (.mk 0 0 0 []))) <= (6 * (i + (1 + Qs ks)) + 100) * Qs ks := fun h => by
  match ks, h with
  | [a, b, c], _ =>
   rw [<- Nat.mul_add, <- Nat.mul_add]
   refine Nat.mul_le_mul (Nat.le_refl _) ?_
   show Qk a + Qk b + Qk c <= _
   rw [Qs, Qs, Qs, Qs];omega
 have gx : ∀ j, j < ks.length -> ((ks.map exT).getD j []).length <= (6 * (i + (1 + Qs ks)) + 100) * Qk (ks.getD j (.mk 0 0 0 [])) := fun j hj => by
  have := getD_map_le hex j hj
  rwa [List.getD_eq_getElem?_getD (l := ks), List.getElem?_eq_getElem hj]
 have gi : ∀ j, j < ks.length -> ((inTs ks i).getD j []).length <= (6 * (i + (1 + Qs ks)) + 100) * Qk (ks.getD j (.mk 0 0 0 [])) := fun j hj => by
  rw [inTs_eq]
  have := getD_map_le hib j hj
  rwa [List.getD_eq_getElem?_getD (l := ks), List.getElem?_eq_getElem hj]
 refine ⟨?_, ?_⟩
 ·rw [stT]
  unfold bnd
  rw [hC]
  generalize (6 * (i + (1 + Qs ks)) + 100) * Qs ks = W at *
  clear ih hex hib hok hok0
  split
  ·split
   ·simp only [List.length_append, Wx, List.length_cons, List.length_nil];omega
   ·simp only [List.length_append, Wx, List.length_cons, List.length_nil];omega
  split
  ·rename_i h
   have hl : ks.length = 3 := by have := h.2;simp [Wu, QI] at this;omega
   have e0 := gx 0 (by omega)
   have e1 := gi 1 (by omega)
   have e2 := gi 2 (by omega)
   have := h3 hl
   simp only [List.length_append, Wx, List.length_cons, List.length_nil];omega
  split
  ·rename_i h
   have hl : ks.length = 2 := by have := h.2;simp [Wu, QI] at this;omega
   have e0 := gx 0 (by omega)
   have e1 := gi 1 (by omega)
   have := h2 hl
   simp only [List.length_append, Wx, List.length_cons, List.length_nil];omega
  split
  ·rename_i h
   have hl : ks.length = 2 := by have := h.2;simp [QI] at this;omega
   have e0 := gi 0 (by omega)
   have e1 := gi 1 (by omega)
   have := h2 hl
   simp only [List.length_append, Wx, List.length_cons, List.length_nil];omega
  ·rw [Wx];omega
 ·rw [inT]
  split
  ·rw [Nat.add_sub_cancel_left];exact hin
  ·simp
end Go.Proofs
end
