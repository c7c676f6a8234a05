/-
  Part 21 of the proof: P9 X0 AvU LV X1 RT RT2.
-/
import Derived.Test.YtecbcpilcjmhlaaDoorRows
import Derived.ProofKit
import Derived.LaidMore
import Derived.LaidHandle
import Derived.OpenShut
import Derived.Deep.Strs
import Derived.Stop.Joined
import Derived.LaidSub
import Derived.MakeChecks
import Derived.Test.YtecbcpilcjmhlaaDoorZ1
import Derived.Test.YtecbcpilcjmhlaaDoorZ5
import Derived.Test.YtecbcpilcjmhlaaDoorZ11
import Derived.Test.YtecbcpilcjmhlaaDoorZ13
import Derived.Test.YtecbcpilcjmhlaaDoorZ15
import Derived.Test.YtecbcpilcjmhlaaDoorZ19
import Derived.Test.YtecbcpilcjmhlaaDoorZ20
set_option linter.unusedSimpArgs false
set_option linter.unusedVariables false
set_option maxRecDepth 100000
set_option maxHeartbeats 4000000
section
namespace Go.Proofs
open Go.Bl Go.Av Go.Fo
/-! The variables' nodes. -/
def ndM : Nd → Int
  | .mk _ _ m _ => m
mutual
theorem nodesN_vars : ∀ t : Nd, (nodesN t).map (fun x => (ndN x, ndM x)) = varsN t
  | .mk k n m ks => by
    rw [nodesN, varsN, List.map_append, nodesL_vars ks]
    split <;> rfl
theorem nodesL_vars : ∀ ts : List Nd, (nodesL ts).map (fun x => (ndN x, ndM x)) = varsL ts
  | [] => rfl
  | x :: r => by rw [nodesL, varsL, List.map_append, nodesN_vars x, nodesL_vars r]
end
theorem any_vars (ts : List Nd) (n : Int) : (nodesL ts).any (fun x => decide (ndN x = n)) = (varsL ts).any (fun p => decide (p.1 = n)) := by
  rw [← nodesL_vars, List.any_map]; rfl
theorem any_iff {l : List (Int × Int)} {n : Int} : l.any (fun p => decide (p.1 = n)) = true ↔ ∃ p ∈ l, p.1 = n := by
  rw [List.any_eq_true]
  exact ⟨fun ⟨p, h1, h2⟩ => ⟨p, h1, of_decide_eq_true h2⟩, fun ⟨p, h1, h2⟩ => ⟨p, h1, decide_eq_true h2⟩⟩
theorem allTo_nm {M : List (Int × Int)} {L : List Nd} (h : ∀ n, L.any (fun x => decide (ndN x = n)) = (getI M n).isSome) : ∀ i, allTo L i = (varsT M i).nm
  | 0 => rfl
  | i + 1 => by
    rw [allTo, varsT, allTo_nm h i, h]
    unfold stepV
    cases getI M (i : Int) <;> rfl
theorem mem_nm {M : List (Int × Int)} : ∀ {i : Nat} {n : Int}, n ∈ (varsT M i).nm ↔ 0 ≤ n ∧ n < i ∧ (getI M n).isSome = true
  | 0, n => ⟨fun h => (by cases h), fun h => by omega⟩
  | i + 1, n => by
    rw [varsT]
    unfold stepV
    cases hg : getI M (i : Int) with
    | none =>
      show n ∈ (varsT M i).nm ↔ _
      rw [mem_nm]
      constructor
      · rintro ⟨h1, h2, h3⟩; exact ⟨h1, by omega, h3⟩
      · rintro ⟨h1, h2, h3⟩
        refine ⟨h1, ?_, h3⟩
        by_cases e : n = i
        · rw [e, hg] at h3; cases h3
        · omega
    | some m =>
      show n ∈ (varsT M i).nm ++ [(i : Int)] ↔ _
      rw [List.mem_append, mem_nm, List.mem_singleton]
      constructor
      · rintro (⟨h1, h2, h3⟩ | h)
        · exact ⟨h1, by omega, h3⟩
        · exact ⟨by omega, by omega, by rw [h, hg]; rfl⟩
      · rintro ⟨h1, h2, h3⟩
        by_cases e : n = i
        · exact .inr e
        · exact .inl ⟨h1, by omega, h3⟩
theorem foundM_ok {F : Int → Int} {ts : List Nd} (hts : Lot F ts) : SubF (foundM ts) F ∧ ∀ n, (getI (foundM ts) n).isSome = true ↔ ∃ p ∈ varsL ts, p.1 = n := by
  have h := found_ok (F := F) (ts := ts) (M := []) hts.ty hts.con (fun n m h => by cases h)
  refine ⟨h.2.1, fun n => (h.2.2 n).trans ⟨fun h => h.elim (fun h => by cases h) id, .inr⟩⟩
theorem blast_nm {F : Int → Int} {ts : List Nd} (hts : Lot F ts) : allTo (nodesL ts) 64 = (blastV ts).nm := by
  refine allTo_nm (fun n => ?_) 64
  rw [any_vars, Bool.eq_iff_iff, any_iff, (foundM_ok hts).2]
theorem blast_rb {F : Int → Int} {ts : List Nd} (hts : Lot F ts) : RB F 64 (blastV ts) := varsT_rb (foundM_ok hts).1 64
theorem mem_varsL {t : Nd} {p : Int × Int} : ∀ {ts : List Nd}, t ∈ ts → p ∈ varsN t → p ∈ varsL ts
  | x :: r, h, hp => by
    rw [varsL, List.mem_append]
    rcases List.mem_cons.1 h with rfl | h
    · exact .inl hp
    · exact .inr (mem_varsL h hp)
theorem of_varsL {p : Int × Int} : ∀ {ts : List Nd}, p ∈ varsL ts → ∃ t ∈ ts, p ∈ varsN t
  | x :: r, h => by
    rw [varsL, List.mem_append] at h
    rcases h with h | h
    · exact ⟨x, by simp, h⟩
    · obtain ⟨t, h1, h2⟩ := of_varsL h
      exact ⟨t, by simp [h1], h2⟩
theorem varsN_rng {t : Nd} {k : Int} (h : Tt t k) : ∀ p ∈ varsN t, (0 ≤ p.1 ∧ p.1 ≤ 63) ∧ (p.2 = 0 ∨ p.2 = 1) := by
  induction h with
  | num _ => intro p hp; simp [varsN, varsL] at hp
  | tru _ => intro p hp; simp [varsN, varsL] at hp
  | @var n m h1 h2 => intro p hp; have : p = (n, m) := by simpa [varsN, varsL] using hp
                      rw [this]; exact ⟨h1, h2⟩
  | bin _ _ _ h1 h2 => intro p hp; simp [varsN, varsL] at hp; rcases hp with hp | hp; exact h1 p hp; exact h2 p hp
  | log _ _ _ h1 h2 => intro p hp; simp [varsN, varsL] at hp; rcases hp with hp | hp; exact h1 p hp; exact h2 p hp
  | not _ h1 => intro p hp; simp [varsN, varsL] at hp; exact h1 p hp
  | cond _ _ _ h1 h2 h3 => intro p hp; simp [varsN, varsL] at hp; rcases hp with hp | hp | hp; exact h1 p hp; exact h2 p hp; exact h3 p hp
theorem mem_getD {l : List Int} {x : Int} (h : x ∈ l) : ∃ j, j < l.length ∧ l.getD j 0 = x := by
  obtain ⟨j, hj, e⟩ := List.getElem_of_mem h
  exact ⟨j, hj, by rw [List.getD_eq_getElem?_getD, List.getElem?_eq_getElem hj]; exact e⟩
theorem getD_get {l : List Int} {j : Nat} (h : j < l.length) : l.getD j 0 = l[j] := by rw [List.getD_eq_getElem?_getD, List.getElem?_eq_getElem h]; rfl
theorem blast_at {F : Int → Int} {ts : List Nd} (hts : Lot F ts) {t : Nd} (ht : t ∈ ts) : ∀ p ∈ varsN t, ∃ j, j < (blastV ts).nm.length ∧ (blastV ts).nm.getD j 0 = p.1 := fun p hp => by
  have hr := varsN_rng (hts.ty t ht) p hp
  exact mem_getD (mem_nm.2 ⟨hr.1.1, by omega, ((foundM_ok hts).2 p.1).2 ⟨p, mem_varsL ht hp, rfl⟩⟩)
/-! The types. -/
theorem kindN_ok {F : Int → Int} (hF : ∀ n, 0 ≤ F n) (x : Int) (t : Nd) : (∀ p ∈ varsN t, p.2 = F p.1) → kindN t x = if (varsN t).any (fun p => decide (p.1 = x)) = true then F x else -1 := by
  induction t using Nd.ind with
  | h k n m ks ih =>
  intro hp
  have hks : (∀ t ∈ ks, ∀ p ∈ varsN t, p.2 = F p.1) := fun t ht p hpt => hp p (by rw [varsN, List.mem_append]; exact .inr (mem_varsL ht hpt))
  have hl : ∀ ks : List Nd, (∀ t ∈ ks, kindN t x = if (varsN t).any (fun p => decide (p.1 = x)) = true then F x else -1) → kindL ks x = if (varsL ks).any (fun p => decide (p.1 = x)) = true then F x else -1 := fun ks => by
    induction ks with
    | nil => intro _; rfl
    | cons y r ihr =>
      intro h
      rw [kindL, varsL, List.any_append, ihr fun t ht => h t (by simp [ht]), h y (by simp)]
      cases (varsN y).any (fun p => decide (p.1 = x)) with
      | true => rw [if_pos rfl, if_pos (hF x), Bool.true_or, if_pos rfl]
      | false =>
        simp only [Bool.false_eq_true, if_false, Bool.false_or]
        rw [if_neg (by decide)]
  rw [kindN, varsN, List.any_append, hl ks fun t ht => ih t ht (hks t ht)]
  by_cases h : k = 6 ∧ n = x
  · rw [if_pos h, if_pos h.1]
    have := hp (n, m) (by rw [varsN, if_pos h.1]; simp)
    rw [show m = F n from this, h.2]
    simp
  · rw [if_neg h]
    by_cases h6 : k = 6
    · rw [if_pos h6]
      have hn : decide (n = x) = false := decide_eq_false fun e => h ⟨h6, e⟩
      rw [List.any_cons, List.any_nil]
      dsimp only
      rw [hn]; rfl
    · rw [if_neg h6]; rfl
theorem kindL_ok {F : Int → Int} (hF : ∀ n, 0 ≤ F n) {ts : List Nd} (hc : ∀ t ∈ ts, Con F t) {x : Int} (hx : ∃ p ∈ varsL ts, p.1 = x) : kindL ts x = F x := by
  have h := kindN_ok hF x (.mk 0 0 0 ts) (fun p hp => by
    rw [varsN, if_neg (by decide), List.nil_append] at hp
    obtain ⟨t, h1, h2⟩ := of_varsL hp
    exact hc t h1 p h2)
  rw [kindN, if_neg (fun h => absurd h.1 (by decide)), varsN, if_neg (show ¬ (0 : Int) = 6 by decide), List.nil_append, if_pos (any_iff.2 hx)] at h
  exact h
theorem blast_ty {F : Int → Int} (hF : ∀ n, 0 ≤ F n) {ts : List Nd} (hts : Lot F ts) : (blastV ts).nm.map (kindL ts) = (blastV ts).ty := by
  have h := blast_rb hts
  refine List.ext_getElem (by rw [List.length_map, h.l2]) fun j h1 h2 => ?_
  rw [List.length_map] at h1
  rw [List.getElem_map, ← getD_get h2, h.ty j h1, getD_get h1]
  exact kindL_ok hF hts.con (((foundM_ok hts).2 _).1 (mem_nm.1 (List.getElem_mem h1)).2.2)
/-! The sizes. -/
theorem nodup_le : ∀ {l m : List Int}, l.Nodup → l ⊆ m → l.length ≤ m.length
  | [], m, _, _ => by simp
  | x :: r, m, h, hs => by
    have h := List.nodup_cons.1 h
    have hx : x ∈ m := hs (by simp)
    have h1 := nodup_le (m := m.erase x) h.2 fun y hy => (List.mem_erase_of_ne (fun e => h.1 (by rw [← e]; exact hy))).2 (hs (by simp [hy]))
    rw [List.length_erase_of_mem hx] at h1
    have := List.length_pos_of_mem hx
    rw [List.length_cons]; omega
theorem nm_len {M : List (Int × Int)} {l : List (Int × Int)} (h : ∀ n, (getI M n).isSome = true → ∃ p ∈ l, p.1 = n) (i : Nat) : (varsT M i).nm.length ≤ l.length := by
  have hnd : ∀ i, (varsT M i).nm.Nodup := fun i => by
    induction i with
    | zero => exact List.nodup_nil
    | succ i ih =>
      rw [varsT]
      unfold stepV
      cases getI M (i : Int) with
      | none => exact ih
      | some m =>
        show ((varsT M i).nm ++ [(i : Int)]).Nodup
        rw [List.nodup_append]
        refine ⟨ih, by simp, fun a ha b hb e => ?_⟩
        rw [List.mem_singleton.1 hb] at e
        subst e
        have := (mem_nm.1 ha).2.1
        omega
  have hs : (varsT M i).nm ⊆ l.map Prod.fst := fun n hn => by
    obtain ⟨p, h1, h2⟩ := h n (mem_nm.1 hn).2.2
    exact List.mem_map.2 ⟨p, h1, h2⟩
  have := nodup_le (hnd i) hs
  rwa [List.length_map] at this
theorem terms_le2 {A : List (Int × Int)} {ts : List Nd} (hty : ∀ t ∈ ts, Tt t 1) (s0 : St) : ∀ i, i ≤ ts.length → Le2 (1025 * sizeL (ts.take i)) s0 (termsT A s0 (ts.take i)).1
  | 0, _ => .refl s0
  | i + 1, hi => by
    have hti := List.getElem_mem (show i < ts.length by omega)
    rw [termsT_succ A s0 (show i < ts.length by omega), sizeL_take ts i (by omega)]
    have := sizeN_pos ts[i]
    exact (((terms_le2 hty s0 i (by omega)).trans (bits_le2 (hty _ hti) _ _).2).trans (add_le2 _ _)).mono (by omega)
theorem terms_lv {A : List (Int × Int)} {ts : List Nd} (hty : ∀ t ∈ ts, Tt t 1) (s0 : St) : ∀ i, i ≤ ts.length → ∃ c, c + 100 * (varsL (ts.take i)).length ≤ 100 * sizeL (ts.take i) ∧ Lv c s0 (termsT A s0 (ts.take i)).1
  | 0, _ => ⟨0, by simp [varsL, sizeL], .refl s0⟩
  | i + 1, hi => by
    have hti := List.getElem_mem (show i < ts.length by omega)
    obtain ⟨c, h1, h2⟩ := terms_lv (A := A) hty s0 i (by omega)
    obtain ⟨d, h3, h4⟩ := bits_lv (A := A) (hty _ hti)
    have app : ∀ a b : List Nd, varsL (a ++ b) = varsL a ++ varsL b := fun a b => by
      induction a with
      | nil => rfl
      | cons x r ih => rw [List.cons_append, varsL, varsL, ih, List.append_assoc]
    refine ⟨c + d, ?_, ?_⟩
    · rw [sizeL_take ts i (by omega), List.take_succ_eq_append_getElem (by omega), app, List.length_append, varsL, varsL, List.append_nil]; omega
    · rw [termsT_succ A s0 (show i < ts.length by omega)]
      have h5 := h2.trans (h4 (termsT A s0 (ts.take i)).1 (termsT A s0 (ts.take i)).2).2
      unfold Lv at h5 ⊢
      rw [add_vars]; exact h5
theorem blast_size {F : Int → Int} {ts : List Nd} (hts : Lot F ts) : ((blastS ts).1.vars ≤ 1 + 100 * (sizeL ts : Int)) ∧ (blastS ts).1.cl.length ≤ 1 + 1025 * sizeL ts ∧ (∀ c ∈ (blastS ts).1.cl, c.length ≤ 9) ∧ (blastV ts).v ≤ (blastS ts).1.vars := by
  have h := blast_rb hts
  have h2 := terms_le2 (A := (blastV ts).A) hts.ty ⟨(blastV ts).v, [[1]]⟩ ts.length (Nat.le_refl _)
  obtain ⟨c, h3, h4⟩ := terms_lv (A := (blastV ts).A) hts.ty ⟨(blastV ts).v, [[1]]⟩ ts.length (Nat.le_refl _)
  rw [List.take_length] at h2 h3 h4
  have hn : (blastV ts).nm.length ≤ (varsL ts).length := nm_len (fun n => ((foundM_ok hts).2 n).1) 64
  have hv := h.v2
  unfold Lv at h4
  have h4 : (blastS ts).1.vars ≤ (blastV ts).v + c := h4
  have h5 := h2.hi
  have h5 : (blastS ts).1.cl.length ≤ 1 + 1025 * sizeL ts := h5
  exact ⟨by omega, h5, h2.len fun x hx => by rw [List.mem_singleton.1 hx]; decide, h2.le.v⟩
theorem blast_nofull {F : Int → Int} {ts : List Nd} (hts : Lot F ts) (h : full (blastS ts).1 = true) : 14 ≤ sizeL ts := by
  obtain ⟨h1, h2, _, _⟩ := blast_size hts
  unfold full at h
  rw [Bool.or_eq_true] at h
  rcases h with h | h
  · have := of_decide_eq_true h; omega
  · have := of_decide_eq_true h; omega
/-! What follows. -/
theorem blast_sem {F : Int → Int} {ts : List Nd} (hts : Lot F ts) {vals : List Int} (hv : Vok vals) (hvt : Vtr F vals) (nf : full (blastS ts).1 = false) :
    ∃ a, GoodB (fun v => 2 ≤ v ∧ v ≤ (blastV ts).v) (∀ t ∈ ts, evN vals t = 1) (blastS ts).1.vars a (blastS ts).1 ∧ Agree (blastV ts).v (asg vals (blastV ts)) a ∧
      ∀ t ∈ ts, evN vals t ≠ 1 → ∃ x, kept [x] ∈ (blastS ts).1.cl ∧ Lt (blastS ts).1.vars x ∧ ltv a x = false := by
  have h := blast_rb hts
  have hs := terms_sem (p := ∀ t ∈ ts, evN vals t = 1) (A := (blastV ts).A) (a0 := asg vals (blastV ts)) (s0 := ⟨(blastV ts).v, [[1]]⟩) hv hts.ty hts.con (fun h => h) (asg_good (vals := vals) h (∀ t ∈ ts, evN vals t = 1)) (fun t ht => asg_var h hvt (hts.con t ht) (blast_at hts ht)) ts.length (Nat.le_refl _)
  rw [List.take_length] at hs
  obtain ⟨a, h1, _, h3⟩ := hs nf
  exact ⟨a, h1.good, h1.ag, h3⟩
theorem nofull_bd {s : St} (nf : full s = false) : s.vars ≤ 2000 ∧ s.cl.length ≤ 16384 := by
  unfold full at nf
  rw [Bool.or_eq_false_iff] at nf
  have h1 := of_decide_eq_false nf.1
  have h2 := of_decide_eq_false nf.2
  exact ⟨by omega, by omega⟩
theorem blast_follow {F : Int → Int} {ts : List Nd} (hts : Lot F ts) {vals : List Int} (hv : Vok vals) (hvt : Vtr F vals) (nf : full (blastS ts).1 = false) :
    ∃ a, GoodB (fun v => 2 ≤ v ∧ v ≤ (blastV ts).v) (∀ t ∈ ts, evN vals t = 1) (blastS ts).1.vars a (blastS ts).1 ∧ Agree (blastV ts).v (asg vals (blastV ts)) a ∧
      followM (blastS ts).1.cl (litsV vals (blastV ts)) = if (ts.all fun t => decide (evN vals t = 1)) = true then some (alL a (blastS ts).1.vars.toNat) else none := by
  obtain ⟨a, g, ag, hf⟩ := blast_sem hts hv hvt nf
  have h := blast_rb hts
  have hsz := blast_size hts
  have hb : ∀ v, 1 ≤ v → v ≤ (blastS ts).1.vars → (2 ≤ v ∧ v ≤ (blastV ts).v) → al a v ∈ litsV vals (blastV ts) := fun v _ _ ⟨h1, h2⟩ => by
    have e : al a v = al (asg vals (blastV ts)) v := by unfold Go.Bl.al; rw [ag v.toNat (by omega)]
    rw [e]; exact lits_al h h1 h2
  refine ⟨a, g, ag, ?_⟩
  by_cases hall : ∀ t ∈ ts, evN vals t = 1
  · rw [if_pos (List.all_eq_true.2 fun t ht => decide_eq_true (hall t ht))]
    refine follow_all g hall (nofull_bd nf).1 (fun x hx => ?_) hb
    obtain ⟨q1, q2⟩ := lits_true (vals := vals) h hx
    exact ⟨q1.mono hsz.2.2.2, by rw [ltv_agree ag q1]; exact q2⟩
  · rw [if_neg fun h => hall fun t ht => of_decide_eq_true (List.all_eq_true.1 h t ht)]
    have hex : ∃ t ∈ ts, evN vals t ≠ 1 := by
      apply Classical.byContradiction
      intro hno
      exact hall fun t ht => Decidable.byContradiction fun hn => hno ⟨t, ht, hn⟩
    obtain ⟨t, ht, hn⟩ := hex
    obtain ⟨x, x1, x2, x3⟩ := hf t ht hn
    exact follow_none g hb x1 x2 x3
end Go.Proofs
end
section
namespace Go.Proofs
open Go.Av
variable {G : Nat → DV}
attribute [local irreducible] OpSem ARun AOps ALex ACalls AEnd AClose RV
open Go.Bl Go.Fo
def valsM (n : Int) : List Int := [n % 16 - 8, n / 16 % 16 - 8, n / 256 % 2, n / 512]
theorem valsM_ok {n : Int} (h : 0 ≤ n ∧ n < 1024) : Vok (valsM n) ∧ Vtr F4 (valsM n) := by
  refine ⟨⟨Nat.le_of_ble_eq_true rfl, fun x hx => ?_⟩, fun m hm => ?_⟩
  · simp only [valsM, List.mem_cons, List.not_mem_nil, or_false] at hx
    rcases hx with rfl | rfl | rfl | rfl <;> omega
  · have h2 : 2 ≤ m := by
      unfold F4 at hm
      split at hm
      · cases hm
      · omega
    have h4 : m < 4 ∨ 4 ≤ m := by omega
    unfold valAt
    split
    · rename_i hl
      have hl : m < 4 := hl
      have : m = 2 ∨ m = 3 := by omega
      rcases this with rfl | rfl
      · show n / 256 % 2 = 0 ∨ n / 256 % 2 = 1; omega
      · show n / 512 = 0 ∨ n / 512 = 1; omega
    · exact .inl rfl
theorem r20Values_c (n : Int) (hn : Ord.I64 n) : Go.Av.Pure Tryd.prog G 16 [.i n] (slOf (valsM (Ord.around n 1024))) := fun B => by
  have har := around_c (G := G) n 1024 hn (by decide)
  have hb := Ord.around_bound n (most := 1024) (by decide)
  generalize Ord.around n 1024 = x at *
  refine calls_of_run Tryd.func16 rfl Tryd.ntmps16 rfl (t := [(0, .i n)]) rfl fun E hE => ?_
  (repeat' first | refine s_mv rfl ?_ | refine s_as rfl ?_ | refine s_sub rfl rfl (by omega) ?_ | refine s_quo rfl rfl (by omega) (by omega) (by omega) ?_ | refine s_rem rfl rfl (by first | omega | exact nn_shr (by omega)) (by omega) ?_ | refine s_cp rfl rfl (har) ?_ | refine s_bslice rfl rfl (by decide) rfl ?_ | refine o_nil ?_ | refine o_op rfl ?_ | refine r_seq ?_ | refine r_region ?_ | refine r_ret ?_ | fail)
  refine e_1 Tryd.results16 (rv_tmp rfl) (c_pure' ?_)
  rfl
theorem blast_ty01 {F : Int → Int} {ts : List Nd} (hts : Lot F ts) : ∀ j, j < (blastV ts).nm.length → (blastV ts).ty.getD j 0 = 0 ∨ (blastV ts).ty.getD j 0 = 1 := fun j hj => by
  have h := blast_rb hts
  rw [h.ty j hj, getD_get hj]
  obtain ⟨p, hp, hpe⟩ := ((foundM_ok hts).2 _).1 (mem_nm.1 (List.getElem_mem hj)).2.2
  obtain ⟨t, ht, hpt⟩ := of_varsL hp
  have h01 := (varsN_rng (hts.ty t ht) p hpt).2
  have hc : p.2 = F p.1 := hts.con t ht p hpt
  have e : F (blastV ts).nm[j] = p.2 := by rw [hc, hpe]
  rw [e]; exact h01
theorem formed_blast {F : Int → Int} {ts : List Nd} (hts : Lot F ts) (hF : ∀ n, 0 ≤ F n) (hsz : sizeL ts ≤ 99999) (nf : full (blastS ts).1 = false) :
    Go.Av.Pure Tryd.prog G 14 [.agg [.i (blastS ts).1.vars, slOf (blastS ts).1.cl, slOf (blastV ts).nm, slOf (blastV ts).ty, slOf (blastV ts).fi], slOf ts] (.b true) := by
  have h := blast_rb hts
  obtain ⟨s1, s2, s3, s4⟩ := blast_size hts
  obtain ⟨b1, b2⟩ := nofull_bd nf
  obtain ⟨a, g, _⟩ := blast_sem hts (vals := []) ⟨by decide, fun x hx => (by cases hx)⟩ (fun n _ => .inl (by unfold valAt; split <;> rfl)) nf
  have hv := h.v1
  have hsz1 : 1 ≤ sizeL ts ∨ sizeL ts = 0 := by omega
  have hw := blast_ty01 hts
  have hwid : ∀ k : Int, k = 0 ∨ k = 1 → widI k = 4 - 3 * k := fun k hk => by rcases hk with rfl | rfl <;> rfl
  refine formed_c hsz (blast_nm hts) (blast_ty hF hts) h.l3 (by omega) b1 b2 (by omega) (by omega) ?_ ?_ ?_ ?_
  · intro x hx
    obtain ⟨j, hj, rfl⟩ := mem_getD hx
    exact hw j (by have := h.l2; omega)
  · intro i h1 h2
    have hr := h.rng i (by have := h.l3; omega)
    have hh := hw i (by have := h.l3; omega)
    rw [hwid _ hh, getD_get h1, getD_get h2] at hr
    omega
  · intro i j h1 h2 hij
    have hm := h.mono i j hij (by have := h.l3; omega)
    have hh := hw i (by have := h.l3; omega)
    rw [hwid _ hh, getD_get (show i < (blastV ts).fi.length by omega), getD_get h2, getD_get h1] at hm
    exact hm
  · intro c hc
    refine ⟨by have := s3 c hc; omega, fun x hx => ?_⟩
    exact g.lits c hc x hx
theorem lits_blast {F : Int → Int} {ts : List Nd} (hts : Lot F ts) {vals : List Int} (hv : Vok vals) (nf : full (blastS ts).1 = false) :
    Go.Av.Pure Tryd.prog G 18 [.agg [.i (blastS ts).1.vars, slOf (blastS ts).1.cl, slOf (blastV ts).nm, slOf (blastV ts).ty, slOf (blastV ts).fi], slOf vals] (slOf (litsV vals (blastV ts))) := by
  have h := blast_rb hts
  obtain ⟨s1, s2, s3, s4⟩ := blast_size hts
  obtain ⟨b1, b2⟩ := nofull_bd nf
  have hl := allTo_len (nodesL ts) 64
  rw [blast_nm hts] at hl
  refine (literals_c _ _ _ _ _ vals (by omega) h.l2 h.l3 (fun x hx => ?_) (fun x hx => ?_) hv.1 (fun x hx => by have := hv.2 x hx; omega)).read
  · obtain ⟨j, hj, rfl⟩ := mem_getD hx
    have := h.nm j hj
    omega
  · obtain ⟨j, hj, rfl⟩ := mem_getD hx
    have := h.rng j (by have := h.l3; omega)
    have hw := widI_bd ((blastV ts).ty.getD j 0)
    omega
theorem follow_blast {F : Int → Int} {ts : List Nd} (hts : Lot F ts) {vals : List Int} (hv : Vok vals) (nf : full (blastS ts).1 = false) (c2 c3 c4 : DV) :
    Go.Av.Pure Tryd.prog G 17 [.agg [.i (blastS ts).1.vars, slOf (blastS ts).1.cl, c2, c3, c4], slOf (litsV vals (blastV ts))] (retM (followM (blastS ts).1.cl (litsV vals (blastV ts)))) := by
  have h := blast_rb hts
  obtain ⟨s1, s2, s3, s4⟩ := blast_size hts
  obtain ⟨b1, b2⟩ := nofull_bd nf
  obtain ⟨a, g, _⟩ := blast_sem hts (vals := []) ⟨by decide, fun x hx => (by cases hx)⟩ (fun n _ => .inl (by unfold valAt; split <;> rfl)) nf
  have hl := allTo_len (nodesL ts) 64
  rw [blast_nm hts] at hl
  refine follow_c _ _ c2 c3 c4 _ (by omega) (fun c hc => by have := s3 c hc; omega) ?_ (fun c hc x hx => ?_) (fun x hx => ?_)
  · have := litsTo_len vals (blastV ts).nm (blastV ts).ty (blastV ts).fi (blastV ts).nm.length
    show (litsTo vals (blastV ts).nm (blastV ts).ty (blastV ts).fi (blastV ts).nm.length).length ≤ _
    omega
  · obtain ⟨q1, q2, q3⟩ := g.lits c hc x hx
    exact ⟨by omega, by omega⟩
  · obtain ⟨q1, q2, q3⟩ := (lits_true (vals := vals) h hx).1
    exact ⟨by omega, by omega⟩
end Go.Proofs
end
section
namespace Go.Av
open Classical
section
variable {P : Program} {G : Nat → DV} {B : Nat} {f : Operand → DV} {σ : List ABlk} {K : DV → List ABlk → Prop} {dst : Option Tmp} {type : TypeId} {pos : String} {after : Array Edge} {gd : Option (Nat × Bool)}
end
theorem s_build_w {P : Program} {G : Nat → DV} {B : Nat} {f : Operand → DV} {σ : List ABlk} {K : DV → List ABlk → Prop} {dst : Option Tmp} {type : TypeId} {pos : String} {after : Array Edge} {gd : Option (Nat × Bool)} {t : TypeId} {ps : Array (Nat × Operand)} {d0 d1 : DV} {σ1 : List ABlk} (h : OpSem P G B ⟨dst, .build t ps, type, pos, after, gd⟩ f σ (fun d s => d = d0 ∧ s = σ1)) (hs : ∀ (L : Lay) (v : Value), VRep L d0 v → VRep L d1 v) (k : K d1 σ1) : OpSem P G B ⟨dst, .build t ps, type, pos, after, gd⟩ f σ K := fun X ρ h1 h2 h3 h4 h5 => by
  have hs' := h X ρ h1 h2 h3 h4 h5
  generalize (execOp ρ ⟨dst, .build t ps, type, pos, after, gd⟩).run P X.w = r at hs' ⊢
  have ap : ∀ v w', APost X (fun d s => d = d0 ∧ s = σ1) v w' → APost X K v w' := fun v w' ⟨X', a, b, c, d, hd, e1, e2⟩ => ⟨X', a, b, c, d1, hs _ _ (by rw [← e1]; exact hd), by rw [e2]; exact k⟩
  cases r with
  | ok nx w' =>
    cases nx <;> simp only [OPost] at hs' ⊢
    case value v => exact ap _ _ hs'
    case skip => exact ap _ _ hs'
    case enter f args => exact ⟨hs'.1, hs'.2.mono fun e w'' ⟨v, he, hp⟩ => ⟨v, he, ap _ _ hp⟩⟩
  | halt hh w' => simp only [OPost] at hs'
section
variable {P : Program} {G : Nat → DV} {n : Nat} {ops : Array Oper} {B : Nat} {t : Fr} {σ : List ABlk} {ι : Type} {I : ι → List ABlk}
end
end Go.Av
end
section
namespace Go.Proofs
open Go.Av
variable {G : Nat → DV}
attribute [local irreducible] OpSem ARun AOps ALex ACalls AEnd AClose RV
open Go.Bl Go.Fo
def exT : Nd := .mk 9 10 0 [.mk 6 0 0 [], .mk 4 3 0 []]
theorem exT_ok : Lot F4 [exT] := by
  have h : Tt exT 1 := Tt.bin (n := 10) (by decide) (.var (m := 0) (by decide) (.inl rfl)) (.num (by decide))
  refine ⟨fun t ht => ?_, fun t ht p hp => ?_, by decide, by decide⟩
  · rw [List.mem_singleton.1 ht]; exact h
  · rw [List.mem_singleton.1 ht] at hp
    have hp : p ∈ [((0 : Int), (0 : Int))] := hp
    rw [List.mem_singleton.1 hp]; rfl
theorem vtr_one (v : Int) : Vtr F4 [v] := fun n hn => by
  left
  have h2 : 2 ≤ n := by
    unfold F4 at hn
    split at hn
    · cases hn
    · omega
  unfold valAt
  rw [if_neg]
  show ¬ n < ((1 : Nat) : Int)
  omega
theorem lives2_c (hG0 : G 0 = opsD) (hG1 : G 1 = pow10T) : Go.Av.Pure Tryd.prog G 15 [] (.b true) := fun B => by
  have hts := exT_ok
  have hF : ∀ n, 0 ≤ F4 n := fun n => by unfold F4; split; · omega
                                         · split <;> omega
  have hsz : sizeL [exT] = 3 := by rfl
  have nf : full (blastS [exT]).1 = false := Bool.eq_false_iff.2 fun h => by have := blast_nofull hts h; omega
  have hblast := blast_c hG0 hG1 hts
  unfold blastR at hblast
  rw [if_neg (by rw [nf]; decide)] at hblast
  have hformed := formed_blast (G := G) hts hF (by omega) nf
  have vok : ∀ v : Int, -8 ≤ v ∧ v ≤ 7 → Vok [v] := fun v h => ⟨Nat.le_of_ble_eq_true rfl, fun x hx => by rw [List.mem_singleton.1 hx]; exact h⟩
  have yes : ∀ v : Int, -8 ≤ v ∧ v ≤ 7 → evN [v] exT = 1 → ∃ lits o : List Int, Go.Av.Pure Tryd.prog G 18 [.agg [.i (blastS [exT]).1.vars, slOf (blastS [exT]).1.cl, slOf (blastV [exT]).nm, slOf (blastV [exT]).ty, slOf (blastV [exT]).fi], slOf [v]] (slOf lits) ∧ Go.Av.Pure Tryd.prog G 17 [.agg [.i (blastS [exT]).1.vars, slOf (blastS [exT]).1.cl, slOf (blastV [exT]).nm, slOf (blastV [exT]).ty, slOf (blastV [exT]).fi], slOf lits] (.tup [slOf o, .b true]) := fun v hv he => by
    obtain ⟨a, _, _, hfm⟩ := blast_follow hts (vok v hv) (vtr_one v) nf
    have hfo := follow_blast (G := G) hts (vok v hv) nf (slOf (blastV [exT]).nm) (slOf (blastV [exT]).ty) (slOf (blastV [exT]).fi)
    rw [hfm, if_pos (by rw [List.all_cons, List.all_nil, he]; rfl)] at hfo
    exact ⟨_, _, lits_blast hts (vok v hv) nf, hfo⟩
  have no : ∀ v : Int, -8 ≤ v ∧ v ≤ 7 → evN [v] exT = 0 → ∃ lits : List Int, Go.Av.Pure Tryd.prog G 18 [.agg [.i (blastS [exT]).1.vars, slOf (blastS [exT]).1.cl, slOf (blastV [exT]).nm, slOf (blastV [exT]).ty, slOf (blastV [exT]).fi], slOf [v]] (slOf lits) ∧ Go.Av.Pure Tryd.prog G 17 [.agg [.i (blastS [exT]).1.vars, slOf (blastS [exT]).1.cl, slOf (blastV [exT]).nm, slOf (blastV [exT]).ty, slOf (blastV [exT]).fi], slOf lits] (.tup [.nil, .b false]) := fun v hv he => by
    obtain ⟨a, _, _, hfm⟩ := blast_follow hts (vok v hv) (vtr_one v) nf
    have hfo := follow_blast (G := G) hts (vok v hv) nf (slOf (blastV [exT]).nm) (slOf (blastV [exT]).ty) (slOf (blastV [exT]).fi)
    rw [hfm, if_neg (by rw [List.all_cons, List.all_nil, he]; decide)] at hfo
    exact ⟨_, lits_blast hts (vok v hv) nf, hfo⟩
  obtain ⟨k2, o2, hl2, hf2⟩ := yes 2 (by decide) (by kernel_rfl)
  obtain ⟨k3, hl3, hf3⟩ := no 3 (by decide) (by kernel_rfl)
  obtain ⟨k1, o1, hl1, hf1⟩ := yes (-1) (by decide) (by kernel_rfl)
  have e0 : followM [[1, 2], [-1, 3]] [-2] = some [1, -2, 3] := by kernel_rfl
  have hf0 := follow_c (G := G) 3 [[1, 2], [-1, 3]] .nil .nil .nil [-2] (by decide) (by decide) (by decide) (by decide) (by decide)
  rw [e0] at hf0
  change Go.Av.Pure _ _ _ _ (.tup [slOf ([1, -2, 3] : List Int), .b true]) at hf0
  have hsi := sameIntsV_c (G := G) [1, -2, 3] [1, -2, 3] (by decide) (by decide)
  rw [decide_eq_true rfl] at hsi
  have hvar := r20Var_c (G := G) 0 0
  have hbin := r20Bin_c (G := G) 10 (.mk 6 0 0 []) (.mk 4 3 0 [])
  have ex : slOf [exT] = .sl 4 [.i 9, .i 10, .i 0, slOf [Nd.mk 6 0 0 [], Nd.mk 4 3 0 []]] := (sl_nd1 9 10 0 _).symm
  rw [ex] at hblast hformed
  rw [enc_nd 6 0 0] at hvar
  rw [enc_nd 6 0 0, enc_nd 4 3 0, enc_nd 9 10 0] at hbin
  generalize (blastS [exT]).1.vars = vs at *
  generalize (blastS [exT]).1.cl = cl at *
  generalize (blastV [exT]).nm = nm at *
  generalize (blastV [exT]).ty = ty at *
  generalize (blastV [exT]).fi = fi at *
  clear yes no vok nf hts
  refine calls_of_run Tryd.func15 rfl Tryd.ntmps15 rfl (t := []) rfl fun E hE => ?_
  (repeat' first | refine s_mv rfl ?_ | refine s_as rfl ?_ | refine s_load_whole rfl rfl (by first | assumption | exact Enc.len _ | rfl) ?_ | refine s_neq rfl rfl ?_ | refine s_cp rfl rfl (hvar) ?_ | refine s_cp rfl rfl (hbin) ?_ | refine s_cp rfl rfl (hblast) ?_ | refine s_cp rfl rfl (hformed) ?_ | refine s_cp rfl rfl (hf0) ?_ | refine s_cp rfl rfl (hsi) ?_ | refine s_pt rfl rfl ?_ | refine s_pf rfl rfl ?_ | refine s_store_whole rfl rfl rfl (by first | assumption | exact Enc.len _ | rfl) (by first | assumption | exact Enc.len _ | rfl) rfl ?_ | refine s_build_w (s_build_s rfl rfl ⟨rfl, rfl⟩) (fun _ _ => (sub_nd (.i 4) (.i 3) (.i 0) 4).rep) ?_ | refine s_build_s rfl rfl ?_ | refine s_not rfl ?_ | refine s_extract rfl rfl rfl ?_ | refine s_bslice rfl rfl (by decide) rfl ?_ | refine s_alloc (fun _ _ => ?_) | refine o_nil ?_ | refine o_op rfl ?_ | refine o_op0 ?_ | refine o_gy rfl rfl rfl rfl ?_ | refine r_seq ?_ | refine r_region ?_ | (refine g_draw ?_; first | refine r_draw0 (by rfl) (by kernel_rfl) (by kernel_rfl) ?_ | refine r_drawq (by kernel_rfl) (by kernel_rfl) ?_) | refine r_skip ?_ | refine r_cond_f rfl ?_ | refine r_ret ?_ | refine x_op rfl (by (repeat' first | refine s_mv rfl ?_ | refine s_as rfl ?_ | refine s_load_whole rfl rfl (by first | assumption | exact Enc.len _ | rfl) ?_ | refine s_cp rfl rfl (hl2) ?_ | refine s_cp rfl rfl (hl3) ?_ | refine s_cp rfl rfl (hl1) ?_ | refine s_cp rfl rfl (hf2) ?_ | refine s_cp rfl rfl (hf3) ?_ | refine s_cp rfl rfl (hf1) ?_ | refine s_extract rfl rfl rfl ?_ | refine s_bslice rfl rfl (by decide) rfl ?_ | exact ⟨rfl, rfl⟩)) ?_ | refine x_nil ?_ | fail)
  all_goals exact e_1 (Tryd.results15) (rv_tmp rfl) (c_drop (σ := []) (r := [_, _]) ⟨rfl, rfl⟩)
end Go.Proofs
end
section
namespace Go.Proofs
open Go.Av
variable {G : Nat → DV}
attribute [local irreducible] OpSem ARun AOps ALex ACalls AEnd AClose RV
open Go.Bl Go.Fo
theorem blastExact_c (hG0 : G 0 = opsD) (hG1 : G 1 = pow10T) (l : List Int) (fr : Int) (hll : l.length ≤ 4611686018427387904) (hl : ∀ x ∈ l, Ord.I64 x) (hfr : Ord.I64 fr) :
    Go.Av.Pure Tryd.prog G 4 [slOf l, .i fr] (.b true) := fun B => by
  have hlv := lives2_c (G := G) hG0 hG1
  have hT := (terms_c (G := G) l hl hll).read
  obtain ⟨hts, ht3, hsz⟩ := termsM_ok l
  generalize termsM l = ts at *
  have hB := blast_c hG0 hG1 hts
  have hcnt := nodesCnt_c (G := G) ts (by omega)
  unfold blastR at hB
  cases nf : full (blastS ts).1 with
  | true =>
    rw [if_pos nf] at hB
    have h14 := blast_nofull hts nf
    clear hts
    refine calls_of_run Tryd.func4 rfl Tryd.ntmps4 rfl (t := [(0, slOf l), (1, .i fr)]) rfl fun E hE => ?_
    (repeat' first | refine s_mv rfl ?_ | refine s_as rfl ?_ | refine s_geq rfl rfl ?_ | refine s_eql rfl rfl ?_ | refine s_neq rfl rfl ?_ | refine s_cp rfl rfl (hT) ?_ | refine s_cp rfl rfl (hB) ?_ | refine s_cp rfl rfl (hcnt) ?_ | refine s_cp rfl rfl (hlv) ?_ | refine s_pt rfl rfl ?_ | refine s_store_whole rfl rfl rfl (by first | assumption | exact Enc.len _ | rfl) (by first | assumption | exact Enc.len _ | rfl) rfl ?_ | refine s_extract rfl rfl rfl ?_ | refine s_alloc (fun _ _ => ?_) | refine o_nil ?_ | refine o_op rfl ?_ | refine o_op0 ?_ | refine o_gy rfl rfl rfl rfl ?_ | refine o_sp_t rfl rfl (by omega) ?_ | refine r_seq ?_ | refine r_region ?_ | refine r_cond_t rfl ?_ | refine r_ret ?_ | fail)
    exact e_1 (Tryd.results4) (rv_tmp rfl) (c_drop (σ := []) (r := [_]) ⟨rfl, rfl⟩)
  | false =>
    rw [if_neg (by rw [nf]; decide)] at hB
    have hF : ∀ n, 0 ≤ F4 n := fun n => by unfold F4; split; · omega
                                           · split <;> omega
    have hf := formed_blast (G := G) hts hF (by omega) nf
    have hr1 := around_c (G := G) fr 1024 hfr (by decide)
    have hrb := Ord.around_bound fr (most := 1024) (by decide)
    have hbd := blast_size hts
    have hv1 := (blast_rb hts).v1
    have hn := nofull_bd nf
    obtain ⟨cl, hcl⟩ : ∃ cl, cl = (blastS ts).1.cl := ⟨_, rfl⟩
    obtain ⟨vs, hvs⟩ : ∃ vs, vs = (blastS ts).1.vars := ⟨_, rfl⟩
    obtain ⟨nm, hnm⟩ : ∃ nm, nm = (blastV ts).nm := ⟨_, rfl⟩
    obtain ⟨ty, hty⟩ : ∃ ty, ty = (blastV ts).ty := ⟨_, rfl⟩
    obtain ⟨fi, hfi⟩ : ∃ fi, fi = (blastV ts).fi := ⟨_, rfl⟩
    have hstep : ∀ i : Nat, i < 6 → ∃ vals : List Int, Go.Av.Pure Tryd.prog G 16 [.i (Ord.around fr 1024 + 173 * (i : Int))] (slOf vals) ∧ ∃ lits : List Int, Go.Av.Pure Tryd.prog G 18 [.agg [.i vs, slOf cl, slOf nm, slOf ty, slOf fi], slOf vals] (slOf lits) ∧
        (Go.Av.Pure Tryd.prog G 19 [slOf ts, slOf vals] (.b true) ∧ (∃ o : List Int, (o.length : Int) = vs ∧ Go.Av.Pure Tryd.prog G 17 [.agg [.i vs, slOf cl, slOf nm, slOf ty, slOf fi], slOf lits] (.tup [slOf o, .b true])) ∨
         Go.Av.Pure Tryd.prog G 19 [slOf ts, slOf vals] (.b false) ∧ Go.Av.Pure Tryd.prog G 17 [.agg [.i vs, slOf cl, slOf nm, slOf ty, slOf fi], slOf lits] (.tup [.nil, .b false])) := fun i hi => by
      have hI : Ord.I64 (Ord.around fr 1024 + 173 * (i : Int)) := ⟨by omega, by omega⟩
      have hrb2 := Ord.around_bound (Ord.around fr 1024 + 173 * (i : Int)) (most := 1024) (by decide)
      obtain ⟨hvok, hvt⟩ := valsM_ok hrb2
      have hfo := follow_blast (G := G) hts hvok nf (slOf (blastV ts).nm) (slOf (blastV ts).ty) (slOf (blastV ts).fi)
      have htr := true_c (G := G) hvok (ts := ts) (by omega) hts.ty
      obtain ⟨a, _, _, hfm⟩ := blast_follow hts hvok hvt nf
      rw [hfm] at hfo
      subst hcl hvs hnm hty hfi
      refine ⟨_, r20Values_c _ hI, _, lits_blast hts hvok nf, ?_⟩
      cases hall : (ts.all fun t => decide (evN (valsM (Ord.around (Ord.around fr 1024 + 173 * (i : Int)) 1024)) t = 1)) with
      | true =>
        rw [hall] at htr
        rw [hall, if_pos rfl] at hfo
        exact .inl ⟨htr, _, by rw [alL_len]; omega, hfo⟩
      | false =>
        rw [hall] at htr
        rw [hall, if_neg (by decide)] at hfo
        exact .inr ⟨htr, hfo⟩
    rw [← hcl, ← hvs, ← hnm, ← hty, ← hfi] at hB hf
    rw [← hvs] at hbd hn
    generalize Ord.around fr 1024 = x at *
    clear hcl hvs hnm hty hfi nf hts
    refine calls_of_run Tryd.func4 rfl Tryd.ntmps4 rfl (t := [(0, slOf l), (1, .i fr)]) rfl fun E hE => ?_
    (repeat' first | refine s_mv rfl ?_ | refine s_as rfl ?_ | refine s_load_whole rfl rfl (by first | assumption | exact Enc.len _ | rfl) ?_ | refine s_neq rfl rfl ?_ | refine s_cp rfl rfl (hT) ?_ | refine s_cp rfl rfl (hB) ?_ | refine s_cp rfl rfl (hf) ?_ | refine s_store_whole rfl rfl rfl (by first | assumption | exact Enc.len _ | rfl) (by first | assumption | exact Enc.len _ | rfl) rfl ?_ | refine s_not rfl ?_ | refine s_extract rfl rfl rfl ?_ | refine s_alloc (fun _ _ => ?_) | refine o_nil ?_ | refine o_op rfl ?_ | refine o_op0 ?_ | refine r_seq ?_ | refine r_region ?_ | refine r_block ?_ | refine r_skip ?_ | refine r_cond_f rfl ?_ | fail)
    rename_i g6 hg6
    refine r_loop (fun (i : Nat) => ⟨[(1, .i fr), (5, slOf ts), (6, .ptr 0 g6 0), (8, .i i)], [.row g6 [.i vs, slOf cl, slOf nm, slOf ty, slOf fi]]⟩) (fun i => i ≤ 6) (fun i => 6 - i) 0 ?_ (by omega) ?_
    · exact Go.Av.al rfl
    intro i hi
    by_cases hi6 : i < 6
    · obtain ⟨vals, hva, lits, hlit, hor⟩ := hstep i hi6
      clear hstep hB hf hT hlv hcnt hF
      rcases hor with ⟨htr, o, hol, hfo⟩ | ⟨htr, hfo⟩
      · (repeat' first | refine s_mv rfl ?_ | refine s_as rfl ?_ | refine s_load_row rfl rfl rfl ?_ | refine s_mul rfl rfl (by omega) ?_ | refine s_lss rfl rfl ?_ | refine s_neq rfl rfl ?_ | refine s_neq_b rfl rfl ?_ | refine s_add rfl rfl (by omega) ?_ | refine s_len_sl rfl ?_ | refine s_cp rfl rfl (htr) ?_ | refine s_cp rfl rfl (hr1) ?_ | refine s_cp rfl rfl (hva) ?_ | refine s_pt rfl rfl ?_ | refine s_pf rfl rfl ?_ | refine s_not rfl ?_ | refine s_fld_ptr rfl rfl ?_ | refine o_nil ?_ | refine o_op rfl ?_ | refine o_gy rfl rfl rfl rfl ?_ | refine o_gn rfl rfl rfl rfl ?_ | refine o_sp_f rfl rfl (by omega) ?_ | refine r_seq ?_ | refine r_region ?_ | refine r_block ?_ | (refine g_draw ?_; first | refine r_draw0 (by rfl) (by kernel_rfl) (by kernel_rfl) ?_ | refine r_drawq (by kernel_rfl) (by kernel_rfl) ?_) | refine r_skip ?_ | refine r_cond_f rfl ?_ | refine r_cond_dt rfl (by omega) ?_ | refine x_op rfl (by (repeat' first | refine s_mv rfl ?_ | refine s_as rfl ?_ | refine s_load_whole rfl rfl (by first | assumption | exact Enc.len _ | rfl) ?_ | refine s_cp rfl rfl (hlit) ?_ | refine s_cp rfl rfl (hfo) ?_ | refine s_extract rfl rfl rfl ?_ | exact ⟨rfl, rfl⟩)) ?_ | refine x_nil ?_ | fail)
        refine ⟨i + 1, by omega, by omega, ?_⟩
        exact Go.Av.al rfl
      · (repeat' first | refine s_mv rfl ?_ | refine s_as rfl ?_ | refine s_mul rfl rfl (by omega) ?_ | refine s_lss rfl rfl ?_ | refine s_gtr rfl rfl ?_ | refine s_neq_b rfl rfl ?_ | refine s_add rfl rfl (by omega) ?_ | refine s_len_nil rfl ?_ | refine s_cp rfl rfl (htr) ?_ | refine s_cp rfl rfl (hr1) ?_ | refine s_cp rfl rfl (hva) ?_ | refine s_pt rfl rfl ?_ | refine s_pf rfl rfl ?_ | refine s_not rfl ?_ | refine o_nil ?_ | refine o_op rfl ?_ | refine o_gy rfl rfl rfl rfl ?_ | refine o_gn rfl rfl rfl rfl ?_ | refine r_seq ?_ | refine r_region ?_ | refine r_block ?_ | (refine g_draw ?_; first | refine r_draw0 (by rfl) (by kernel_rfl) (by kernel_rfl) ?_ | refine r_drawq (by kernel_rfl) (by kernel_rfl) ?_) | refine r_skip ?_ | refine r_cond_f rfl ?_ | refine r_cond_dt rfl (by omega) ?_ | refine x_op rfl (by (repeat' first | refine s_mv rfl ?_ | refine s_as rfl ?_ | refine s_load_whole rfl rfl (by first | assumption | exact Enc.len _ | rfl) ?_ | refine s_cp rfl rfl (hlit) ?_ | refine s_cp rfl rfl (hfo) ?_ | refine s_extract rfl rfl rfl ?_ | exact ⟨rfl, rfl⟩)) ?_ | refine x_nil ?_ | fail)
        refine ⟨i + 1, by omega, by omega, ?_⟩
        exact Go.Av.al rfl
    · clear hstep hB hf hT hcnt hF
      (repeat' first | refine s_mv rfl ?_ | refine s_as rfl ?_ | refine s_lss rfl rfl ?_ | refine s_cp rfl rfl (hlv) ?_ | refine o_nil ?_ | refine o_op rfl ?_ | refine r_seq ?_ | refine r_region ?_ | refine r_cond_df rfl (by omega) ?_ | refine r_exit rfl ?_ | refine r_ret ?_ | fail)
      exact e_1 (Tryd.results4) (rv_tmp rfl) (c_drop (σ := []) (r := [_]) ⟨rfl, rfl⟩)
end Go.Proofs
end
section
namespace Go.Av
open Classical Go.ChangeShapes Go.WideShapes Go.ChangeAt Go.RowKit
theorem law_callsG {P : Program} {G : Nat → DV} {f : FuncId} {args : List DV} (h : Pure P G f args (.b true)) {W : World} {vs : Array Value} (hv : ∀ L, Sees W L → VReps L args vs)
    (hG : ∀ L, Sees W L → ∀ g, (G g).clo = true ∧ VRep L (G g) (.pointer (some ⟨g, 0, none⟩))) :
    Calls P f vs W fun e W' => e = .returned (.bool true) ∧ Below W.heap.size W W' := by
  let X : AX := { w := W, ρ := fun _ => none, σ := [], N := 0, hid := fun _ => False }
  have hm : ∀ b, ¬ X.mut b := fun b ⟨k, g, n, hl, _⟩ => by simp [AX.live, X] at hl
  have hS : Sto X := {
    inj := fun k k' g g' b n n' hl => by simp [AX.live, X] at hl
    gen := fun k g hl => by simp [AX.live, X] at hl
    hid := fun b hb => absurd hb (hm b)
    hidlt := fun b hb => hb.elim
    holds := fun k B hB => by simp [X] at hB }
  have hL : Sees W X.lay := fun b o v hc => AX.imm_mk (hm b) (fun h => h) hc
  refine (h 0 X vs hS rfl (Nat.le_refl _) (hG X.lay hL) (hv X.lay hL)).mono ?_
  rintro e w' ⟨v, rfl, Y, hw, hY, hE, d, hr, rfl, _⟩
  subst hw
  rw [VRep.sc_eq hr]
  exact ⟨rfl, hE.os, hE.tape, hE.output, hE.size, fun k hk => (hE.old k hk (hm k)).1⟩
theorem chunks {A B : Type} (g : B → List A) (hg : ∀ b, (g b).length = 3) : ∀ (l : List B) (L : List A), L.length = 3 * l.length → (∀ i b, l[i]? = some b → (L.drop (i * 3)).take 3 = g b) → L = l.flatMap g
  | [], L, hl, _ => List.eq_nil_of_length_eq_zero (by simpa using hl)
  | b :: l, L, hl, h => by
    have h0 := h 0 b rfl
    have hr := chunks g hg l (L.drop 3) (by rw [List.length_drop, hl, List.length_cons]; omega) fun i b' hb => by
      have := h (i + 1) b' (by simpa using hb)
      rw [List.drop_drop]
      rwa [show 3 + i * 3 = (i + 1) * 3 by omega]
    rw [List.flatMap_cons, ← hr, ← h0]
    simp
end Go.Av
namespace Go.Proofs.YtecbcpilcjmhlaaDoor
open Go.ChangeShapes Go.WideShapes Go.ChangeAt Go.RowKit Go.Av Go.Proofs
def opsL : List (UInt8 × List UInt8 × Nat × Bool × Bool) := [(115, [99, 111, 114, 105, 97, 47, 119, 111, 114, 100, 46, 111, 112, 101, 114, 97, 116, 105, 111, 110, 115, 36, 49], 136, false, false), (115, [99, 111, 114, 105, 97, 47, 119, 111, 114, 100, 46, 111, 112, 101, 114, 97, 116, 105, 111, 110, 115, 36, 50], 137, false, false), (115, [99, 111, 114, 105, 97, 47, 119, 111, 114, 100, 46, 111, 112, 101, 114, 97, 116, 105, 111, 110, 115, 36, 51], 138, false, false), (115, [99, 111, 114, 105, 97, 47, 119, 111, 114, 100, 46, 111, 112, 101, 114, 97, 116, 105, 111, 110, 115, 36, 52], 139, true, false), (115, [99, 111, 114, 105, 97, 47, 119, 111, 114, 100, 46, 111, 112, 101, 114, 97, 116, 105, 111, 110, 115, 36, 53], 140, true, false), (115, [99, 111, 114, 105, 97, 47, 119, 111, 114, 100, 46, 111, 112, 101, 114, 97, 116, 105, 111, 110, 115, 36, 54], 141, false, false), (115, [99, 111, 114, 105, 97, 47, 119, 111, 114, 100, 46, 111, 112, 101, 114, 97, 116, 105, 111, 110, 115, 36, 55], 142, false, false), (115, [99, 111, 114, 105, 97, 47, 119, 111, 114, 100, 46, 111, 112, 101, 114, 97, 116, 105, 111, 110, 115, 36, 56], 143, false, false), (115, [99, 111, 114, 105, 97, 47, 119, 111, 114, 100, 46, 111, 112, 101, 114, 97, 116, 105, 111, 110, 115, 36, 57], 144, false, false), (115, [99, 111, 114, 105, 97, 47, 119, 111, 114, 100, 46, 111, 112, 101, 114, 97, 116, 105, 111, 110, 115, 36, 49, 48], 146, false, false), (115, [99, 111, 114, 105, 97, 47, 119, 111, 114, 100, 46, 111, 112, 101, 114, 97, 116, 105, 111, 110, 115, 36, 49, 49], 147, false, true), (115, [99, 111, 114, 105, 97, 47, 119, 111, 114, 100, 46, 111, 112, 101, 114, 97, 116, 105, 111, 110, 115, 36, 49, 50], 149, false, true), (115, [99, 111, 114, 105, 97, 47, 119, 111, 114, 100, 46, 111, 112, 101, 114, 97, 116, 105, 111, 110, 115, 36, 49, 51], 150, false, true), (115, [99, 111, 114, 105, 97, 47, 119, 111, 114, 100, 46, 111, 112, 101, 114, 97, 116, 105, 111, 110, 115, 36, 49, 52], 151, false, true)]
def opD (e : UInt8 × List UInt8 × Nat × Bool × Bool) : DataW (List UInt8) := .agg [.held (e.1 :: e.2.1), .lit (.bool e.2.2.2.1), .lit (.bool e.2.2.2.2)]
def opV (e : UInt8 × List UInt8 × Nat × Bool × Bool) : List Value := [.func (.func e.2.2.1) #[] #[], .bool e.2.2.2.1, .bool e.2.2.2.2]
def opC (e : UInt8 × List UInt8 × Nat × Bool × Bool) : List DV := [.fn (.func e.2.2.1) [] [], .b e.2.2.2.1, .b e.2.2.2.2]
theorem opsT_eq : opsT = .ep (opsL.flatMap opC) := rfl
theorem opsNamed : (opsL.all fun e => ((List.range Tryd.prog.funcs.size).filter fun f => (Tryd.prog.funcs[f]?).any (·.name.toUTF8.data.toList == e.1 :: e.2.1)) == [e.2.2.1]) = true := by kernel_rfl
theorem gOps : Tryd.prog.globalNamed "scoria/word.operations" = some 0 := by kernel_rfl
theorem tOps : (Tryd.prog.globals[0]?).map (·.type) = some 108 := by kernel_rfl
theorem cells107 : Tryd.prog.cellsOf 107 = 3 := by kernel_rfl
theorem cells108 : Tryd.prog.cellsOf 108 = 42 := by kernel_rfl
theorem cells28 : Tryd.prog.cellsOf 28 = 1 := by kernel_rfl
theorem cells4 : Tryd.prog.cellsOf 4 = 1 := by kernel_rfl
theorem op_of {W : World} {fuel : Nat} {c : List Value} {e : UInt8 × List UInt8 × Nat × Bool × Bool} {q : List MemPlace} (he : e ∈ opsL) (h : DataW.trod (funcToken Tryd.prog) Tryd.prog W 0 (fun _ => true) true fuel 107 c = some (opD e, q)) : c = opV e := by
  obtain ⟨y0, y1, y2, n, hx, hl, h0, h1, h2⟩ := Deep.trod_struct3 Tryd.underlying107 h
  rw [cells107] at hl
  match c, hl with
  | [c0, c1, c2], _ =>
    simp only [opD, Prod.mk.injEq, DataW.agg.injEq, List.cons.injEq, and_true] at hx
    obtain ⟨⟨e0, e1, e2⟩, _⟩ := hx
    have h0 : DataW.trod (funcToken Tryd.prog) Tryd.prog W 0 (fun _ => true) true n 28 [c0] = some y0 := by simp only [cells28, cells4] at h0; exact h0
    have h1 : DataW.trod (funcToken Tryd.prog) Tryd.prog W 0 (fun _ => true) true n 4 [c1] = some y1 := by simp only [cells4, cells28] at h1; exact h1
    have h2 : DataW.trod (funcToken Tryd.prog) Tryd.prog W 0 (fun _ => true) true n 4 [c2] = some y2 := by simp only [cells4, cells28] at h2; exact h2
    obtain ⟨y0, q0⟩ := y0
    cases e0
    have hone := eq_of_beq (List.all_eq_true.1 opsNamed e he)
    obtain rfl := func_of_trod Tryd.underlying28 hone h0
    obtain ⟨b1, hb1, rfl⟩ := DataW.trod_bool Tryd.underlying4 h1
    obtain ⟨b2, hb2, rfl⟩ := DataW.trod_bool Tryd.underlying4 h2
    cases hb1; cases hb2
    simp only [DataW.lit.injEq, Lit.bool.injEq] at e1 e2
    subst e1; subst e2
    rfl
theorem rep_ops (L : Lay) : ∀ (l : List (UInt8 × List UInt8 × Nat × Bool × Bool)) (j : Nat) (d : DV), (l.flatMap opC)[j]? = some d → VRep L d ((l.flatMap opV).getD j undef)
  | [], j, d, h => by simp at h
  | e :: l, 0, d, h => by
    cases h
    exact .fn _ [] [] #[] #[] rfl rfl (fun j d h => by simp at h) (fun j d h => by simp at h)
  | e :: l, 1, d, h => by cases h; exact .sc _
  | e :: l, 2, d, h => by cases h; exact .sc _
  | e :: l, j + 3, d, h => rep_ops L l j d h
theorem of_laid {W : World} {l : List (String × DataW Unit)} (hin : ("scoria/word.operations", Rows.laid_scoria_word_operations) ∈ l) (h : laidMetH Tryd.prog l W) (L : Lay) (hL : Sees W L) :
    ∀ g, (G1 g).clo = true ∧ VRep L (G1 g) (.pointer (some ⟨g, 0, none⟩)) := by
  obtain ⟨g, t, cs, fuel, p, hg, ht, hv, hd⟩ := h.funcs hin
  obtain rfl := Option.some.inj (gOps.symm.trans hg)
  obtain rfl := Option.some.inj (tOps.symm.trans ht)
  have hd' : DataW.trod (funcToken Tryd.prog) Tryd.prog W 0 (fun _ => true) true fuel 108 cs.toList = some (.agg (opsL.map opD), p) := hd
  obtain ⟨xs, m, _, hx, hl, hn, hel⟩ := DataW.trod_array (inferInstance : TyI Tryd.prog 108 (.array 14 107) true 42).u hd'
  rw [cells108] at hl
  simp only [Prod.mk.injEq, DataW.agg.injEq] at hx
  have hc : cs.toList = opsL.flatMap opV := chunks opV (fun _ => rfl) opsL cs.toList hl fun i e hi => by
    have hi14 : i < 14 := (List.getElem?_eq_some_iff.1 hi).1
    have h1 := hel i hi14
    rw [cells107] at h1
    have hxi : (xs.map (·.1))[i]? = some (opD e) := by rw [← hx.1, List.getElem?_map, hi]; rfl
    rw [List.getElem?_map] at hxi
    cases hxs : xs[i]? with
    | none => rw [hxs] at hxi; cases hxi
    | some y =>
      rw [hxs] at hxi h1
      obtain ⟨y1, y2⟩ := y
      cases Option.some.inj hxi
      exact op_of (List.mem_of_getElem? hi) h1
  intro g
  cases g with
  | succ g => exact ⟨by simp [G1, DV.clo], .any _⟩
  | zero =>
    refine ⟨?_, ?_⟩
    · show opsT.clo = true
      unfold opsT
      repeat' first | exact ac_nil | refine ac_cons ?_ ?_ | exact clo_sc | refine clo_ep ?_ | refine clo_fn ?_ ?_
    show VRep L opsT _
    rw [opsT_eq]
    refine .ep _ 0 0 (fun j => (opsL.flatMap opV).getD j undef) (by decide) (fun j hj => ?_) (rep_ops L opsL)
    refine hL _ _ _ ?_
    rw [World.var?_cell hg hv, Nat.zero_add, ← hc]
    have hj' : j < cs.toList.length := by rw [hl]; exact hj
    rw [List.getD_eq_getElem?_getD, List.getElem?_eq_getElem hj']
    simp
theorem len_of {H : Type} {enc : TypeId × Value → H} {W : World} {t e : TypeId} {v : Value} {d : DataW H} {q : List MemPlace} {α : Type} [Enc α] {y : List α} {ts : List TypeId} {ds : List (DataW H)} {sp : Nat → Bool} {j : Nat}
    (he : Enc.es α = 1) (hb : 1 ≤ Tryd.prog.bytesOf e) (ht : Tryd.prog.underlying t = some (.slice e)) (hsz : (DataW.weightsEach Tryd.prog ts ds).all (· ≤ reachBytes) = true) (hj : ts[j]? = some t) (hd : ds[j]? = some d)
    (hok : v.cells.toList = [v]) (h : DataW.Trod enc Tryd.prog W 0 sp true t v d q) (r : ∀ L, Sees W L → ∀ e, Enc.enc y = [e] → VRep L e v) : y.length ≤ 140737488355328 := by
  obtain ⟨fuel, hf⟩ := h
  rw [hok] at hf
  have hr := r { imm := fun b o => W.cell? ⟨b, o, none⟩, row := fun _ _ => none, top := 0 } (fun _ _ _ h => h) _ rfl
  have hlen : ∀ {a : Option Addr} {len cap : Nat}, v = .slice a len cap → y.length = len := fun hv => by
    subst hv
    generalize hs : slOf y = s at hr
    cases hr with
    | sl es cs a len cap f h1 =>
      unfold slOf at hs
      cases hs
      rw [encs_len, he] at h1
      omega
    | _ => cases hs
  rcases DataW.trod_slice ht hf with ⟨h1, _⟩ | ⟨a, len, cap, elems, rest, n, _, h1, h2, _, _, _, h3, _⟩
  · have := hlen (List.cons.inj h1).1
    omega
  · have := hlen (List.cons.inj h1).1
    cases h2
    have h4 := sized_slice hsz hj hd ht
    rw [List.length_map, h3] at h4
    have h5 := reachBytes_lt
    have h6 : len ≤ (len + (rest.map (·.1)).length) * Tryd.prog.bytesOf e := Nat.le_trans (Nat.le_add_right _ _) (Nat.le_mul_of_pos_right _ hb)
    omega
end Go.Proofs.YtecbcpilcjmhlaaDoor
end
section
namespace Go.Proofs.YtecbcpilcjmhlaaDoor
open Go.ChangeShapes Go.WideShapes Go.ChangeAt Go.RowKit Go.Av Go.Proofs
def G01 : Nat → DV := fun g => match g with | 0 => opsT | 1 => pow10T | _ => .any
theorem gPow : Tryd.prog.globalNamed "internal/strconv.uint64pow10" = some 1 := by kernel_rfl
theorem tPow : (Tryd.prog.globals[1]?).map (·.type) = some 132 := by kernel_rfl
theorem cells126 : Tryd.prog.cellsOf 126 = 1 := by kernel_rfl
theorem cells132 : Tryd.prog.cellsOf 132 = 20 := by kernel_rfl
theorem ones {A B : Type} (g : B → A) : ∀ (l : List B) (L : List A), L.length = l.length → (∀ i b, l[i]? = some b → (L.drop i).take 1 = [g b]) → L = l.map g
  | [], L, hl, _ => List.eq_nil_of_length_eq_zero (by simpa using hl)
  | b :: l, L, hl, h => by
    have h0 := h 0 b rfl
    have hr := ones g l (L.drop 1) (by rw [List.length_drop, hl, List.length_cons]; omega) fun i b' hb => by
      have := h (i + 1) b' (by simpa using hb)
      rw [List.drop_drop]
      rwa [show 1 + i = i + 1 by omega]
    rw [List.map_cons, ← hr]
    have : L = L.take 1 ++ L.drop 1 := (List.take_append_drop 1 L).symm
    rw [List.drop_zero] at h0
    rw [h0] at this
    exact this
theorem pow_laid {W : World} {l : List (String × DataW Unit)} (hf : l.filter (fun x => x.1 == "internal/strconv.uint64pow10") = [("internal/strconv.uint64pow10", Rows.laid_internal_strconv_uint64pow10)]) (h : laidMetH Tryd.prog l W) :
    ∃ cs, W.var? Tryd.prog "internal/strconv.uint64pow10" = some cs ∧ cs.toList = pow10L.map fun z => .int .u64 z := by
  have h1 := h.filter fun x => x.1 == "internal/strconv.uint64pow10"
  rw [hf, MakeChecks.laidMetH_plain _ _ _ (by kernel_rfl)] at h1
  obtain ⟨ps, ⟨g, t, cs, f, p, q, hg, ht, hv, hd, _⟩, _, _⟩ := h1
  obtain rfl := Option.some.inj (gPow.symm.trans hg)
  obtain rfl := Option.some.inj (tPow.symm.trans ht)
  refine ⟨cs, hv, ?_⟩
  obtain ⟨xs, m, _, hx, hl, hn, hel⟩ := DataW.trod_array (inferInstance : TyI Tryd.prog 132 (.array 20 126) true 20).u hd
  rw [cells132] at hl
  simp only [Prod.mk.injEq] at hx
  have hx1 : DataW.agg (H := Unit) (pow10L.map fun z => .lit (.int .u64 z)) = .agg (xs.map (·.1)) := hx.1
  have hx2 : (pow10L.map fun z => DataW.lit (H := Unit) (.int .u64 z)) = xs.map (·.1) := by simpa only [DataW.agg.injEq] using hx1
  refine ones (fun z => .int .u64 z) pow10L cs.toList hl fun i z hi => ?_
  have hi20 : i < 20 := (List.getElem?_eq_some_iff.1 hi).1
  have h1 := hel i hi20
  rw [cells126, Nat.mul_one] at h1
  have hxi : (xs.map (·.1))[i]? = some (.lit (.int .u64 z)) := by rw [← hx2, List.getElem?_map, hi]; rfl
  rw [List.getElem?_map] at hxi
  cases hxs : xs[i]? with
  | none => rw [hxs] at hxi; cases hxi
  | some y =>
    rw [hxs] at hxi h1
    obtain ⟨k, e1, e2, _⟩ := DataW.trod_int (inferInstance : TyI Tryd.prog 126 (.int .u64) false 1).u h1
    have hy := Option.some.inj hxi
    rw [e2] at hy
    have hk : k = z := by simpa using hy
    rw [e1, hk]
theorem of_laid2 {W : World} {l : List (String × DataW Unit)} (hin : ("scoria/word.operations", Rows.laid_scoria_word_operations) ∈ l)
    (hf : l.filter (fun x => x.1 == "internal/strconv.uint64pow10") = [("internal/strconv.uint64pow10", Rows.laid_internal_strconv_uint64pow10)]) (h : laidMetH Tryd.prog l W) (L : Lay) (hL : Sees W L) :
    ∀ g, (G01 g).clo = true ∧ VRep L (G01 g) (.pointer (some ⟨g, 0, none⟩)) := by
  intro g
  match g with
  | 0 => exact of_laid hin h L hL 0
  | g + 2 => exact ⟨by simp [G01, DV.clo], .any _⟩
  | 1 =>
    obtain ⟨cs, hv, hcs⟩ := pow_laid hf h
    refine ⟨?_, ?_⟩
    · show pow10T.clo = true
      unfold pow10T
      refine clo_ep fun d hd => ?_
      obtain ⟨z, _, rfl⟩ := List.mem_map.1 hd
      exact clo_sc
    show VRep L pow10T _
    unfold pow10T
    refine .ep _ 1 0 (fun j => (pow10L.map fun z => Value.int .u64 z).getD j undef) (by decide) (fun j hj => ?_) (fun j d hd => ?_)
    · refine hL _ _ _ ?_
      rw [World.var?_cell gPow hv, Nat.zero_add, ← hcs]
      have hj' : j < cs.toList.length := by rw [hcs]; simpa using hj
      rw [List.getD_eq_getElem?_getD, List.getElem?_eq_getElem hj']
      simp
    · rw [List.getElem?_map] at hd
      cases hz : pow10L[j]? with
      | none => rw [hz] at hd; cases hd
      | some z =>
        rw [hz] at hd
        cases hd
        rw [List.getD_eq_getElem?_getD, List.getElem?_map, hz]
        exact .sc _
end Go.Proofs.YtecbcpilcjmhlaaDoor
end
