/-
  Part 22 of the proof: RN X0 LV Y7 RT RT2 R10.
-/
import Derived.Test.YtecbcpilcjmhlaaDoorRows
import Derived.ProofKit
import Derived.LaidMore
import Derived.LaidHandle
import Derived.OpenShut
import Derived.Deep.Strs
import Derived.Stop.Joined
import Derived.LaidSub
import Derived.MakeChecks
import Derived.Test.YtecbcpilcjmhlaaDoorCards
import Derived.Test.YtecbcpilcjmhlaaDoorTie
import Derived.SizedLaws
import Derived.SevenTiedAt
import Derived.Deep.DeepHandedRow
import Derived.Test.YtecbcpilcjmhlaaDoorZF1
import Derived.Test.YtecbcpilcjmhlaaDoorZF5
import Derived.Test.YtecbcpilcjmhlaaDoorZF11
import Derived.Test.YtecbcpilcjmhlaaDoorZF13
import Derived.Test.YtecbcpilcjmhlaaDoorZF16
import Derived.Test.YtecbcpilcjmhlaaDoorZF21
set_option linter.unusedSimpArgs false
set_option linter.unusedVariables false
set_option maxRecDepth 100000
set_option maxHeartbeats 4000000
section
namespace Go.Av
open Classical Go.ChangeShapes Go.WideShapes Go.ChangeAt Go.RowKit Go.Proofs Go.Bl
theorem slice_rep {β : Type} [Enc β] {w : World} {a : Addr} {len cap : Nat} (hlc : len <= cap) (y : Fin len -> β)
  (hy : ∀ i, ∃ ci : List Value, ci.length = Enc.es β /\ (∀ r, r < Enc.es β -> w.cell? ((a.add (i.1 * Enc.es β)).add r) = ci[r]?) /\ ∀ L, Sees w L -> ∀ (j : Nat) d, (Enc.enc (y i) : List DV)[j]? = some d -> VRep L d (ci.getD j undef))
  (L : Lay) (hL : Sees w L) : VRep L (QG (List.ofFn y)) (.slice (some a) len cap) := by
 have hp := Enc.pos (α := β)
 have hlen : (Qt (List.ofFn y)).length = len * Enc.es β := by rw [Qz, List.length_ofFn]
 let f : Nat -> Value := fun k => if h : k / Enc.es β < len then (Classical.choose (hy ⟨k / Enc.es β, h⟩)).getD (k % Enc.es β) undef else undef
 refine .sl _ _ _ _ _ f hlen.symm hlc (encs_one _) ?_ (fun k d hk => ?_)
 ·by_cases h0 : len = 0
  ·left
   exact List.eq_nil_of_length_eq_zero (by rw [hlen, h0, Nat.zero_mul])
  ·right
   obtain ⟨b, o, sp⟩ := a
   obtain ⟨c0, hc0, hc1, _⟩ := hy ⟨0, by omega⟩
   have hs := hc1 0 hp
   rw [List.getElem?_eq_getElem (by omega)] at hs
   have hsp : sp = none := by simpa [Addr.add] using spot_of hs
   subst hsp
   refine ⟨b, o, rfl, fun k hk => ?_⟩
   rw [hlen] at hk
   have hkd : k / Enc.es β < len := Nat.div_lt_of_lt_mul (by rw [Nat.mul_comm]; exact hk)
   have hfk : f k = (Classical.choose (hy ⟨k / Enc.es β, hkd⟩)).getD (k % Enc.es β) undef := dif_pos hkd
   obtain ⟨h4, h5, _⟩ := Classical.choose_spec (hy ⟨k / Enc.es β, hkd⟩)
   have hm := Nat.mod_lt k hp
   have h6 := h5 (k % Enc.es β) hm
   rw [List.getElem?_eq_getElem (by omega)] at h6
   refine hL b (o + k) (f k) ?_
   rw [hfk, List.getD_eq_getElem?_getD, List.getElem?_eq_getElem (by omega)]
   have hadd : ((⟨b, o, none⟩ : Addr).add (k / Enc.es β * Enc.es β)).add (k % Enc.es β) = ⟨b, o + k, none⟩ := by
    rw [ZR, ZR, Nat.add_assoc, Nat.mul_comm, Nat.div_add_mod]
   rw [hadd] at h6
   exact h6
 ·have hk' := (List.getElem?_eq_some_iff.1 hk).1
  rw [hlen] at hk'
  have hkd : k / Enc.es β < len := Nat.div_lt_of_lt_mul (by rw [Nat.mul_comm]; exact hk')
  have hfk : f k = (Classical.choose (hy ⟨k / Enc.es β, hkd⟩)).getD (k % Enc.es β) undef := dif_pos hkd
  obtain ⟨_, _, h7⟩ := Classical.choose_spec (hy ⟨k / Enc.es β, hkd⟩)
  have hm := Nat.mod_lt k hp
  have := encs_at (List.ofFn y) (k / Enc.es β) (by rw [List.length_ofFn]; exact hkd) (k % Enc.es β) hm
  rw [Nat.mul_comm, Nat.div_add_mod, hk, List.getElem_ofFn] at this
  rw [hfk]
  exact h7 L hL _ d this.symm
theorem sizeL_bulk {H : Type} : ∀ {ks : List Nd} {es : List (DataW H)}, ks.length = es.length -> (∀ i (h : i < ks.length) (h' : i < es.length), QI ks[i] <= YtecbcpilcjmhlaaDoor.Rows.uptoBulk es[i]) -> QN ks <= YtecbcpilcjmhlaaDoor.Rows.uptoBulkAll es
 | [], [], _, _ => Nat.zero_le _
 | [], _ :: _, h, _ => by simp at h
 | _ :: _, [], h, _ => by simp at h
 | x :: r, e :: s, h, hs => by
  have h0 := hs 0 (by simp) (by simp)
  have h1 := sizeL_bulk (ks := r) (es := s) (by simpa using h) fun i a b => hs (i + 1) (by simpa using a) (by simpa using b)
  rw [QN, YtecbcpilcjmhlaaDoor.Rows.uptoBulkAll]
  exact Nat.add_le_add h0 h1
theorem rd_nd {H : Type} (enc : TypeId × Value -> H) (w : World) (base : Nat) (spare : Nat -> Bool) (held : Bool) : ∀ (fuel : Nat) (cs : List Value) (x : DataW H × List MemPlace), DataW.trod enc Tryd.prog w base spare held fuel 25 cs = some x ->
  ∃ y : Nd, cs.length = 4 /\ QI y <= YtecbcpilcjmhlaaDoor.Rows.uptoBulk x.1 /\ ∀ L, Sees w L -> ∀ (j : Nat) d, (Enc.enc y : List DV)[j]? = some d -> VRep L d (cs.getD j undef) := by
 intro fuel
 induction fuel using Nat.strongRecOn with
 | ind fuel ih =>
 intro cs x h
 have c3 : Tryd.prog.cellsOf 3 = 1 := by kernel_rfl
 have c23 : Tryd.prog.cellsOf 23 = 1 := by kernel_rfl
 have c25 : Tryd.prog.cellsOf 25 = 4 := by kernel_rfl
 obtain ⟨xs, n, hn, rfl, hl, hxl, hf⟩ := DataW.trod_struct Tryd.underlying25 h
 rw [c25] at hl
 match xs, hxl, cs, hl with
 | [y0, y1, y2, y3], _, [v0, v1, v2, v3], _ =>
 have t0 := hf 0 _ rfl
 have t1 := hf 1 _ rfl
 have t2 := hf 2 _ rfl
 have t3 := hf 3 _ rfl
 clear hf h
 have t0 : DataW.trod enc Tryd.prog w base spare held n 3 [v0] = some y0 := by
  have e : (([v0, v1, v2, v3] : List Value).drop 0).take (Tryd.prog.cellsOf 3) = [v0] := by rw [c3]; rfl
  rw [<- e]; exact t0
 have t1 : DataW.trod enc Tryd.prog w base spare held n 3 [v1] = some y1 := by
  have e : (([v0, v1, v2, v3] : List Value).drop 1).take (Tryd.prog.cellsOf 3) = [v1] := by rw [c3]; rfl
  rw [<- e]; exact t1
 have t2 : DataW.trod enc Tryd.prog w base spare held n 3 [v2] = some y2 := by
  have e : (([v0, v1, v2, v3] : List Value).drop 2).take (Tryd.prog.cellsOf 3) = [v2] := by rw [c3]; rfl
  rw [<- e]; exact t2
 have t3 : DataW.trod enc Tryd.prog w base spare held n 23 [v3] = some y3 := by
  have e : (([v0, v1, v2, v3] : List Value).drop 3).take (Tryd.prog.cellsOf 23) = [v3] := by rw [c23]; rfl
  rw [<- e]; exact t3
 obtain ⟨k0, e0, _, _⟩ := DataW.trod_int (inferInstance : TyI Tryd.prog 3 (.int .i64) false 1).u t0
 obtain ⟨k1, e1, _, _⟩ := DataW.trod_int (inferInstance : TyI Tryd.prog 3 (.int .i64) false 1).u t1
 obtain ⟨k2, e2, _, _⟩ := DataW.trod_int (inferInstance : TyI Tryd.prog 3 (.int .i64) false 1).u t2
 have e0 : v0 = _ := List.head_eq_of_cons_eq e0
 have e1 : v1 = _ := List.head_eq_of_cons_eq e1
 have e2 : v2 = _ := List.head_eq_of_cons_eq e2
 have fin : ∀ (ks : List Nd), QN ks + 1 <= YtecbcpilcjmhlaaDoor.Rows.uptoBulk y3.1 -> (∀ L, Sees w L -> VRep L (QG ks) v3) -> ∃ y : Nd, ([v0, v1, v2, v3] : List Value).length = 4 /\ QI y <= YtecbcpilcjmhlaaDoor.Rows.uptoBulk (DataW.agg ([y0, y1, y2, y3].map (·.1))) /\ ∀ L, Sees w L -> ∀ (j : Nat) d, (Enc.enc y : List DV)[j]? = some d -> VRep L d (([v0, v1, v2, v3] : List Value).getD j undef) := by
  intro ks hs hv
  refine ⟨.mk k0 k1 k2 ks, rfl, ?_, fun L hL j d hj => ?_⟩
  ·simp only [List.map_cons, List.map_nil, YtecbcpilcjmhlaaDoor.Rows.uptoBulk, YtecbcpilcjmhlaaDoor.Rows.uptoBulkAll]
   rw [QI]
   omega
  ·rw [Q9] at hj
   match j, hj with
   | 0, hj => cases hj; rw [e0]; exact .sc _
   | 1, hj => cases hj; rw [e1]; exact .sc _
   | 2, hj => cases hj; rw [e2]; exact .sc _
   | 3, hj => cases hj; exact hv L hL
   | j + 4, hj => simp at hj
 rcases DataW.trod_slice (inferInstance : TyI Tryd.prog 23 (.slice 25) false 1).u t3 with ⟨e3, ex⟩ | ⟨a, len, cap, elems, rest, n', hn', e3, ex, _, hlc, hcap, hel, hget, _⟩
 ·have e3 : v3 = _ := List.head_eq_of_cons_eq e3
  refine fin [] ?_ fun L hL => ?_
  ·rw [ex]; simp [QN, YtecbcpilcjmhlaaDoor.Rows.uptoBulk]
  ·rw [e3]
   exact .sl _ _ _ _ _ (fun _ => undef) (by simp [Qt]) (Nat.le_refl _) (fun d hd => by simp [Qt] at hd) (.inl rfl) (fun j d hj => by simp [Qt] at hj)
 ·have e3 : v3 = _ := List.head_eq_of_cons_eq e3
  have each : ∀ i : Fin len, ∃ y : Nd, QI y <= YtecbcpilcjmhlaaDoor.Rows.uptoBulk (elems[i.1]'(by omega)).1 /\ ∃ ci : List Value, ci.length = Enc.es Nd /\ (∀ r, r < Enc.es Nd -> w.cell? ((a.add (i.1 * Enc.es Nd)).add r) = ci[r]?) /\ ∀ L, Sees w L -> ∀ (j : Nat) d, (Enc.enc y : List DV)[j]? = some d -> VRep L d (ci.getD j undef) := fun i => by
   have h1 := hget i.1 i.2
   rw [List.getElem?_eq_getElem (by omega), c25] at h1
   obtain ⟨ci, h2, h3⟩ := Option.bind_eq_some_iff.1 h1
   obtain ⟨_, h4, h5⟩ := World.cells?_some h2
   obtain ⟨y, h6, h7, h8⟩ := ih n' (by omega) ci _ h3
   exact ⟨y, h7, ci, h4, h5, h8⟩
  let y : Fin len -> Nd := fun i => Classical.choose (each i)
  have hy := fun i => Classical.choose_spec (each i)
  refine fin (List.ofFn y) ?_ fun L hL => ?_
  ·rw [ex]
   have hb := sizeL_bulk (ks := List.ofFn y) (es := elems.map (·.1)) (by rw [List.length_ofFn, List.length_map, hel]) fun i h h' => by
    rw [List.getElem_ofFn, List.getElem_map]
    exact (hy ⟨i, by rw [List.length_ofFn] at h; exact h⟩).1
   simp only [YtecbcpilcjmhlaaDoor.Rows.uptoBulk]
   omega
  ·rw [e3]
   exact slice_rep hlc y (fun i => (hy i).2) L hL
end Go.Av
end
section
namespace Go.Proofs
open Go.Av
variable {G : Nat -> DV}
attribute [local irreducible] OpSem WB WQ WW ACalls Zo QY RV
open Go.Bl Go.Fo
theorem blast_ty01 {F : Int -> Int} {ts : List Nd} (hts : Lot F ts) : ∀ j, j < (QX ts).nm.length -> (QX ts).ty.getD j 0 = 0 \/ (QX ts).ty.getD j 0 = 1 := fun j hj => by
 have h := blast_rb hts
 rw [h.ty j hj, getD_get hj]
 obtain ⟨p, hp, hpe⟩ := ((foundM_ok hts).2 _).1 (mem_nm.1 (List.getElem_mem hj)).2.2
 obtain ⟨t, ht, hpt⟩ := of_varsL hp
 have h01 := (varsN_rng (hts.ty t ht) p hpt).2
 have hc : p.2 = F p.1 := hts.con t ht p hpt
 have e : F (QX ts).nm[j] = p.2 := by rw [hc, hpe]
 rw [e]; exact h01
theorem formed_blast {F : Int -> Int} {ts : List Nd} (hts : Lot F ts) (hF : ∀ n, 0 <= F n) (hsz : QN ts <= 99999) (nf : ZH (Ww ts).1 = false) :
  Go.Av.Pure Tryd.prog G 14 [.agg [.i (Ww ts).1.vars, QG (Ww ts).1.cl, QG (QX ts).nm, QG (QX ts).ty, QG (QX ts).fi], QG ts] (.b true) := by
 have h := blast_rb hts
 obtain ⟨s1, s2, s3, s4⟩ := blast_size hts
 obtain ⟨b1, b2⟩ := nofull_bd nf
 obtain ⟨a, g, _⟩ := blast_sem hts (vals := []) ⟨by decide, fun x hx => (by cases hx)⟩ (fun n _ => .inl (by unfold Zt; split <;> rfl)) nf
 have hv := h.v1
 have hsz1 : 1 <= QN ts \/ QN ts = 0 := by omega
 have hw := blast_ty01 hts
 have hwid : ∀ k : Int, k = 0 \/ k = 1 -> widI k = 4 - 3 * k := fun k hk => by rcases hk with rfl | rfl <;> rfl
 refine formed_c hsz (blast_nm hts) (blast_ty hF hts) h.l3 (by omega) b1 b2 (by omega) (by omega) ?_ ?_ ?_ ?_
 ·intro x hx
  obtain ⟨j, hj, rfl⟩ := mem_getD hx
  exact hw j (by have := h.l2; omega)
 ·intro i h1 h2
  have hr := h.rng i (by have := h.l3; omega)
  have hh := hw i (by have := h.l3; omega)
  rw [hwid _ hh, getD_get h1, getD_get h2] at hr
  omega
 ·intro i j h1 h2 hij
  have hm := h.mono i j hij (by have := h.l3; omega)
  have hh := hw i (by have := h.l3; omega)
  rw [hwid _ hh, getD_get (show i < (QX ts).fi.length by omega), getD_get h2, getD_get h1] at hm
  exact hm
 ·intro c hc
  refine ⟨by have := s3 c hc; omega, fun x hx => ?_⟩
  exact g.lits c hc x hx
theorem lits_blast {F : Int -> Int} {ts : List Nd} (hts : Lot F ts) {vals : List Int} (hv : Vok vals) (nf : ZH (Ww ts).1 = false) :
  Go.Av.Pure Tryd.prog G 18 [.agg [.i (Ww ts).1.vars, QG (Ww ts).1.cl, QG (QX ts).nm, QG (QX ts).ty, QG (QX ts).fi], QG vals] (QG (litsV vals (QX ts))) := by
 have h := blast_rb hts
 obtain ⟨s1, s2, s3, s4⟩ := blast_size hts
 obtain ⟨b1, b2⟩ := nofull_bd nf
 have hl := allTo_len (W9 ts) 64
 rw [blast_nm hts] at hl
 refine (literals_c _ _ _ _ _ vals (by omega) h.l2 h.l3 (fun x hx => ?_) (fun x hx => ?_) hv.1 (fun x hx => by have := hv.2 x hx; omega)).read
 ·obtain ⟨j, hj, rfl⟩ := mem_getD hx
  have := h.nm j hj
  omega
 ·obtain ⟨j, hj, rfl⟩ := mem_getD hx
  have := h.rng j (by have := h.l3; omega)
  have hw := widI_bd ((QX ts).ty.getD j 0)
  omega
theorem follow_blast {F : Int -> Int} {ts : List Nd} (hts : Lot F ts) {vals : List Int} (hv : Vok vals) (nf : ZH (Ww ts).1 = false) (c2 c3 c4 : DV) :
  Go.Av.Pure Tryd.prog G 17 [.agg [.i (Ww ts).1.vars, QG (Ww ts).1.cl, c2, c3, c4], QG (litsV vals (QX ts))] (retM (followM (Ww ts).1.cl (litsV vals (QX ts)))) := by
 have h := blast_rb hts
 obtain ⟨s1, s2, s3, s4⟩ := blast_size hts
 obtain ⟨b1, b2⟩ := nofull_bd nf
 obtain ⟨a, g, _⟩ := blast_sem hts (vals := []) ⟨by decide, fun x hx => (by cases hx)⟩ (fun n _ => .inl (by unfold Zt; split <;> rfl)) nf
 have hl := allTo_len (W9 ts) 64
 rw [blast_nm hts] at hl
 refine follow_c _ _ c2 c3 c4 _ (by omega) (fun c hc => by have := s3 c hc; omega) ?_ (fun c hc x hx => ?_) (fun x hx => ?_)
 ·have := litsTo_len vals (QX ts).nm (QX ts).ty (QX ts).fi (QX ts).nm.length
  show (litsTo vals (QX ts).nm (QX ts).ty (QX ts).fi (QX ts).nm.length).length <= _
  omega
 ·obtain ⟨q1, q2, q3⟩ := g.lits c hc x hx
  exact ⟨by omega, by omega⟩
 ·obtain ⟨q1, q2, q3⟩ := (lits_true (vals := vals) h hx).1
  exact ⟨by omega, by omega⟩
def exT : Nd := .mk 9 10 0 [.mk 6 0 0 [], .mk 4 3 0 []]
theorem exT_ok : Lot F4 [exT] := by
 have h : Tt exT 1 := Tt.bin (n := 10) (by decide) (.var (m := 0) (by decide) (.inl rfl)) (.num (by decide))
 refine ⟨fun t ht => ?_, fun t ht p hp => ?_, by decide, by decide⟩
 ·rw [List.mem_singleton.1 ht]; exact h
 ·rw [List.mem_singleton.1 ht] at hp
  have hp : p ∈ [((0 : Int), (0 : Int))] := hp
  rw [List.mem_singleton.1 hp]; rfl
theorem vtr_one (v : Int) : Vtr F4 [v] := fun n hn => by
 left
 have h2 : 2 <= n := by
  unfold F4 at hn
  split at hn
  ·cases hn
  ·omega
 unfold Zt
 rw [if_neg]
 show ¬ n < ((1 : Nat) : Int)
 omega
theorem lives2_c (hG0 : G 0 = qE) (hG1 : G 1 = pow10T) : Go.Av.Pure Tryd.prog G 15 [] (.b true) := fun B => by
 have hts := exT_ok
 have hF : ∀ n, 0 <= F4 n := fun n => by
   unfold F4; split; · omega
   ·split <;> omega
 have hsz : QN [exT] = 3 := by rfl
 have nf : ZH (Ww [exT]).1 = false := Bool.eq_false_iff.2 fun h => by have := blast_nofull hts h; omega
 have hblast := blast_c hG0 hG1 hts
 unfold blastR at hblast
 rw [if_neg (by rw [nf]; decide)] at hblast
 have hformed := formed_blast (G := G) hts hF (by omega) nf
 have vok : ∀ v : Int, -8 <= v /\ v <= 7 -> Vok [v] := fun v h => ⟨Nat.le_of_ble_eq_true rfl, fun x hx => by rw [List.mem_singleton.1 hx]; exact h⟩
 have yes : ∀ v : Int, -8 <= v /\ v <= 7 -> evN [v] exT = 1 -> ∃ lits o : List Int, Go.Av.Pure Tryd.prog G 18 [.agg [.i (Ww [exT]).1.vars, QG (Ww [exT]).1.cl, QG (QX [exT]).nm, QG (QX [exT]).ty, QG (QX [exT]).fi], QG [v]] (QG lits) /\ Go.Av.Pure Tryd.prog G 17 [.agg [.i (Ww [exT]).1.vars, QG (Ww [exT]).1.cl, QG (QX [exT]).nm, QG (QX [exT]).ty, QG (QX [exT]).fi], QG lits] (.tup [QG o, .b true]) := fun v hv he => by
  obtain ⟨a, _, _, hfm⟩ := blast_follow hts (vok v hv) (vtr_one v) nf
  have hfo := follow_blast (G := G) hts (vok v hv) nf (QG (QX [exT]).nm) (QG (QX [exT]).ty) (QG (QX [exT]).fi)
  rw [hfm, if_pos (by rw [List.all_cons, List.all_nil, he]; rfl)] at hfo
  exact ⟨_, _, lits_blast hts (vok v hv) nf, hfo⟩
 have no : ∀ v : Int, -8 <= v /\ v <= 7 -> evN [v] exT = 0 -> ∃ lits : List Int, Go.Av.Pure Tryd.prog G 18 [.agg [.i (Ww [exT]).1.vars, QG (Ww [exT]).1.cl, QG (QX [exT]).nm, QG (QX [exT]).ty, QG (QX [exT]).fi], QG [v]] (QG lits) /\ Go.Av.Pure Tryd.prog G 17 [.agg [.i (Ww [exT]).1.vars, QG (Ww [exT]).1.cl, QG (QX [exT]).nm, QG (QX [exT]).ty, QG (QX [exT]).fi], QG lits] (.tup [.nil, .b false]) := fun v hv he => by
  obtain ⟨a, _, _, hfm⟩ := blast_follow hts (vok v hv) (vtr_one v) nf
  have hfo := follow_blast (G := G) hts (vok v hv) nf (QG (QX [exT]).nm) (QG (QX [exT]).ty) (QG (QX [exT]).fi)
  rw [hfm, if_neg (by rw [List.all_cons, List.all_nil, he]; decide)] at hfo
  exact ⟨_, lits_blast hts (vok v hv) nf, hfo⟩
 obtain ⟨k2, o2, hl2, hf2⟩ := yes 2 (by decide) (by kernel_rfl)
 obtain ⟨k3, hl3, hf3⟩ := no 3 (by decide) (by kernel_rfl)
 obtain ⟨k1, o1, hl1, hf1⟩ := yes (-1) (by decide) (by kernel_rfl)
 have e0 : followM [[1, 2], [-1, 3]] [-2] = some [1, -2, 3] := by kernel_rfl
 have hf0 := follow_c (G := G) 3 [[1, 2], [-1, 3]] .nil .nil .nil [-2] (by decide) (by decide) (by decide) (by decide) (by decide)
 rw [e0] at hf0
 change Go.Av.Pure _ _ _ _ (.tup [QG ([1, -2, 3] : List Int), .b true]) at hf0
 have hsi := sameIntsV_c (G := G) [1, -2, 3] [1, -2, 3] (by decide) (by decide)
 rw [decide_eq_true rfl] at hsi
 have hvar := r20Var_c (G := G) 0 0
 have hbin := r20Bin_c (G := G) 10 (.mk 6 0 0 []) (.mk 4 3 0 [])
 have ex : QG [exT] = .sl 4 [.i 9, .i 10, .i 0, QG [Nd.mk 6 0 0 [], Nd.mk 4 3 0 []]] := (sl_nd1 9 10 0 _).symm
 rw [ex] at hblast hformed
 rw [Q9 6 0 0] at hvar
 rw [Q9 6 0 0, Q9 4 3 0, Q9 9 10 0] at hbin
 generalize (Ww [exT]).1.vars = vs at *
 generalize (Ww [exT]).1.cl = cl at *
 generalize (QX [exT]).nm = nm at *
 generalize (QX [exT]).ty = ty at *
 generalize (QX [exT]).fi = fi at *
 clear yes no vok nf hts
 refine Qc Tryd.func15 rfl Tryd.ntmps15 rfl (t := []) rfl fun E hE => ?_
 (repeat' first | refine Qu rfl ?_ | refine QA rfl ?_ | refine Qm rfl rfl (by first | assumption | exact Enc.len _ | rfl) ?_ | refine Wu rfl rfl ?_ | refine Wa rfl rfl (hvar) ?_ | refine Wa rfl rfl (hbin) ?_ | refine Wa rfl rfl (hblast) ?_ | refine Wa rfl rfl (hformed) ?_ | refine Wa rfl rfl (hf0) ?_ | refine Wa rfl rfl (hsi) ?_ | refine WI rfl rfl ?_ | refine Wm rfl rfl ?_ | refine Qi rfl rfl rfl (by first | assumption | exact Enc.len _ | rfl) (by first | assumption | exact Enc.len _ | rfl) rfl ?_ | refine s_build_w (W1 rfl rfl ⟨rfl, rfl⟩) (fun _ _ => (sub_nd (.i 4) (.i 3) (.i 0) 4).rep) ?_ | refine W1 rfl rfl ?_ | refine WC rfl ?_ | refine Q4 rfl rfl rfl ?_ | refine Wi rfl rfl (by decide) rfl ?_ | refine QH (fun _ _ => ?_) | refine Qe ?_ | refine Qs rfl ?_ | refine QZ ?_ | refine WK rfl rfl rfl rfl ?_ | refine Qg ?_ | refine Qa ?_ | (refine Q0 ?_; first | refine Q3 (by rfl) (by kernel_rfl) (by kernel_rfl) ?_ | refine QP (by kernel_rfl) (by kernel_rfl) ?_) | refine Qk ?_ | refine Qo rfl ?_ | refine Qq ?_ | refine qb rfl (by (repeat' first | refine Qu rfl ?_ | refine QA rfl ?_ | refine Qm rfl rfl (by first | assumption | exact Enc.len _ | rfl) ?_ | refine Wa rfl rfl (hl2) ?_ | refine Wa rfl rfl (hl3) ?_ | refine Wa rfl rfl (hl1) ?_ | refine Wa rfl rfl (hf2) ?_ | refine Wa rfl rfl (hf3) ?_ | refine Wa rfl rfl (hf1) ?_ | refine Q4 rfl rfl rfl ?_ | refine Wi rfl rfl (by decide) rfl ?_ | exact ⟨rfl, rfl⟩)) ?_ | refine ZS ?_ | fail)
 all_goals exact e_1 (Tryd.results15) (Qh rfl) (Qy (σ := []) (r := [_, _]) ⟨rfl, rfl⟩)
theorem forms_step (hG0 : G 0 = qE) (hG1 : G 1 = pow10T) (l : List Nd) (hsz : QN l <= 4000000) :
  Go.Av.Pure Tryd.prog G 11 [QG l] (.i (QN l)) /\ (60 < QN l \/
   QN l <= 60 /\ Go.Av.Pure Tryd.prog G 12 [QG l] (.tup [.agg [.i 0, .nil, .nil, .nil, .nil], .i 1]) /\ Go.Av.Pure Tryd.prog G 13 [QG l] (.b false) \/
   QN l <= 60 /\ 14 <= QN l /\ Go.Av.Pure Tryd.prog G 12 [QG l] (.tup [.agg [.i 0, .nil, .nil, .nil, .nil], .i 4]) /\ Go.Av.Pure Tryd.prog G 13 [QG l] (.b true) \/
   QN l <= 60 /\ ∃ (v : Int) (cl : List (List Int)) (nm ty fi : List Int), Go.Av.Pure Tryd.prog G 12 [QG l] (.tup [.agg [.i v, QG cl, QG nm, QG ty, QG fi], .i 0]) /\ Go.Av.Pure Tryd.prog G 13 [QG l] (.b true) /\
    Go.Av.Pure Tryd.prog G 14 [.agg [.i v, QG cl, QG nm, QG ty, QG fi], QG l] (.b true)) := by
 refine ⟨nodesCnt_c l hsz, ?_⟩
 by_cases h60 : 60 < QN l
 ·exact .inl h60
 right
 have hln := Zf l
 have hpo := possible_c (G := G) l (fun t ht => fit_of t (by have := WT ht; omega)) (by omega)
 by_cases hp : Poss l
 ·right
  rw [(possM_iff l).2 hp] at hpo
  obtain ⟨F, f1, f2, f3⟩ := hp
  have hts : Lot F l := ⟨f2, f3, by omega, by omega⟩
  have hB := blast_c hG0 hG1 hts
  unfold blastR at hB
  cases nf : ZH (Ww l).1 with
  | true =>
   rw [if_pos nf] at hB
   exact .inl ⟨by omega, blast_nofull hts nf, hB, hpo⟩
  | false =>
   rw [if_neg (by rw [nf]; decide)] at hB
   exact .inr ⟨by omega, _, _, _, _, _, hB, hpo, formed_blast hts (fun n => by have := f1 n; omega) (by omega) nf⟩
 ·left
  rw [show possM l = false from Bool.eq_false_iff.2 fun h => hp ((possM_iff l).1 h)] at hpo
  exact ⟨by omega, blast_err hG0 l (by omega) hp, hpo⟩
theorem blastForms_c (hG0 : G 0 = qE) (hG1 : G 1 = pow10T) (l : List Int) (at1 how by1 : Int) (raw : Nd) (hll : l.length <= 4611686018427387904) (hl : ∀ x ∈ l, Ord.I64 x) (hat : Ord.I64 at1) (hhow : Ord.I64 how) (hby : Ord.I64 by1) (hraw : QI raw <= 1048576) :
  Go.Av.Pure Tryd.prog G 3 [QG l, .i at1, .i how, .i by1, .agg (Enc.enc raw)] (.b true) := fun B => by
 have hlv := lives2_c (G := G) hG0 hG1
 have hT := (terms_c (G := G) l hl hll).read
 obtain ⟨hts, ht3, hsz⟩ := termsM_ok l
 generalize termsM l = ts at *
 have tail : ∀ L : List (List Nd), L.length <= 4 -> (∀ l ∈ L, QN l <= 4000000) -> ∀ i (h : i < L.length), _ := fun L _ hL i h => forms_step hG0 hG1 L[i] (hL _ (List.getElem_mem h))
 have hrs : QN (ts ++ [raw]) <= 4000000 := by rw [sizeL_app, QN, QN]; omega
 have hn0 : QN ([] : List Nd) <= 4000000 := by rw [QN]; omega
 have hraw4 : (Enc.enc raw : List DV).length = 4 := Enc.len raw
 by_cases h0 : ts.length = 0
 ·have hL3 : ∀ l ∈ [ts, ts ++ [raw], []], QN l <= 4000000 := fun l hl => by
   simp only [List.mem_cons, List.not_mem_nil, or_false] at hl
   rcases hl with rfl | rfl | rfl
   ·omega
   ·exact hrs
   ·exact hn0
  have hst := tail _ (by simp) hL3
  clear tail hL3 hrs hn0 hts
  refine Qc Tryd.func3 rfl Tryd.ntmps3 rfl (t := [(0, QG l), (1, .i at1), (2, .i how), (3, .i by1), (4, .agg (Enc.enc raw))]) rfl fun E hE => ?_
  (repeat' first | refine Qu rfl ?_ | refine QA rfl ?_ | refine s_gtr rfl rfl ?_ | refine Wa rfl rfl (hT) ?_ | refine Z5 rfl rfl rfl rfl rfl rfl rfl (by first | omega | (simp; omega)) (by first | omega | (simp; omega)) (fun _ => rfl) (fun _ _ => ?_) | refine s_app_z rfl rfl rfl rfl rfl (by first | omega | (simp; omega)) (by first | omega | (simp; omega)) (fun _ => rfl) (fun _ _ => ?_) | refine Qj rfl ?_ | refine s_bslice_pubi 27 rfl rfl (by exact (Qz _).symm) rfl ?_ | refine qB (cs := [QG ts, QG (ts ++ [raw]), .nil]) (cs' := Qt [ts, ts ++ [raw], []]) rfl rfl (by decide) (by rfl) rfl rfl (qc (.refl _) (qc (.refl _) (qc (.nil _) sub_nil))) (fun _ _ => ?_) | refine s_bslice_none rfl (fun _ _ => ?_) | refine QU rfl rfl (fun _ _ => ?_) | refine Qe ?_ | refine Qs rfl ?_ | refine Qg ?_ | refine Qa ?_ | refine Qf ?_ | (refine Q0 ?_; first | (rename_i g9 hg9; refine Wf (fun p => .row g9 (Enc.enc raw) :: p) 9 [(0, true), (2, true), (4, true), (5, true), (1, false), (3, false), (6, false), (7, false), (8, false)] (by rfl) (by rfl) (by kernel_rfl) (by decide +kernel) (by decide +kernel) ⟨_, rfl⟩ ?_) | (refine Wf (fun p => p) 100 [(0, true)] (by rfl) (by rfl) (by kernel_rfl) (by decide +kernel) (by decide +kernel) ⟨_, rfl⟩ ?_) | refine Q3 (by rfl) (by kernel_rfl) (by kernel_rfl) ?_ | refine QP (by kernel_rfl) (by kernel_rfl) ?_) | refine Qk ?_ | refine Qr rfl (by omega) ?_ | refine i_nil ?_ | refine i_st rfl rfl (fun _ => (by (repeat' first | refine Qu rfl ?_ | refine Qm rfl rfl (by first | assumption | exact Enc.len _ | rfl) ?_ | refine s_bslice_one rfl rfl (by decide) ?_ | exact ⟨rfl, rfl⟩))) ?_ | refine i_ef rfl ?_ | refine And.intro (Exists.intro (_) rfl) ?_ | fail)
  refine r_pub 12 rfl rfl (by first | rfl | (rw [Qz]; rfl)) rfl ?_
  generalize hLe : [ts, ts ++ [raw], []] = L at *
  have hLl : L.length <= 4 := by rw [<- hLe]; simp
  clear hLe
  refine Wv (fun (i : Nat) => ⟨[(12, QG L), (15, .i i)], []⟩) (fun i => i <= L.length) (fun i => L.length - i) 0 ?_ (by omega) ?_
  ·exact zal rfl
  intro i hi
  by_cases hil : i < L.length
  ·obtain ⟨hnd, hor⟩ := hst i hil
   clear hst hT hlv
   rcases hor with h60 | ⟨h60, hB, hpo⟩ | ⟨h60, h14, hB, hpo⟩ | ⟨h60, v, cl, nm, ty, fi, hB, hpo, hfo⟩
   all_goals
    (repeat' first | refine Qu rfl ?_ | refine QA rfl ?_ | refine Qv rfl ?_ | refine Qb rfl rfl rfl ?_ | refine Ql rfl rfl (by first | assumption | omega | (simp; done) | (simp; omega)) ?_ | refine QL rfl rfl ?_ | refine s_gtr rfl rfl ?_ | refine Wh rfl rfl ?_ | refine QJ rfl rfl ?_ | refine Wu rfl rfl ?_ | refine Q5 rfl rfl (by omega) ?_ | refine Wa rfl rfl (hnd) ?_ | refine Wa rfl rfl (hB) ?_ | refine Wa rfl rfl (hpo) ?_ | refine Qj rfl ?_ | refine ZO rfl ?_ | refine WI rfl rfl ?_ | refine Wm rfl rfl ?_ | refine Qi rfl rfl rfl (by first | assumption | exact Enc.len _ | rfl) (by first | assumption | exact Enc.len _ | rfl) rfl ?_ | refine WC rfl ?_ | refine Qd rfl rfl ?_ | refine Q4 rfl rfl rfl ?_ | refine QH (fun _ _ => ?_) | refine Qe ?_ | refine Qs rfl ?_ | refine QZ ?_ | refine WK rfl rfl rfl rfl ?_ | refine W3 rfl rfl rfl rfl ?_ | refine Qg ?_ | refine Qa ?_ | refine Qf ?_ | (refine Q0 ?_; first | (rename_i g9 hg9; refine Wf (fun p => .row g9 (Enc.enc raw) :: p) 9 [(0, true), (2, true), (4, true), (5, true), (1, false), (3, false), (6, false), (7, false), (8, false)] (by rfl) (by rfl) (by kernel_rfl) (by decide +kernel) (by decide +kernel) ⟨_, rfl⟩ ?_) | (refine Wf (fun p => p) 100 [(0, true)] (by rfl) (by rfl) (by kernel_rfl) (by decide +kernel) (by decide +kernel) ⟨_, rfl⟩ ?_) | refine Q3 (by rfl) (by kernel_rfl) (by kernel_rfl) ?_ | refine QP (by kernel_rfl) (by kernel_rfl) ?_) | refine Qk ?_ | refine QB rfl ?_ | refine Qo rfl ?_ | refine Qp rfl (by omega) ?_ | refine Qr rfl (by omega) ?_ | refine Q2 rfl ?_ | refine qb rfl (by (repeat' first | refine Qu rfl ?_ | refine Qm rfl rfl (by first | assumption | exact Enc.len _ | rfl) ?_ | refine Qv rfl ?_ | refine Ql rfl rfl (by first | assumption | omega | (simp; done) | (simp; omega)) ?_ | refine Wu rfl rfl ?_ | refine Wa rfl rfl (hfo) ?_ | refine Wm rfl rfl ?_ | refine WC rfl ?_ | exact ⟨rfl, rfl⟩)) ?_ | refine x_gy rfl rfl rfl rfl (by (repeat' first | refine Qu rfl ?_ | refine Qm rfl rfl (by first | assumption | exact Enc.len _ | rfl) ?_ | refine Qv rfl ?_ | refine Ql rfl rfl (by first | assumption | omega | (simp; done) | (simp; omega)) ?_ | refine Wu rfl rfl ?_ | refine Wa rfl rfl (hfo) ?_ | refine Wm rfl rfl ?_ | refine WC rfl ?_ | exact ⟨rfl, rfl⟩)) ?_ | refine ZS ?_ | fail)
    refine ⟨i + 1, by omega, by omega, ?_⟩
    exact zal rfl
  ·clear hst hT
   (repeat' first | refine Qu rfl ?_ | refine QA rfl ?_ | refine QL rfl rfl ?_ | refine Wa rfl rfl (hlv) ?_ | refine Qj rfl ?_ | refine Qe ?_ | refine Qs rfl ?_ | refine Qg ?_ | refine Qa ?_ | refine Qr rfl (by omega) ?_ | refine Q2 rfl ?_ | refine Qq ?_ | fail)
   all_goals exact e_1 (Tryd.results3) (Qh rfl) (QD rfl)
 ·have har := qr (G := G) (IntKind.i64.wrap (at1.tdiv 16)) (ts.length : Int) (i64_wrap _) (by omega)
  have hb := Ord.around_bound (IntKind.i64.wrap (at1.tdiv 16)) (most := (ts.length : Int)) (by omega)
  obtain ⟨u, hu⟩ : ∃ u : Nat, Ord.around (IntKind.i64.wrap (at1.tdiv 16)) (ts.length : Int) = (u : Int) := ⟨_, (Int.toNat_of_nonneg hb.1).symm⟩
  rw [hu] at har hb
  have hut : u < ts.length := by omega
  have hum := WT (List.getElem_mem hut)
  obtain ⟨b, hbs, hbe⟩ := bent_c (G := G) ts[u] (by omega) at1 how by1 hat hhow hby
  have hset := sizeL_set (z := b) hut
  have hL4 : ∀ l ∈ [ts, ts ++ [raw], []] ++ [ts.set u b], QN l <= 4000000 := fun l hl => by
   simp only [List.cons_append, List.nil_append, List.mem_cons, List.not_mem_nil, or_false] at hl
   rcases hl with rfl | rfl | rfl | rfl
   ·omega
   ·exact hrs
   ·exact hn0
   ·omega
  have hst := tail _ (by simp) hL4
  have hsl : ts.length * 4 = (Qt (ts.set u b)).length := by rw [Qz, List.length_set]; rfl
  have h3l : ([ts, ts ++ [raw], []] : List (List Nd)).length = 3 := rfl
  clear tail hL4 hrs hn0 hts hset hbs hum hu
  refine Qc Tryd.func3 rfl Tryd.ntmps3 rfl (t := [(0, QG l), (1, .i at1), (2, .i how), (3, .i by1), (4, .agg (Enc.enc raw))]) rfl fun E hE => ?_
  (repeat' first | refine Qu rfl ?_ | refine QA rfl ?_ | refine QC rfl ?_ | refine s_idx_refq u rfl rfl rfl rfl (by assumption) ?_ | refine Ql rfl rfl (by first | assumption | omega | (simp; done) | (simp; omega)) ?_ | refine s_quow rfl rfl (by omega) ?_ | refine s_gtr rfl rfl ?_ | refine WR rfl rfl hbe (Qw (Enc.clo _)) ?_ | refine Wa rfl rfl (hT) ?_ | refine Wa rfl rfl (har) ?_ | refine Z5 (z := (List.set ts u b)) rfl rfl rfl rfl rfl rfl rfl (by first | omega | (simp; omega)) (by first | omega | (simp; omega)) (fun _ => rfl) (fun _ _ => ?_) | refine Z5 rfl rfl rfl rfl rfl rfl rfl (by first | omega | (simp; omega)) (by first | omega | (simp; omega)) (fun _ => rfl) (fun _ _ => ?_) | refine s_app_z rfl rfl rfl rfl rfl (by first | omega | (simp; omega)) (by first | omega | (simp; omega)) (fun _ => rfl) (fun _ _ => ?_) | refine Qj rfl ?_ | refine s_store_el (i := u) rfl rfl rfl (by show 0 + u * 4 = u * 4; omega) rfl rfl (by assumption) rfl ?_ | refine s_bslice_pubi 27 rfl rfl (by exact (Qz _).symm) rfl ?_ | refine s_bslice_pub rfl rfl (by assumption) rfl ?_ | refine qB (cs := [QG ts, QG (ts ++ [raw]), .nil]) (cs' := Qt [ts, ts ++ [raw], []]) rfl rfl (by decide) (by rfl) rfl rfl (qc (.refl _) (qc (.refl _) (qc (.nil _) sub_nil))) (fun _ _ => ?_) | refine s_bslice_none rfl (fun _ _ => ?_) | refine Wi rfl rfl (by decide) rfl ?_ | refine QU rfl rfl (fun _ _ => ?_) | refine Qe ?_ | refine Qs rfl ?_ | refine QZ ?_ | refine Qg ?_ | refine Qa ?_ | refine Qf ?_ | (refine Q0 ?_; first | (rename_i g9 hg9; refine Wf (fun p => .row g9 (Enc.enc raw) :: p) 9 [(0, true), (2, true), (4, true), (5, true), (1, false), (3, false), (6, false), (7, false), (8, false)] (by rfl) (by rfl) (by kernel_rfl) (by decide +kernel) (by decide +kernel) ⟨_, rfl⟩ ?_) | (refine Wf (fun p => p) 100 [(0, true)] (by rfl) (by rfl) (by kernel_rfl) (by decide +kernel) (by decide +kernel) ⟨_, rfl⟩ ?_) | refine Q3 (by rfl) (by kernel_rfl) (by kernel_rfl) ?_ | refine QP (by kernel_rfl) (by kernel_rfl) ?_) | refine Qp rfl (by omega) ?_ | refine i_nil ?_ | refine i_st rfl rfl (fun _ => (by (repeat' first | refine Qu rfl ?_ | refine Qm rfl rfl (by first | assumption | exact Enc.len _ | rfl) ?_ | refine s_bslice_one rfl rfl (by decide) ?_ | exact ⟨rfl, rfl⟩))) ?_ | refine i_ef rfl ?_ | refine And.intro (Exists.intro (_) rfl) ?_ | fail)
  refine r_pub 12 rfl rfl (by first | rfl | (rw [Qz]; rfl)) rfl ?_
  generalize hLe : [ts, ts ++ [raw], []] ++ [ts.set u b] = L at *
  have hLl : L.length <= 4 := by rw [<- hLe]; simp
  clear hLe
  refine Wv (fun (i : Nat) => ⟨[(12, QG L), (15, .i i)], []⟩) (fun i => i <= L.length) (fun i => L.length - i) 0 ?_ (by omega) ?_
  ·exact zal rfl
  intro i hi
  by_cases hil : i < L.length
  ·obtain ⟨hnd, hor⟩ := hst i hil
   clear hst hT hlv
   rcases hor with h60 | ⟨h60, hB, hpo⟩ | ⟨h60, h14, hB, hpo⟩ | ⟨h60, v, cl, nm, ty, fi, hB, hpo, hfo⟩
   all_goals
    (repeat' first | refine Qu rfl ?_ | refine QA rfl ?_ | refine Qv rfl ?_ | refine Qb rfl rfl rfl ?_ | refine Ql rfl rfl (by first | assumption | omega | (simp; done) | (simp; omega)) ?_ | refine QL rfl rfl ?_ | refine s_gtr rfl rfl ?_ | refine Wh rfl rfl ?_ | refine QJ rfl rfl ?_ | refine Wu rfl rfl ?_ | refine Q5 rfl rfl (by omega) ?_ | refine Wa rfl rfl (hnd) ?_ | refine Wa rfl rfl (hB) ?_ | refine Wa rfl rfl (hpo) ?_ | refine Qj rfl ?_ | refine ZO rfl ?_ | refine WI rfl rfl ?_ | refine Wm rfl rfl ?_ | refine Qi rfl rfl rfl (by first | assumption | exact Enc.len _ | rfl) (by first | assumption | exact Enc.len _ | rfl) rfl ?_ | refine WC rfl ?_ | refine Qd rfl rfl ?_ | refine Q4 rfl rfl rfl ?_ | refine QH (fun _ _ => ?_) | refine Qe ?_ | refine Qs rfl ?_ | refine QZ ?_ | refine WK rfl rfl rfl rfl ?_ | refine W3 rfl rfl rfl rfl ?_ | refine Qg ?_ | refine Qa ?_ | refine Qf ?_ | (refine Q0 ?_; first | (rename_i g9 hg9; refine Wf (fun p => .row g9 (Enc.enc raw) :: p) 9 [(0, true), (2, true), (4, true), (5, true), (1, false), (3, false), (6, false), (7, false), (8, false)] (by rfl) (by rfl) (by kernel_rfl) (by decide +kernel) (by decide +kernel) ⟨_, rfl⟩ ?_) | (refine Wf (fun p => p) 100 [(0, true)] (by rfl) (by rfl) (by kernel_rfl) (by decide +kernel) (by decide +kernel) ⟨_, rfl⟩ ?_) | refine Q3 (by rfl) (by kernel_rfl) (by kernel_rfl) ?_ | refine QP (by kernel_rfl) (by kernel_rfl) ?_) | refine Qk ?_ | refine QB rfl ?_ | refine Qo rfl ?_ | refine Qp rfl (by omega) ?_ | refine Qr rfl (by omega) ?_ | refine Q2 rfl ?_ | refine qb rfl (by (repeat' first | refine Qu rfl ?_ | refine Qm rfl rfl (by first | assumption | exact Enc.len _ | rfl) ?_ | refine Qv rfl ?_ | refine Ql rfl rfl (by first | assumption | omega | (simp; done) | (simp; omega)) ?_ | refine Wu rfl rfl ?_ | refine Wa rfl rfl (hfo) ?_ | refine Wm rfl rfl ?_ | refine WC rfl ?_ | exact ⟨rfl, rfl⟩)) ?_ | refine x_gy rfl rfl rfl rfl (by (repeat' first | refine Qu rfl ?_ | refine Qm rfl rfl (by first | assumption | exact Enc.len _ | rfl) ?_ | refine Qv rfl ?_ | refine Ql rfl rfl (by first | assumption | omega | (simp; done) | (simp; omega)) ?_ | refine Wu rfl rfl ?_ | refine Wa rfl rfl (hfo) ?_ | refine Wm rfl rfl ?_ | refine WC rfl ?_ | exact ⟨rfl, rfl⟩)) ?_ | refine ZS ?_ | fail)
    refine ⟨i + 1, by omega, by omega, ?_⟩
    exact zal rfl
  ·clear hst hT
   (repeat' first | refine Qu rfl ?_ | refine QA rfl ?_ | refine QL rfl rfl ?_ | refine Wa rfl rfl (hlv) ?_ | refine Qj rfl ?_ | refine Qe ?_ | refine Qs rfl ?_ | refine Qg ?_ | refine Qa ?_ | refine Qr rfl (by omega) ?_ | refine Q2 rfl ?_ | refine Qq ?_ | fail)
   all_goals exact e_1 (Tryd.results3) (Qh rfl) (QD rfl)
end Go.Proofs
end
section
namespace Go.Av
open Classical Go.ChangeShapes Go.WideShapes Go.ChangeAt Go.RowKit
theorem law_callsG {P : Program} {G : Nat -> DV} {f : FuncId} {args : List DV} (h : Pure P G f args (.b true)) {W : World} {vs : Array Value} (hv : ∀ L, Sees W L -> VReps L args vs)
  (hG : ∀ L, Sees W L -> ∀ g, (G g).clo = true /\ VRep L (G g) (.pointer (some ⟨g, 0, none⟩))) :
  Calls P f vs W fun e W' => e = .returned (.bool true) /\ Below W.heap.size W W' := by
 let X : AX := { w := W, ρ := fun _ => none, σ := [], N := 0, hid := fun _ => False }
 have hm : ∀ b, ¬ X.mut b := fun b ⟨k, g, n, hl, _⟩ => by simp [AX.live, X] at hl
 have hS : Sto X := {
  inj := fun k k' g g' b n n' hl => by simp [AX.live, X] at hl
  gen := fun k g hl => by simp [AX.live, X] at hl
  hid := fun b hb => absurd hb (hm b)
  hidlt := fun b hb => hb.elim
  holds := fun k B hB => by simp [X] at hB }
 have hL : Sees W X.lay := fun b o v hc => AX.imm_mk (hm b) (fun h => h) hc
 refine (h 0 X vs hS rfl (Nat.le_refl _) (hG X.lay hL) (hv X.lay hL)).mono ?_
 rintro e w' ⟨v, rfl, Y, hw, hY, hE, d, hr, rfl, _⟩
 subst hw
 rw [VRep.sc_eq hr]
 exact ⟨rfl, hE.os, hE.tape, hE.output, hE.size, fun k hk => (hE.old k hk (hm k)).1⟩
theorem chunks {A B : Type} (g : B -> List A) (hg : ∀ b, (g b).length = 3) : ∀ (l : List B) (L : List A), L.length = 3 * l.length -> (∀ i b, l[i]? = some b -> (L.drop (i * 3)).take 3 = g b) -> L = l.flatMap g
 | [], L, hl, _ => List.eq_nil_of_length_eq_zero (by simpa using hl)
 | b :: l, L, hl, h => by
  have h0 := h 0 b rfl
  have hr := chunks g hg l (L.drop 3) (by rw [List.length_drop, hl, List.length_cons]; omega) fun i b' hb => by
   have := h (i + 1) b' (by simpa using hb)
   rw [List.drop_drop]
   rwa [show 3 + i * 3 = (i + 1) * 3 by omega]
  rw [List.flatMap_cons, <- hr, <- h0]
  simp
end Go.Av
namespace Go.Proofs.YtecbcpilcjmhlaaDoor
open Go.ChangeShapes Go.WideShapes Go.ChangeAt Go.RowKit Go.Av Go.Proofs
def opsL : List (UInt8 × List UInt8 × Nat × Bool × Bool) := [(115, [99, 111, 114, 105, 97, 47, 119, 111, 114, 100, 46, 111, 112, 101, 114, 97, 116, 105, 111, 110, 115, 36, 49], 136, false, false), (115, [99, 111, 114, 105, 97, 47, 119, 111, 114, 100, 46, 111, 112, 101, 114, 97, 116, 105, 111, 110, 115, 36, 50], 137, false, false), (115, [99, 111, 114, 105, 97, 47, 119, 111, 114, 100, 46, 111, 112, 101, 114, 97, 116, 105, 111, 110, 115, 36, 51], 138, false, false), (115, [99, 111, 114, 105, 97, 47, 119, 111, 114, 100, 46, 111, 112, 101, 114, 97, 116, 105, 111, 110, 115, 36, 52], 139, true, false), (115, [99, 111, 114, 105, 97, 47, 119, 111, 114, 100, 46, 111, 112, 101, 114, 97, 116, 105, 111, 110, 115, 36, 53], 140, true, false), (115, [99, 111, 114, 105, 97, 47, 119, 111, 114, 100, 46, 111, 112, 101, 114, 97, 116, 105, 111, 110, 115, 36, 54], 141, false, false), (115, [99, 111, 114, 105, 97, 47, 119, 111, 114, 100, 46, 111, 112, 101, 114, 97, 116, 105, 111, 110, 115, 36, 55], 142, false, false), (115, [99, 111, 114, 105, 97, 47, 119, 111, 114, 100, 46, 111, 112, 101, 114, 97, 116, 105, 111, 110, 115, 36, 56], 143, false, false), (115, [99, 111, 114, 105, 97, 47, 119, 111, 114, 100, 46, 111, 112, 101, 114, 97, 116, 105, 111, 110, 115, 36, 57], 144, false, false), (115, [99, 111, 114, 105, 97, 47, 119, 111, 114, 100, 46, 111, 112, 101, 114, 97, 116, 105, 111, 110, 115, 36, 49, 48], 146, false, false), (115, [99, 111, 114, 105, 97, 47, 119, 111, 114, 100, 46, 111, 112, 101, 114, 97, 116, 105, 111, 110, 115, 36, 49, 49], 147, false, true), (115, [99, 111, 114, 105, 97, 47, 119, 111, 114, 100, 46, 111, 112, 101, 114, 97, 116, 105, 111, 110, 115, 36, 49, 50], 149, false, true), (115, [99, 111, 114, 105, 97, 47, 119, 111, 114, 100, 46, 111, 112, 101, 114, 97, 116, 105, 111, 110, 115, 36, 49, 51], 150, false, true), (115, [99, 111, 114, 105, 97, 47, 119, 111, 114, 100, 46, 111, 112, 101, 114, 97, 116, 105, 111, 110, 115, 36, 49, 52], 151, false, true)]
def opD (e : UInt8 × List UInt8 × Nat × Bool × Bool) : DataW (List UInt8) := .agg [.held (e.1 :: e.2.1), .lit (.bool e.2.2.2.1), .lit (.bool e.2.2.2.2)]
def opV (e : UInt8 × List UInt8 × Nat × Bool × Bool) : List Value := [.func (.func e.2.2.1) #[] #[], .bool e.2.2.2.1, .bool e.2.2.2.2]
def opC (e : UInt8 × List UInt8 × Nat × Bool × Bool) : List DV := [.fn (.func e.2.2.1) [] [], .b e.2.2.2.1, .b e.2.2.2.2]
theorem opsT_eq : opsT = .ep (opsL.flatMap opC) := rfl
theorem opsNamed : (opsL.all fun e => ((List.range Tryd.prog.funcs.size).filter fun f => (Tryd.prog.funcs[f]?).any (·.name.toUTF8.data.toList == e.1 :: e.2.1)) == [e.2.2.1]) = true := by kernel_rfl
theorem gOps : Tryd.prog.globalNamed "scoria/word.operations" = some 0 := by kernel_rfl
theorem tOps : (Tryd.prog.globals[0]?).map (·.type) = some 108 := by kernel_rfl
theorem cells107 : Tryd.prog.cellsOf 107 = 3 := by kernel_rfl
theorem cells108 : Tryd.prog.cellsOf 108 = 42 := by kernel_rfl
theorem cells28 : Tryd.prog.cellsOf 28 = 1 := by kernel_rfl
theorem cells4 : Tryd.prog.cellsOf 4 = 1 := by kernel_rfl
theorem op_of {W : World} {fuel : Nat} {c : List Value} {e : UInt8 × List UInt8 × Nat × Bool × Bool} {q : List MemPlace} (he : e ∈ opsL) (h : DataW.trod (funcToken Tryd.prog) Tryd.prog W 0 (fun _ => true) true fuel 107 c = some (opD e, q)) : c = opV e := by
 obtain ⟨y0, y1, y2, n, hx, hl, h0, h1, h2⟩ := Deep.trod_struct3 Tryd.underlying107 h
 rw [cells107] at hl
 match c, hl with
 | [c0, c1, c2], _ =>
  simp only [opD, Prod.mk.injEq, DataW.agg.injEq, List.cons.injEq, and_true] at hx
  obtain ⟨⟨e0, e1, e2⟩, _⟩ := hx
  have h0 : DataW.trod (funcToken Tryd.prog) Tryd.prog W 0 (fun _ => true) true n 28 [c0] = some y0 := by simp only [cells28, cells4] at h0; exact h0
  have h1 : DataW.trod (funcToken Tryd.prog) Tryd.prog W 0 (fun _ => true) true n 4 [c1] = some y1 := by simp only [cells4, cells28] at h1; exact h1
  have h2 : DataW.trod (funcToken Tryd.prog) Tryd.prog W 0 (fun _ => true) true n 4 [c2] = some y2 := by simp only [cells4, cells28] at h2; exact h2
  obtain ⟨y0, q0⟩ := y0
  cases e0
  have hone := eq_of_beq (List.all_eq_true.1 opsNamed e he)
  obtain rfl := func_of_trod Tryd.underlying28 hone h0
  obtain ⟨b1, hb1, rfl⟩ := DataW.trod_bool Tryd.underlying4 h1
  obtain ⟨b2, hb2, rfl⟩ := DataW.trod_bool Tryd.underlying4 h2
  cases hb1; cases hb2
  simp only [DataW.lit.injEq, Lit.bool.injEq] at e1 e2
  subst e1; subst e2
  rfl
theorem rep_ops (L : Lay) : ∀ (l : List (UInt8 × List UInt8 × Nat × Bool × Bool)) (j : Nat) (d : DV), (l.flatMap opC)[j]? = some d -> VRep L d ((l.flatMap opV).getD j undef)
 | [], j, d, h => by simp at h
 | e :: l, 0, d, h => by
  cases h
  exact .fn _ [] [] #[] #[] rfl rfl (fun j d h => by simp at h) (fun j d h => by simp at h)
 | e :: l, 1, d, h => by cases h; exact .sc _
 | e :: l, 2, d, h => by cases h; exact .sc _
 | e :: l, j + 3, d, h => rep_ops L l j d h
theorem of_laid {W : World} {l : List (String × DataW Unit)} (hin : ("scoria/word.operations", Rows.laid_scoria_word_operations) ∈ l) (h : laidMetH Tryd.prog l W) (L : Lay) (hL : Sees W L) :
  ∀ g, (G1 g).clo = true /\ VRep L (G1 g) (.pointer (some ⟨g, 0, none⟩)) := by
 obtain ⟨g, t, cs, fuel, p, hg, ht, hv, hd⟩ := h.funcs hin
 obtain rfl := Option.some.inj (gOps.symm.trans hg)
 obtain rfl := Option.some.inj (tOps.symm.trans ht)
 have hd' : DataW.trod (funcToken Tryd.prog) Tryd.prog W 0 (fun _ => true) true fuel 108 cs.toList = some (.agg (opsL.map opD), p) := hd
 obtain ⟨xs, m, _, hx, hl, hn, hel⟩ := DataW.trod_array (inferInstance : TyI Tryd.prog 108 (.array 14 107) true 42).u hd'
 rw [cells108] at hl
 simp only [Prod.mk.injEq, DataW.agg.injEq] at hx
 have hc : cs.toList = opsL.flatMap opV := chunks opV (fun _ => rfl) opsL cs.toList hl fun i e hi => by
  have hi14 : i < 14 := (List.getElem?_eq_some_iff.1 hi).1
  have h1 := hel i hi14
  rw [cells107] at h1
  have hxi : (xs.map (·.1))[i]? = some (opD e) := by rw [<- hx.1, List.getElem?_map, hi]; rfl
  rw [List.getElem?_map] at hxi
  cases hxs : xs[i]? with
  | none => rw [hxs] at hxi; cases hxi
  | some y =>
   rw [hxs] at hxi h1
   obtain ⟨y1, y2⟩ := y
   cases Option.some.inj hxi
   exact op_of (List.mem_of_getElem? hi) h1
 intro g
 cases g with
 | succ g => exact ⟨by simp [G1, DV.clo], .any _⟩
 | zero =>
  refine ⟨?_, ?_⟩
  ·show opsT.clo = true
   unfold opsT
   repeat' first | exact QW | refine QF ?_ ?_ | exact Qx | refine W2 ?_ | refine W5 ?_ ?_
  show VRep L opsT _
  rw [opsT_eq]
  refine .ep _ 0 0 (fun j => (opsL.flatMap opV).getD j undef) (by decide) (fun j hj => ?_) (rep_ops L opsL)
  refine hL _ _ _ ?_
  rw [World.var?_cell hg hv, Nat.zero_add, <- hc]
  have hj' : j < cs.toList.length := by rw [hl]; exact hj
  rw [List.getD_eq_getElem?_getD, List.getElem?_eq_getElem hj']
  simp
theorem len_of {H : Type} {enc : TypeId × Value -> H} {W : World} {t e : TypeId} {v : Value} {d : DataW H} {q : List MemPlace} {α : Type} [Enc α] {y : List α} {ts : List TypeId} {ds : List (DataW H)} {sp : Nat -> Bool} {j : Nat}
  (he : Enc.es α = 1) (hb : 1 <= Tryd.prog.bytesOf e) (ht : Tryd.prog.underlying t = some (.slice e)) (hsz : (DataW.weightsEach Tryd.prog ts ds).all (· <= reachBytes) = true) (hj : ts[j]? = some t) (hd : ds[j]? = some d)
  (hok : v.cells.toList = [v]) (h : DataW.Trod enc Tryd.prog W 0 sp true t v d q) (r : ∀ L, Sees W L -> ∀ e, Enc.enc y = [e] -> VRep L e v) : y.length <= 140737488355328 := by
 obtain ⟨fuel, hf⟩ := h
 rw [hok] at hf
 have hr := r { imm := fun b o => W.cell? ⟨b, o, none⟩, row := fun _ _ => none, top := 0 } (fun _ _ _ h => h) _ rfl
 have hlen : ∀ {a : Option Addr} {len cap : Nat}, v = .slice a len cap -> y.length = len := fun hv => by
  subst hv
  generalize hs : QG y = s at hr
  cases hr with
  | sl es cs a len cap f h1 =>
   unfold QG at hs
   cases hs
   rw [Qz, he] at h1
   omega
  | _ => cases hs
 rcases DataW.trod_slice ht hf with ⟨h1, _⟩ | ⟨a, len, cap, elems, rest, n, _, h1, h2, _, _, _, h3, _⟩
 ·have := hlen (List.cons.inj h1).1
  omega
 ·have := hlen (List.cons.inj h1).1
  cases h2
  have h4 := sized_slice hsz hj hd ht
  rw [List.length_map, h3] at h4
  have h5 := reachBytes_lt
  have h6 : len <= (len + (rest.map (·.1)).length) * Tryd.prog.bytesOf e := Nat.le_trans (Nat.le_add_right _ _) (Nat.le_mul_of_pos_right _ hb)
  omega
end Go.Proofs.YtecbcpilcjmhlaaDoor
end
section
namespace Go.Proofs.YtecbcpilcjmhlaaDoor
open Go.ChangeShapes Go.WideShapes Go.ChangeAt Go.RowKit Go.Av Go.Proofs
def G01 : Nat -> DV := fun g => match g with | 0 => opsT | 1 => pow10T | _ => .any
theorem gPow : Tryd.prog.globalNamed "internal/strconv.uint64pow10" = some 1 := by kernel_rfl
theorem tPow : (Tryd.prog.globals[1]?).map (·.type) = some 132 := by kernel_rfl
theorem cells126 : Tryd.prog.cellsOf 126 = 1 := by kernel_rfl
theorem cells132 : Tryd.prog.cellsOf 132 = 20 := by kernel_rfl
theorem ones {A B : Type} (g : B -> A) : ∀ (l : List B) (L : List A), L.length = l.length -> (∀ i b, l[i]? = some b -> (L.drop i).take 1 = [g b]) -> L = l.map g
 | [], L, hl, _ => List.eq_nil_of_length_eq_zero (by simpa using hl)
 | b :: l, L, hl, h => by
  have h0 := h 0 b rfl
  have hr := ones g l (L.drop 1) (by rw [List.length_drop, hl, List.length_cons]; omega) fun i b' hb => by
   have := h (i + 1) b' (by simpa using hb)
   rw [List.drop_drop]
   rwa [show 1 + i = i + 1 by omega]
  rw [List.map_cons, <- hr]
  have : L = L.take 1 ++ L.drop 1 := (List.take_append_drop 1 L).symm
  rw [List.drop_zero] at h0
  rw [h0] at this
  exact this
theorem pow_laid {W : World} {l : List (String × DataW Unit)} (hf : l.filter (fun x => x.1 == "internal/strconv.uint64pow10") = [("internal/strconv.uint64pow10", Rows.laid_internal_strconv_uint64pow10)]) (h : laidMetH Tryd.prog l W) :
  ∃ cs, W.var? Tryd.prog "internal/strconv.uint64pow10" = some cs /\ cs.toList = pow10L.map fun z => .int .u64 z := by
 have h1 := h.filter fun x => x.1 == "internal/strconv.uint64pow10"
 rw [hf, MakeChecks.laidMetH_plain _ _ _ (by kernel_rfl)] at h1
 obtain ⟨ps, ⟨g, t, cs, f, p, q, hg, ht, hv, hd, _⟩, _, _⟩ := h1
 obtain rfl := Option.some.inj (gPow.symm.trans hg)
 obtain rfl := Option.some.inj (tPow.symm.trans ht)
 refine ⟨cs, hv, ?_⟩
 obtain ⟨xs, m, _, hx, hl, hn, hel⟩ := DataW.trod_array (inferInstance : TyI Tryd.prog 132 (.array 20 126) true 20).u hd
 rw [cells132] at hl
 simp only [Prod.mk.injEq] at hx
 have hx1 : DataW.agg (H := Unit) (pow10L.map fun z => .lit (.int .u64 z)) = .agg (xs.map (·.1)) := hx.1
 have hx2 : (pow10L.map fun z => DataW.lit (H := Unit) (.int .u64 z)) = xs.map (·.1) := by simpa only [DataW.agg.injEq] using hx1
 refine ones (fun z => .int .u64 z) pow10L cs.toList hl fun i z hi => ?_
 have hi20 : i < 20 := (List.getElem?_eq_some_iff.1 hi).1
 have h1 := hel i hi20
 rw [cells126, Nat.mul_one] at h1
 have hxi : (xs.map (·.1))[i]? = some (.lit (.int .u64 z)) := by rw [<- hx2, List.getElem?_map, hi]; rfl
 rw [List.getElem?_map] at hxi
 cases hxs : xs[i]? with
 | none => rw [hxs] at hxi; cases hxi
 | some y =>
  rw [hxs] at hxi h1
  obtain ⟨k, e1, e2, _⟩ := DataW.trod_int (inferInstance : TyI Tryd.prog 126 (.int .u64) false 1).u h1
  have hy := Option.some.inj hxi
  rw [e2] at hy
  have hk : k = z := by simpa using hy
  rw [e1, hk]
theorem of_laid2 {W : World} {l : List (String × DataW Unit)} (hin : ("scoria/word.operations", Rows.laid_scoria_word_operations) ∈ l)
  (hf : l.filter (fun x => x.1 == "internal/strconv.uint64pow10") = [("internal/strconv.uint64pow10", Rows.laid_internal_strconv_uint64pow10)]) (h : laidMetH Tryd.prog l W) (L : Lay) (hL : Sees W L) :
  ∀ g, (G01 g).clo = true /\ VRep L (G01 g) (.pointer (some ⟨g, 0, none⟩)) := by
 intro g
 match g with
 | 0 => exact of_laid hin h L hL 0
 | g + 2 => exact ⟨by simp [G01, DV.clo], .any _⟩
 | 1 =>
  obtain ⟨cs, hv, hcs⟩ := pow_laid hf h
  refine ⟨?_, ?_⟩
  ·show pow10T.clo = true
   unfold pow10T
   refine W2 fun d hd => ?_
   obtain ⟨z, _, rfl⟩ := List.mem_map.1 hd
   exact Qx
  show VRep L pow10T _
  unfold pow10T
  refine .ep _ 1 0 (fun j => (pow10L.map fun z => Value.int .u64 z).getD j undef) (by decide) (fun j hj => ?_) (fun j d hd => ?_)
  ·refine hL _ _ _ ?_
   rw [World.var?_cell gPow hv, Nat.zero_add, <- hcs]
   have hj' : j < cs.toList.length := by rw [hcs]; simpa using hj
   rw [List.getD_eq_getElem?_getD, List.getElem?_eq_getElem hj']
   simp
  ·rw [List.getElem?_map] at hd
   cases hz : pow10L[j]? with
   | none => rw [hz] at hd; cases hd
   | some z =>
    rw [hz] at hd
    cases hd
    rw [List.getD_eq_getElem?_getD, List.getElem?_map, hz]
    exact .sc _
theorem rd22 : Rd Tryd.prog 22 (List Int) (fun l => l.length <= 9223372036854775807 /\ ∀ x ∈ l, I64 x) := rd_slice (e := 3) (ht := inferInstance) (he := (inferInstance : TyI Tryd.prog 3 (.int .i64) false 1)) (hr := rd_int)
theorem rd3 : Rd Tryd.prog 3 Int I64 := rd_int
theorem own : ownKnob Tryd.prog.godebug = none := by kernel_rfl
theorem laidOut : laidOutB Tryd.prog = true := by kernel_rfl
abbrev laid4 : List (String × DataW Unit) := [("math/bits.deBruijn32tab", Rows.laid_math_bits_deBruijn32tab), ("math/bits.deBruijn64tab", Rows.laid_math_bits_deBruijn64tab), ("internal/strconv.uint64pow10", Rows.laid_internal_strconv_uint64pow10), ("scoria/word.operations", Rows.laid_scoria_word_operations)]
theorem door_met (os : Os) (args : Array Value) : laidMetH Tryd.prog laid4 ((World.doorLaid Tryd.prog 4000 os).forCall (fun _ _ => 0) ⟨#[], args, []⟩).memory :=
 laidMetH_of_parts3 (fuel := 8) (laidMet_of_run' 8 (by kernel_rfl) (by kernel_rfl)) (by kernel_rfl) (by kernel_rfl)
theorem bulk_part {H : Type} {d : DataW H} {l : List (DataW H)} (h : d ∈ l) : Rows.uptoBulk d <= Rows.uptoBulkAll l := by
 induction l with
 | nil => cases h
 | cons x r ih =>
  simp only [Rows.uptoBulkAll]
  rcases List.mem_cons.1 h with e | e
  ·subst e; omega
  ·have := ih e; omega
theorem nd_arg {H : Type} {enc : TypeId × Value -> H} {W : World} {spare : Nat -> Bool} {held : Bool} {v : Value} {d : DataW H} {p : List MemPlace} (ht : DataW.Trod enc Tryd.prog W 0 spare held 25 v d p) :
  ∃ y : Go.Bl.Nd, QI y <= Rows.uptoBulk d /\ ∀ L, Sees W L -> VRep L (.agg (Enc.enc y)) v := by
 obtain ⟨fuel, hf⟩ := ht
 obtain ⟨y, h1, h2, h3⟩ := rd_nd enc W 0 spare held fuel _ _ hf
 refine ⟨y, h2, fun L hL => ?_⟩
 cases v with
 | agg vs =>
  have hvs : (Value.agg vs).cells.toList = vs.toList := rfl
  rw [hvs] at h1 h3
  have h1' : vs.size = 4 := by simpa using h1
  refine .agg _ _ (by rw [Enc.len]; exact h1') (Enc.one y) fun j e hj => ?_
  have := h3 L hL j e hj
  simpa [Array.getD_eq_getD_getElem?] using this
 | _ => simp [Value.cells] at h1
abbrev wArgs : Array Value := #[.slice none 0 0, .int .i64 0, .int .i64 0, .int .i64 0, .agg #[.int .i64 0, .int .i64 0, .int .i64 0, .slice none 0 0]]
theorem reads (os : Os) {H : Type} (enc : TypeId × Value -> H) : ∃ places, DataW.whole enc Tryd.prog ((World.doorLaid Tryd.prog 4000 os).forCall (fun _ _ => 0) ⟨#[], wArgs, []⟩).memory Tryd.f3.params.toList Rows.blastFormsSpec.vars false wArgs.toList 8 =
  some ([.nil, .lit (.int .i64 0), .lit (.int .i64 0), .lit (.int .i64 0), .agg [.lit (.int .i64 0), .lit (.int .i64 0), .lit (.int .i64 0), .nil]], [], places) := ⟨[], by kernel_rfl⟩
theorem forms_witness (os : Os) {H : Type} (enc : TypeId × Value -> H) : ∃ (w : World) (tape : Tape) (i : Input), w.os = os /\ (w.forCall tape i).Shaped Tryd.checked.prog /\ i.vars = [] /\ Input.okWide Tryd.checked.prog (w.forCall tape i) .any w.heap.size 3 i /\
  (Rows.OpenSpec.upto Rows.blastFormsSpec).preRow enc Tryd.checked.prog Tryd.f3 Rows.blastFormsUptoRow.domain false Rows.blastFormsUptoRow.laid (w.forCall tape i).memory i.args /\ ({} : Assume).holds Tryd.checked.prog (lone (Frame.enter Tryd.checked.prog 3 i.args .normal) [] (w.forCall tape i)) := by
 obtain ⟨places, hx⟩ := reads os enc
 have hok : Input.okWideB Tryd.prog ((World.doorLaid Tryd.prog 4000 os).forCall (fun _ _ => 0) ⟨#[], wArgs, []⟩) 3 ⟨#[], wArgs, []⟩ = true := by kernel_rfl
 refine ⟨World.doorLaid Tryd.prog 4000 os, fun _ _ => 0, ⟨#[], wArgs, []⟩, rfl, World.shaped_of_RefB (by kernel_rfl) (by kernel_rfl), (Input.okWide_of_okWideB (base := 0) hok).1, (Input.okWide_of_okWideB hok).2, ?_, ?_⟩
 ·exact OpenSpec.preRow_of_cond 8 hx (by kernel_rfl) (fun k hk => by cases hk; kernel_rfl) (by kernel_rfl) (door_met os _)
 ·simp [Assume.holds]
theorem blastForms_lifted (os : Os) (started : os.Started) (H : Type) (enc : TypeId × Value -> H) (F : Stop.Interp) :
  ReturnsInHanded {} Tryd.checked os 3 .any ((Rows.OpenSpec.upto Rows.blastFormsSpec).preRow enc Tryd.prog Tryd.f3 Rows.blastFormsUptoRow.domain false Rows.blastFormsUptoRow.laid) (((Rows.OpenSpec.upto Rows.blastFormsSpec).at F).post enc Tryd.prog Tryd.f3 false true false false) := by
 refine returnsInHanded_of_row (C := Tryd.checked) (s := Rows.OpenSpec.upto Rows.blastFormsSpec) own started (by kernel_rfl) Tryd.func3 (forms_witness os enc) ?_
 intro W base args ds gs before hval0 hW0 _ hcond hsz0 hL _ _
 have hW : DataW.Whole enc Tryd.prog Tryd.f3.params.toList Rows.blastFormsSpec.vars false W args.toList ds gs before := hW0
 have hval : ∀ (j : Nat) t v, Tryd.f3.params[j]? = some t -> args[j]? = some v -> Value.okWide Tryd.prog W .any base t v := hval0
 have hW' := hW
 obtain ⟨p, q, hA0, hV, rfl, _, _⟩ := hW
 have hA : DataW.TrodAll enc Tryd.prog W 0 (fun _ => true) true [22, 3, 3, 3, 25] args.toList ds p := hA0
 obtain ⟨v0, vs0, d0, ds0, p0, q0, ha0, rfl, rfl, h0, r0⟩ := trodAll_cons hA
 obtain ⟨v1, vs1, d1, ds1, p1, q1, rfl, rfl, rfl, h1, r1⟩ := trodAll_cons r0
 obtain ⟨v2, vs2, d2, ds2, p2, q2, rfl, rfl, rfl, h2, r2⟩ := trodAll_cons r1
 obtain ⟨v3, vs3, d3, ds3, p3, q3, rfl, rfl, rfl, h3, r3⟩ := trodAll_cons r2
 obtain ⟨v4, vs4, d4, ds4, p4, q4, rfl, rfl, rfl, h4, r4⟩ := trodAll_cons r3
 obtain ⟨rfl, rfl, rfl⟩ := trodAll_nil r4
 obtain rfl : args = #[v0, v1, v2, v3, v4] := by cases args; simp_all
 obtain ⟨rfl, rfl⟩ := trodVars_none hV
 simp only [List.append_nil] at hW' hcond
 have hbulk : Rows.uptoBulkAll [d0, d1, d2, d3, d4] <= 1048576 := of_decide_eq_true (hcond _ rfl)
 obtain ⟨y0, k0, s0⟩ := rd_one (h := rd22) rfl (hval 0 22 v0 rfl rfl) h0
 obtain ⟨y1, k1, s1⟩ := rd_one (h := rd3) rfl (hval 1 3 v1 rfl rfl) h1
 obtain ⟨y2, k2, s2⟩ := rd_one (h := rd3) rfl (hval 2 3 v2 rfl rfl) h2
 obtain ⟨y3, k3, s3⟩ := rd_one (h := rd3) rfl (hval 3 3 v3 rfl rfl) h3
 obtain ⟨y4, k4, s4⟩ := nd_arg h4
 have k4 : QI y4 <= 1048576 := Nat.le_trans k4 (Nat.le_trans (bulk_part (by simp)) hbulk)
 have l0 := len_of rfl (of_decide_eq_true (by kernel_rfl)) (inferInstance : TyI Tryd.prog 22 (.slice 3) false 1).u hsz0 (j := 0) rfl rfl (rd22.top W base v0 rfl (hval 0 22 v0 rfl rfl)) h0 s0
 have hlt : ∀ x ∈ p0 ++ (p1 ++ (p2 ++ (p3 ++ p4))), x.block < W.heap.size := fun x hx => by simpa using hW'.lt x (by simpa using hx)
 have hargs : ∀ {t : TypeId} {v : Value} {d : DataW H} {ps : List MemPlace} (W' : World), Below W.heap.size W W' -> Tryd.prog.readableRec t = true -> t < Tryd.prog.types.size -> DataW.Trod enc Tryd.prog W 0 (fun _ => true) true t v d ps -> (∀ x ∈ ps, x.block < W.heap.size) -> DataW.Trod enc Tryd.prog W' 0 (fun b => decide (b < W.heap.size)) true t v d ps :=
  fun W' hn h1 h2 h3 h4 => Below.trod laidOut h1 h2 h3 hn h4
 have hvs : ∀ L, Sees W L -> VReps L [QG y0, .i y1, .i y2, .i y3, .agg (Enc.enc y4)] #[v0, v1, v2, v3, v4] := fun L hL => ⟨rfl, fun j d hj => by
  match j, hj with
  | 0, hj => cases hj; exact s0 L hL _ rfl
  | 1, hj => cases hj; exact s1 L hL _ rfl
  | 2, hj => cases hj; exact s2 L hL _ rfl
  | 3, hj => cases hj; exact s3 L hL _ rfl
  | 4, hj => cases hj; exact s4 L hL
  | j + 5, hj => simp at hj⟩
 refine (law_callsG (blastForms_c (G := G01) rfl rfl y0 y1 y2 y3 y4 (by omega) k0.2 k1 k2 k3 k4) hvs (fun L hS => of_laid2 (l := laid4) (by simp) (by kernel_rfl) hL L hS)).mono ?_
 rintro e W' ⟨rfl, hb⟩
 refine ⟨_, rfl, ?_⟩
 show Rows.blastFormsSpec.post enc Tryd.prog Tryd.f3 false true false false W _ _ W'
 refine ⟨_, _, _, [], (p0 ++ (p1 ++ (p2 ++ (p3 ++ p4)))), [], hW', ?_, ?_, rfl, hb.frame _, fun h => by cases h⟩
 ·exact trodAll_mk1 (shut_bool (by kernel_rfl) true)
 ·have arg : ∀ {t : TypeId} {v : Value} {d : DataW H} {ps : List MemPlace}, Tryd.prog.readableRec t = true -> t < Tryd.prog.types.size -> DataW.Trod enc Tryd.prog W 0 (fun _ => true) true t v d ps -> (∀ x ∈ ps, x ∈ p0 ++ (p1 ++ (p2 ++ (p3 ++ p4)))) -> DataW.Trod enc Tryd.prog W' 0 (fun b => decide (b < W.heap.size)) true t v d ps :=
   fun q1 q2 q3 q4 => hargs W' hb q1 q2 q3 fun x hx => hlt x (q4 x hx)
  refine trodAll_cons_mk (arg (by kernel_rfl) (of_decide_eq_true (by kernel_rfl)) h0 (fun x hx => by simp [hx])) ?_
  refine trodAll_cons_mk (arg (by kernel_rfl) (of_decide_eq_true (by kernel_rfl)) h1 (fun x hx => by simp [hx])) ?_
  refine trodAll_cons_mk (arg (by kernel_rfl) (of_decide_eq_true (by kernel_rfl)) h2 (fun x hx => by simp [hx])) ?_
  refine trodAll_cons_mk (arg (by kernel_rfl) (of_decide_eq_true (by kernel_rfl)) h3 (fun x hx => by simp [hx])) ?_
  exact trodAll_mk1 (arg (by kernel_rfl) (of_decide_eq_true (by kernel_rfl)) h4 (fun x hx => by simp [hx]))
theorem blastForms_said : Rows.BlastFormsUptoSaid :=
 OpenClaim.holds_of_cond 3 Tryd.f3 rfl rfl rfl rfl rfl rfl rfl ⟨rfl, rfl, rfl, rfl, rfl⟩ rfl rfl rfl rfl rfl (by kernel_rfl) Tryd.func3 (by kernel_rfl)
  (of_decide_eq_true (by kernel_rfl)) (by unfold Func.isWrapper; first | (rw [if_pos (by decide +kernel)]; kernel_rfl) | (rw [if_neg (by decide +kernel)]; exact ⟨rfl, rfl⟩))
  (fun os started H enc _ F => by rw [OpenClaim.pre_eq_preRow]; exact blastForms_lifted os started H enc F)
theorem blastForms_holds : Rows.BlastFormsUptoCardSaid :=
 Claim7.holds_tied_plain_at .later [] [.data, .data, .data, .funcs] true (true, "da40ad3a18d0cd9c6284f69fc3cd456ff6703ba925fc81f74627948b33dca1d1") false
  blastForms_said (fun _ h => by cases h) (by kernel_rfl) (fun _ h => by cases h) blastFormsUpto_row_tie rfl ⟨rfl, rfl⟩ (by kernel_rfl) rfl
  (fun f fn hf hfn => by
   obtain rfl : f = 3 := Option.some.inj ((show Tryd.prog.funcNamed "scoria/scorialaw21.BlastForms" = some 3 by kernel_rfl).symm.trans hf) |>.symm
   obtain rfl : fn = Tryd.f3 := (Option.some.inj (Tryd.func3.symm.trans hfn)).symm
   exact ⟨by kernel_rfl, fun j t ht => by
    rw [Tryd.params3] at ht
    have hm : t ∈ [22, 3, 3, 3, 25] := by simpa using Array.mem_of_getElem? ht
    have hall : ([22, 3, 3, 3, 25].all fun u => !Tryd.prog.wantsStandIn u) = true := by kernel_rfl
    exact (show Tryd.prog.wantsStandIn t = false by simpa using List.all_eq_true.1 hall t hm)⟩)
  (by kernel_rfl)
#print axioms blastForms_holds
end Go.Proofs.YtecbcpilcjmhlaaDoor
end
