/-
  clear over the tail of a row that is owned.
-/
import Derived.Test.YtecbcpilcjmhlaaDoorAvI
namespace Go.Av
open Classical
set_option linter.unusedSimpArgs false
set_option linter.unusedVariables false
section
variable {P : Program} {G : Nat → DV} {B : Nat} {f : Operand → DV} {σ : List ABlk} {K : DV → List ABlk → Prop} {dst : Option Tmp} {type : TypeId} {pos : String} {after : Array Edge} {gd : Option (Nat × Bool)}
variable {α : Type} [Enc α]

theorem APost.trunc {X : AX} {k g : Nat} {cs cs' r : List DV} {v : Value} {w' : World} {d : DV} (hd : ∀ L, VRep L d v) (hσ' : ∃ σ', σ'[k]? = some (.row g cs) ∧ cs = cs' ++ r ∧ APost X (fun _ s => s = σ') v w' ∧ K d (σ'.set k (.row g cs'))) : APost X K v w' := by
  obtain ⟨σ', h1, h2, ⟨Y, h3, h4, h5, e, h6, h7⟩, h8⟩ := hσ'
  rw [← h7] at h1 h8
  have := Av.trunc (m := cs'.length) h4 h1 (.inr trivial)
  rw [h2, List.take_left] at this
  exact ⟨{ Y with σ := Y.σ.set k (.row g cs') }, h3, this.2, h5.trans this.1, d, hd _, h8⟩

theorem s_clear_tail {t e : TypeId} {td : TypeDesc} {g1 g2 : Bool} {z1 m g len i es : Nat} {zs : List Value} {x : Operand} {cs : List DV} {l : List α} {σ' : List ABlk} [ht : TyI P t (.slice e) g1 z1] [he : TyI P e td g2 es] [hz : TyZ P e zs] (hzl : zs.length = es)
    (hx : f x = .ref m g (0 + i * es) len es) (hm : σ[m]? = some (.row g cs)) (hcs : cs = encs l) (hes : es = Enc.es α) (hi : i ≤ l.length) (hlen : len = l.length - i) (hσ' : setA σ m (.row g (encs (l.take i))) = some σ') (k : K (.tup []) σ') :
    OpSem P G B ⟨dst, .call ⟨.builtin .clear, #[x], #[t]⟩, type, pos, after, gd⟩ f σ K := fun X ρ hS hσ hB _ hf => by
  subst hσ hcs hlen hes
  rw [Nat.zero_add] at hx
  have e1 := hf x (by simp [Op.operands, Call.operands]); rw [hx] at e1
  obtain ⟨a, cap, e4, h2, h3⟩ := e1.ref_slice hm
  rw [setA_eq hσ'] at k
  simp only [execOp, resolve, invoke, builtin, List.map_toArray, List.map_cons, List.map_nil, Sem.run_bind, Sem.run_pure, Result.andThen_ok, e4]
  by_cases h0 : l.length - i = 0
  · have hrun : (Builtin.clear_ #[t] type #[.slice a (l.length - i) cap]).run P X.w = .ok (.tuple #[]) X.w := by
      rw [h0]
      cases a <;> simp [Builtin.clear_, run_underlying ht.u]
    rw [hrun]
    have : l.take i = l := List.take_of_length_le (by omega)
    rw [this, show X.σ.set m (.row g (encs l)) = X.σ from by
      apply List.ext_getElem?
      intro j
      rw [List.getElem?_set]
      split
      · rename_i hj; subst hj; rw [hm]; split
        · rfl
        · rename_i hh; exact absurd (List.getElem?_eq_some_iff.1 hm).1 hh
      · rfl] at k
    exact post_same hS (.tup _ _ rfl fun j d hj => by simp at hj) k
  · obtain ⟨b, n, hρ, rfl, h5⟩ := h3 (Nat.pos_of_ne_zero h0)
    clear h3
    obtain ⟨_, _, _, _, g2', g3, _⟩ := hS.row hm hρ
    rw [encs_len] at g3
    obtain ⟨z, hz1, hz2⟩ := run_zero hz X.w
    have hcells := madeRow (L := X.lay) (n := l.length - i) hz.one
    have hzc : (Builtin.zeroCells z.cells (l.length - i)) = ((Array.range ((l.length - i) * zs.length)).map (zs.toArray[· % zs.toArray.size]!)) := by rw [hz2]; simp [Builtin.zeroCells]
    rw [← hzc] at hcells
    have hmul : i * Enc.es α + (l.length - i) * Enc.es α = l.length * Enc.es α := by rw [← Nat.add_mul]; congr 1; omega
    have hst := post_store (P := P) (v := .tuple #[]) (d := .tup []) (K := fun _ s => s = X.σ.set m (.row g (encs (l.take i) ++ zerosD zs (l.length - i)))) (vs := (Builtin.zeroCells z.cells (l.length - i)).toList) (ds := zerosD zs (l.length - i)) (cs' := encs (l.take i) ++ zerosD zs (l.length - i)) (o := i * Enc.es α) hS hm hρ
      (by simpa using hcells.1) hcells.2.1 (fun j e hj => by simpa [Array.getD_eq_getD_getElem?] using hcells.2.2 j e hj) (by rw [zerosD_len, hzl]; omega) (by rw [List.length_append, zerosD_len, hzl, encs_len, List.length_take, Nat.min_eq_left hi]; omega)
      (fun j => by
        have hl1 : (encs (l.take i)).length = i * Enc.es α := by rw [encs_len, List.length_take, Nat.min_eq_left hi]
        rw [List.getElem?_append, hl1, zerosD_len, hzl]
        split
        · rw [if_neg (by omega), ← encs_take, List.getElem?_take, if_pos (by omega)]
        · split
          · rfl
          · rw [List.getElem?_eq_none (by rw [zerosD_len, hzl]; omega), List.getElem?_eq_none (by rw [encs_len]; omega)])
      (fun L _ => .tup _ _ rfl fun j d hj => by simp at hj) rfl
    have hrun : (Builtin.clear_ #[t] type #[.slice (some ⟨b, i * Enc.es α, none⟩) (l.length - i) cap]).run P X.w = .ok (.tuple #[]) (X.w.setCells b (i * Enc.es α) (Builtin.zeroCells z.cells (l.length - i)).toList) := by
      obtain ⟨q, hq⟩ : ∃ q, l.length - i = q + 1 := Nat.exists_eq_succ_of_ne_zero h0
      have hst1 := hst.1
      rw [hq] at hst1 ⊢
      simp [Builtin.clear_, run_underlying ht.u, hz1, hst1]
    rw [hrun]
    refine APost.trunc (k := m) (g := g) (cs := encs (l.take i) ++ zerosD zs (l.length - i)) (cs' := encs (l.take i)) (r := zerosD zs (l.length - i)) (d := .tup []) (fun L => .tup _ _ rfl fun j d hj => by simp at hj) ⟨X.σ.set m (.row g (encs (l.take i) ++ zerosD zs (l.length - i))), ?_, rfl, hst.2, ?_⟩
    · rw [List.getElem?_set, if_pos rfl, if_pos (List.getElem?_eq_some_iff.1 hm).1]
    · rw [List.set_set]; exact k
end
section
variable {P : Program} {G : Nat → DV} {E : AX} {n : Nat} {N : ASt → Prop} {xs : List (Nat × (ASt → Prop))} {R : ASt → Prop} {st : ASt}
/-- A loop over states that two things name. -/
theorem r_loop2 {c : Code} {ι κ : Type} (I : ι → κ → ASt) (pre : ι → κ → Prop) (μ : ι → κ → Nat) (x0 : ι) (y0 : κ) (h0 : ALe st (I x0 y0)) (hp0 : pre x0 y0)
    (round : ∀ x y, pre x y → ARun P G E n c (fun st' => ∃ x' y', pre x' y' ∧ μ x' y' < μ x y ∧ ALe st' (I x' y')) xs R (I x y)) : ARun P G E n (.loop c) N xs R st :=
  r_loop (fun z : ι × κ => I z.1 z.2) (fun z => pre z.1 z.2) (fun z => μ z.1 z.2) (x0, y0) h0 hp0 fun ⟨x, y⟩ h1 a w hr =>
    wp_mono (round x y h1 a w hr) fun e a' w' ⟨st', hr', hq⟩ => by
      refine ⟨st', hr', ?_⟩
      cases e with
      | normal => obtain ⟨x', y', h3, h4, h5⟩ := hq; exact ⟨(x', y'), h3, h4, h5⟩
      | exit id => exact hq
      | ret => exact hq
      | goto l => exact hq.elim
      | panic ch => exact hq.elim
      | outgrown => exact hq.elim
end
section
variable {P : Program} {G : Nat → DV} {B : Nat} {f : Operand → DV} {σ : List ABlk} {K : DV → List ABlk → Prop} {dst : Option Tmp} {type : TypeId} {pos : String} {after : Array Edge} {gd : Option (Nat × Bool)}
theorem s_idx_ref1i {t e : TypeId} {d : TypeDesc} {g1 g2 : Bool} {z1 : Nat} {x y : Operand} {m g len : Nat} {cs : List DV} {kd : IntKind} {i : Int} [ht : TyI P t (.slice e) g1 z1] [he : TyI P e d g2 1]
    (hx : f x = .ref m g 0 len 1) (hm : σ[m]? = some (.row g cs)) (hy : f y = .sc (.int kd i)) (h0 : 0 ≤ i) (h1 : i.toNat < len) (k : K (.ptr m g i.toNat) σ) : OpSem P G B ⟨dst, .indexAddr t x y, type, pos, after, gd⟩ f σ K :=
  s_idx_ref hx hm hy h0 h1 (by simpa using k)
theorem s_idx_refoi {t e : TypeId} {d : TypeDesc} {g1 g2 : Bool} {z1 : Nat} {x y : Operand} {m g off len : Nat} {cs : List DV} {kd : IntKind} {i : Int} [ht : TyI P t (.slice e) g1 z1] [he : TyI P e d g2 1]
    (hx : f x = .ref m g off len 1) (hm : σ[m]? = some (.row g cs)) (hy : f y = .sc (.int kd i)) (h0 : 0 ≤ i) (h1 : i.toNat < len) (k : K (.ptr m g (off + i.toNat)) σ) : OpSem P G B ⟨dst, .indexAddr t x y, type, pos, after, gd⟩ f σ K :=
  s_idx_ref hx hm hy h0 h1 (by simpa using k)
end
section
variable {P : Program} {G : Nat → DV} {E : AX}
/-- A nil slice is handed back as an owned one. -/
theorem c_own_nil {B es : Nat} {σ : List ABlk} (hB : B ≤ E.N) : AClose E (fun d' σ' => ∃ g, B < g ∧ d' = .ref 0 g 0 0 es ∧ σ' = [.row g []]) (.sc (.slice none 0 0)) σ := fun X v hσ hS hE hv => by
  have hE1 : WExt X { X with σ := [] } := WExt.shrink fun k g hg => by simp at hg
  have hS1 : Sto { X with σ := [] } := hS.shrink fun k B hB => by simp at hB
  have hob : ∀ b nn, (none : Option (Nat × Nat)) = some (b, nn) → X.w.heap.size ≤ b := fun _ _ h => by cases h
  have hE2 := WExt.push hS1 (Keep.refl X.w) (B := .row (X.N + 1) []) rfl hob
  have hS2 := hS1.push (Keep.refl X.w) (B := .row (X.N + 1) []) rfl hob rfl
  refine ⟨AX.push { X with σ := [] } X.w none (.row (X.N + 1) []), rfl, hS2, hE.trans (hE1.trans hE2), .ref 0 (X.N + 1) 0 0 es, ?_, X.N + 1, by have := hE.top; omega, rfl, rfl⟩
  rw [VRep.sc_eq hv]
  refine .ref _ _ _ _ _ _ _ _ (Nat.le_refl _) fun ob hobb => ?_
  have hh := AX.row_mk (X := AX.push { X with σ := [] } X.w none (.row (X.N + 1) [])) (k := 0) (g := X.N + 1) (AX.push_live.2 (.inr ⟨rfl, rfl⟩))
  rw [hh] at hobb
  simp only [AX.push, List.length_nil, if_true, Option.some.injEq] at hobb
  subst hobb
  exact ⟨rfl, rfl, rfl⟩
variable {B : Nat} {f : Operand → DV} {σ : List ABlk} {K : DV → List ABlk → Prop} {dst : Option Tmp} {type : TypeId} {pos : String} {after : Array Edge} {gd : Option (Nat × Bool)}
theorem s_bslice_none {t e size : Nat} {g1 g2 : Bool} {z1 : Nat} {td : TypeDesc} {zs : List Value} [ht : TyI P t (.slice e) g1 z1] [he : TyI P e td g2 size] [hz : TyZ P e zs] (hzl : zs.length = size)
    (k : ∀ g, B < g → K (.ref σ.length g 0 0 size) (σ ++ [.row g []])) : OpSem P G B ⟨dst, .buildSlice t 0 #[], type, pos, after, gd⟩ f σ K :=
  s_bslice_own (n := 0) (ps := []) hzl rfl (by omega) (cs := []) (by simp [fillD, zerosD, forceD]) (by simp) k
variable {α : Type} [Enc α]
theorem s_app_z {t t' e : TypeId} {d : TypeDesc} {g1 g2 : Bool} {z1 bytes m g es : Nat} {zs : List Value} {x y : Operand} {xs : List α} [ht : TyI P t (.slice e) g1 z1] [ht' : SrcTy P t'] [he : TyI P e d g2 es] [hb : TyB P e bytes] [hz : TyZ P e zs]
    {σ' : Nat → List ABlk} (hzl : zs.length = es) (hx : f x = .ref m g 0 0 es) (hy : f y = slOf xs) (hm : σ[m]? = some (.row g [])) (hes : es = Enc.es α) (hby : xs.length * bytes ≤ 140737488355328) (hsm : xs.length ≤ 9223372036854775807)
    (hσ' : ∀ g', setA σ m (.row g' (encs xs)) = some (σ' g')) (k : ∀ g', B < g' → K (.ref m g' 0 xs.length es) (σ' g')) : OpSem P G B ⟨dst, .call ⟨.builtin .append, #[x, y], #[t, t']⟩, type, pos, after, gd⟩ f σ K := by
  subst hes
  exact s_app (l := []) (xs := xs) hzl hx hm rfl hy srcOf_slOf (by simpa using hby) (by simpa using hsm) hσ' k
theorem s_shr_one {t t' : TypeId} {x y : Operand} {a : Int} {k1 k2 : IntKind} (hx : f x = .sc (.int k1 a)) (hy : f y = .sc (.int k2 1))
    (k : K (.sc (.int k1 (a / 2))) σ) : OpSem P G B ⟨dst, .binOp .shr t x y t', type, pos, after, gd⟩ f σ K :=
  s_shr hx hy (by decide) (by
    have : (2 : Int) ^ min (Int.toNat 1) k1.bits = 2 := by cases k1 <;> rfl
    rw [this]; exact k)
end
section
variable {P : Program} {G : Nat → DV} {B : Nat} {f : Operand → DV} {σ : List ABlk} {K : DV → List ABlk → Prop} {dst : Option Tmp} {type : TypeId} {pos : String} {after : Array Edge} {gd : Option (Nat × Bool)}
/-- A call that writes a row in its place. -/
theorem s_call_m {args : Array Operand} {ts : Array TypeId} {fid : FuncId} {ds ds' cs cs' : List DV} {k g : Nat} {d0 : DV} {res' : Nat → DV} {σ' : List ABlk} [FnOk P fid] (hx : f (.func fid) = .fn (.func fid) [] []) (hds : reL (args.toList.map f) = some ds) (h : Mut1 P G fid g ds' cs res' cs' true) (hk : σ[k]? = some (.row g cs)) (hr : Rens k g ds ds') (hres : Ren k g d0 (res' g))
    (hc : ∀ d ∈ cs, d.clo = true) (hc' : ∀ d ∈ cs', d.clo = true) (hσ' : setA σ k (.row g cs') = some σ') (kk : K d0 σ') : OpSem P G B ⟨dst, .call ⟨.value (.func fid), args, ts⟩, type, pos, after, gd⟩ f σ K := by
  refine s_call hx hds ?_
  intro X vs hS hσ hB hG hvs
  have hm : Mut1 P G fid g ds' cs (fun g' => if g' = g then res' g else DV.any) cs' true := fun B hB => (h B hB).mono fun d σ ⟨g', h1, h2, h3⟩ => by
    rcases h1 with rfl | ⟨h1, _⟩
    · exact ⟨g', .inl rfl, by rw [h2]; simp, h3⟩
    · cases h1
  have := hm.lift (B := B) (k := k) (res := fun g' => if g' = g then d0 else DV.any) hr (fun g' => by
    by_cases hg : g' = g
    · subst hg; simp only [if_pos]; exact hres
    · simp only [if_neg hg]; exact .clo (by simp [DV.clo])) hc hc' hk
  refine (this X vs hS hσ hB hG hvs).mono ?_
  rintro e w' ⟨v, he, X', h1, h2, h3, d, h4, g', h5, h6, h7⟩
  rcases h5 with rfl | ⟨h5, _⟩
  · rw [if_pos rfl] at h6
    subst h6
    refine ⟨v, he, X', h1, h2, h3, _, h4, ?_⟩
    rw [h7, ← setA_eq hσ']; exact kk
  · cases h5
end
section
variable {P : Program} {G : Nat → DV} {B : Nat} {f : Operand → DV} {σ : List ABlk} {K : DV → List ABlk → Prop} {dst : Option Tmp} {type : TypeId} {pos : String} {after : Array Edge} {gd : Option (Nat × Bool)}
/-! The same with the place named. -/
theorem s_idx_refq (q : Nat) {t e : TypeId} {d : TypeDesc} {g1 g2 : Bool} {z1 z2 : Nat} {x y : Operand} {m g off len es : Nat} {cs : List DV} {kd : IntKind} {i : Int} [ht : TyI P t (.slice e) g1 z1] [he : TyI P e d g2 z2]
    (hx : f x = .ref m g off len es) (hm : σ[m]? = some (.row g cs)) (hy : f y = .sc (.int kd i)) (hq : i = q) (h1 : q < len) (k : K (.ptr m g (off + q * z2)) σ) : OpSem P G B ⟨dst, .indexAddr t x y, type, pos, after, gd⟩ f σ K :=
  s_idx_ref hx hm hy (by omega) (by omega) (by rw [show i.toNat = q by omega]; exact k)
theorem s_idx_arrq (q : Nat) {t e : TypeId} {d : TypeDesc} {n : Nat} {g1 g2 : Bool} {z1 z2 : Nat} {x y : Operand} {m g off : Nat} {cs : List DV} {kd : IntKind} {i : Int} [ht : TyI P t (.array n e) g1 z1] [he : TyI P e d g2 z2]
    (hx : f x = .ptr m g off) (hm : σ[m]? = some (.row g cs)) (hy : f y = .sc (.int kd i)) (hq : i = q) (h1 : q < n) (k : K (.ptr m g (off + q * z2)) σ) : OpSem P G B ⟨dst, .indexAddr t x y, type, pos, after, gd⟩ f σ K :=
  s_idx_arr hx hm hy (by omega) (by omega) (by rw [show i.toNat = q by omega]; exact k)
end
section
variable {P : Program} {G : Nat → DV} {E : AX} {n : Nat} {N : ASt → Prop}
theorem g_mkf {st : ASt} {ops : Array Oper} {l : List Oper} {dst : Option Tmp} {fn : Fn} {fst r : Array Operand} {type : TypeId} {pos : String} {after : Array Edge} {gd : Option (Nat × Bool)} (h : AOps P G E n ops (⟨dst, .makeFunc fn fst r, type, pos, after, gd⟩ :: l) N st) : AOps P G E n ops (⟨dst, .makeFunc fn fst r, type, pos, after, gd⟩ :: l) N st := h
/-! A closure takes its variables: they are no longer written. -/
theorem o_mk0 {t : Fr} {σ σ' : List ABlk} {ops : Array Oper} {l : List Oper} {dst : Option Tmp} {fn : Fn} {fst : Array Operand}  {r : List Operand} {type : TypeId} {pos : String} {after : Array Edge} {gd : Option (Nat × Bool)} {i k g : Nat} {cs : List DV} (h : look t i = .ptr k g 0) (hk : σ[k]? = some (.row g cs)) (hσ' : setA σ k .gone = some σ')
    (kk : AOps P G E n ops (⟨dst, .makeFunc fn fst (.tmp i :: r).toArray, type, pos, after, gd⟩ :: l) N ⟨(i, .ep cs) :: t, σ'⟩) : AOps P G E n ops (⟨dst, .makeFunc fn fst (.tmp i :: r).toArray, type, pos, after, gd⟩ :: l) N ⟨t, σ⟩ := o_pubptr i h hk hσ' kk
theorem o_mk1 {t : Fr} {σ σ' : List ABlk} {ops : Array Oper} {l : List Oper} {dst : Option Tmp} {fn : Fn} {fst : Array Operand} {x0 : Operand} {r : List Operand} {type : TypeId} {pos : String} {after : Array Edge} {gd : Option (Nat × Bool)} {i k g : Nat} {cs : List DV} (h : look t i = .ptr k g 0) (hk : σ[k]? = some (.row g cs)) (hσ' : setA σ k .gone = some σ')
    (kk : AOps P G E n ops (⟨dst, .makeFunc fn fst (x0 :: .tmp i :: r).toArray, type, pos, after, gd⟩ :: l) N ⟨(i, .ep cs) :: t, σ'⟩) : AOps P G E n ops (⟨dst, .makeFunc fn fst (x0 :: .tmp i :: r).toArray, type, pos, after, gd⟩ :: l) N ⟨t, σ⟩ := o_pubptr i h hk hσ' kk
theorem o_mk2 {t : Fr} {σ σ' : List ABlk} {ops : Array Oper} {l : List Oper} {dst : Option Tmp} {fn : Fn} {fst : Array Operand} {x0 : Operand} {x1 : Operand} {r : List Operand} {type : TypeId} {pos : String} {after : Array Edge} {gd : Option (Nat × Bool)} {i k g : Nat} {cs : List DV} (h : look t i = .ptr k g 0) (hk : σ[k]? = some (.row g cs)) (hσ' : setA σ k .gone = some σ')
    (kk : AOps P G E n ops (⟨dst, .makeFunc fn fst (x0 :: x1 :: .tmp i :: r).toArray, type, pos, after, gd⟩ :: l) N ⟨(i, .ep cs) :: t, σ'⟩) : AOps P G E n ops (⟨dst, .makeFunc fn fst (x0 :: x1 :: .tmp i :: r).toArray, type, pos, after, gd⟩ :: l) N ⟨t, σ⟩ := o_pubptr i h hk hσ' kk
theorem o_mk3 {t : Fr} {σ σ' : List ABlk} {ops : Array Oper} {l : List Oper} {dst : Option Tmp} {fn : Fn} {fst : Array Operand} {x0 : Operand} {x1 : Operand} {x2 : Operand} {r : List Operand} {type : TypeId} {pos : String} {after : Array Edge} {gd : Option (Nat × Bool)} {i k g : Nat} {cs : List DV} (h : look t i = .ptr k g 0) (hk : σ[k]? = some (.row g cs)) (hσ' : setA σ k .gone = some σ')
    (kk : AOps P G E n ops (⟨dst, .makeFunc fn fst (x0 :: x1 :: x2 :: .tmp i :: r).toArray, type, pos, after, gd⟩ :: l) N ⟨(i, .ep cs) :: t, σ'⟩) : AOps P G E n ops (⟨dst, .makeFunc fn fst (x0 :: x1 :: x2 :: .tmp i :: r).toArray, type, pos, after, gd⟩ :: l) N ⟨t, σ⟩ := o_pubptr i h hk hσ' kk
end
theorem ac_nil : ∀ d ∈ ([] : List DV), d.clo = true := fun d h => by simp at h
theorem ac_cons {d : DV} {r : List DV} (h : d.clo = true) (k : ∀ e ∈ r, e.clo = true) : ∀ e ∈ d :: r, e.clo = true := fun e he => by
  rcases List.mem_cons.1 he with rfl | he
  · exact h
  · exact k e he
section
variable {P : Program} {G : Nat → DV} {B : Nat} {f : Operand → DV} {σ : List ABlk} {K : DV → List ABlk → Prop} {dst : Option Tmp} {type : TypeId} {pos : String} {after : Array Edge} {gd : Option (Nat × Bool)}
theorem s_eql_b {t t' : TypeId} {z : Nat} {x y : Operand} {a b : Bool} [ht : TyI P t .bool false z] (hx : f x = .sc (.bool a)) (hy : f y = .sc (.bool b)) (k : K (.sc (.bool (a == b))) σ) : OpSem P G B ⟨dst, .binOp .eql t x y t', type, pos, after, gd⟩ f σ K :=
  s_bin hx hy (fun w => by
    have : (eqGuard .eql t x y (.bool a) (.bool b)).run P w = .ok () w := by unfold eqGuard; rfl
    rw [Sem.run_bind, this]
    simp [binOp, run_equal_bool w t a b ht.u]) k
theorem s_neq_b {t t' : TypeId} {z : Nat} {x y : Operand} {a b : Bool} [ht : TyI P t .bool false z] (hx : f x = .sc (.bool a)) (hy : f y = .sc (.bool b)) (k : K (.sc (.bool (!(a == b)))) σ) : OpSem P G B ⟨dst, .binOp .neq t x y t', type, pos, after, gd⟩ f σ K :=
  s_bin hx hy (fun w => by
    have : (eqGuard .neq t x y (.bool a) (.bool b)).run P w = .ok () w := by unfold eqGuard; rfl
    rw [Sem.run_bind, this]
    simp [binOp, run_equal_bool w t a b ht.u]) k
end
end Go.Av
