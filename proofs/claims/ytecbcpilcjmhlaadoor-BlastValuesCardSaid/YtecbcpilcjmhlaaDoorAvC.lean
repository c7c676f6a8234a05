/-
  The operations over abstract values: eighth part (slicing, min, clear, equality), and calls that write one row of the caller's.
-/
import Derived.Test.YtecbcpilcjmhlaaDoorAvB
namespace Go.Av
open Classical
set_option linter.unusedSimpArgs false
set_option linter.unusedVariables false

section
variable {P : Program} {G : Nat → DV} {B : Nat} {f : Operand → DV} {σ : List ABlk} {K : DV → List ABlk → Prop} {dst : Option Tmp} {type : TypeId} {pos : String} {after : Array Edge} {gd : Option (Nat × Bool)}
variable {α : Type} [Enc α]

/-! Slicing. -/
def cut (a : Option Addr) (l cap s : Nat) : Option Addr := if cap = l then a else a.map (·.add (l * s))
theorem cut_zero (a : Option Addr) (cap s : Nat) : cut a 0 cap s = a := by
  unfold cut; split
  · rfl
  · cases a with
    | none => rfl
    | some a => simp [Addr.add]

/-- The bounds of a slice expression. -/
inductive Bnd : Option Value → Option Value → (len l h : Nat) → Prop
  | lh {len l h : Nat} {k1 k2 : IntKind} {x y : Int} : x = l → y = h → l ≤ h → Bnd (some (.int k1 x)) (some (.int k2 y)) len l h
  | h {len h : Nat} {k2 : IntKind} {y : Int} : y = h → Bnd none (some (.int k2 y)) len 0 h
  | l {len l : Nat} {k1 : IntKind} {x : Int} : x = l → l ≤ len → Bnd (some (.int k1 x)) none len l len
  | all {len : Nat} : Bnd none none len 0 len

theorem run_slice_sl {t e size : Nat} {g1 g2 : Bool} {z1 : Nat} {td : TypeDesc} (ht : TyI P t (.slice e) g1 z1) (he : TyI P e td g2 size) {a : Option Addr} {len cap l h : Nat} {lo hi : Option Value} (hb : Bnd lo hi len l h) (hlen : len ≤ cap) (hc : h ≤ cap) (w : World) :
    (Instr.sliceAt t (.slice a len cap) lo hi none).run P w = .ok (.slice (cut a l cap size) (h - l) (cap - l)) w := by
  have h0 : (Instr.sliceAt t (.slice a len cap) lo hi none).run P w = (Instr.slice t (.slice a len cap) lo hi none).run P w := by simp [Instr.sliceAt, run_underlying ht.u]
  rw [h0]
  cases hb with
  | lh h1 h2 h3 =>
    subst h1; subst h2
    simp [Instr.slice, run_underlying ht.u, Instr.sliceBounds, Instr.sliceBound, asIntOf, run_sizeOf he, cut, hc, h3, Int.ofNat_le]
  | h h1 =>
    subst h1
    simp [Instr.slice, run_underlying ht.u, Instr.sliceBounds, Instr.sliceBound, asIntOf, run_sizeOf he, cut, hc, Int.ofNat_le]
  | l h1 h2 =>
    subst h1
    simp [Instr.slice, run_underlying ht.u, Instr.sliceBounds, Instr.sliceBound, asIntOf, run_sizeOf he, cut, h2, Int.ofNat_le]
  | all => simp [Instr.slice, run_underlying ht.u, Instr.sliceBounds, Instr.sliceBound, asIntOf, run_sizeOf he, cut]

theorem sl_sub {L : Lay} {es : Nat} {cs : List DV} {a : Option Addr} {len cap l h : Nat} (hv : VRep L (.sl es cs) (.slice a len cap)) (hlh : l ≤ h) (hh : h ≤ len) : VRep L (.sl es ((cs.drop (l * es)).take ((h - l) * es))) (.slice (cut a l cap es) (h - l) (cap - l)) := by
  obtain ⟨a', len', cap', fv, he, h1, h2, h3, h4, h5⟩ := hv.sl_inv
  cases he
  have hle : h * es ≤ cs.length := by rw [← h1]; exact Nat.mul_le_mul_right _ hh
  have hsub : (h - l) * es = h * es - l * es := Nat.sub_mul _ _ _
  have hll : l * es ≤ h * es := Nat.mul_le_mul_right _ hlh
  have hget : ∀ j d, ((cs.drop (l * es)).take ((h - l) * es))[j]? = some d → cs[l * es + j]? = some d := fun j d hj => by
    rw [List.getElem?_take] at hj
    split at hj
    · rwa [List.getElem?_drop] at hj
    · cases hj
  refine .sl _ _ _ _ _ (fun j => fv (l * es + j)) (by simp; omega) (by omega) (fun d hd => h3 d (List.mem_of_mem_drop (List.mem_of_mem_take hd))) ?_ (fun j d hj => h5 _ d (hget j d hj))
  by_cases h0 : (h - l) * es = 0
  · left; rw [h0, List.take_zero]
  · right
    rcases h4 with h4 | ⟨b, o, rfl, h6⟩
    · subst h4; simp at hle; omega
    · refine ⟨b, o + l * es, ?_, fun j hj => ?_⟩
      · have hne : cap ≠ l := fun e => by
          have : h = l := by omega
          rw [this] at h0; simp at h0
        simp [cut, hne, add_none]
      · rw [List.length_take, List.length_drop] at hj
        rw [Nat.add_assoc]
        exact h6 _ (by omega)

/-- The two bounds of a slice expression, by what is known of the operands. -/
def optV (f : Operand → DV) : Option Operand → Option Value → Prop
  | none, none => True
  | some x, some v => f x = .sc v
  | _, _ => False
theorem optV_eq {X : AX} {ρ : Operand → Value} {x : Option Operand} {v : Option Value} (hf : ∀ y ∈ x.toList, VRep X.lay (f y) (ρ y)) (h : optV f x v) : x.map ρ = v := by
  cases x with
  | none =>
    cases v with
    | none => rfl
    | some v => exact h.elim
  | some x =>
    cases v with
    | none => exact h.elim
    | some v =>
      have h : f x = .sc v := h
      have h1 := hf x (by simp)
      rw [h] at h1
      rw [Option.map_some, VRep.sc_eq h1]

theorem s_slice_d {t e es : Nat} {g1 g2 : Bool} {z1 : Nat} {td : TypeDesc} {x : Operand} {lo hi : Option Operand} {vlo vhi : Option Value} {cs : List DV} {len l h : Nat} [ht : TyI P t (.slice e) g1 z1] [he : TyI P e td g2 es] (hx : f x = .sl es cs) (hlen : cs.length = len * es) (h0 : 0 < es)
    (hlo : optV f lo vlo) (hhi : optV f hi vhi) (hb : Bnd vlo vhi len l h) (hlh : l ≤ h) (hh : h ≤ len) (k : K (.sl es ((cs.drop (l * es)).take ((h - l) * es))) σ) : OpSem P G B ⟨dst, .slice t x lo hi none, type, pos, after, gd⟩ f σ K := fun X ρ hS hσ _ _ hf => by
  subst hσ
  have e1 := hf x (by simp [Op.operands]); rw [hx] at e1
  have e2 := optV_eq (fun y hy => hf y (by simp [Op.operands]; simp at hy; simp [hy])) hlo
  have e3 := optV_eq (fun y hy => hf y (by simp [Op.operands]; simp at hy; simp [hy])) hhi
  obtain ⟨a, len', cap, fv, e4, h1, h2, _⟩ := e1.sl_inv
  have : len' = len := Nat.eq_of_mul_eq_mul_right h0 (by omega)
  subst this
  rw [e4] at e1
  simp only [execOp, e4, e2, e3, Option.map_none, run_slice_sl ht he hb h2 (by omega), Sem.run_bind, Sem.run_pure, Result.andThen_ok]
  exact post_same hS (sl_sub e1 hlh hh) k

theorem s_slice_e {t e : Nat} {g1 g2 : Bool} {z1 : Nat} {td : TypeDesc} {x : Operand} {lo hi : Option Operand} {vlo vhi : Option Value} {xs : List α} {l h : Nat} [ht : TyI P t (.slice e) g1 z1] [he : TyI P e td g2 (Enc.es α)] (hx : f x = slOf xs)
    (hlo : optV f lo vlo) (hhi : optV f hi vhi) (hb : Bnd vlo vhi xs.length l h) (hlh : l ≤ h) (hh : h ≤ xs.length) (k : K (slOf ((xs.drop l).take (h - l))) σ) : OpSem P G B ⟨dst, .slice t x lo hi none, type, pos, after, gd⟩ f σ K :=
  s_slice_d hx (by rw [encs_len]) Enc.pos hlo hhi hb hlh hh (by rw [encs_drop, encs_take]; exact k)
theorem s_slice_h {t e : Nat} {g1 g2 : Bool} {z1 : Nat} {td : TypeDesc} {x y : Operand} {kd : IntKind} {i : Int} {xs : List α} [ht : TyI P t (.slice e) g1 z1] [he : TyI P e td g2 (Enc.es α)] (hx : f x = slOf xs) (hy : f y = .sc (.int kd i)) (h0 : 0 ≤ i) (hh : i.toNat ≤ xs.length)
    (k : K (slOf (xs.take i.toNat)) σ) : OpSem P G B ⟨dst, .slice t x none (some y) none, type, pos, after, gd⟩ f σ K :=
  s_slice_e (vlo := none) (l := 0) (h := i.toNat) hx trivial (vhi := some (.int kd i)) hy (.h (by omega)) (Nat.zero_le _) hh (by simpa using k)
theorem s_slice_hn {t e : Nat} {g1 g2 : Bool} {z1 : Nat} {td : TypeDesc} {x y : Operand} {kd : IntKind} {i : Nat} {xs : List α} [ht : TyI P t (.slice e) g1 z1] [he : TyI P e td g2 (Enc.es α)] (hx : f x = slOf xs) (hy : f y = .sc (.int kd (i : Nat))) (hh : i ≤ xs.length)
    (k : K (slOf (xs.take i)) σ) : OpSem P G B ⟨dst, .slice t x none (some y) none, type, pos, after, gd⟩ f σ K := s_slice_h hx hy (by omega) (by simpa using hh) (by simpa using k)
theorem s_slice_l {t e : Nat} {g1 g2 : Bool} {z1 : Nat} {td : TypeDesc} {x y : Operand} {kd : IntKind} {i : Int} {xs : List α} [ht : TyI P t (.slice e) g1 z1] [he : TyI P e td g2 (Enc.es α)] (hx : f x = slOf xs) (hy : f y = .sc (.int kd i)) (h0 : 0 ≤ i) (hh : i.toNat ≤ xs.length)
    (k : K (slOf (xs.drop i.toNat)) σ) : OpSem P G B ⟨dst, .slice t x (some y) none none, type, pos, after, gd⟩ f σ K :=
  s_slice_e (vhi := none) (l := i.toNat) (h := xs.length) hx (vlo := some (.int kd i)) hy trivial (.l (by omega) hh) hh (Nat.le_refl _) (by rw [List.take_of_length_le (by simp)]; exact k)
theorem s_slice_ln {t e : Nat} {g1 g2 : Bool} {z1 : Nat} {td : TypeDesc} {x y : Operand} {kd : IntKind} {i : Nat} {xs : List α} [ht : TyI P t (.slice e) g1 z1] [he : TyI P e td g2 (Enc.es α)] (hx : f x = slOf xs) (hy : f y = .sc (.int kd (i : Nat))) (hh : i ≤ xs.length)
    (k : K (slOf (xs.drop i)) σ) : OpSem P G B ⟨dst, .slice t x (some y) none none, type, pos, after, gd⟩ f σ K := s_slice_l hx hy (by omega) (by simpa using hh) (by simpa using k)

/-- Of a row of the store. -/
theorem s_slice_r {t e es : Nat} {g1 g2 : Bool} {z1 : Nat} {td : TypeDesc} {x : Operand} {lo hi : Option Operand} {vlo vhi : Option Value} {m g off len l h : Nat} {cs : List DV} [ht : TyI P t (.slice e) g1 z1] [he : TyI P e td g2 es] (hx : f x = .ref m g off len es) (hm : σ[m]? = some (.row g cs))
    (hlo : optV f lo vlo) (hhi : optV f hi vhi) (hb : Bnd vlo vhi len l h) (hlh : l ≤ h) (hh : h ≤ len) (k : K (.ref m g (off + l * es) (h - l) es) σ) : OpSem P G B ⟨dst, .slice t x lo hi none, type, pos, after, gd⟩ f σ K := fun X ρ hS hσ _ _ hf => by
  subst hσ
  have e1 := hf x (by simp [Op.operands]); rw [hx] at e1
  have e2 := optV_eq (fun y hy => hf y (by simp [Op.operands]; simp at hy; simp [hy])) hlo
  have e3 := optV_eq (fun y hy => hf y (by simp [Op.operands]; simp at hy; simp [hy])) hhi
  have hr := e1.ref_inv hm
  obtain ⟨a, cap, e4, h2, h3⟩ := e1.ref_slice hm
  simp only [execOp, e4, e2, e3, Option.map_none, run_slice_sl ht he hb h2 (by omega), Sem.run_bind, Sem.run_pure, Result.andThen_ok]
  refine post_same hS (.ref _ _ _ _ _ _ _ _ (hS.gen m g (live_row hm)) fun ob hob => ?_) k
  rw [AX.row_mk (live_row hm)] at hob
  rw [← Option.some.inj hob]
  unfold RefOk at hr ⊢
  cases hρ : X.ρ m with
  | none =>
    rw [hρ] at hr
    obtain ⟨hs, h5, h6⟩ := hr
    rw [e4] at hs
    cases hs
    have : l = 0 := by omega
    subst this
    have : h = 0 := by omega
    subst this
    exact ⟨by simp [cut], by omega, by omega⟩
  | some z =>
    obtain ⟨b, n⟩ := z
    rw [hρ] at hr
    obtain ⟨a', cap', hs, h5, h6⟩ := hr
    rw [e4] at hs
    cases hs
    refine ⟨_, cap - l, rfl, by omega, ?_⟩
    by_cases hcl : cap = l
    · left; omega
    · right
      rcases h6 with h6 | ⟨rfl, h6⟩
      · omega
      · refine ⟨by simp [cut, hcl, add_none], ?_⟩
        have : (cap - l) * es = cap * es - l * es := Nat.sub_mul _ _ _
        have : l * es ≤ cap * es := Nat.mul_le_mul_right _ (by omega)
        omega
theorem s_slice_rh {t e es : Nat} {g1 g2 : Bool} {z1 : Nat} {td : TypeDesc} {x y : Operand} {kd : IntKind} {i : Nat} {m g off len : Nat} {cs : List DV} [ht : TyI P t (.slice e) g1 z1] [he : TyI P e td g2 es] (hx : f x = .ref m g off len es) (hm : σ[m]? = some (.row g cs)) (hy : f y = .sc (.int kd (i : Nat))) (hh : i ≤ len)
    (k : K (.ref m g off i es) σ) : OpSem P G B ⟨dst, .slice t x none (some y) none, type, pos, after, gd⟩ f σ K :=
  s_slice_r (vlo := none) (vhi := some (.int kd i)) (l := 0) (h := i) hx hm trivial hy (.h rfl) (Nat.zero_le _) hh (by simpa using k)
theorem s_slice_rl {t e es : Nat} {g1 g2 : Bool} {z1 : Nat} {td : TypeDesc} {x y : Operand} {kd : IntKind} {i : Nat} {m g off len : Nat} {cs : List DV} [ht : TyI P t (.slice e) g1 z1] [he : TyI P e td g2 es] (hx : f x = .ref m g off len es) (hm : σ[m]? = some (.row g cs)) (hy : f y = .sc (.int kd (i : Nat))) (hh : i ≤ len)
    (k : K (.ref m g (off + i * es) (len - i) es) σ) : OpSem P G B ⟨dst, .slice t x (some y) none none, type, pos, after, gd⟩ f σ K :=
  s_slice_r (vhi := none) (vlo := some (.int kd i)) (l := i) (h := len) hx hm hy trivial (.l rfl hh) hh (Nat.le_refl _) k

/-! Typed cells of a row. -/
theorem encs_at1 (h1 : Enc.es α = 1) {l : List α} {i : Nat} {d : DV} (hi : i < l.length) (hd : Enc.enc l[i] = [d]) : (encs l)[i]? = some d := by
  have := encs_at l i hi 0 (by omega)
  rw [h1, Nat.mul_one, Nat.add_zero, hd] at this
  exact this
theorem s_idx_ref1 {t e : TypeId} {d : TypeDesc} {g1 g2 : Bool} {z1 : Nat} {x y : Operand} {m g len : Nat} {cs : List DV} {kd : IntKind} {i : Nat} [ht : TyI P t (.slice e) g1 z1] [he : TyI P e d g2 1]
    (hx : f x = .ref m g 0 len 1) (hm : σ[m]? = some (.row g cs)) (hy : f y = .sc (.int kd (i : Nat))) (h1 : i < len) (k : K (.ptr m g i) σ) : OpSem P G B ⟨dst, .indexAddr t x y, type, pos, after, gd⟩ f σ K :=
  s_idx_ref hx hm hy (by omega) (by simpa using h1) (by simpa using k)
theorem s_idx_refo {t e : TypeId} {d : TypeDesc} {g1 g2 : Bool} {z1 : Nat} {x y : Operand} {m g off len : Nat} {cs : List DV} {kd : IntKind} {i : Nat} [ht : TyI P t (.slice e) g1 z1] [he : TyI P e d g2 1]
    (hx : f x = .ref m g off len 1) (hm : σ[m]? = some (.row g cs)) (hy : f y = .sc (.int kd (i : Nat))) (h1 : i < len) (k : K (.ptr m g (off + i)) σ) : OpSem P G B ⟨dst, .indexAddr t x y, type, pos, after, gd⟩ f σ K :=
  s_idx_ref hx hm hy (by omega) (by simpa using h1) (by simpa using k)
theorem s_load_e1 {t : TypeId} {td : TypeDesc} {size : Nat} {x : Operand} {m g i : Nat} {l : List α} {d : DV} [ht : TyI P t td false size] (hx : f x = .ptr m g i) (hm : σ[m]? = some (.row g (encs l))) (h1 : Enc.es α = 1) (hi : i < l.length) (hd : Enc.enc l[i] = [d]) (k : K d σ) :
    OpSem P G B ⟨dst, .load t x, type, pos, after, gd⟩ f σ K := s_load_row hx hm (encs_at1 h1 hi hd) k
theorem s_store_e1 {t : TypeId} {td : TypeDesc} {agg : Bool} {x y : Operand} {m g i : Nat} {l : List α} {z : α} {d : DV} {σ' : List ABlk} [ht : TyI P t td agg 1] (hx : f x = .ptr m g i) (hm : σ[m]? = some (.row g (encs l))) (h1 : Enc.es α = 1) (hy : f y = d) (hd : dcells d = some (Enc.enc z))
    (hi : i < l.length) (hσ' : setA σ m (.row g (encs (l.set i z))) = some σ') (k : K (.sc undef) σ') : OpSem P G B ⟨dst, .store t x y, type, pos, after, gd⟩ f σ K :=
  s_store_e hx hm hy hd h1 (by rw [h1, Nat.mul_one]) hi hσ' k

/-! min, max -/
theorem run_min2 {k1 : IntKind} {a b : Int} (w : World) : (Builtin.min_ #[] 0 #[.int k1 a, .int k1 b]).run P w = .ok (.int k1 (if b < a then b else a)) w := by
  simp [Builtin.min_, Builtin.min2]
theorem s_min {ts : Array TypeId} {x y : Operand} {k1 : IntKind} {a b : Int} (hx : f x = .sc (.int k1 a)) (hy : f y = .sc (.int k1 b)) (k : K (.sc (.int k1 (min a b))) σ) : OpSem P G B ⟨dst, .call ⟨.builtin .min, #[x, y], ts⟩, type, pos, after, gd⟩ f σ K := fun X ρ hS hσ _ _ hf => by
  subst hσ
  have e1 := hf x (by simp [Op.operands, Call.operands]); rw [hx] at e1
  have e2 := hf y (by simp [Op.operands, Call.operands]); rw [hy] at e2
  have : (Builtin.min_ ts type #[.int k1 a, .int k1 b]).run P X.w = .ok (.int k1 (min a b)) X.w := by
    simp only [Builtin.min_, Builtin.min2, List.foldlM_cons, List.foldlM_nil, Sem.run_bind, Sem.run_pure, Result.andThen_ok]
    rw [Int.min_def]; split <;> split <;> first | rfl | (congr 2; omega)
  simp only [execOp, resolve, invoke, builtin, List.map_toArray, List.map_cons, List.map_nil, Sem.run_bind, Sem.run_pure, Result.andThen_ok, VRep.sc_eq e1, VRep.sc_eq e2, this]
  exact post_same hS (.sc _) k

/-! A slice against nil. -/
theorem run_eq_nil {t e t' : TypeId} {g1 : Bool} {z1 : Nat} (ht : TyI P t (.slice e) g1 z1) {a : Option Addr} {n c : Nat} (w : World) : (binOp .eql t (.slice a n c) (.slice none 0 0)).run P w = .ok (.bool a.isNone) w := by
  have h1 : (Op.equal t (.slice a n c) (.slice none 0 0)).run P w = .ok a.isNone w := by
    show (Op.equalIn (9999 + 1) t _ _).run P w = _
    unfold Op.equalIn
    simp only [Sem.run_bind, run_underlying ht.u, Result.andThen_ok]
    cases a <;> rfl
  show (do pure (.bool (← Op.equal t (.slice a n c) (.slice none 0 0))) : Sem Value).run P w = _
  simp only [Sem.run_bind, h1, Result.andThen_ok, Sem.run_pure]
theorem s_eq_nil {t e t' : TypeId} {g1 : Bool} {z1 : Nat} {x y : Operand} {n c : Nat} [ht : TyI P t (.slice e) g1 z1] (hx : f x = .sc (.slice none n c)) (hy : f y = .sc (.slice none 0 0)) (k : K (.sc (.bool true)) σ) : OpSem P G B ⟨dst, .binOp .eql t x y t', type, pos, after, gd⟩ f σ K :=
  s_bin hx hy (fun w => by simp only [Sem.run_bind, show (eqGuard .eql t x y (.slice none n c) (.slice none 0 0)).run P w = .ok () w from rfl, Result.andThen_ok, run_eq_nil (t' := t') ht]; rfl) k
/-- Of a list that may be empty nothing is known. -/
theorem s_eq_nil_d {t e t' es : TypeId} {g1 : Bool} {z1 : Nat} {x y : Operand} {cs : List DV} [ht : TyI P t (.slice e) g1 z1] (hx : f x = .sl es cs) (hy : f y = .sc (.slice none 0 0)) (kt : cs = [] → K (.sc (.bool true)) σ) (kf : K (.sc (.bool false)) σ) : OpSem P G B ⟨dst, .binOp .eql t x y t', type, pos, after, gd⟩ f σ K := fun X ρ hS hσ _ _ hf => by
  subst hσ
  have e1 := hf x (by simp [Op.operands]); rw [hx] at e1
  have e2 := hf y (by simp [Op.operands]); rw [hy] at e2
  obtain ⟨a, len, cap, fv, e3, _, _, _, h4, _⟩ := e1.sl_inv
  have hg : (eqGuard .eql t x y (.slice a len cap) (.slice none 0 0)).run P X.w = .ok () X.w := rfl
  simp only [execOp, e3, VRep.sc_eq e2, Sem.run_bind, hg, run_eq_nil (t' := t') ht, Result.andThen_ok, Sem.run_pure]
  cases a with
  | none =>
    refine post_same hS (.sc _) (kt ?_)
    rcases h4 with h4 | ⟨_, _, h4, _⟩
    · exact h4
    · cases h4
  | some a => exact post_same hS (.sc _) kf
end

/-! A row cut short: less of it is known. -/
section
variable {P : Program} {G : Nat → DV} {E : AX} {n : Nat} {st : ASt} {R : DV → List ABlk → Prop}
theorem trunc {X : AX} (hS : Sto X) {k g m : Nat} {cs : List DV} (hk : X.σ[k]? = some (.row g cs)) (hm : cs.take m ≠ [] ∨ True) : WExt X { X with σ := X.σ.set k (.row g (cs.take m)) } ∧ Sto { X with σ := X.σ.set k (.row g (cs.take m)) } := by
  have hkl : k < X.σ.length := (List.getElem?_eq_some_iff.1 hk).1
  have hl : ∀ (i g' : Nat), (((X.σ.set k (.row g (cs.take m)))[i]?).bind ABlk.gen? = some g') ↔ X.live i g' := fun i g' => by
    rw [List.getElem?_set]
    by_cases h : k = i
    · subst h
      rw [if_pos rfl, if_pos hkl]
      simp only [AX.live, hk]
      rfl
    · simp [h, AX.live]
  have hE : WExt X { X with σ := X.σ.set k (.row g (cs.take m)) } := WExt.shrink fun i g' h => (hl i g').1 h
  refine ⟨hE, {
    inj := fun i i' g1 g2 b n1 n2 h1 h2 => hS.inj i i' g1 g2 b n1 n2 ((hl i g1).1 h1) ((hl i' g2).1 h2)
    gen := fun i g' h => hS.gen i g' ((hl i g').1 h)
    hid := fun b ⟨i, g', nn, h1, h2⟩ => hS.hid b ⟨i, g', nn, (hl i g').1 h1, h2⟩
    hidlt := hS.hidlt
    holds := fun i B hB => ?_ }⟩
  have hB' : (X.σ.set k (.row g (cs.take m)))[i]? = some B := hB
  clear hB
  rw [List.getElem?_set] at hB'
  split at hB'
  · rename_i hik
    subst hik
    cases hB'
    have hh := (hS.holds k _ hk).mono hE.le (w' := X.w) fun _ _ _ => rfl
    show ABlk.holds _ X.w (X.ρ k) _
    cases hρ : X.ρ k with
    | none => rw [hρ] at hh; have : cs = [] := hh; subst this; simp [ABlk.holds]
    | some z =>
      obtain ⟨b, nn⟩ := z
      rw [hρ] at hh
      obtain ⟨arr, T, fr, q1, q2, q3, q4, q5⟩ := hh
      exact ⟨arr, T, fr, q1, q2, by rw [List.length_take]; omega, q4, fun j d hj => q5 j d (by rw [List.getElem?_take] at hj; split at hj; exact hj; cases hj)⟩
  · exact (hS.holds i B hB').mono hE.le fun _ _ _ => rfl

theorem c_trunc {d : DV} {σ : List ABlk} {k g : Nat} {cs cs' r : List DV} (hk : σ[k]? = some (.row g cs)) (hcs : cs = cs' ++ r) (h : AClose E R d (σ.set k (.row g cs'))) : AClose E R d σ := fun X v hσ hS hE hv => by
  subst hσ
  have := trunc (m := cs'.length) hS hk (.inr trivial)
  rw [hcs, List.take_left] at this
  exact h { X with σ := X.σ.set k (.row g cs') } v rfl this.2 (hE.trans this.1) (hv.ext this.1)
end

/-! Calls that write one row of the caller's. -/
/-- The same value, where the block k is the callee's block 0. -/
inductive Ren (k g : Nat) : DV → DV → Prop
  | clo {d : DV} : d.clo = true → Ren k g d d
  | ref {o l e : Nat} : Ren k g (.ref k g o l e) (.ref 0 g o l e)
  | ptr {o : Nat} : Ren k g (.ptr k g o) (.ptr 0 g o)
inductive Rens (k g : Nat) : List DV → List DV → Prop
  | nil : Rens k g [] []
  | cons {d e : DV} {r s : List DV} : Ren k g d e → Rens k g r s → Rens k g (d :: r) (e :: s)

theorem Ren.to {k g : Nat} {L L' : Lay} (himm : ∀ b o v, L.imm b o = some v → L'.imm b o = some v) (htop : L.top ≤ L'.top) (hrow : ∀ ob, L'.row 0 g = some ob → L.row k g = some ob) {d e : DV} {v : Value} (h : Ren k g d e) (hv : VRep L d v) : VRep L' e v := by
  cases h with
  | clo hc => exact hv.mono_clo himm hc
  | ref => cases hv with | ref _ _ _ _ _ a l c h1 h2 => exact .ref _ _ _ _ _ _ _ _ (Nat.le_trans h1 htop) fun ob hob => h2 ob (hrow ob hob)
  | ptr => cases hv with | ptr _ _ _ a h1 h2 => exact .ptr _ _ _ _ (Nat.le_trans h1 htop) fun ob hob => h2 ob (hrow ob hob)
theorem Ren.from {k g : Nat} {L L' : Lay} (himm : ∀ b o v, L.imm b o = some v → L'.imm b o = some v) (htop : L.top ≤ L'.top) (hrow : ∀ ob, L'.row k g = some ob → L.row 0 g = some ob) {d e : DV} {v : Value} (h : Ren k g d e) (hv : VRep L e v) : VRep L' d v := by
  cases h with
  | clo hc => exact hv.mono_clo himm hc
  | ref => cases hv with | ref _ _ _ _ _ a l c h1 h2 => exact .ref _ _ _ _ _ _ _ _ (Nat.le_trans h1 htop) fun ob hob => h2 ob (hrow ob hob)
  | ptr => cases hv with | ptr _ _ _ a h1 h2 => exact .ptr _ _ _ _ (Nat.le_trans h1 htop) fun ob hob => h2 ob (hrow ob hob)

section
variable {P : Program} {G : Nat → DV}
/-- A call that writes one row: its cells before, what is handed back, its cells behind. -/
def Mut1 (P : Program) (G : Nat → DV) (f : FuncId) (g : Nat) (args : List DV) (cs : List DV) (res : Nat → DV) (cs' : List DV) (keep : Bool := false) : Prop :=
  ∀ B, g ≤ B → ACalls P G B f args [.row g cs] (fun d σ' => ∃ g', (g' = g ∨ (keep = false ∧ B < g')) ∧ d = res g' ∧ σ' = [.row g' cs'])

theorem Mut1.lift {f : FuncId} {g k : Nat} {args args' : List DV} {cs cs' : List DV} {res res' : Nat → DV} {keep : Bool} (h : Mut1 P G f g args' cs res' cs' keep) (hr : Rens k g args args') (hres : ∀ g', Ren k g' (res g') (res' g')) (hc : ∀ d ∈ cs, d.clo = true) (hc' : ∀ d ∈ cs', d.clo = true)
    {B : Nat} {σ : List ABlk} (hk : σ[k]? = some (.row g cs)) : ACalls P G B f args σ (fun d σ' => ∃ g', (g' = g ∨ (keep = false ∧ B < g')) ∧ d = res g' ∧ σ' = σ.set k (.row g' cs')) := fun X vs hS hσ hB hG hvs => by
  subst hσ
  have hlk : X.live k g := live_row hk
  let Y : AX := { w := X.w, ρ := fun _ => X.ρ k, σ := [.row g cs], N := X.N, hid := fun b => X.hid b ∨ (X.mut b ∧ ∀ n, X.ρ k ≠ some (b, n)) }
  have hYl : ∀ i g', Y.live i g' ↔ i = 0 ∧ g' = g := fun i g' => by
    cases i with
    | zero => simp [Y, AX.live, ABlk.gen?]; exact eq_comm
    | succ i => simp [Y, AX.live]
  have hYm : ∀ b, Y.mut b ↔ ∃ n, X.ρ k = some (b, n) := fun b => by
    constructor
    · rintro ⟨i, g', n, hl, hr⟩; exact ⟨n, hr⟩
    · rintro ⟨n, hn⟩; exact ⟨0, g, n, (hYl 0 g).2 ⟨rfl, rfl⟩, hn⟩
  have himm : ∀ b o v, X.lay.imm b o = some v → Y.lay.imm b o = some v := fun b o v hv => by
    obtain ⟨_, h2, h3, h4⟩ := AX.imm_lt hv
    exact AX.imm_mk (fun hm => by obtain ⟨n, hn⟩ := (hYm b).1 hm; exact h2 ⟨k, g, n, hlk, hn⟩) (fun hh => hh.elim h3 (fun hh => h2 hh.1)) h4
  have hYS : Sto Y := {
    inj := fun i i' g1 g2 b n1 n2 h1 h2 _ _ => by rw [((hYl i g1).1 h1).1, ((hYl i' g2).1 h2).1]
    gen := fun i g' h1 => by rw [((hYl i g').1 h1).2]; exact hS.gen k g hlk
    hid := fun b hm hh => by
      obtain ⟨n, hn⟩ := (hYm b).1 hm
      rcases hh with hh | ⟨_, hh⟩
      · exact hS.hid b ⟨k, g, n, hlk, hn⟩ hh
      · exact hh n hn
    hidlt := fun b hh => by
      rcases hh with hh | ⟨hh, _⟩
      · exact hS.hidlt b hh
      · exact hS.mut_lt hh
    holds := fun i B hB => by
      cases i with
      | succ i => simp [Y] at hB
      | zero =>
        simp [Y] at hB
        subst hB
        have hh := hS.holds k _ hk
        show ABlk.holds _ X.w (X.ρ k) _
        cases hρ : X.ρ k with
        | none => rw [hρ] at hh; exact hh
        | some z =>
          obtain ⟨b, nn⟩ := z
          rw [hρ] at hh
          obtain ⟨arr, T, fr, q1, q2, q3, q4, q5⟩ := hh
          exact ⟨arr, T, fr, q1, q2, q3, q4, fun j d hj => ⟨(q5 j d hj).1, (q5 j d hj).2.mono_clo himm (hc d (List.mem_of_getElem? hj))⟩⟩ }
  have hG' : GOk G Y := fun gg => ⟨(hG gg).1, (hG gg).2.mono_clo himm (hG gg).1⟩
  have hrow : ∀ ob, Y.lay.row 0 g = some ob → X.lay.row k g = some ob := fun ob hob => by
    rw [AX.row_mk ((hYl 0 g).2 ⟨rfl, rfl⟩)] at hob
    rw [AX.row_mk hlk]; exact hob
  have hargs : VReps Y.lay args' vs := by
    obtain ⟨h1, h2⟩ := hvs
    have : ∀ (a b : List DV), Rens k g a b → a.length = b.length ∧ ∀ (j : Nat) (d e : DV) (v : Value), a[j]? = some d → b[j]? = some e → VRep X.lay d v → VRep Y.lay e v := by
      intro a b hab
      induction hab with
      | nil => exact ⟨rfl, fun j d e v hd => by simp at hd⟩
      | cons h1 _ ih =>
        refine ⟨by simp [ih.1], fun j d e v hd he hv => ?_⟩
        cases j with
        | zero => simp at hd he; subst hd; subst he; exact h1.to himm (Nat.le_refl _) hrow hv
        | succ j => exact ih.2 j d e v (by simpa using hd) (by simpa using he) hv
    obtain ⟨g1, g2⟩ := this _ _ hr
    refine ⟨by rw [h1, g1], fun j e hj => ?_⟩
    have hlt : j < args.length := by rw [g1]; exact (List.getElem?_eq_some_iff.1 hj).1
    exact g2 j _ e _ (List.getElem?_eq_getElem hlt) hj (h2 j _ (List.getElem?_eq_getElem hlt))
  refine (h X.N (hS.gen k g hlk) Y vs hYS rfl (Nat.le_refl _) hG' hargs).mono ?_
  rintro e w' ⟨v, he, Z, hw, hZS, hE, d', hrep, g', hg', rfl, hσ'⟩
  subst hw
  have hZ0 : Z.σ[0]? = some (.row g' cs') := by rw [hσ']; rfl
  have hlZ : Z.live 0 g' := live_row hZ0
  have hok : ReplOk X k g Z.w (Z.ρ 0) (.row g' cs') Z.N := {
    live := hlk, os := hE.os, tape := hE.tape, output := hE.output, size := hE.size
    block := fun b hb hn => (hE.old b hb fun hm => by obtain ⟨n, h1⟩ := (hYm b).1 hm; exact hn n h1).1
    gen := by
      rcases hg' with rfl | ⟨_, hg'⟩
      · exact .inr ⟨rfl, hE.top, (hE.rows 0 g' (hS.gen k g' hlk) hlZ).2⟩
      · exact .inl ⟨g', rfl, by omega, hZS.gen 0 g' hlZ⟩
    lies := fun b n hb => by
      rcases Nat.lt_or_ge b X.w.heap.size with hlt | hge
      · right
        by_cases hm : Y.mut b
        · exact (hYm b).1 hm
        · exact absurd ⟨0, g', n, hlZ, hb⟩ (hE.old b hlt hm).2
      · exact .inl hge }
  have himm' : ∀ b o v, Z.lay.imm b o = some v → (X.repl k Z.w (Z.ρ 0) (.row g' cs') Z.N).lay.imm b o = some v := fun b o v hv => by
    obtain ⟨_, h2, h3, h4⟩ := AX.imm_lt hv
    rw [hE.hid] at h3
    refine AX.imm_mk (fun hm => ?_) (fun hh => h3 (.inl hh)) h4
    obtain ⟨i, g1, n, hl, hr⟩ := hm
    rcases (AX.repl_live (AX.live_lt hlk)).1 hl with ⟨h5, h6⟩ | ⟨h5, h6⟩
    · simp only [AX.repl, if_neg h5] at hr
      refine h3 (.inr ⟨⟨i, g1, n, h6, hr⟩, fun n' hn' => h5 (hS.inj i k g1 g b n n' h6 hlk hr hn')⟩)
    · simp only [AX.repl, if_pos h5] at hr
      exact h2 ⟨0, g', n, hlZ, hr⟩
  have hh : (ABlk.row g' cs').holds (X.repl k Z.w (Z.ρ 0) (.row g' cs') Z.N).lay Z.w (Z.ρ 0) := by
    have := hZS.holds 0 _ hZ0
    cases hρ : Z.ρ 0 with
    | none => rw [hρ] at this; exact this
    | some z =>
      obtain ⟨b, nn⟩ := z
      rw [hρ] at this
      obtain ⟨arr, T, fr, q1, q2, q3, q4, q5⟩ := this
      rw [hρ] at himm'
      exact ⟨arr, T, fr, q1, q2, q3, q4, fun j d hj => ⟨(q5 j d hj).1, (q5 j d hj).2.mono_clo himm' (hc' d (List.mem_of_getElem? hj))⟩⟩
  refine ⟨v, he, X.repl k Z.w (Z.ρ 0) (.row g' cs') Z.N, rfl, hS.repl' hok hh, WExt.repl hS hok, res g', ?_, g', ?_, rfl, rfl⟩
  · refine (hres g').from himm' (Nat.le_refl _) (fun ob hob => ?_) hrep
    rw [AX.row_mk ((AX.repl_live (AX.live_lt hlk)).2 (.inr ⟨rfl, rfl⟩))] at hob
    simp only [AX.repl, if_true] at hob
    rw [AX.row_mk hlZ]; exact hob
  · rcases hg' with hg' | ⟨hk', hg'⟩
    · exact .inl hg'
    · exact .inr ⟨hk', by omega⟩
end
end Go.Av
