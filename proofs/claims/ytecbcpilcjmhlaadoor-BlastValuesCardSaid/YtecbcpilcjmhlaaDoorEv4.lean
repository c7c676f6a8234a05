/-
  The evaluator is right: all operations that leave the store alone.
-/
import Derived.Test.YtecbcpilcjmhlaaDoorEv3
namespace Go.Av
open Classical
set_option linter.unusedSimpArgs false
set_option linter.unusedVariables false
section
variable {P : Program} {G : Nat → DV} {B : Nat} {f fe : Operand → DV} {σ : List ABlk} {K : DV → List ABlk → Prop} {dst : Option Tmp} {type : TypeId} {pos : String} {after : Array Edge} {gd : Option (Nat × Bool)} {Γ : List Nat} {T : Tab} {S : SS} {d : DV}

theorem of_sc {x : Operand} {v : Value} (h : EV Γ (fe x) (f x)) (e : fe x = .sc v) : f x = .sc v := by rw [e] at h; exact h.sc_inv
theorem idxOf_ok {x : Operand} {i : Nat} (h : EV Γ (fe x) (f x)) (e : idxOf (fe x) = some i) : ∃ k, f x = .sc (.int k (i : Nat)) := by
  unfold idxOf at e
  split at e
  · rename_i k a hx
    rw [toN_eq e] at hx
    exact ⟨k, of_sc h hx⟩
  · cases e
theorem live_ev {k γ off g : Nat} (hS : ES Γ S σ) (hg : Γ[γ]? = some g) (h : rLive S.s k γ off = some d) : ∃ cs, σ[k]? = some (.row g cs) ∧ EV Γ d (.ptr k g off) := by
  unfold rLive at h
  split at h
  · rename_i cs hr
    cases h
    obtain ⟨cs', h1, _⟩ := hS.rowOf hr hg
    exact ⟨cs', h1, .ptr _ _ _ _ hg⟩
  · cases h
theorem fld_ok (hT : TOk P T) {st fi o sz : Nat} {ag : Bool} (h : fldOf T st fi = some (o, sz, ag)) : TyF P st fi o sz ag := by
  unfold fldOf at h
  split at h
  · rename_i ti hti
    split at h
    · rename_i fl hk
      obtain ⟨td, _, h2⟩ := (hT.ty st ti hti).d
      rw [hk] at h2
      exact h2.2 fi _ h
    · cases h
  · cases h
theorem div_len {cs : List DV} {es : Nat} (h : Nat.beq (cs.length / es * es) cs.length = true) : cs.length = cs.length / es * es := (Nat.eq_of_beq_eq_true h).symm

theorem rPick_ok {c a b : Operand} (hc : EV Γ (fe c) (f c)) (ha : EV Γ (fe a) (f a)) (hb : EV Γ (fe b) (f b)) (h : rPick (fe c) (fe a) (fe b) = some d) (hK : ∀ d', EV Γ d d' → K d' σ) : OpSem P G B ⟨dst, .pick c a b, type, pos, after, gd⟩ f σ K := by
  unfold rPick at h
  split at h
  · rename_i e
    cases h
    exact s_pick_t (of_sc hc e) rfl (hK _ ha)
  · rename_i e
    cases h
    exact s_pick_f (of_sc hc e) rfl (hK _ hb)
  · cases h

theorem rLoad_ok (hT : TOk P T) (hS : ES Γ S σ) {t : TypeId} {a : Operand} (ha : EV Γ (fe a) (f a)) (h : rLoad T S.s t (fe a) = some d) (hK : ∀ d', EV Γ d d' → K d' σ) : OpSem P G B ⟨dst, .load t a, type, pos, after, gd⟩ f σ K := by
  unfold rLoad at h
  split at h
  · rename_i k γ off e
    rw [e] at ha
    obtain ⟨g, hg, hfa⟩ := ha.ptr_inv
    split at h
    · rename_i cs ti hr hti
      obtain ⟨cs', hm, hcs⟩ := hS.rowOf hr hg
      obtain ⟨td, hty, _⟩ := (hT.ty t ti hti).d
      rcases cell_ev hcs h with ⟨hag, hl, he⟩ | ⟨hag, d', hd, he⟩
      · rw [hag] at hty
        exact s_load_rowa' (ht := hty) hfa hm rfl hl (hK _ he)
      · rw [hag] at hty
        exact s_load_row (ht := hty) hfa hm hd (hK _ he)
    · cases h
  · rename_i cs e
    rw [e] at ha
    obtain ⟨cs', hfa, hcs⟩ := ha.ep_inv
    split at h
    · rename_i ti hti
      obtain ⟨td, hty, _⟩ := (hT.ty t ti hti).d
      rcases cell_ev hcs h with ⟨hag, hl, he⟩ | ⟨hag, d', hd, he⟩
      · rw [hag] at hty
        refine s_load_epa (ht := hty) hfa ?_ hl (hK _ he)
        unfold partD
        exact forceD_self _
      · rw [hag] at hty
        cases cs' with
        | nil => simp at hd
        | cons c r =>
          simp at hd
          subst hd
          exact s_load_ep (ht := hty) hfa (hK _ he)
    · cases h
  · cases h

theorem rFldA_ok (hT : TOk P T) (hS : ES Γ S σ) {st fi : Nat} {x : Operand} (hx : EV Γ (fe x) (f x)) (h : rFldA T S.s st fi (fe x) = some d) (hK : ∀ d', EV Γ d d' → K d' σ) : OpSem P G B ⟨dst, .fieldAddr st x fi, type, pos, after, gd⟩ f σ K := by
  unfold rFldA at h
  split at h
  · rename_i o sz ag hf
    have hty := fld_ok hT hf
    split at h
    · rename_i k γ off e
      rw [e] at hx
      obtain ⟨g, hg, hfx⟩ := hx.ptr_inv
      obtain ⟨cs, hm, he⟩ := live_ev hS hg h
      exact s_fld_ptr (hs := hty) hfx hm (hK _ he)
    · rename_i cs e
      rw [e] at hx
      obtain ⟨cs', hfx, hcs⟩ := hx.ep_inv
      have hdr := hcs.drop o
      split at h
      · cases h
      · rename_i c r hd
        cases h
        rw [hd] at hdr
        obtain ⟨c', r', hd', h1, h2⟩ := hdr.cons_inv
        exact s_fld_ep (hs := hty) hfx hd' (hK _ (.ep' (.cons h1 h2)))
    · cases h
  · cases h

theorem rFld_ok (hT : TOk P T) {st fi : Nat} {x : Operand} (hx : EV Γ (fe x) (f x)) (h : rFld T st fi (fe x) = some d) (hK : ∀ d', EV Γ d d' → K d' σ) : OpSem P G B ⟨dst, .field st x fi, type, pos, after, gd⟩ f σ K := by
  unfold rFld at h
  split at h
  · rename_i o sz ag hf
    have hty := fld_ok hT hf
    split at h
    · rename_i cs e
      rw [e] at hx
      obtain ⟨cs', hfx, hcs⟩ := hx.agg_inv
      cases ag with
      | true =>
        simp only [subD] at h
        split at h
        · rename_i hb
          cases h
          have hdt := (hcs.drop o).take sz
          refine s_field_a (hs := hty) hfx (ds := (cs'.drop o).take sz) ?_ ?_ (hK _ (.agg' hdt))
          · unfold partD; exact forceD_self _
          · rw [← hdt.len]; exact Nat.eq_of_beq_eq_true hb
        · cases h
      | false =>
        simp only at h
        split at h
        · rename_i hb
          have := Nat.eq_of_beq_eq_true hb
          subst this
          rw [nth_eq] at h
          obtain ⟨d', h1, h2⟩ := hcs.at h
          exact s_field (hs := hty) hfx h1 (hK _ h2)
        · cases h
    · cases h
  · cases h

theorem rIdxA_ok (hT : TOk P T) (hS : ES Γ S σ) {t : TypeId} {x y : Operand} (hx : EV Γ (fe x) (f x)) (hy : EV Γ (fe y) (f y)) (h : rIdxA T S.s t (fe x) (fe y) = some d) (hK : ∀ d', EV Γ d d' → K d' σ) : OpSem P G B ⟨dst, .indexAddr t x y, type, pos, after, gd⟩ f σ K := by
  unfold rIdxA at h
  split at h
  · rename_i i ti hi hti
    obtain ⟨kd, hfy⟩ := idxOf_ok hy hi
    obtain ⟨td, hty, hk⟩ := (hT.ty t ti hti).d
    split at h
    · rename_i e hke
      rw [hke] at hk
      cases hk
      split at h
      · rename_i te hte
        obtain ⟨te', hte', _⟩ := (hT.ty e te hte).d
        unfold rIdxS at h
        split at h
        · rename_i k γ off len es hex
          rw [hex] at hx
          obtain ⟨g, hg, hfx⟩ := hx.ref_inv
          split at h
          · rename_i hlt
            obtain ⟨cs, hm, he⟩ := live_ev hS hg h
            exact s_idx_ref (ht := hty) (he := hte') hfx hm hfy (by omega) (by have := Nat.ble_eq.mp hlt; simp; omega) (by simpa using hK _ he)
          · cases h
        · rename_i es cs hex
          rw [hex] at hx
          obtain ⟨cs', hfx, hcs⟩ := hx.sl_inv
          split at h
          · rename_i hb1 hb2 hb3 hb4
            cases h
            have := Nat.eq_of_beq_eq_true hb1
            subst this
            exact s_idx_slg (ht := hty) (he := hte') hfx hfy (by rw [← hcs.len]; exact Nat.ble_eq.mp hb2) (Nat.ble_eq.mp hb3) (hK _ (.ep' ((hcs.drop _).take _)))
          · cases h
        · cases h
      · cases h
    · rename_i n e hke
      rw [hke] at hk
      cases hk
      split at h
      · rename_i te hte hlt
        obtain ⟨te', hte', _⟩ := (hT.ty e te hte).d
        unfold rIdxA' at h
        split at h
        · rename_i k γ off hex
          rw [hex] at hx
          obtain ⟨g, hg, hfx⟩ := hx.ptr_inv
          obtain ⟨cs, hm, he⟩ := live_ev hS hg h
          exact s_idx_arr (ht := hty) (he := hte') hfx hm hfy (by omega) (by have := Nat.ble_eq.mp hlt; simp; omega) (by simpa using hK _ he)
        · rename_i cs hex
          rw [hex] at hx
          obtain ⟨cs', hfx, hcs⟩ := hx.ep_inv
          cases h
          exact s_idx_ep (ht := hty) (he := hte') hfx hfy (by omega) (by have := Nat.ble_eq.mp hlt; simp; omega) (by simpa using hK _ (.ep' (hcs.drop _)))
        · cases h
      · cases h
    · cases h
  · cases h

theorem rIdx_ok (hT : TOk P T) {t : TypeId} {x y : Operand} (hx : EV Γ (fe x) (f x)) (hy : EV Γ (fe y) (f y)) (h : rIdx T t (fe x) (fe y) = some d) (hK : ∀ d', EV Γ d d' → K d' σ) : OpSem P G B ⟨dst, .index t x y, type, pos, after, gd⟩ f σ K := by
  unfold rIdx at h
  split at h
  · rename_i i ti hi hti
    obtain ⟨kd, hfy⟩ := idxOf_ok hy hi
    obtain ⟨td, hty, hk⟩ := (hT.ty t ti hti).d
    split at h
    · rename_i n e hke
      rw [hke] at hk
      cases hk
      split at h
      · rename_i te cs hte hlt hex
        obtain ⟨te', hte', _⟩ := (hT.ty e te hte).d
        rw [hex] at hx
        obtain ⟨cs', hfx, hcs⟩ := hx.agg_inv
        split at h
        · cases h
        · rename_i hag
          rw [hag] at hte'
          rw [nth_eq] at h
          obtain ⟨d', h1, h2⟩ := hcs.at h
          exact s_index_a (ht := hty) (he := hte') hfx hfy (Nat.ble_eq.mp hlt) h1 (hK _ h2)
      · cases h
    · rename_i hke
      rw [hke] at hk
      cases hk
      split at h
      · rename_i l hex
        split at h
        · rename_i b hb
          cases h
          exact s_index_s (ht := hty) (of_sc hx hex) hfy hb (hK _ (.sc' _))
        · cases h
      · cases h
    · cases h
  · cases h

theorem s_add_str {t t' : TypeId} {g1 : Bool} {z1 : Nat} {x y : Operand} {a b : List UInt8} (ht : TyI P t .string g1 z1) (hx : f x = .sc (.string ⟨⟨a⟩⟩)) (hy : f y = .sc (.string ⟨⟨b⟩⟩)) (hl : a.length + b.length ≤ 9223372036854775807)
    (k : K (.sc (.string ⟨⟨a ++ b⟩⟩)) σ) : OpSem P G B ⟨dst, .binOp .add t x y t', type, pos, after, gd⟩ f σ K :=
  s_bin hx hy (fun w => by
    have : (eqGuard .add t x y (.string ⟨⟨a⟩⟩) (.string ⟨⟨b⟩⟩)).run P w = .ok () w := by unfold eqGuard; rfl
    rw [Sem.run_bind, this]
    have e0 : ((⟨⟨a⟩⟩ : ByteArray) ++ ⟨⟨b⟩⟩) = ⟨⟨a ++ b⟩⟩ := by
      apply ByteArray.ext
      simp [ByteArray.data_append]
    have h2 : ¬ IntKind.i64.max < ((ByteArray.size ⟨⟨a⟩⟩ + ByteArray.size ⟨⟨b⟩⟩ : Nat) : Int) := by
      have e : IntKind.i64.max = 9223372036854775807 := rfl
      rw [e]
      show ¬ (9223372036854775807 : Int) < ((a.length + b.length : Nat) : Int)
      omega
    simp [binOp, run_underlying ht.u, Op.stringOp, h2, e0]
    show ((a.length : Nat) : Int) + ((b.length : Nat) : Int) ≤ 9223372036854775807
    omega) k
theorem evNil_ok {t e t' : TypeId} {g1 : Bool} {z1 : Nat} (ht : TyI P t (.slice e) g1 z1) {op : BinOp} {x y : Operand} (hx : EV Γ (fe x) (f x)) (hy : EV Γ (fe y) (f y)) (h : evNil op (fe x) (fe y) = some d) (hK : ∀ d', EV Γ d d' → K d' σ) : OpSem P G B ⟨dst, .binOp op t x y t', type, pos, after, gd⟩ f σ K := by
  unfold evNil at h
  split at h
  · rename_i e1 e2
    cases h
    exact s_eq_nil (ht := ht) (of_sc hx e1) (of_sc hy e2) (hK _ (.sc' _))
  · cases h
theorem evBin_ok {op : BinOp} {str bl : Bool} {t t' : TypeId} {x y : Operand} (hs : str = true → ∃ z, TyI P t .string false z) (hbl : bl = true → ∃ z, TyI P t .bool false z) (hx : EV Γ (fe x) (f x)) (hy : EV Γ (fe y) (f y)) (h : evBin op str bl (fe x) (fe y) = some d) (hK : ∀ d', EV Γ d d' → K d' σ) : OpSem P G B ⟨dst, .binOp op t x y t', type, pos, after, gd⟩ f σ K := by
  unfold evBin at h
  split at h
  · rename_i k a k' b e1 e2
    have hfx := of_sc hx e1
    have hfy := of_sc hy e2
    split at h
    · simp only [evShift] at h
      split at h
      · cases h
      · rename_i hb
        rw [ltI_eq] at hb
        cases h
        exact s_shl hfx hfy (by have := of_decide_eq_false hb; omega) (hK _ (.sc' _))
    · simp only [evShift] at h
      split at h
      · cases h
      · rename_i hb
        rw [ltI_eq] at hb
        cases h
        exact s_shr hfx hfy (by have := of_decide_eq_false hb; omega) (hK _ (.sc' _))
    · rename_i h1 h2
      split at h
      · rename_i hk
        have := ikEq_eq hk
        subst this
        cases hz : evInt op k a b with
        | none => rw [hz] at h; cases h
        | some z =>
          rw [hz] at h
          cases h
          exact s_int hfx hfy (fun w => evInt_ok hz (fun e => h1 e) (fun e => h2 e) w) (hK _ (.sc' _))
      · cases h
  · rename_i a b e1 e2
    have hfx := of_sc hx e1
    have hfy := of_sc hy e2
    split at h
    · cases h
      obtain ⟨z, hz⟩ := hbl rfl
      exact s_eql_b (ht := hz) hfx hfy (hK _ (.sc' _))
    · cases h
      obtain ⟨z, hz⟩ := hbl rfl
      exact s_neq_b (ht := hz) hfx hfy (hK _ (.sc' _))
    · cases h
  · rename_i a b e1 e2
    have hfx := of_sc hx e1
    have hfy := of_sc hy e2
    split at h
    · split at h
      · rename_i hl
        cases h
        obtain ⟨z, hz⟩ := hs rfl
        have := Nat.ble_eq.mp hl
        refine s_add_str (ht := hz) hfx hfy (by omega) (hK _ (.sc' _))
      · cases h
    · cases h
  · cases h
end
end Go.Av
