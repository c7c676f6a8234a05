/-
  The operations over abstract values: sixth part (append's rules; a nil slice that is owned; a row that is published).
-/
import Derived.Test.YtecbcpilcjmhlaaDoorAv7
namespace Go.Av
open Classical
set_option linter.unusedSimpArgs false
set_option linter.unusedVariables false

/-- What is appended: n elements, cell by cell. -/
def SrcOf (P : Program) (σ : List ABlk) (d : DV) (es n : Nat) (ms : List DV) : Prop := ∀ (X : AX) (v : Value), Sto X → X.σ = σ → VRep X.lay d v → ∃ vs, Src P X v es n ms vs

section
variable {P : Program} {G : Nat → DV} {B : Nat} {f : Operand → DV} {σ : List ABlk} {K : DV → List ABlk → Prop} {dst : Option Tmp} {type : TypeId} {pos : String} {after : Array Edge} {gd : Option (Nat × Bool)}
variable {α : Type} [Enc α]

theorem srcOf_sl {es n : Nat} {ms : List DV} (h : n * es = ms.length) (h0 : 0 < es) : SrcOf P σ (.sl es ms) es n ms := fun X v _ _ hv => by
  obtain ⟨a, m, cap, vs, rfl, h1, h2⟩ := Src.sl (P := P) hv
  have : m = n := Nat.eq_of_mul_eq_mul_right h0 (by omega)
  subst this
  exact ⟨vs, h2⟩
theorem srcOf_nil {es : Nat} {a : Option Addr} {c : Nat} : SrcOf P σ (.sc (.slice a 0 c)) es 0 [] := fun X v _ _ hv => by
  rw [VRep.sc_eq hv]; exact ⟨[], Src.empty⟩
theorem srcOf_ref {k g off len es : Nat} {cs : List DV} (hk : σ[k]? = some (.row g cs)) (hle : off + len * es ≤ cs.length) : SrcOf P σ (.ref k g off len es) es len ((cs.drop off).take (len * es)) := fun X v hS hσ hv => by
  subst hσ; exact Src.ref hS hk hv hle
theorem srcOf_str {s : ByteArray} : SrcOf P σ (.sc (.string s)) 1 s.size (byteCells s) := fun X v _ _ hv => by
  rw [VRep.sc_eq hv]; exact ⟨_, Src.str⟩

theorem zeroCells_size {zs : List Value} {n : Nat} : (Builtin.zeroCells zs.toArray n).size = n * zs.length := by simp [Builtin.zeroCells]

theorem grown_rep {X : AX} {size len n : Nat} {x y : Value} {cs ms : List DV} {us vs : List Value} (hs : Src P X y size len cs us) (hx : Src P X x size n ms vs) (rest : Array Value) (j : Nat) (e : DV) (hj : (cs ++ ms)[j]? = some e) :
    e.one = true ∧ VRep X.lay e ((us.toArray ++ vs.toArray ++ rest).getD j undef) := by
  rw [List.getElem?_append, hs.hm] at hj
  have hl := hs.hv
  have hl' := hx.hv
  split at hj
  · rename_i hlt
    have := hs.rep j e hj
    have he : (us.toArray ++ vs.toArray ++ rest).getD j undef = us.getD j undef := by
      simp only [Array.getD_eq_getD_getElem?, Array.getElem?_append, Array.size_append, List.size_toArray, List.getElem?_toArray, List.getD]
      rw [if_pos (by omega), if_pos (by omega)]
    rw [he]; exact this
  · rename_i hge
    have := hx.rep _ e hj
    have hlt : j - len * size < n * size := by have := (List.getElem?_eq_some_iff.1 hj).1; rw [hx.hm] at this; exact this
    have he : (us.toArray ++ vs.toArray ++ rest).getD j undef = vs.getD (j - len * size) undef := by
      simp only [Array.getD_eq_getD_getElem?, Array.getElem?_append, Array.size_append, List.size_toArray, List.getElem?_toArray, List.getD]
      rw [if_pos (by omega), if_neg (by omega), hl]
    rw [he]; exact this

/-- append onto a row of the store. -/
theorem s_append {t t' e : TypeId} {d : TypeDesc} {g1 g2 : Bool} {z1 size bytes : Nat} {zs : List Value} {x y : Operand} {m g len n : Nat} {cs ms : List DV} {dy : DV} [ht : TyI P t (.slice e) g1 z1] [ht' : SrcTy P t'] [he : TyI P e d g2 size] [hb : TyB P e bytes] [hz : TyZ P e zs]
    (hzl : zs.length = size) (hx : f x = .ref m g 0 len size) (hm : σ[m]? = some (.row g cs)) (hle : len * size ≤ cs.length) (hy : f y = dy) (hsrc : SrcOf P σ dy size n ms) (hby : (len + n) * bytes ≤ 140737488355328) (hsm : len + n ≤ 9223372036854775807)
    (k : ∀ g', B < g' → K (.ref m g' 0 (len + n) size) (σ.set m (.row g' (cs.take (len * size) ++ ms)))) : OpSem P G B ⟨dst, .call ⟨.builtin .append, #[x, y], #[t, t']⟩, type, pos, after, gd⟩ f σ K := fun X ρ hS hσ hB _ hf => by
  subst hσ
  have e1 := hf x (by simp [Op.operands, Call.operands]); rw [hx] at e1
  have e2 := hf y (by simp [Op.operands, Call.operands]); rw [hy] at e2
  obtain ⟨vs, hsx⟩ := hsrc X _ hS rfl e2
  obtain ⟨us, hss⟩ := Src.ref (P := P) hS hm e1 (by omega)
  rw [List.drop_zero] at hss
  have href := e1.ref_inv hm
  obtain ⟨base, cap, hv, hlc, hcase⟩ : ∃ base cap, ρ x = .slice base len cap ∧ len ≤ cap ∧ ((X.ρ m = none ∧ base = none ∧ cap = 0) ∨ ∃ b nn, X.ρ m = some (b, nn) ∧ (cap = 0 ∨ (base = some ⟨b, 0, none⟩ ∧ cap * size ≤ nn))) := by
    unfold RefOk at href
    cases hρ : X.ρ m with
    | none => rw [hρ] at href; obtain ⟨h1, _, rfl⟩ := href; exact ⟨none, 0, h1, Nat.le_refl _, .inl ⟨rfl, rfl, rfl⟩⟩
    | some z =>
      obtain ⟨b, nn⟩ := z
      rw [hρ] at href
      obtain ⟨a, cap, h1, h2, h3⟩ := href
      exact ⟨a, cap, h1, h2, .inr ⟨b, nn, rfl, by rcases h3 with h3 | ⟨h3, h4⟩; exact .inl h3; exact .inr ⟨h3, by omega⟩⟩⟩
  rw [hv] at hss
  have hlen : (cs.take (len * size) ++ ms).length = (len + n) * size := by rw [List.length_append, hss.hm, hsx.hm, Nat.add_mul]
  have fin : ∀ (w' : World) (ob : Option (Nat × Nat)) (v' : Value), w'.os = X.w.os → w'.tape = X.w.tape → w'.output = X.w.output → X.w.heap.size ≤ w'.heap.size →
      (∀ b, b < X.w.heap.size → (∀ nn, X.ρ m ≠ some (b, nn)) → w'.heap[b]? = X.w.heap[b]?) → (∀ b nn, ob = some (b, nn) → X.w.heap.size ≤ b ∨ ∃ n0, X.ρ m = some (b, n0)) →
      (ABlk.row (X.N + 1) (cs.take (len * size) ++ ms)).holds X.lay w' ob → RefOk ob 0 (len + n) size v' → (∃ a c, v' = .slice a (len + n) c) → APost X K v' w' := by
    intro w' ob v' h1 h2 h3 h4 h5 h6 h7 h8 h9
    obtain ⟨a, c, rfl⟩ := h9
    have hok : ReplOk X m g w' ob (.row (X.N + 1) (cs.take (len * size) ++ ms)) (X.N + 1) := { live := live_row hm, os := h1, tape := h2, output := h3, size := h4, block := h5, gen := .inl ⟨_, rfl, Nat.lt_succ_self _, Nat.le_refl _⟩, lies := h6 }
    refine ⟨_, rfl, hS.repl hok h7, WExt.repl hS hok, _, ?_, k (X.N + 1) (by omega)⟩
    refine .ref _ _ _ _ _ _ _ _ (Nat.le_refl _) fun ob' hob => ?_
    rw [AX.row_mk ((AX.repl_live (AX.live_lt (live_row hm))).2 (.inr ⟨rfl, rfl⟩))] at hob
    simp only [AX.repl, if_true, Option.some.injEq] at hob
    subst hob
    exact h8
  have hcall : ∀ r, (Builtin.append_ #[t, t'] type #[.slice base len cap, ρ y]).run P X.w = r → (match r with | .ok v w' => APost X K v w' | _ => False) → OPost P X K ((execOp ρ ⟨dst, .call ⟨.builtin .append, #[x, y], #[t, t']⟩, type, pos, after, gd⟩).run P X.w) := by
    intro r hr hp
    simp only [execOp, resolve, invoke, builtin, List.map_toArray, List.map_cons, List.map_nil, Sem.run_bind, Sem.run_pure, Result.andThen_ok, hv, hr]
    cases r with
    | ok v w' => exact hp
    | halt _ _ => exact hp.elim
  rcases run_append (ty := type) ht ht' he hb hz hss hsx hby hsm with ⟨hfit, hrun⟩ | ⟨hgrow, nc, hnc, hrun⟩
  · refine hcall _ hrun ?_
    rcases hcase with ⟨hρ, rfl, rfl⟩ | ⟨b, nn, hρ, hcap⟩
    · obtain ⟨rfl, rfl⟩ : len = 0 ∧ n = 0 := by omega
      have hnil : cs.take (0 * size) ++ ms = [] := List.eq_nil_of_length_eq_zero (by rw [hlen]; simp)
      exact fin X.w none _ rfl rfl rfl (Nat.le_refl _) (fun _ _ _ => rfl) (fun _ _ h => by cases h) hnil ⟨rfl, rfl, rfl⟩ ⟨_, _, rfl⟩
    · obtain ⟨arr, T, fr, q1, q2, q3, q4, q5⟩ := hS.row hm hρ
      rcases hcap with rfl | ⟨rfl, hcap⟩
      · obtain ⟨rfl, rfl⟩ : len = 0 ∧ n = 0 := by omega
        have hvs : vs = [] := List.eq_nil_of_length_eq_zero (by rw [hsx.hv]; simp)
        have hnil : cs.take (0 * size) ++ ms = [] := List.eq_nil_of_length_eq_zero (by rw [hlen]; simp)
        suffices hfin : APost X K (.slice base (0 + 0) 0) X.w by subst hvs; cases base <;> exact hfin
        refine fin X.w (some (b, nn)) _ rfl rfl rfl (Nat.le_refl _) (fun _ _ _ => rfl) (fun b' n' h => .inr ⟨nn, by rw [hρ]; cases h; rfl⟩) ?_ ⟨_, _, rfl, Nat.le_refl _, .inl rfl⟩ ⟨_, _, rfl⟩
        rw [hnil]
        exact ⟨arr, T, fr, q1, q2, Nat.zero_le _, q4, fun j e hj => by simp at hj⟩
      · have hfit' : (len + n) * size ≤ cap * size := Nat.mul_le_mul_right _ hfit
        rw [Nat.add_mul] at hfit'
        have hst : (storeCells ⟨b, 0 + len * size, none⟩ vs).run P X.w = .ok () (X.w.setCells b (0 + len * size) vs) := run_storeRow q1 (fun j hj => q4 j (by omega)) (by rw [hsx.hv]; omega) hsx.one
        simp only [add_none, hst, Result.andThen_ok]
        obtain ⟨r1, r2, r3, r4⟩ := setCells_rest vs X.w b (0 + len * size)
        refine fin _ (some (b, nn)) _ r1 r2 r3 (Nat.le_of_eq r4.symm) (fun b' _ hb' => heap_setCells_other vs X.w b _ b' (fun e => hb' nn (by rw [hρ, e]))) (fun b' n' h => .inr ⟨nn, by rw [hρ]; cases h; rfl⟩) ?_ ⟨_, cap, rfl, hfit, .inr ⟨rfl, by omega⟩⟩ ⟨_, _, rfl⟩
        refine ⟨_, T, fr, heap_setCells vs X.w b _ arr T fr q1, by rw [size_setArr, q2], by rw [hlen, Nat.add_mul]; omega, q4, fun j e hj => ?_⟩
        rw [getD_setArr _ _ _ _ (by rw [hsx.hv]; omega)]
        rw [List.getElem?_append, hss.hm] at hj
        split at hj
        · rename_i hlt
          rw [if_neg (by omega)]
          rw [List.getElem?_take, if_pos hlt] at hj
          exact q5 j e hj
        · rename_i hge
          have hlt : j - len * size < n * size := by have := (List.getElem?_eq_some_iff.1 hj).1; rw [hsx.hm] at this; exact this
          rw [if_pos (by rw [hsx.hv]; omega), Nat.zero_add]
          exact hsx.rep _ e hj
  · refine hcall _ hrun ?_
    have hwk : Keep X.w (X.w.drew.alloc (.cells (us.toArray ++ vs.toArray ++ Builtin.zeroCells zs.toArray (nc - (len + n))) e)) := (Keep.drew X.w).trans (Keep.alloc _ _)
    have hasz : (us.toArray ++ vs.toArray ++ Builtin.zeroCells zs.toArray (nc - (len + n))).size = nc * size := by
      rw [Array.size_append, Array.size_append, zeroCells_size, hzl]
      simp only [List.size_toArray, hss.hv, hsx.hv, ← Nat.add_mul]
      congr 1; omega
    have hncs : (len + n) * size ≤ nc * size := Nat.mul_le_mul_right _ hnc
    refine fin _ (some (X.w.heap.size, nc * size)) _ rfl rfl rfl hwk.size (fun b hb _ => hwk.block b hb) (fun b nn h => .inl (by cases h; exact Nat.le_refl _)) ?_ ⟨_, nc, rfl, hnc, .inr ⟨rfl, by omega⟩⟩ ⟨_, _, rfl⟩
    exact ⟨_, e, (0, 0), heap_alloc_new X.w.drew _, hasz, by rw [hlen]; exact hncs, fun j _ h => by simp at h, fun j e' hj => grown_rep hss hsx _ j e' hj⟩

/-- append onto a nil slice. -/
theorem s_append_nil {t t' e : TypeId} {d : TypeDesc} {g1 g2 : Bool} {z1 size bytes : Nat} {zs : List Value} {x y : Operand} {n : Nat} {ms : List DV} {dy : DV} [ht : TyI P t (.slice e) g1 z1] [ht' : SrcTy P t'] [he : TyI P e d g2 size] [hb : TyB P e bytes] [hz : TyZ P e zs]
    (hzl : zs.length = size) (hx : f x = .sc (.slice none 0 0)) (hy : f y = dy) (hsrc : SrcOf P σ dy size n ms) (hby : n * bytes ≤ 140737488355328) (hsm : n ≤ 9223372036854775807)
    (k : ∀ g', B < g' → K (.ref σ.length g' 0 n size) (σ ++ [.row g' ms])) : OpSem P G B ⟨dst, .call ⟨.builtin .append, #[x, y], #[t, t']⟩, type, pos, after, gd⟩ f σ K := fun X ρ hS hσ hB _ hf => by
  subst hσ
  have e1 := hf x (by simp [Op.operands, Call.operands]); rw [hx] at e1
  have hv := VRep.sc_eq e1
  have e2 := hf y (by simp [Op.operands, Call.operands]); rw [hy] at e2
  obtain ⟨vs, hsx⟩ := hsrc X _ hS rfl e2
  have hss : Src P X (.slice none 0 0) size 0 [] [] := Src.empty
  have fin : ∀ (w' : World) (ob : Option (Nat × Nat)) (v' : Value), Keep X.w w' → (∀ b nn, ob = some (b, nn) → X.w.heap.size ≤ b) → (ABlk.row (X.N + 1) ms).holds X.lay w' ob → RefOk ob 0 n size v' → (∃ a c, v' = .slice a n c) → APost X K v' w' := by
    intro w' ob v' h1 h6 h7 h8 h9
    obtain ⟨a, c, rfl⟩ := h9
    refine ⟨_, rfl, hS.push h1 (B := .row (X.N + 1) ms) rfl h6 h7, WExt.push hS h1 rfl h6, _, ?_, k (X.N + 1) (by omega)⟩
    refine .ref _ _ _ _ _ _ _ _ (Nat.le_refl _) fun ob' hob => ?_
    rw [AX.row_mk (AX.push_live.2 (.inr ⟨rfl, rfl⟩))] at hob
    simp only [AX.push, if_true, Option.some.injEq] at hob
    subst hob
    exact h8
  have hcall : ∀ r, (Builtin.append_ #[t, t'] type #[.slice none 0 0, ρ y]).run P X.w = r → (match r with | .ok v w' => APost X K v w' | _ => False) → OPost P X K ((execOp ρ ⟨dst, .call ⟨.builtin .append, #[x, y], #[t, t']⟩, type, pos, after, gd⟩).run P X.w) := by
    intro r hr hp
    simp only [execOp, resolve, invoke, builtin, List.map_toArray, List.map_cons, List.map_nil, Sem.run_bind, Sem.run_pure, Result.andThen_ok, hv, hr]
    cases r with
    | ok v w' => exact hp
    | halt _ _ => exact hp.elim
  rcases run_append (ty := type) ht ht' he hb hz hss hsx (by simpa using hby) (by simpa using hsm) with ⟨hfit, hrun⟩ | ⟨hgrow, nc, hnc, hrun⟩
  · refine hcall _ hrun ?_
    obtain rfl : n = 0 := by omega
    have hms : ms = [] := List.eq_nil_of_length_eq_zero (by rw [hsx.hm]; simp)
    exact fin X.w none _ (Keep.refl _) (fun _ _ h => by cases h) hms ⟨rfl, rfl, rfl⟩ ⟨_, _, rfl⟩
  · rw [Nat.zero_add] at hrun hnc
    refine hcall _ hrun ?_
    have hasz : (([] : List Value).toArray ++ vs.toArray ++ Builtin.zeroCells zs.toArray (nc - n)).size = nc * size := by
      rw [Array.size_append, Array.size_append, zeroCells_size, hzl]
      simp only [List.size_toArray, hsx.hv, List.length_nil, Nat.zero_add, ← Nat.add_mul]
      congr 1; omega
    have hncs : n * size ≤ nc * size := Nat.mul_le_mul_right _ hnc
    refine fin _ (some (X.w.heap.size, nc * size)) _ ((Keep.drew X.w).trans (Keep.alloc _ _)) (fun b nn h => by cases h; exact Nat.le_refl _) ?_ ⟨_, nc, rfl, hnc, .inr ⟨rfl, by omega⟩⟩ ⟨_, _, rfl⟩
    exact ⟨_, e, (0, 0), heap_alloc_new X.w.drew _, hasz, by rw [hsx.hm]; exact hncs, fun j _ h => by simp at h, fun j e' hj => grown_rep (cs := []) hss hsx _ j e' (by simpa using hj)⟩

/-! The same, typed. -/
theorem s_app {t t' e : TypeId} {d : TypeDesc} {g1 g2 : Bool} {z1 bytes : Nat} {zs : List Value} {x y : Operand} {m g len : Nat} {l xs : List α} {dy : DV} [ht : TyI P t (.slice e) g1 z1] [ht' : SrcTy P t'] [he : TyI P e d g2 (Enc.es α)] [hb : TyB P e bytes] [hz : TyZ P e zs]
    {σ' : Nat → List ABlk} (hzl : zs.length = Enc.es α) (hx : f x = .ref m g 0 len (Enc.es α)) (hm : σ[m]? = some (.row g (encs l))) (hlen : len = l.length) (hy : f y = dy) (hsrc : SrcOf P σ dy (Enc.es α) xs.length (encs xs)) (hby : (l.length + xs.length) * bytes ≤ 140737488355328) (hsm : l.length + xs.length ≤ 9223372036854775807)
    (hσ' : ∀ g', setA σ m (.row g' (encs (l ++ xs))) = some (σ' g')) (k : ∀ g', B < g' → K (.ref m g' 0 (l ++ xs).length (Enc.es α)) (σ' g')) : OpSem P G B ⟨dst, .call ⟨.builtin .append, #[x, y], #[t, t']⟩, type, pos, after, gd⟩ f σ K := by
  subst hlen
  refine s_append hzl hx hm (by rw [encs_len]; exact Nat.le_refl _) hy hsrc hby hsm fun g' hg' => ?_
  rw [← encs_len, List.take_length, ← encs_append, ← setA_eq (hσ' g'), ← List.length_append]
  exact k g' hg'
theorem srcOf_slOf {xs : List α} : SrcOf P σ (slOf xs) (Enc.es α) xs.length (encs xs) := srcOf_sl (by rw [encs_len]) Enc.pos
theorem srcOf_nilOf : SrcOf P σ (.sc (.slice none 0 0)) (Enc.es α) ([] : List α).length (encs ([] : List α)) := srcOf_nil
theorem srcOf_one {z : α} : SrcOf P σ (.sl (Enc.es α) (Enc.enc z)) (Enc.es α) [z].length (encs [z]) := by
  have : encs [z] = Enc.enc z := by simp [encs]
  rw [this]
  exact srcOf_sl (by simp [Enc.len]) Enc.pos
theorem encs_bytes (s : ByteArray) : encs s.data.toList = byteCells s := by
  simp only [encs, byteCells]
  induction s.data.toList with
  | nil => rfl
  | cons b r ih => rw [List.flatMap_cons, ih]; rfl
theorem srcOf_bytes {s : ByteArray} : SrcOf P σ (.sc (.string s)) (Enc.es UInt8) s.data.toList.length (encs s.data.toList) := by
  rw [encs_bytes]; exact srcOf_str
theorem srcOf_refOf {m g len : Nat} {l : List α} (hm : σ[m]? = some (.row g (encs l))) (hlen : len = l.length) : SrcOf P σ (.ref m g 0 len (Enc.es α)) (Enc.es α) l.length (encs l) := by
  subst hlen
  have := srcOf_ref (P := P) (off := 0) (len := l.length) (es := Enc.es α) hm (by rw [encs_len]; omega)
  rwa [List.drop_zero, ← encs_len, List.take_length] at this

theorem s_app_nil {t t' e : TypeId} {d : TypeDesc} {g1 g2 : Bool} {z1 bytes : Nat} {zs : List Value} {x y : Operand} {xs : List α} {dy : DV} [ht : TyI P t (.slice e) g1 z1] [ht' : SrcTy P t'] [he : TyI P e d g2 (Enc.es α)] [hb : TyB P e bytes] [hz : TyZ P e zs]
    (hzl : zs.length = Enc.es α) (hx : f x = .sc (.slice none 0 0)) (hy : f y = dy) (hsrc : SrcOf P σ dy (Enc.es α) xs.length (encs xs)) (hby : xs.length * bytes ≤ 140737488355328) (hsm : xs.length ≤ 9223372036854775807)
    (k : ∀ g', B < g' → K (.ref σ.length g' 0 xs.length (Enc.es α)) (σ ++ [.row g' (encs xs)])) : OpSem P G B ⟨dst, .call ⟨.builtin .append, #[x, y], #[t, t']⟩, type, pos, after, gd⟩ f σ K :=
  s_append_nil hzl hx hy hsrc hby hsm k

/-! Turns of what is known, with nothing carried out. -/
variable {E : AX} {n : Nat} {st : ASt}

/-- A nil slice is owned from here on. -/
theorem Rel.own {a : Act} {w : World} (hr : Rel G E n st a w) {i es : Nat} (h : look st.t i = .sc (.slice none 0 0)) : ∃ g, E.N < g ∧ Rel G E n ⟨(i, .ref st.σ.length g 0 0 es) :: st.t, st.σ ++ [.row g []]⟩ a w := by
  obtain ⟨X, h1, h2, h3, h4, h5, h6, h7, h8⟩ := hr
  have hob : ∀ b nn, (none : Option (Nat × Nat)) = some (b, nn) → X.w.heap.size ≤ b := fun _ _ h => by cases h
  have hE := WExt.push h3 (Keep.refl X.w) (B := .row (X.N + 1) []) rfl hob
  refine ⟨X.N + 1, by have := h4.top; omega, X.push X.w none (.row (X.N + 1) []), h1, by simp only [AX.push, h2], h3.push (Keep.refl X.w) rfl hob rfl, h4.trans hE, h5.ext hE, h6, h7, fun j => ?_⟩
  simp only [look]
  cases hb : Nat.beq i j with
  | true =>
    have := Nat.eq_of_beq_eq_true hb
    subst this
    have hv := h8 i
    rw [h] at hv
    rw [VRep.sc_eq hv, ← h2]
    refine .ref _ _ _ _ _ _ _ _ (Nat.le_refl _) fun ob hobb => ?_
    rw [AX.row_mk (AX.push_live.2 (.inr ⟨rfl, rfl⟩))] at hobb
    simp only [AX.push, if_true, Option.some.injEq] at hobb
    subst hobb
    exact ⟨rfl, rfl, rfl⟩
  | false => exact (h8 j).ext hE

theorem r_own {t : Fr} {σ : List ABlk} {c : Code} {N : ASt → Prop} {xs : List (Nat × (ASt → Prop))} {R : ASt → Prop} (i es : Nat) (h : look t i = .sc (.slice none 0 0)) (k : ∀ g, E.N < g → ARun P G E n c N xs R ⟨(i, .ref σ.length g 0 0 es) :: t, σ ++ [.row g []]⟩) : ARun P G E n c N xs R ⟨t, σ⟩ := fun a w hr => by
  obtain ⟨g, hg, hr'⟩ := hr.own (es := es) h
  exact k g hg a w hr'

/-- A row is read alone from here on. -/
theorem Rel.pub {a : Act} {w : World} (hr : Rel G E n st a w) {i k g len es : Nat} {cs : List DV} (h : look st.t i = .ref k g 0 len es) (hk : st.σ[k]? = some (.row g cs)) (hl : len * es = cs.length) : Rel G E n ⟨(i, .sl es cs) :: st.t, st.σ.set k .gone⟩ a w := by
  obtain ⟨X, h1, h2, h3, h4, h5, h6, h7, h8⟩ := hr
  have hE := shrink_gone (X := X) k
  refine ⟨{ X with σ := X.σ.set k .gone }, h1, by rw [← h2], sto_gone h3 k, h4.trans hE, h5.ext hE, h6, h7, fun j => ?_⟩
  simp only [look]
  cases hb : Nat.beq i j with
  | true =>
    have := Nat.eq_of_beq_eq_true hb
    subst this
    have hv := h8 i
    rw [h] at hv
    rw [← h2] at hk
    exact pub_rep h3 hk hl hv
  | false => exact (h8 j).ext hE
theorem r_pub {t : Fr} {σ : List ABlk} {c : Code} {N : ASt → Prop} {xs : List (Nat × (ASt → Prop))} {R : ASt → Prop} {σ' : List ABlk} {k g len es : Nat} {cs : List DV} (i : Nat) (h : look t i = .ref k g 0 len es) (hk : σ[k]? = some (.row g cs)) (hl : len * es = cs.length) (hσ' : setA σ k .gone = some σ')
    (kk : ARun P G E n c N xs R ⟨(i, .sl es cs) :: t, σ'⟩) : ARun P G E n c N xs R ⟨t, σ⟩ := fun a w hr => by
  rw [setA_eq hσ'] at kk
  exact kk a w (hr.pub h hk hl)
theorem o_pub {t : Fr} {σ : List ABlk} {ops : Array Oper} {l : List Oper} {N : ASt → Prop} {σ' : List ABlk} {k g len es : Nat} {cs : List DV} (i : Nat) (h : look t i = .ref k g 0 len es) (hk : σ[k]? = some (.row g cs)) (hl : len * es = cs.length) (hσ' : setA σ k .gone = some σ')
    (kk : AOps P G E n ops l N ⟨(i, .sl es cs) :: t, σ'⟩) : AOps P G E n ops l N ⟨t, σ⟩ := fun a w hr => by
  rw [setA_eq hσ'] at kk
  exact kk a w (hr.pub h hk hl)

end
end Go.Av
