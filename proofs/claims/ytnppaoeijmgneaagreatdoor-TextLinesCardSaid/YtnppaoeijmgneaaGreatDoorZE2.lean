/-
  Part 2 of the proof: LB AvX PB AvY PM T1 T2 T3 T4 U1 U2 U3 T5 TS T8 TA.
-/
import Derived.Shelf.Strings.Builder1
import Derived.WalkKit
import Derived.Test.YtnppaoeijmgneaaGreatDoorZE1
set_option linter.unusedSimpArgs false
set_option linter.unusedVariables false
set_option maxRecDepth 10000
set_option maxHeartbeats 4000000
section
namespace Go.Av
open Go.Bl Go.RowKit
structure Str where
 l : List UInt8
deriving DecidableEq
instance : Enc Str := encOne (fun s => WQ s.l) (fun _ => rfl) (fun _ => Wf)
section
variable {P : Program} {G : Nat -> DV}
theorem keep_below {w w' : World} (h : Below w.heap.size w w') : Keep w w' := ⟨h.os, h.tape, h.output, h.size, h.block⟩
theorem pure_of {f : FuncId} {us : List Value} {v : Value} {args : List DV} {d : DV} (ha : args = us.map .sc) (hd : d = .sc v) (h : ∀ (X : AX), GOk G X -> Calls P f us.toArray X.w fun e w' => e = .returned v /\ Below X.w.heap.size X.w w') : Pure P G f args d := fun B X vs hS hσ hB hG hv => by
 subst ha;subst hd
 have hvs : vs = us.toArray := by
  obtain ⟨h1, h2⟩ := hv
  apply Array.ext
  ·simpa using h1
  ·intro j hj1 hj2
   have hj : j < us.length := by simpa using hj2
   have := VRep.sc_eq (h2 j _ (by simp [hj];rfl))
   simpa [Array.getD_eq_getD_getElem?, hj1] using this
 subst hvs
 refine (h X hG).mono ?_
 rintro e w' ⟨rfl, hb⟩
 exact ⟨_, rfl, X.inW w', rfl, hS.inW (keep_below hb), WExt.inW (keep_below hb), _, .sc _, rfl, hσ⟩
theorem pure_of_tup {f : FuncId} {us ws : List Value} {args ds : List DV} (ha : args = us.map .sc) (hd : ds = ws.map .sc) (h : ∀ (X : AX), GOk G X -> Calls P f us.toArray X.w fun e w' => e = .returned (.tuple ws.toArray) /\ Below X.w.heap.size X.w w') : Pure P G f args (.tup ds) := fun B X vs hS hσ hB hG hv => by
 subst ha;subst hd
 have hvs : vs = us.toArray := by
  obtain ⟨h1, h2⟩ := hv
  apply Array.ext
  ·simpa using h1
  ·intro j hj1 hj2
   have hj : j < us.length := by simpa using hj2
   have := VRep.sc_eq (h2 j _ (by simp [hj];rfl))
   simpa [Array.getD_eq_getD_getElem?, hj1] using this
 subst hvs
 refine (h X hG).mono ?_
 rintro e w' ⟨rfl, hb⟩
 refine ⟨_, rfl, X.inW w', rfl, hS.inW (keep_below hb), WExt.inW (keep_below hb), _, .tup _ _ (by simp) fun j d hj => ?_, rfl, hσ⟩
 cases hw : ws[j]? with
 | none => simp [hw] at hj
 | some u =>
  simp [hw] at hj;subst hj
  have : ws.toArray.getD j undef = u := by simp [Array.getD_eq_getD_getElem?, hw]
  rw [this];exact .sc _
theorem tab_is {X : AX} (hG : GOk G X) {g : Nat} {name : String} {k : IntKind} {zs : List Int} (hn : P.globalNamed name = some g) (hg : G g = .ep (zs.map fun z => .sc (.int k z))) : Lib.TabIs P X.w name k zs := by
 obtain ⟨⟨_, h1⟩, h2⟩ := hG g
 obtain ⟨T, hT⟩ := h1 _ hg
 rw [hg] at h2
 obtain ⟨b, o, fv, he, _, h3, h4⟩ := h2.ep_inv
 cases he
 have hT : X.w.shape? g = some (T, _) := hT
 unfold World.shape? at hT
 split at hT
 ·rename_i c el fr hc
  simp only [Option.some.injEq, Prod.mk.injEq, List.length_map] at hT
  obtain ⟨_, hsz⟩ := hT
  unfold Lib.TabIs World.var?
  rw [hn]
  simp only [Option.bind_some, hc, Option.some.injEq]
  apply Array.ext
  ·simp [hsz]
  ·intro j hj1 hj2
   have hj : j < zs.length := by simpa using hj2
   have hcell := (AX.imm_lt (h3 j (by simpa using hj))).2.2.2
   have hrep := VRep.sc_eq (h4 j _ (by simp [hj];rfl))
   rw [Nat.zero_add, World.cell?, hc] at hcell
   simp [hj1, hrep] at hcell
   simpa using hcell
 ·cases hT
end
end Go.Av
namespace Go.Proofs
open Go.Av Go.Bl Go.RowKit
variable {G : Nat -> DV}
theorem join_c (ls : List Str) (sep : List UInt8) (hN : ls.length <= 140737488355328) (hlen : (Lib.join (ls.map (·.l)) sep).length <= 140737488355328) : Go.Av.Pure Tryz.prog G 134 [QR ls, WQ sep] (WQ (Lib.join (ls.map (·.l)) sep)) := fun B X vs hS hσ hB hG hv => by
 obtain ⟨h1, h2⟩ := hv
 have e1 := h2 0 _ rfl
 have e2 := VRep.sc_eq (h2 1 _ rfl)
 obtain ⟨a, len, cap, f, e3, g1, g2, g3, g4, g5⟩ := e1.sl_inv
 have hes : Enc.es Str = 1 := rfl
 have hl : len = ls.length := by
  have := QX ls
  rw [hes, Nat.mul_one] at this
  rw [hes] at g1;omega
 subst hl
 have hvs : vs = #[.slice a ls.length cap, .string ⟨sep.toArray⟩] := by
  apply Array.ext
  ·simpa using h1
  ·intro j hj1 hj2
   have hj : j < 2 := by simpa using hj2
   match j, hj with
   | 0, _ => simpa [Array.getD_eq_getD_getElem?, hj1] using e3
   | 1, _ => simpa [Array.getD_eq_getD_getElem?, hj1] using e2
 subst hvs
 have hxs : (ls.map fun s => (⟨s.l.toArray⟩ : ByteArray)).map (fun b : ByteArray => b.data.toList) = ls.map (·.l) := by
  rw [List.map_map];exact List.map_congr_left fun s _ => by simp
 have key : Calls Tryz.prog 134 #[.slice a ls.length cap, .string ⟨sep.toArray⟩] X.w fun e w' => e = .returned (.string ⟨(Lib.join (ls.map (·.l)) sep).toArray⟩) /\ Below X.w.heap.size X.w w' := by
  rcases g4 with g4|⟨b, o, rfl, g6⟩
  ·have : ls = [] := by
    have := QX ls
    rw [g4] at this
    cases ls with
    | nil => rfl
    | cons x r => simp [hes] at this
   subst this
   exact (Tryz.strings_Join_none a cap ⟨sep.toArray⟩ X.w).mono fun e w' ⟨he, hw⟩ => ⟨he, hw ▸ Below.refl _ _⟩
  ·by_cases h0 : ls = []
   ·subst h0
    exact (Tryz.strings_Join_none _ cap ⟨sep.toArray⟩ X.w).mono fun e w' ⟨he, hw⟩ => ⟨he, hw ▸ Below.refl _ _⟩
   ·have hpos : 0 < ls.length := List.length_pos_iff.2 h0
    have hel := QX ls
    rw [hes, Nat.mul_one] at hel
    have hcell : ∀ (j : Nat) x, (ls.map fun s => (⟨s.l.toArray⟩ : ByteArray))[j]? = some x -> X.w.cell? ⟨b, o + j, none⟩ = some (.string x) := fun j x hj => by
     rw [List.getElem?_map] at hj
     cases hlj : ls[j]? with
     | none => simp [hlj] at hj
     | some s =>
      simp [hlj] at hj;subst hj
      have hjl := (List.getElem?_eq_some_iff.1 hlj).1
      have hen : (Ws ls)[j]? = some (WQ s.l) := by
       have := encs_at ls j hjl 0 (by decide)
       rw [hes] at this
       have hs : ls[j] = s := (List.getElem?_eq_some_iff.1 hlj).2
       rw [hs] at this
       simpa using this.trans (show (Enc.enc s : List DV)[0]? = some (WQ s.l) from rfl)
      have c1 := (AX.imm_lt (g6 j (by omega))).2.2.2
      rw [c1, VRep.sc_eq (g5 j _ hen)]
    have hbk := World.block_lt_of_cell? _ _ ((AX.imm_lt (g6 0 (by omega))).2.2.2)
    have := Tryz.strings_Join b o cap (ls.map fun s => (⟨s.l.toArray⟩ : ByteArray)) ⟨sep.toArray⟩ X.w hcell hbk (by simpa using hN) (by simpa using g2) (by rw [hxs];simpa using hlen)
    rw [hxs] at this
    simpa using this
 refine key.mono ?_
 rintro e w' ⟨rfl, hb⟩
 exact ⟨_, rfl, X.inW w', rfl, hS.inW (keep_below hb), WExt.inW (keep_below hb), _, .sc _, rfl, hσ⟩
theorem repeat_c (s : List UInt8) (c : Nat) (hc : c <= 9223372036854775807) (hlen : s.length * c <= 140737488355328) : Go.Av.Pure Tryz.prog G 82 [WQ s, .i c] (WQ (Lib.repeatL s c)) :=
 pure_of (us := [.string ⟨s.toArray⟩, .int .i64 c]) rfl rfl fun X _ => by simpa using Tryz.strings_Repeat ⟨s.toArray⟩ c X.w hc (by rw [Z7];exact hlen)
theorem hasPrefix_c (s p : List UInt8) : Go.Av.Pure Tryz.prog G 130 [WQ s, WQ p] (.b (Lib.hasPrefix s p)) :=
 pure_of (us := [.string ⟨s.toArray⟩, .string ⟨p.toArray⟩]) rfl rfl fun X _ => (Tryz.strings_HasPrefix ⟨s.toArray⟩ ⟨p.toArray⟩ X.w).mono fun e w' ⟨he, hw⟩ => ⟨by simpa using he, hw ▸ Below.refl _ _⟩
theorem cutPrefix_c (s p : List UInt8) : Go.Av.Pure Tryz.prog G 201 [WQ s, WQ p] (.tup [WQ (Lib.trimPrefix s p), .b (Lib.hasPrefix s p)]) :=
 pure_of_tup (us := [.string ⟨s.toArray⟩, .string ⟨p.toArray⟩]) (ws := [.string ⟨(Lib.trimPrefix s p).toArray⟩, .bool (Lib.hasPrefix s p)]) rfl rfl fun X _ => (Tryz.strings_CutPrefix ⟨s.toArray⟩ ⟨p.toArray⟩ X.w).mono fun e w' ⟨he, hw⟩ => ⟨by simpa using he, hw ▸ Below.refl _ _⟩
theorem formatBool_c (b : Bool) : Go.Av.Pure Tryz.prog G 88 [.b b] (WQ (if b = true then [116, 114, 117, 101] else [102, 97, 108, 115, 101])) :=
 pure_of (us := [.bool b]) rfl rfl fun X _ => (Tryz.strconv_FormatBool b X.w).mono fun e w' ⟨he, hw⟩ => ⟨by rw [he];cases b <;> rfl, hw ▸ Below.refl _ _⟩
def pow10T : DV := .ep (Lib.pow10Tab.map fun z => .sc (.int .u64 z))
def spaceT : DV := .ep (Lib.asciiSpaceTab.map fun z => .sc (.int .u8 z))
theorem grown_bel (w : World) (k : Nat) (os : Array Obj) : Below w.heap.size w (Sort.grow (w.drewN k) os) :=
 ⟨rfl, rfl, rfl, by simp [Sort.grow, World.drewN], fun j hj => by simp [Sort.grow, World.drewN, Array.getElem?_append, hj]⟩
theorem itoa_c (hG : G 6 = pow10T) (n : Int) (h : -9223372036854775808 <= n /\ n <= 9223372036854775807) : Go.Av.Pure Tryz.prog G 83 [.i n] (WQ (Lib.itoa n)) :=
 pure_of (us := [.int .i64 n]) rfl rfl fun X hX =>
  (Tryz.strconv_Itoa n h.1 h.2 X.w (tab_is hX (by kernel_rfl) hG)).mono fun e w' ⟨he, k, os, hw⟩ => ⟨he, hw ▸ grown_bel _ _ _⟩
theorem fields_own (hG : G 1 = spaceT) (s : List UInt8) (hs : s.length < 4294967281) (ha : ∀ b ∈ s, b.toNat < 128) : Own Tryz.prog G 137 [WQ s] (Lib.fields s).length 1 (Ws ((Lib.fields s).map Str.mk)) := fun B X vs hS hσ hB hGk hv => by
 obtain ⟨h1, h2⟩ := hv
 have e2 := VRep.sc_eq (h2 0 _ rfl)
 have hvs : vs = #[.string ⟨s.toArray⟩] := by
  apply Array.ext
  ·simpa using h1
  ·intro j hj1 hj2
   have hj : j < 1 := by simpa using hj2
   match j, hj with
   | 0, _ => simpa [Array.getD_eq_getD_getElem?, hj1] using e2
 subst hvs
 refine (Tryz.strings_Fields ⟨s.toArray⟩ X.w (by rw [Z7];exact hs) (fun j b hb => ha b (by simpa using List.mem_of_getElem? hb)) (tab_is hGk (by kernel_rfl) hG)).mono ?_
 rintro e w' ⟨rfl, rfl⟩
 refine ⟨_, rfl, ?_⟩
 have hls : (⟨s.toArray⟩ : ByteArray).data.toList = s := by simp
 rw [hls]
 have := post_new (K := fun d' σ' => ∃ g, B < g /\ d' = .ref 0 g 0 (Lib.fields s).length 1 /\ σ' = [.row g (Ws ((Lib.fields s).map Str.mk))]) (X := X) (w' := X.w.alloc (.cells ((Lib.fields s).map fun l => Value.string ⟨l.toArray⟩).toArray 9)) (v := fun b => .slice (some ⟨b, 0, none⟩) (Lib.fields s).length (Lib.fields s).length) (d := fun g => .ref X.σ.length g 0 (Lib.fields s).length 1) (ds := Ws ((Lib.fields s).map Str.mk)) hS hB (Keep.alloc _ _) (Nat.le_refl _) (heap_alloc_new _ _) (by rw [QX];simp [show Enc.es Str = 1 from rfl]) (fun j d hj => ?_) (fun L h1 h2' => ?_) (fun g hg => ⟨g, hg, by rw [hσ];rfl, by rw [hσ];rfl⟩)
 ·exact this
 ·have hlt : j < (Lib.fields s).length := by have := (List.getElem?_eq_some_iff.1 hj).1;rw [QX] at this;simpa [show Enc.es Str = 1 from rfl] using this
  have hen := encs_at ((Lib.fields s).map Str.mk) j (by simpa using hlt) 0 (by decide)
  have hes : Enc.es Str = 1 := rfl
  rw [hes, Nat.mul_one, Nat.add_zero, hj] at hen
  have hd : d = WQ (Lib.fields s)[j] := by
   have e0 : (Enc.enc (((Lib.fields s).map Str.mk)[j]'(by simpa using hlt)) : List DV)[0]? = some (WQ (Lib.fields s)[j]) := by rw [List.getElem_map];rfl
   exact Option.some.inj (hen.trans e0)
  subst hd
  refine ⟨rfl, ?_⟩
  have : ((Lib.fields s).map fun l => Value.string ⟨l.toArray⟩).toArray.getD j undef = .string ⟨(Lib.fields s)[j].toArray⟩ := by simp [Array.getD_eq_getD_getElem?, hlt]
  rw [this];exact .sc _
 ·refine .ref _ _ _ _ _ _ _ _ h1 fun ob hob => ?_
  rw [h2'] at hob
  rw [<- Option.some.inj hob]
  exact ⟨_, _, rfl, Nat.le_refl _, .inr ⟨rfl, by simp⟩⟩
theorem trimLeft_c (s cs : List UInt8) (hcs : cs.length < 4294967281) (ha : ∀ b ∈ cs, b.toNat < 128) : Go.Av.Pure Tryz.prog G 102 [WQ s, WQ cs] (WQ (Lib.trimLeftS s cs)) :=
 pure_of (us := [.string ⟨s.toArray⟩, .string ⟨cs.toArray⟩]) rfl rfl fun X _ => by
  have := Any.strings_TrimLeft_laid Tryz.lays161 (by kernel_rfl) ⟨s.toArray⟩ ⟨cs.toArray⟩ X.w (by rw [Z7];exact hcs) (fun j b hb => ha b (by simpa using List.mem_of_getElem? hb))
  simp only [List.toList_toArray] at this
  exact this
theorem trim_c (s cs : List UInt8) (hs : s.length <= 9223372036854775807) (hcs : cs.length < 4294967281) (ha : ∀ b ∈ cs, b.toNat < 128) : Go.Av.Pure Tryz.prog G 148 [WQ s, WQ cs] (WQ (Lib.trimS s cs)) :=
 pure_of (us := [.string ⟨s.toArray⟩, .string ⟨cs.toArray⟩]) rfl rfl fun X _ => by
  have := Any.strings_Trim_laid Tryz.lays160 (by kernel_rfl) ⟨s.toArray⟩ ⟨cs.toArray⟩ X.w (by rw [Z7];exact hs) (by rw [Z7];exact hcs) (fun j b hb => ha b (by simpa using List.mem_of_getElem? hb))
  simp only [List.toList_toArray] at this
  exact this
theorem bwb (w : World) (e : TypeId) (s : ByteArray) : Below w.heap.size w (Lib.bytesWorld w e s) :=
 ⟨rfl, rfl, rfl, by rw [Lib.bytesWorld_size];exact Nat.le_succ _, fun k hk => Lib.bytesWorld_at_old w e s k hk⟩
theorem atoi_c (s : List UInt8) (n : Int) (hl : s.length <= 18) (h : Lib.atoi s = some n) : Go.Av.Pure Tryz.prog G 108 [WQ s] (.tup [.i n, .sc .nilIface]) :=
 pure_of_tup (us := [.string ⟨s.toArray⟩]) (ws := [.int .i64 n, .nilIface]) rfl rfl fun X _ => (Tryz.strconv_Atoi ⟨s.toArray⟩ n (by rw [Z7];exact hl) (by simpa using h) X.w).mono fun e w' ⟨he, t, hw⟩ => ⟨he, by subst hw;exact (show Below X.w.heap.size X.w (Lib.bytesWorld X.w 5 t) from bwb _ _ _)⟩
end Go.Proofs
end
section
namespace Go.Av
open Go.Bl
section
variable {P : Program} {G : Nat -> DV} {B : Nat} {f : Operand -> DV} {σ : List ABlk} {K : DV -> List ABlk -> Prop} {dst : Option Tmp} {type : TypeId} {pos : String} {after : Array Edge} {gd : Option (Nat × Bool)}
theorem wrap_u8 (a : Nat) (h : a < 256) : IntKind.u8.wrap (a : Int) = ((UInt8.ofNat a).toNat : Int) := by
 have h1 : (UInt8.ofNat a).toNat = a := by simp;omega
 rw [h1]
 simp only [IntKind.wrap, IntKind.signed, IntKind.bits]
 simp
 omega
theorem s_max {ts : Array TypeId} {x y : Operand} {k1 : IntKind} {a b : Int} (hx : f x = .sc (.int k1 a)) (hy : f y = .sc (.int k1 b)) (k : K (.sc (.int k1 (max a b))) σ) : OpSem P G B ⟨dst, .call ⟨.builtin .max, #[x, y], ts⟩, type, pos, after, gd⟩ f σ K := fun X ρ hS hσ _ _ hf => by
 subst hσ
 have e1 := hf x (by simp [Op.operands, Call.operands]);rw [hx] at e1
 have e2 := hf y (by simp [Op.operands, Call.operands]);rw [hy] at e2
 have : (Builtin.max_ ts type #[.int k1 a, .int k1 b]).run P X.w = .ok (.int k1 (max a b)) X.w := by
  simp only [Builtin.max_, Builtin.max2, List.foldlM_cons, List.foldlM_nil, Sem.run_bind, Sem.run_pure, Result.andThen_ok]
  rw [Int.max_def];split <;> split <;> first|rfl|(congr 2;omega)
 simp only [execOp, resolve, invoke, builtin, List.map_toArray, List.map_cons, List.map_nil, Sem.run_bind, Sem.run_pure, Result.andThen_ok, VRep.sc_eq e1, VRep.sc_eq e2, this]
 exact Wy hS (.sc _) k
theorem s_conv_u8 {s d : TypeId} {x : Operand} {a : Int} {b : UInt8} {k1 : IntKind} {ds : TypeDesc} {g1 g2 : Bool} {z1 z2 : Nat} [hs : TyI P s ds g1 z1] [hd : TyI P d (.int .u8) g2 z2] (hx : f x = .sc (.int k1 a)) (h : IntKind.u8.wrap a = (b.toNat : Int)) (k : K (.u b) σ) :
  OpSem P G B ⟨dst, .convert s d x, type, pos, after, gd⟩ f σ K := s_conv hx (by rw [h];exact k)
theorem s_conv_bsl {s d e : TypeId} {g1 g2 g3 : Bool} {z1 z2 z3 : Nat} {x : Operand} {l : List UInt8} [hs : TyI P s (.slice e) g1 z1] [he : TyI P e (.int .u8) g2 z2] [hd : TyI P d .string g3 z3] (hx : f x = .sl 1 (u8s l)) (h0 : 0 < l.length) (k : K (WQ l) σ) :
  OpSem P G B ⟨dst, .convert s d x, type, pos, after, gd⟩ f σ K := fun X ρ hS hσ _ _ hf => by
 subst hσ
 have e1 := hf x (by simp [Op.operands]);rw [hx] at e1
 obtain ⟨a, len, cap, fv, e4, h1, h2, h3, h4, h5⟩ := e1.sl_inv
 have hlen : len = l.length := by simpa [u8s] using h1
 subst hlen
 rcases h4 with h4|⟨b, o, rfl, h6⟩
 ·exfalso;have := congrArg List.length h4;simp [u8s] at this;subst this;simp at h0
 have hcell : ∀ i, i < l.length -> X.w.cell? ⟨b, o + i, none⟩ = some (.int .u8 ((l.map fun b => (b.toNat : Int)).getD i 0)) := fun i hi => by
  have hi' : (u8s l)[i]? = some (.sc (.int .u8 (l[i].toNat : Int))) := by simp [u8s, hi]
  rw [(AX.imm_lt (h6 i (by simpa [u8s] using hi))).2.2.2, VRep.sc_eq (h5 i _ hi')]
  simp [List.getD_eq_getElem?_getD, hi]
 have hrun := run_convert_bytes_arg (P := P) X.w s e hs.u he.u b o l.length cap (l.map fun b => (b.toNat : Int)) (by simp) (fun i hi => hcell i (by omega)) d hd.u
 have hstr : strOfNums (l.map fun b => (b.toNat : Int)) = ⟨l.toArray⟩ := by
  apply ByteArray.ext
  apply Array.toList_inj.1
  rw [strOfNums_data, List.map_map]
  show _ = l
  conv => rhs;rw [<- List.map_id l]
  apply List.map_congr_left
  intro x _
  simp
 rw [hstr] at hrun
 simp only [execOp, e4, hrun, Sem.run_bind, Sem.run_pure, Result.andThen_ok]
 exact Wy hS (.sc _) k
theorem s_conv_bsl1 {s d e : TypeId} {g1 g2 g3 : Bool} {z1 z2 z3 : Nat} {x : Operand} {b : UInt8} [hs : TyI P s (.slice e) g1 z1] [he : TyI P e (.int .u8) g2 z2] [hd : TyI P d .string g3 z3] (hx : f x = .sl 1 [.u b]) (k : K (WQ [b]) σ) :
  OpSem P G B ⟨dst, .convert s d x, type, pos, after, gd⟩ f σ K := s_conv_bsl (l := [b]) hx (Nat.succ_pos _) k
end
section
variable {E : AX} {R : DV -> List ABlk -> Prop}
theorem ZB {d d2 : DV} {σ : List ABlk} (h : ∀ L v, VRep L d v -> VRep L d2 v) (k : AClose E R d2 σ) : AClose E R d σ := fun X v hσ hS hE hv => k X v hσ hS hE (h _ _ hv)
theorem Zm {L : Lay} {v : Value} {es : Nat} (h : VRep L (.sc (.slice none 0 0)) v) : VRep L (.sl es []) v := (Sub.nil es).rep h
theorem ZH {L : Lay} {v : Value} {d d' : DV} {r : List DV} (hd : ∀ v, VRep L d v -> VRep L d' v) (h : VRep L (.tup (d :: r)) v) : VRep L (.tup (d' :: r)) v := by
 cases h with|tup _ vs h1 h2 =>
 refine .tup _ _ (by simpa using h1) fun j e hj => ?_
 cases j with
 | zero => simp at hj;subst hj;exact hd _ (h2 0 _ rfl)
 | succ j => exact h2 (j + 1) e (by simpa using hj)
end
end Go.Av
end
section
namespace Go.Proofs
open Go.Av Go.Bl Go.RowKit
set_option maxHeartbeats 1000000 in
set_option maxRecDepth 100000 in
theorem copyCheck_used (b : Nat) (w : World) (h0 : w.cell? ⟨b, 0, none⟩ = some (.pointer (some ⟨b, 0, none⟩))) :
  Calls Tryz.prog 86 #[.pointer (some ⟨b, 0, none⟩)] w fun e w' => e = .returned (.tuple #[]) /\ w' = w :=
 Any.Builder_copyCheck_used (ρ := Tryz.lays156_ren) { Tryz.lays156 with } { Tryz.Builder_Extra_156 with } b w h0
set_option maxHeartbeats 1000000 in
set_option maxRecDepth 100000 in
theorem copyCheck_fresh (b : Nat) (w : World) (h0 : w.cell? ⟨b, 0, none⟩ = some (.pointer none)) (hsh : w.shape? b = some (77, 3)) (hfz : w.frozen? ⟨b, 0, none⟩ = false) :
  Calls Tryz.prog 86 #[.pointer (some ⟨b, 0, none⟩)] w fun e w' => e = .returned (.tuple #[]) /\ w' = w.setCell ⟨b, 0, none⟩ (.pointer (some ⟨b, 0, none⟩)) := by
 have hi : ∃ j, Tryz.prog.info? 75 = some j /\ j.size = 2 := Option.map_eq_some_iff.1 (show (Tryz.prog.info? 75).map (·.size) = some 2 by kernel_rfl)
 obtain ⟨j, hj, hjs⟩ := hi
 have hlies : liesAt Tryz.prog Tryz.prog.depth 77 (3 / Tryz.prog.cellsOf 77) 0 75 1 = true := by decide +kernel
 go_enter Tryz.func86, Tryz.ntmps86
 go_wp2
 rw [Lib.run_to_unsafe w ⟨b, 0, none⟩ (by kernel_rfl : Tryz.prog.underlying 73 = some (.pointer 75)) (by kernel_rfl : Tryz.prog.underlying 139 = some .unsafePointer) hj (by rw [hjs];decide) hsh (Nat.zero_lt_succ 2)]
 simp only [Result.andThen]
 rw [Oper.upon_value]
 go_wp2
 rw [run_callFunc_extern Tryz.func135 (by kernel_rfl) (by kernel_rfl) (by kernel_rfl) (e := Extern.AbiNoEscape.same) (by kernel_rfl)]
 rw [Lib.run_noEscape]
 simp only [Result.andThen]
 rw [Oper.upon_value]
 go_wp2
 rw [Lib.run_from_unsafe w ⟨b, 0, none⟩ (by kernel_rfl : Tryz.prog.underlying 139 = some .unsafePointer) (by kernel_rfl : Tryz.prog.underlying 73 = some (.pointer 75)) hj hsh hlies]
 simp only [Result.andThen]
 rw [Oper.upon_value]
 go_wp2
 go_end0
 exact ⟨rfl, rfl⟩
set_option maxHeartbeats 2000000 in
set_option maxRecDepth 100000 in
theorem string_row (b g cap : Nat) (l : List UInt8) (arr : Array Value) (w : World) (hl0 : l ≠ []) (c0 : w.cell? ⟨b, 1, none⟩ = some (.slice (some ⟨g, 0, none⟩) l.length cap)) (hg : w.shape? g = some (5, arr.size)) (hn : l.length <= cap) (hmax : l.length <= 9223372036854775807) (ha : l.length <= arr.size)
  (hb : ∀ (j : Nat) x, l[j]? = some x -> w.cell? ⟨g, j, none⟩ = some (.int .u8 x.toNat)) :
  Calls Tryz.prog 50 #[.pointer (some ⟨b, 0, none⟩)] w fun e w' => e = .returned (.string ⟨l.toArray⟩) /\ w' = w.drew.freeze ⟨g, 0, none⟩ l.length := by
 have hl1 : l.length ≠ 0 := by simpa using hl0
 have mixed : Tryz.prog.follows Departure.mixedOrders = true := by kernel_rfl
 have c1 : w.drew.cell? ⟨b, 1, none⟩ = some (.slice (some ⟨g, 0, none⟩) l.length cap) := c0
 have hSD : (Builtin.unsafeSliceData_ #[43] 118 #[.slice (some ⟨g, 0, none⟩) l.length cap]).run Tryz.prog w.drew = .ok (.pointer (some ⟨g, 0, none⟩)) w.drew :=
  Lib.run_unsafeSliceData_row _ _ _ _ _ _ (by omega)
 have hUS : (Builtin.unsafeString_ #[118, 3] 9 #[.pointer (some ⟨g, 0, none⟩), .int .i64 l.length]).run Tryz.prog w.drew = .ok (.string ⟨l.toArray⟩) (w.drew.freeze ⟨g, 0, none⟩ l.length) := by
  refine Lib.run_unsafeString_row w.drew 118 3 9 5 (by kernel_rfl) (by kernel_rfl) g arr.size hg l hl0 ha hmax ?_
  intro j x hx
  rw [Z9, Nat.zero_add]
  exact hb j x hx
 go_enter Tryz.func50, Tryz.ntmps50
 go_wp2
 go_region_o
 all_goals (go_wp2;go_ret;exact ⟨rfl, rfl⟩)
theorem copyCheck_c {G : Nat -> DV} {B k g : Nat} {σ : List ABlk} {rest : List DV} (hk : σ[k]? = some (.row g (.bld 77 k g :: rest))) (hl : rest.length = 2) : ACalls Tryz.prog G B 86 [.ptr k g 0] σ (fun d' σ' => d' = .tup [] /\ σ' = σ) := fun X vs hS hσ hB hG hv => by
 subst hσ
 obtain ⟨h1, h2⟩ := hv
 have e1 := h2 0 _ rfl
 obtain ⟨b, n, hρ, e2⟩ := e1.ptr_inv hk
 have hvs : vs = #[.pointer (some ⟨b, 0, none⟩)] := by
  apply Array.ext
  ·simpa using h1
  ·intro j hj1 hj2
   have hj : j < 1 := by simpa using hj2
   match j, hj with
   | 0, _ => simpa [Array.getD_eq_getD_getElem?, hj1] using e2
 subst hvs
 obtain ⟨arr, T, fr, q1, q2, q3, q4, q5⟩ := hS.row hk hρ
 have q30 : 3 <= n := by simpa [hl] using q3
 have r0 := (q5 0 _ rfl).2
 obtain ⟨a, ha⟩ : ∃ a, arr.getD 0 undef = .pointer a := by
  generalize arr.getD 0 undef = u at r0
  cases r0 with|bld _ _ _ a _ _ => exact ⟨a, rfl⟩
 rw [ha] at r0
 have hb0 : ∃ b' n', some (b, n) = some (b', n') /\ X.lay.shp b' = some (77, 3) /\ (a = none \/ a = some ⟨b', 0, none⟩) := by
  cases r0 with|bld _ _ _ a g1 g2 => exact g2 _ (by rw [AX.row_mk (WE hk), hρ])
 obtain ⟨b', n', hbn, hsh, hcase⟩ := hb0
 cases hbn
 have hc0 : X.w.cell? ⟨b, 0, none⟩ = some (.pointer a) := by
  have : 0 < arr.size := by omega
  simp only [World.cell?, q1]
  rw [<- ha];simp [Array.getD_eq_getD_getElem?, this]
 have hn3 : n = 3 := by
  have hsh : X.w.shape? b = some (77, 3) := hsh
  simp only [World.shape?, q1, Option.some.injEq, Prod.mk.injEq] at hsh
  omega
 subst hn3
 rcases hcase with rfl|rfl
 ·have hfz : X.w.frozen? ⟨b, 0, none⟩ = false := by
   have := q4 0 (by omega)
   simp only [World.frozen?, q1]
   simpa using this
  refine (copyCheck_fresh b X.w hc0 hsh hfz).mono ?_
  rintro e w' ⟨rfl, rfl⟩
  have hset : X.w.setCell ⟨b, 0, none⟩ (.pointer (some ⟨b, 0, none⟩)) = X.w.setCells b 0 [.pointer (some ⟨b, 0, none⟩)] := rfl
  have := (post_store (P := Tryz.prog) (K := fun d' σ' => d' = .tup [] /\ σ' = X.σ) (v := .tuple #[]) (d := .tup []) (vs := [.pointer (some ⟨b, 0, none⟩)]) (ds := [.bld 77 k g]) (o := 0) (cs' := .bld 77 k g :: rest) hS hk hρ rfl (fun u hu => by simp at hu;subst hu;rfl) (fun j e hj => ?_) (by simp) (by simp [hl]) (fun j => ?_) (fun L _ => .tup _ _ rfl fun j d hj => by simp at hj) ⟨rfl, ?_⟩).2
  ·exact ⟨_, rfl, this⟩
  ·cases j with
   | zero =>
    simp at hj;subst hj
    refine ⟨rfl, .bld _ _ _ _ (by cases r0 with|bld _ _ _ a g1 g2 => exact g1) fun ob hob => ?_⟩
    rw [AX.row_mk (WE hk), hρ] at hob
    exact ⟨b, 3, (Option.some.inj hob).symm, hsh, .inr rfl⟩
   | succ j => simp at hj
  ·cases j with
   | zero => rfl
   | succ j => simp
  ·apply List.ext_getElem?
   intro i
   rw [List.getElem?_set]
   split
   ·rename_i h;subst h
    split
    ·exact hk.symm
    ·rename_i h;exact absurd (List.getElem?_eq_some_iff.1 hk).1 h
   ·rfl
 ·refine (copyCheck_used b X.w hc0).mono ?_
  rintro e w' ⟨rfl, rfl⟩
  exact ⟨_, rfl, X, rfl, hS, WExt.refl X, .tup [], .tup _ _ rfl fun j d hj => by simp at hj, rfl, rfl⟩
end Go.Proofs
end
section
namespace Go.Av
open Classical
section
variable {P : Program} {G : Nat -> DV} {B : Nat} {f : Operand -> DV} {σ : List ABlk} {K : DV -> List ABlk -> Prop} {dst : Option Tmp} {type : TypeId} {pos : String} {after : Array Edge} {gd : Option (Nat × Bool)}
theorem shape_new (w : World) (a : Array Value) (T : TypeId) : (w.alloc (.cells a T)).shape? w.heap.size = some (T, a.size) := by unfold World.shape?;rw [heap_alloc_new]
theorem s_append_b {t t' e : TypeId} {d : TypeDesc} {g1 g2 : Bool} {z1 bytes : Nat} {zs : List Value} {x y : Operand} {m g len n : Nat} {cs ms : List DV} {dy : DV} [ht : TyI P t (.slice e) g1 z1] [ht' : SrcTy P t'] [he : TyI P e d g2 1] [hb : TyB P e bytes] [hz : TyZ P e zs]
  (hzl : zs.length = 1) (hx : f x = .bref e m g len) (hm : σ[m]? = some (.row g cs)) (hle : len * 1 <= cs.length) (hy : f y = dy) (hsrc : SrcOf P σ dy 1 n ms) (hby : (len + n) * bytes <= 140737488355328) (hsm : len + n <= 9223372036854775807)
  (k : ∀ g', B < g' -> K (.bref e m g' (len + n)) (σ.set m (.row g' (cs.take (len * 1) ++ ms)))) : OpSem P G B ⟨dst, .call ⟨.builtin .append, #[x, y], #[t, t']⟩, type, pos, after, gd⟩ f σ K := fun X ρ hS hσ hB _ hf => by
 subst hσ
 have e0 := hf x (by simp [Op.operands, Call.operands]);rw [hx] at e0
 have e1 : VRep X.lay (.ref m g 0 len 1) (ρ x) := by
  generalize ρ x = u at e0
  cases e0 with|bref _ _ _ _ a l c h1 h2 => exact .ref _ _ _ _ _ _ _ _ h1 fun ob hob => (h2 ob hob).1
 have hsh0 : ∀ b nn, X.ρ m = some (b, nn) -> ∃ mm, X.w.shape? b = some (e, mm) := fun b nn hb => by
  generalize ρ x = u at e0
  cases e0 with|bref _ _ _ _ a l c h1 h2 => exact (h2 _ (AX.row_mk (WE hm))).2 b nn hb
 have e2 := hf y (by simp [Op.operands, Call.operands]);rw [hy] at e2
 obtain ⟨vs, hsx⟩ := hsrc X _ hS rfl e2
 obtain ⟨us, hss⟩ := Src.ref (P := P) hS hm e1 (by omega)
 rw [List.drop_zero] at hss
 have href := e1.ref_inv hm
 obtain ⟨base, cap, hv, hlc, hcase⟩ : ∃ base cap, ρ x = .slice base len cap /\ len <= cap /\ ((X.ρ m = none /\ base = none /\ cap = 0) \/ ∃ b nn, X.ρ m = some (b, nn) /\ (cap = 0 \/ (base = some ⟨b, 0, none⟩ /\ cap * 1 <= nn))) := by
  unfold RefOk at href
  cases hρ : X.ρ m with
  | none => rw [hρ] at href;obtain ⟨h1, _, rfl⟩ := href;exact ⟨none, 0, h1, Nat.le_refl _, .inl ⟨rfl, rfl, rfl⟩⟩
  | some z =>
   obtain ⟨b, nn⟩ := z
   rw [hρ] at href
   obtain ⟨a, cap, h1, h2, h3⟩ := href
   exact ⟨a, cap, h1, h2, .inr ⟨b, nn, rfl, by rcases h3 with h3|⟨h3, h4⟩;exact .inl h3;exact .inr ⟨h3, by omega⟩⟩⟩
 rw [hv] at hss
 have hlen : (cs.take (len * 1) ++ ms).length = (len + n) * 1 := by rw [List.length_append, hss.hm, hsx.hm, Nat.add_mul]
 have fin : ∀ (w' : World) (ob : Option (Nat × Nat)) (v' : Value), w'.os = X.w.os -> w'.tape = X.w.tape -> w'.output = X.w.output -> X.w.heap.size <= w'.heap.size ->
   (∀ b, b < X.w.heap.size -> (∀ nn, X.ρ m ≠ some (b, nn)) -> w'.heap[b]? = X.w.heap[b]?) -> (∀ b nn, ob = some (b, nn) -> X.w.heap.size <= b \/ ∃ n0, X.ρ m = some (b, n0)) -> (∀ b s, X.w.shape? b = some s -> w'.shape? b = some s) ->
   (ABlk.row (X.N + 1) (cs.take (len * 1) ++ ms)).holds X.lay w' ob -> RefOk ob 0 (len + n) 1 v' -> (∃ a c, v' = .slice a (len + n) c) -> (∀ b nn, ob = some (b, nn) -> X.ρ m = some (b, nn) \/ ∃ mm, w'.shape? b = some (e, mm)) -> APost X K v' w' := by
  intro w' ob v' h1 h2 h3 h4 h5 h6 hshp h7 h8 h9 h10
  obtain ⟨a, c, rfl⟩ := h9
  have hok : ReplOk X m g w' ob (.row (X.N + 1) (cs.take (len * 1) ++ ms)) (X.N + 1) := { live := WE hm, os := h1, tape := h2, output := h3, size := h4, block := h5, gen := .inl ⟨_, rfl, Nat.lt_succ_self _, Nat.le_refl _⟩, lies := h6, shp := hshp }
  refine ⟨_, rfl, hS.repl hok h7, WExt.repl hS hok, _, ?_, k (X.N + 1) (by omega)⟩
  refine .bref _ _ _ _ _ _ _ (Nat.le_refl _) fun ob' hob => ?_
  rw [AX.row_mk ((AX.repl_live (AX.live_lt (WE hm))).2 (.inr ⟨rfl, rfl⟩))] at hob
  simp only [AX.repl, if_true, Option.some.injEq] at hob
  subst hob
  refine ⟨h8, fun b nn hb => ?_⟩
  rcases h10 b nn hb with hr|hr
  ·obtain ⟨mm, hmm⟩ := hsh0 b nn hr
   exact ⟨mm, hshp _ _ hmm⟩
  ·exact hr
 have hcall : ∀ r, (Builtin.append_ #[t, t'] type #[.slice base len cap, ρ y]).run P X.w = r -> (match r with|.ok v w' => APost X K v w'|_ => False) -> OPost P X K ((execOp ρ ⟨dst, .call ⟨.builtin .append, #[x, y], #[t, t']⟩, type, pos, after, gd⟩).run P X.w) := by
  intro r hr hp
  simp only [execOp, resolve, invoke, builtin, List.map_toArray, List.map_cons, List.map_nil, Sem.run_bind, Sem.run_pure, Result.andThen_ok, hv, hr]
  cases r with
  | ok v w' => exact hp
  | halt _ _ => exact hp.elim
 rcases run_append (ty := type) ht ht' he hb hz hss hsx hby hsm with ⟨hfit, hrun⟩|⟨hgrow, nc, hnc, hrun⟩
 ·refine hcall _ hrun ?_
  rcases hcase with ⟨hρ, rfl, rfl⟩|⟨b, nn, hρ, hcap⟩
  ·obtain ⟨rfl, rfl⟩ : len = 0 /\ n = 0 := by omega
   have hnil : cs.take (0 * 1) ++ ms = [] := List.eq_nil_of_length_eq_zero (by first|(rw [hlen];done)|(rw [hlen];simp))
   exact fin X.w none _ rfl rfl rfl (Nat.le_refl _) (fun _ _ _ => rfl) (fun _ _ h => by cases h) (fun _ _ h => h) hnil ⟨rfl, rfl, rfl⟩ ⟨_, _, rfl⟩ (fun _ _ h => by cases h)
  ·obtain ⟨arr, T, fr, q1, q2, q3, q4, q5⟩ := hS.row hm hρ
   rcases hcap with rfl|⟨rfl, hcap⟩
   ·obtain ⟨rfl, rfl⟩ : len = 0 /\ n = 0 := by omega
    have hvs : vs = [] := List.eq_nil_of_length_eq_zero (by first|(rw [hsx.hv];done)|(rw [hsx.hv];simp))
    have hnil : cs.take (0 * 1) ++ ms = [] := List.eq_nil_of_length_eq_zero (by first|(rw [hlen];done)|(rw [hlen];simp))
    suffices hfin : APost X K (.slice base (0 + 0) 0) X.w by subst hvs;cases base <;> exact hfin
    refine fin X.w (some (b, nn)) _ rfl rfl rfl (Nat.le_refl _) (fun _ _ _ => rfl) (fun b' n' h => .inr ⟨nn, by rw [hρ];cases h;rfl⟩) (fun _ _ h => h) ?_ ⟨_, _, rfl, Nat.le_refl _, .inl rfl⟩ ⟨_, _, rfl⟩ (fun b' n' h => .inl (by rw [hρ];exact h))
    rw [hnil]
    exact ⟨arr, T, fr, q1, q2, Nat.zero_le _, q4, fun j e hj => by simp at hj⟩
   ·have hfit' : (len + n) * 1 <= cap * 1 := Nat.mul_le_mul_right _ hfit
    rw [Nat.add_mul] at hfit'
    have hst : (storeCells ⟨b, 0 + len * 1, none⟩ vs).run P X.w = .ok () (X.w.setCells b (0 + len * 1) vs) := run_storeRow q1 (fun j hj => q4 j (by omega)) (by rw [hsx.hv];omega) hsx.one
    simp only [Z9, hst, Result.andThen_ok]
    obtain ⟨r1, r2, r3, r4⟩ := setCells_rest vs X.w b (0 + len * 1)
    refine fin _ (some (b, nn)) _ r1 r2 r3 (Nat.le_of_eq r4.symm) (fun b' _ hb' => Zv vs X.w b _ b' (fun e => hb' nn (by rw [hρ, e]))) (fun b' n' h => .inr ⟨nn, by rw [hρ];cases h;rfl⟩) (setCells_shp q1 _ _) ?_ ⟨_, cap, rfl, hfit, .inr ⟨rfl, by omega⟩⟩ ⟨_, _, rfl⟩ (fun b' n' h => .inl (by rw [hρ];exact h))
    refine ⟨_, T, fr, qA vs X.w b _ arr T fr q1, by rw [qs, q2], by rw [hlen, Nat.add_mul];omega, q4, fun j e hj => ?_⟩
    rw [qL _ _ _ _ (by rw [hsx.hv];omega)]
    rw [List.getElem?_append, hss.hm] at hj
    split at hj
    ·rename_i hlt
     rw [if_neg (by omega)]
     rw [List.getElem?_take, if_pos hlt] at hj
     exact q5 j e hj
    ·rename_i hge
     have hlt : j - len * 1 < n * 1 := by have := (List.getElem?_eq_some_iff.1 hj).1;rw [hsx.hm] at this;exact this
     rw [if_pos (by rw [hsx.hv];omega), Nat.zero_add]
     exact hsx.rep _ e hj
 ·refine hcall _ hrun ?_
  have hwk : Keep X.w (X.w.drew.alloc (.cells (us.toArray ++ vs.toArray ++ Builtin.zeroCells zs.toArray (nc - (len + n))) e)) := (Keep.drew X.w).trans (Keep.alloc _ _)
  have hasz : (us.toArray ++ vs.toArray ++ Builtin.zeroCells zs.toArray (nc - (len + n))).size = nc * 1 := by
   rw [Array.size_append, Array.size_append, zeroCells_size, hzl]
   simp only [List.size_toArray, hss.hv, hsx.hv, <- Nat.add_mul]
   congr 1;omega
  have hncs : (len + n) * 1 <= nc * 1 := Nat.mul_le_mul_right _ hnc
  refine fin _ (some (X.w.heap.size, nc * 1)) _ rfl rfl rfl hwk.size (fun b hb _ => hwk.block b hb) (fun b nn h => .inl (by cases h;exact Nat.le_refl _)) hwk.shp ?_ ⟨_, nc, rfl, hnc, .inr ⟨rfl, by omega⟩⟩ ⟨_, _, rfl⟩ (fun b' n' h => .inr ⟨_, by cases h;exact shape_new X.w.drew _ _⟩)
  exact ⟨_, e, (0, 0), heap_alloc_new X.w.drew _, hasz, by rw [hlen];exact hncs, fun j _ h => by simp at h, fun j e' hj => grown_rep hss hsx _ j e' hj⟩
end
end Go.Av
end
section
namespace Go.Av
open Go.Bl Go.Proofs
abbrev pRow (k0 k1 g0 g1 n : Nat) (bad : Bool) : ABlk := .row g0 [.bld 77 k0 g0, .bref 5 k1 g1 n, .b bad]
abbrev pfx3 (g0 : Nat) (r : List ABlk) (p : DV × DV × DV × ABlk) : List ABlk := .row g0 [p.1, p.2.1, p.2.2.1] :: p.2.2.2 :: r
section
variable {P : Program} {G : Nat -> DV}
def PM (P : Program) (G : Nat -> DV) (f : FuncId) (aa : Nat -> Nat -> List DV) (o : List UInt8) (bad : Bool) (res : DV) (o' : List UInt8) (bad' : Bool) : Prop :=
 ∀ g0 g1 B, g0 <= B -> g1 <= B -> ACalls P G B f (aa 0 g0) [pRow 0 1 g0 g1 o.length bad, .row g1 (Ws o)]
  (fun d' τ' => d' = res /\ ∃ g1', (g1' = g1 \/ B < g1') /\ τ' = [pRow 0 1 g0 g1' o'.length bad', .row g1' (Ws o')])
variable {B : Nat} {f : Operand -> DV} {σ : List ABlk} {K : DV -> List ABlk -> Prop} {dst : Option Tmp} {type : TypeId} {pos : String} {after : Array Edge} {gd : Option (Nat × Bool)}
theorem PM.lift {fid : FuncId} {aa : Nat -> Nat -> List DV} {o o' : List UInt8} {bad bad' : Bool} {res : DV} {k0 k1 g0 g1 : Nat} {es : List DV} {σ' : Nat -> List ABlk} (h : PM P G fid aa o bad res o' bad') (hes : es = aa k0 g0) (h0 : σ[k0]? = some (pRow k0 k1 g0 g1 o.length bad)) (h1 : σ[k1]? = some (.row g1 (Ws o))) (hne : Nat.beq k0 k1 = false)
  (hargs : RenL (RenD (qf [k0, k1] σ.length)) (aa k0 g0) (aa 0 g0)) (hres : res.clo = true) (hσ' : ∀ g1', qj σ [k0, k1] [pRow k0 k1 g0 g1' o'.length bad', .row g1' (Ws o')] = some (σ' g1')) :
  ACalls P G B fid es σ (fun d τ => ∃ g1', (g1' = g1 \/ B < g1') /\ d = res /\ τ = σ' g1') := by
 subst hes
 have hbs : ∀ {m : Nat} {g : Nat} {l : List UInt8} {b : Bool}, RenBs (qf [k0, k1] m) [pRow k0 k1 g0 g l.length b, .row g (Ws l)] [pRow 0 1 g0 g l.length b, .row g (Ws l)] := fun {m g l b} =>
  .cons (.row (.cons (.bld rfl) (.cons (.bref rfl) (.cons (.clo Wf) .nil)))) (.cons (.rowc (QO l)) .nil)
 have hnd : [k0, k1].Nodup := by
  have : k0 ≠ k1 := fun e => by subst e;simp at hne
  simp [this]
 have hpick : pickA σ [k0, k1] = some [pRow k0 k1 g0 g1 o.length bad, .row g1 (Ws o)] := by simp only [pickA, h0, h1]
 obtain ⟨hp1, hp2⟩ := pickA_eq hpick
 obtain ⟨h3, h4⟩ := (hbs (m := σ.length) (g := g1) (l := o) (b := bad)).get
 refine ACalls.sub (R := fun B d' τ' => d' = res /\ ∃ g1', (g1' = g1 \/ B < g1') /\ τ' = [pRow 0 1 g0 g1' o'.length bad', .row g1' (Ws o')]) hargs hnd rfl (fun i hi => ?_) (fun B' hB hg => h g0 g1 B' (hg 0 _ _ rfl rfl) (hg 1 _ _ rfl rfl)) ?_
 ·obtain ⟨b, e1, e2⟩ := hp2 i hi
  have hi2 : i < 2 := by simpa using hi
  have e3 := List.getElem?_eq_getElem (show i < [pRow 0 1 g0 g1 o.length bad, .row g1 (Ws o)].length by simpa using hi2)
  exact ⟨b, _, e1, e3, h4 i b _ e2 e3⟩
 ·rintro B' d' τ' hB ⟨rfl, g1', hg, rfl⟩
  refine ⟨d', σ' g1', Out.of (.s (.clo hres)) hnd rfl hbs (hσ' g1'), g1', by omega, rfl, rfl⟩
theorem s_call_pm {args : Array Operand} {ts : Array TypeId} {fid : FuncId} {aa : Nat -> Nat -> List DV} {o o' : List UInt8} {bad bad' : Bool} {res : DV} {k0 k1 g0 g1 : Nat} {es : List DV} {σ' : Nat -> List ABlk} [FnOk P fid] (h : PM P G fid aa o bad res o' bad') (hx : f (.func fid) = .fn (.func fid) [] []) (hds : reL (args.toList.map f) = some es) (hes : es = aa k0 g0) (h0 : σ[k0]? = some (pRow k0 k1 g0 g1 o.length bad)) (h1 : σ[k1]? = some (.row g1 (Ws o))) (hne : Nat.beq k0 k1 = false)
  (hargs : RenL (RenD (qf [k0, k1] σ.length)) (aa k0 g0) (aa 0 g0)) (hres : res.clo = true) (hσ' : ∀ g1', qj σ [k0, k1] [pRow k0 k1 g0 g1' o'.length bad', .row g1' (Ws o')] = some (σ' g1')) (kk : ∀ g1', (g1' = g1 \/ B < g1') -> K res (σ' g1')) :
  OpSem P G B ⟨dst, .call ⟨.value (.func fid), args, ts⟩, type, pos, after, gd⟩ f σ K := s_call hx hds ((h.lift hes h0 h1 hne hargs hres hσ').mono fun _ _ ⟨g, hg, e1, e2⟩ => by rw [e1, e2];exact kk g hg)
def PE (P : Program) (G : Nat -> DV) (f : FuncId) (aa : Nat -> Nat -> List DV) (o : List UInt8) (bad : Bool) (res : DV) (bad' : Bool) : Prop :=
 ∀ g0 g1 B, g0 <= B -> g1 <= B -> ACalls P G B f (aa 0 g0) [pRow 0 1 g0 g1 o.length bad, .row g1 (Ws o)] (fun d' τ' => d' = res /\ τ' = [pRow 0 1 g0 g1 o.length bad', .row g1 (Ws o)])
theorem PE.conv {f : FuncId} {aa : Nat -> Nat -> List DV} {o : List UInt8} {bad bad' b2 : Bool} {res r2 : DV} (h : PE P G f aa o bad res bad') (h1 : res = r2) (h3 : bad' = b2) : PE P G f aa o bad r2 b2 := by subst h1;subst h3;exact h
theorem PE.lift {fid : FuncId} {aa : Nat -> Nat -> List DV} {o : List UInt8} {bad bad' : Bool} {res : DV} {k0 k1 g0 g1 : Nat} {es : List DV} {σ' : List ABlk} (h : PE P G fid aa o bad res bad') (hes : es = aa k0 g0) (h0 : σ[k0]? = some (pRow k0 k1 g0 g1 o.length bad)) (h1 : σ[k1]? = some (.row g1 (Ws o))) (hne : Nat.beq k0 k1 = false)
  (hargs : RenL (RenD (qf [k0, k1] σ.length)) (aa k0 g0) (aa 0 g0)) (hres : res.clo = true) (hσ' : qj σ [k0, k1] [pRow k0 k1 g0 g1 o.length bad', .row g1 (Ws o)] = some σ') :
  ACalls P G B fid es σ (fun d τ => d = res /\ τ = σ') := by
 subst hes
 have hbs : ∀ {m : Nat} {g : Nat} {l : List UInt8} {b : Bool}, RenBs (qf [k0, k1] m) [pRow k0 k1 g0 g l.length b, .row g (Ws l)] [pRow 0 1 g0 g l.length b, .row g (Ws l)] := fun {m g l b} =>
  .cons (.row (.cons (.bld rfl) (.cons (.bref rfl) (.cons (.clo Wf) .nil)))) (.cons (.rowc (QO l)) .nil)
 have hnd : [k0, k1].Nodup := by
  have : k0 ≠ k1 := fun e => by subst e;simp at hne
  simp [this]
 have hpick : pickA σ [k0, k1] = some [pRow k0 k1 g0 g1 o.length bad, .row g1 (Ws o)] := by simp only [pickA, h0, h1]
 obtain ⟨hp1, hp2⟩ := pickA_eq hpick
 obtain ⟨h3, h4⟩ := (hbs (m := σ.length) (g := g1) (l := o) (b := bad)).get
 refine ACalls.sub (R := fun B d' τ' => d' = res /\ τ' = [pRow 0 1 g0 g1 o.length bad', .row g1 (Ws o)]) hargs hnd rfl (fun i hi => ?_) (fun B' hB hg => h g0 g1 B' (hg 0 _ _ rfl rfl) (hg 1 _ _ rfl rfl)) ?_
 ·obtain ⟨b, e1, e2⟩ := hp2 i hi
  have hi2 : i < 2 := by simpa using hi
  have e3 := List.getElem?_eq_getElem (show i < [pRow 0 1 g0 g1 o.length bad, .row g1 (Ws o)].length by simpa using hi2)
  exact ⟨b, _, e1, e3, h4 i b _ e2 e3⟩
 ·rintro B' d' τ' hB ⟨rfl, rfl⟩
  refine ⟨d', σ', Out.of (.s (.clo hres)) hnd rfl hbs hσ', rfl, rfl⟩
theorem s_call_pe {args : Array Operand} {ts : Array TypeId} {fid : FuncId} {aa : Nat -> Nat -> List DV} {o : List UInt8} {bad bad' : Bool} {res : DV} {k0 k1 g0 g1 : Nat} {es : List DV} {σ' : List ABlk} [FnOk P fid] (h : PE P G fid aa o bad res bad') (hx : f (.func fid) = .fn (.func fid) [] []) (hds : reL (args.toList.map f) = some es) (hes : es = aa k0 g0) (h0 : σ[k0]? = some (pRow k0 k1 g0 g1 o.length bad)) (h1 : σ[k1]? = some (.row g1 (Ws o))) (hne : Nat.beq k0 k1 = false)
  (hargs : RenL (RenD (qf [k0, k1] σ.length)) (aa k0 g0) (aa 0 g0)) (hres : res.clo = true) (hσ' : qj σ [k0, k1] [pRow k0 k1 g0 g1 o.length bad', .row g1 (Ws o)] = some σ') (kk : K res σ') :
  OpSem P G B ⟨dst, .call ⟨.value (.func fid), args, ts⟩, type, pos, after, gd⟩ f σ K := s_call hx hds ((h.lift hes h0 h1 hne hargs hres hσ').mono fun _ _ ⟨e1, e2⟩ => by rw [e1, e2];exact kk)
theorem s_callv_pe {x : Operand} {args : Array Operand} {ts : Array TypeId} {fid : FuncId} {first cap : List DV} {aa : Nat -> Nat -> List DV} {o : List UInt8} {bad bad' : Bool} {res : DV} {k0 k1 g0 g1 : Nat} {es : List DV} {σ' : List ABlk} [FnOk P fid] (h : PE P G fid aa o bad res bad') (hx : f x = .fn (.func fid) first cap) (hds : reL (first ++ args.toList.map f ++ cap) = some es) (hes : es = aa k0 g0) (h0 : σ[k0]? = some (pRow k0 k1 g0 g1 o.length bad)) (h1 : σ[k1]? = some (.row g1 (Ws o))) (hne : Nat.beq k0 k1 = false)
  (hargs : RenL (RenD (qf [k0, k1] σ.length)) (aa k0 g0) (aa 0 g0)) (hres : res.clo = true) (hσ' : qj σ [k0, k1] [pRow k0 k1 g0 g1 o.length bad', .row g1 (Ws o)] = some σ') (kk : K res σ') :
  OpSem P G B ⟨dst, .call ⟨.value x, args, ts⟩, type, pos, after, gd⟩ f σ K := s_callv hx hds ((h.lift hes h0 h1 hne hargs hres hσ').mono fun _ _ ⟨e1, e2⟩ => by rw [e1, e2];exact kk)
theorem c_pe {E : AX} {g0 g1 : Nat} {d res : DV} {o : List UInt8} {bad' b2 : Bool} {r : List ABlk} (hd : d = res) (hb : b2 = bad') :
  AClose E (fun d' τ' => d' = res /\ τ' = [pRow 0 1 g0 g1 o.length bad', .row g1 (Ws o)]) d (pRow 0 1 g0 g1 o.length b2 :: .row g1 (Ws o) :: r) := by
 subst hb
 exact Zc (σ := [_, _]) ⟨hd, rfl⟩
theorem s_call_cc {G : Nat -> DV} {B : Nat} {f : Operand -> DV} {σ : List ABlk} {K : DV -> List ABlk -> Prop} {dst : Option Tmp} {type : TypeId} {pos : String} {after : Array Edge} {gd : Option (Nat × Bool)} {args : Array Operand} {ts : Array TypeId} {k g : Nat} {rest : List DV} (hx : f (.func 86) = .fn (.func 86) [] []) (hds : reL (args.toList.map f) = some [.ptr k g 0]) (hk : σ[k]? = some (.row g (.bld 77 k g :: rest))) (hl : rest.length = 2) (kk : K (.tup []) σ) :
  OpSem Tryz.prog G B ⟨dst, .call ⟨.value (.func 86), args, ts⟩, type, pos, after, gd⟩ f σ K := s_call hx hds ((copyCheck_c hk hl).mono fun _ _ ⟨e1, e2⟩ => by rw [e1, e2];exact kk)
theorem s_app_str {t t' e : TypeId} {d : TypeDesc} {g1 : Bool} {z1 : Nat} {zs : List Value} {x y : Operand} {m g : Nat} {l s : List UInt8} {σ' : Nat -> List ABlk} [ht : TyI P t (.slice e) g1 z1] [ht' : SrcTy P t'] [he : TyI P e d false 1] [hb : TyB P e 1] [hz : TyZ P e zs]
  (hzl : zs.length = 1) (hx : f x = .ref m g 0 l.length 1) (hm : σ[m]? = some (.row g (Ws l))) (hy : f y = WQ s) (hlen : l.length + s.length <= 140737488355328) (hσ' : ∀ g', setA σ m (.row g' (Ws (l ++ s))) = some (σ' g'))
  (k : ∀ g', B < g' -> K (.ref m g' 0 (l ++ s).length 1) (σ' g')) : OpSem P G B ⟨dst, .call ⟨.builtin .append, #[x, y], #[t, t']⟩, type, pos, after, gd⟩ f σ K := by
 have hel : (Ws l : List DV).length = l.length := by rw [QX];exact Nat.mul_one _
 have hby : qU ⟨s.toArray⟩ = (Ws s : List DV) := by
  unfold qU
  show s.toArray.toList.map _ = _
  rw [List.toList_toArray]
  clear hy hlen hσ' k
  induction s with
  | nil => rfl
  | cons b r ih => rw [List.map_cons, ih];rfl
 refine s_append (n := s.length) (ms := Ws s) hzl hx hm (by rw [hel];omega) hy (fun X v a b c => ?_) (by simpa using hlen) (by omega) fun g' hg' => ?_
 ·obtain ⟨vs, hvs⟩ := srcOf_str (P := P) X v a b c
  rw [hby, Z7] at hvs
  exact ⟨vs, hvs⟩
 ·have h1 := k g' hg'
  rw [qa (hσ' g'), List.length_append, encs_append] at h1
  rw [List.take_of_length_le (by rw [hel];omega)]
  exact h1
theorem s_app_bstr {t t' e : TypeId} {d : TypeDesc} {g1 : Bool} {z1 : Nat} {zs : List Value} {x y : Operand} {m g : Nat} {l s : List UInt8} {σ' : Nat -> List ABlk} [ht : TyI P t (.slice e) g1 z1] [ht' : SrcTy P t'] [he : TyI P e d false 1] [hb : TyB P e 1] [hz : TyZ P e zs]
  (hzl : zs.length = 1) (hx : f x = .bref e m g l.length) (hm : σ[m]? = some (.row g (Ws l))) (hy : f y = WQ s) (hlen : l.length + s.length <= 140737488355328) (hσ' : ∀ g', setA σ m (.row g' (Ws (l ++ s))) = some (σ' g'))
  (k : ∀ g', B < g' -> K (.bref e m g' (l ++ s).length) (σ' g')) : OpSem P G B ⟨dst, .call ⟨.builtin .append, #[x, y], #[t, t']⟩, type, pos, after, gd⟩ f σ K := by
 have hel : (Ws l : List DV).length = l.length := by rw [QX];exact Nat.mul_one _
 have hby : qU ⟨s.toArray⟩ = (Ws s : List DV) := by
  unfold qU
  show s.toArray.toList.map _ = _
  rw [List.toList_toArray]
  clear hy hlen hσ' k
  induction s with
  | nil => rfl
  | cons b r ih => rw [List.map_cons, ih];rfl
 refine s_append_b (n := s.length) (ms := Ws s) hzl hx hm (by rw [hel];omega) hy (fun X v a b c => ?_) (by simpa using hlen) (by omega) fun g' hg' => ?_
 ·obtain ⟨vs, hvs⟩ := srcOf_str (P := P) X v a b c
  rw [hby, Z7] at hvs
  exact ⟨vs, hvs⟩
 ·have h1 := k g' hg'
  rw [qa (hσ' g'), List.length_append, encs_append] at h1
  rw [List.take_of_length_le (by rw [hel];omega)]
  exact h1
theorem c_pm {E : AX} {B g0 g1 g1' : Nat} {d res : DV} {o' o2 : List UInt8} {bad' b2 : Bool} {r : List ABlk} (hd : d = res) (ho : o2 = o') (hb : b2 = bad') (hg : g1' = g1 \/ B < g1') :
  AClose E (fun d' τ' => d' = res /\ ∃ g, (g = g1 \/ B < g) /\ τ' = [pRow 0 1 g0 g o'.length bad', .row g (Ws o')]) d (pRow 0 1 g0 g1' o2.length b2 :: .row g1' (Ws o2) :: r) := by
 subst ho;subst hb
 exact Zc (σ := [_, _]) ⟨hd, g1', hg, rfl⟩
theorem qv {x : Operand} {args : Array Operand} {ts : Array TypeId} {fid : FuncId} {first cap es : List DV} {d0 : DV} {σ1 : List ABlk} [FnOk P fid] (hx : f x = .fn (.func fid) first cap) (hds : reL (first ++ args.toList.map f ++ cap) = some es) (h : ACalls P G B fid es σ (fun d τ => d = d0 /\ τ = σ1)) (kk : K d0 σ1) :
  OpSem P G B ⟨dst, .call ⟨.value x, args, ts⟩, type, pos, after, gd⟩ f σ K := s_callv hx hds (h.mono fun _ _ ⟨e1, e2⟩ => by rw [e1, e2];exact kk)
theorem qu {x : Operand} {args : Array Operand} {ts : Array TypeId} {fid : FuncId} {first cap es : List DV} {d0 : DV} {σ1 : Nat -> List ABlk} {g : Nat} {cs : List DV} [FnOk P fid] (hx : f x = .fn (.func fid) first cap) (hds : reL (first ++ args.toList.map f ++ cap) = some es) (h1 : σ[1]? = some (.row g cs)) (h : ∀ B', g <= B' -> ACalls P G B' fid es σ (fun d τ => d = d0 /\ ∃ g', (g' = g \/ B' < g') /\ τ = σ1 g')) (kk : ∀ g', (g' = g \/ B < g') -> K d0 (σ1 g')) :
  OpSem P G B ⟨dst, .call ⟨.value x, args, ts⟩, type, pos, after, gd⟩ f σ K := s_callv hx hds fun X vs hS hσ hB hG hv => by
 have hg : g <= X.N := hS.gen 1 g (WE (by rw [hσ];exact h1))
 refine (h X.N hg X vs hS hσ (Nat.le_refl _) hG hv).mono ?_
 rintro e w' ⟨v, he, X', a, b, c, d, hd, rfl, g', hg', e2⟩
 exact ⟨v, he, X', a, b, c, _, hd, by rw [e2];exact kk g' (by omega)⟩
end
section
theorem Zg (k0 k1 : Nat) {P : Program} {G : Nat -> DV} {B : Nat} {f : Operand -> DV} {σ : List ABlk} {K : DV -> List ABlk -> Prop} {dst : Option Tmp} {type : TypeId} {pos : String} {after : Array Edge} {gd : Option (Nat × Bool)} {args : Array Operand} {ts : Array TypeId} {fid : FuncId} {aa : Nat -> Nat -> List DV} {o : List UInt8} {bad bad' : Bool} {res : DV} {g0 g1 : Nat} {es : List DV} {σ' : List ABlk} [FnOk P fid] (h : PE P G fid aa o bad res bad') (hx : f (.func fid) = .fn (.func fid) [] []) (hds : reL (args.toList.map f) = some es) (hes : es = aa k0 g0) (h0 : σ[k0]? = some (pRow k0 k1 g0 g1 o.length bad)) (h1 : σ[k1]? = some (.row g1 (Ws o))) (hne : Nat.beq k0 k1 = false) (kk : K res σ')
  (hargs : RenL (RenD (qf [k0, k1] σ.length)) (aa k0 g0) (aa 0 g0) := by repeat' first|exact .nil|refine .cons ?_ ?_|exact .s (.mp rfl)|exact .s (.ptr rfl)|exact .s (.ref rfl)|exact .fn (by repeat' first|exact .nil|refine .cons ?_ ?_|exact .ptr rfl|exact .mp rfl|exact .clo Wf) (by repeat' first|exact .nil|refine .cons ?_ ?_|exact .ptr rfl|exact .mp rfl|exact .clo Wf)|exact .s (.clo (by (repeat' first|exact Enc.clo _|exact Wf|exact Wu _|exact WB (QO _)|exact QO _|refine ZG ?_ ?_|refine Zq ?_|refine Wv ?_|refine Wp ?_|exact WL|refine Q8 ?_ ?_|refine WB ?_);done))) (hres : res.clo = true := by repeat' first|exact Wf|exact Wu _|exact WB (QO _)|exact QO _|refine ZG ?_ ?_|refine Zq ?_|refine Wv ?_|refine Wp ?_|exact WL|refine Q8 ?_ ?_|refine WB ?_) (hσ' : qj σ [k0, k1] [pRow k0 k1 g0 g1 o.length bad', .row g1 (Ws o)] = some σ' := by rfl) :
  OpSem P G B ⟨dst, .call ⟨.value (.func fid), args, ts⟩, type, pos, after, gd⟩ f σ K := s_call_pe h hx hds hes h0 h1 hne hargs hres hσ' kk
theorem s_pm (k0 k1 : Nat) {P : Program} {G : Nat -> DV} {B : Nat} {f : Operand -> DV} {σ : List ABlk} {K : DV -> List ABlk -> Prop} {dst : Option Tmp} {type : TypeId} {pos : String} {after : Array Edge} {gd : Option (Nat × Bool)} {args : Array Operand} {ts : Array TypeId} {fid : FuncId} {aa : Nat -> Nat -> List DV} {o o' : List UInt8} {bad bad' : Bool} {res : DV} {g0 g1 : Nat} {es : List DV} {σ' : Nat -> List ABlk} [FnOk P fid] (h : PM P G fid aa o bad res o' bad') (hx : f (.func fid) = .fn (.func fid) [] []) (hds : reL (args.toList.map f) = some es) (hes : es = aa k0 g0) (h0 : σ[k0]? = some (pRow k0 k1 g0 g1 o.length bad)) (h1 : σ[k1]? = some (.row g1 (Ws o))) (hne : Nat.beq k0 k1 = false) (hσ' : ∀ g1', qj σ [k0, k1] [pRow k0 k1 g0 g1' o'.length bad', .row g1' (Ws o')] = some (σ' g1')) (kk : ∀ g1', (g1' = g1 \/ B < g1') -> K res (σ' g1'))
  (hargs : RenL (RenD (qf [k0, k1] σ.length)) (aa k0 g0) (aa 0 g0) := by repeat' first|exact .nil|refine .cons ?_ ?_|exact .s (.mp rfl)|exact .s (.ptr rfl)|exact .s (.ref rfl)|exact .fn (by repeat' first|exact .nil|refine .cons ?_ ?_|exact .ptr rfl|exact .mp rfl|exact .clo Wf) (by repeat' first|exact .nil|refine .cons ?_ ?_|exact .ptr rfl|exact .mp rfl|exact .clo Wf)|exact .s (.clo (by (repeat' first|exact Enc.clo _|exact Wf|exact Wu _|exact WB (QO _)|exact QO _|refine ZG ?_ ?_|refine Zq ?_|refine Wv ?_|refine Wp ?_|exact WL|refine Q8 ?_ ?_|refine WB ?_);done))) (hres : res.clo = true := by repeat' first|exact Wf|exact Wu _|exact WB (QO _)|exact QO _|refine ZG ?_ ?_|refine Zq ?_|refine Wv ?_|refine Wp ?_|exact WL|refine Q8 ?_ ?_|refine WB ?_) :
  OpSem P G B ⟨dst, .call ⟨.value (.func fid), args, ts⟩, type, pos, after, gd⟩ f σ K := s_call_pm h hx hds hes h0 h1 hne hargs hres hσ' kk
end
end Go.Av
end
section
namespace Go.Proofs
open Go.Av
variable {G : Nat -> DV}
attribute [local irreducible] OpSem Zd Zx ZL ACalls qt AClose RV
open Go.Bl
variable {o : List UInt8} {bad : Bool}
theorem write_c (s : List UInt8) (hlen : o.length + s.length <= 140737488355328) : PM Tryz.prog G 46 (fun k g => [.ptr k g 0, WQ s]) o bad (.tup [.i s.length, .sc .nilIface]) (o ++ s) bad := fun g0 g1 B h0 h1 => by
 refine Qa Tryz.func46 rfl Tryz.ntmps46 rfl (t := [(0, .ptr 0 g0 0), (1, WQ s)]) rfl fun E hE => ?_
 (repeat' first|(refine Qe ?_;(first|refine QG rfl ?_|refine QJ rfl ?_|refine Qb rfl rfl rfl ?_|(refine Qq ?_;(first|refine s_call_cc rfl rfl rfl rfl ?_|refine WM rfl ?_|refine s_app_bstr rfl rfl rfl rfl (by first|omega|(simp only [List.length_append, List.length_cons, List.length_nil];omega)) (fun _ => rfl) (fun _ _ => ?_)))|refine Qd rfl rfl ?_|refine Q7 rfl rfl rfl rfl (by rfl) (by rfl) (by rfl) ?_|refine QA rfl rfl ?_))|(refine Qk ?_;(first|refine Qi ?_|refine QN rfl ?_|refine Q5 ?_))|(refine Qj ?_;(first|refine Qn ?_|refine Qc ?_|refine Qs ?_)))
 exact e_2 (Tryz.results46) (Qg rfl) (Qg rfl) (c_same ⟨rfl, _, .inr (by omega), rfl⟩)
theorem Zj (ok : Bool) : PE Tryz.prog G 81 (fun k g => [.ptr k g 0, .b ok]) o bad (.b ok) (bad || !ok) := fun g0 g1 B h0 h1 => by
 cases bad with
 | true =>
  refine Qa Tryz.func81 rfl Tryz.ntmps81 rfl (t := [(0, .ptr 0 g0 0), (1, .b ok)]) rfl fun E hE => ?_
  (repeat' first|(refine Qe ?_;(first|refine QG rfl ?_|refine QJ rfl ?_|refine Qb rfl rfl rfl ?_|refine WO rfl rfl ?_|refine Qd rfl rfl ?_|refine Q7 rfl rfl rfl rfl (by rfl) (by rfl) (by rfl) ?_|refine QA rfl rfl ?_))|(refine Qk ?_;(first|refine Qi ?_|refine QN rfl ?_|refine Q5 ?_|refine W2 rfl rfl rfl rfl ?_))|(refine Qj ?_;(first|refine Qn ?_|refine Qc ?_|refine Qs ?_)))
  exact e_1 (Tryz.results81) (Qg rfl) (c_same ⟨rfl, rfl⟩)
 | false =>
  refine Qa Tryz.func81 rfl Tryz.ntmps81 rfl (t := [(0, .ptr 0 g0 0), (1, .b ok)]) rfl fun E hE => ?_
  (repeat' first|(refine Qe ?_;(first|refine QG rfl ?_|refine QJ rfl ?_|refine Qb rfl rfl rfl ?_|refine Wr rfl rfl ?_|refine Wn rfl ?_|refine Qd rfl rfl ?_|refine Q7 rfl rfl rfl rfl (by rfl) (by rfl) (by rfl) ?_|refine QA rfl rfl ?_))|(refine Qk ?_;(first|refine Qi ?_|refine QN rfl ?_|refine Q5 ?_|refine WD rfl rfl rfl rfl ?_))|(refine Qj ?_;(first|refine Qn ?_|refine Qc ?_|refine Qs ?_)))
  exact e_1 (Tryz.results81) (Qg rfl) (c_same ⟨rfl, rfl⟩)
def Q0 (m : Int) (len : Nat) (kids : Int) : Bool := decide (m = 0) && (decide (kids < 0) || decide ((len : Int) = kids))
theorem Zl (k n m : Int) (ks : List Nd) (kids : Int) (hl : ks.length <= 1048576) : PE Tryz.prog G 42 (fun p g => [.ptr p g 0, .agg [.i k, .i n, .i m, QR ks], .i kids]) o bad (.b (Q0 m ks.length kids)) (bad || !Q0 m ks.length kids) := fun g0 g1 B h0 h1 => by
 unfold Q0
 by_cases hm : m = 0
 ·by_cases hk : kids < 0
  ·refine Qa Tryz.func42 rfl Tryz.ntmps42 rfl (t := [(0, .ptr 0 g0 0), (1, .agg [.i k, .i n, .i m, QR ks]), (2, .i kids)]) rfl fun E hE => ?_
   (repeat' first|(refine Qe ?_;(first|refine QG rfl ?_|refine QJ rfl ?_|refine Qb rfl rfl rfl ?_|(refine Qo ?_;(first|refine Q1 rfl rfl ?_|refine QS rfl rfl ?_))|refine Zg 0 1 (Zj _) rfl rfl rfl rfl rfl rfl ?_|refine WO rfl rfl ?_|refine Qd rfl rfl ?_|refine QU rfl rfl (fun _ _ => ?_)))|(refine Qk ?_;(first|refine Qi ?_|refine QN rfl ?_|refine WD rfl rfl rfl rfl ?_|refine W2 rfl rfl rfl rfl ?_|refine We rfl rfl (by omega) ?_))|(refine Qj ?_;(first|refine Qn ?_|refine Qc ?_|refine Qs ?_)))
   exact e_1 Tryz.results42 (Qg rfl) (c_pe (by simp [*]) (by simp [*, Bool.or_assoc]))
  ·refine Qa Tryz.func42 rfl Tryz.ntmps42 rfl (t := [(0, .ptr 0 g0 0), (1, .agg [.i k, .i n, .i m, QR ks]), (2, .i kids)]) rfl fun E hE => ?_
   (repeat' first|(refine Qe ?_;(first|refine QG rfl ?_|refine QJ rfl ?_|refine Qb rfl rfl rfl ?_|(refine Qo ?_;(first|refine Q1 rfl rfl ?_|refine QS rfl rfl ?_))|(refine Qq ?_;(first|refine Qt rfl ?_|refine Zg 0 1 (Zj _) rfl rfl rfl rfl rfl rfl ?_))|(refine Q4 ?_;(first|refine WO rfl rfl ?_|refine Wr rfl rfl ?_))|refine Qd rfl rfl ?_|refine QU rfl rfl (fun _ _ => ?_)))|(refine Qk ?_;(first|refine Qi ?_|refine QN rfl ?_|refine WD rfl rfl rfl rfl ?_|refine We rfl rfl (by omega) ?_|refine Q6 rfl rfl (by omega) ?_))|(refine Qj ?_;(first|refine Qn ?_|refine Qc ?_|refine Qs ?_)))
   exact e_1 Tryz.results42 (Qg rfl) (c_pe (by simp [*]) (by simp [*, Bool.or_assoc]))
 ·refine Qa Tryz.func42 rfl Tryz.ntmps42 rfl (t := [(0, .ptr 0 g0 0), (1, .agg [.i k, .i n, .i m, QR ks]), (2, .i kids)]) rfl fun E hE => ?_
  (repeat' first|(refine Qe ?_;(first|refine QG rfl ?_|refine QJ rfl ?_|refine Qb rfl rfl rfl ?_|refine QS rfl rfl ?_|refine Zg 0 1 (Zj _) rfl rfl rfl rfl rfl rfl ?_|refine Wr rfl rfl ?_|refine Qd rfl rfl ?_|refine QU rfl rfl (fun _ _ => ?_)))|(refine Qk ?_;(first|refine Qi ?_|refine QN rfl ?_|refine W2 rfl rfl rfl rfl ?_|refine o_gu rfl rfl rfl rfl rfl ?_|refine Q6 rfl rfl (by omega) ?_))|(refine Qj ?_;(first|refine Qn ?_|refine Qc ?_|refine Qs ?_)))
  exact e_1 Tryz.results42 (Qg rfl) (c_pe (by simp [*]) (by simp [*, Bool.or_assoc]))
def Wz (n m : Int) (len : Nat) (kids : Int) : Bool := decide (n = 0) && Q0 m len kids
theorem qH (k n m : Int) (ks : List Nd) (kids : Int) (hl : ks.length <= 1048576) : PE Tryz.prog G 87 (fun p g => [.ptr p g 0, .agg [.i k, .i n, .i m, QR ks], .i kids]) o bad (.b (Wz n m ks.length kids)) (bad || !Wz n m ks.length kids) := fun g0 g1 B h0 h1 => by
 unfold Wz
 by_cases hn : n = 0
 ·refine Qa Tryz.func87 rfl Tryz.ntmps87 rfl (t := [(0, .ptr 0 g0 0), (1, .agg [.i k, .i n, .i m, QR ks]), (2, .i kids)]) rfl fun E hE => ?_
  (repeat' first|(refine Qe ?_;(first|refine QG rfl ?_|refine QJ rfl ?_|(refine Qz ?_;(first|refine Qb rfl rfl rfl ?_|refine s_load_rowa rfl rfl (by rfl) (by rfl) ?_))|refine QS rfl rfl ?_|(refine Qq ?_;(first|refine Zg 0 1 (Zj _) rfl rfl rfl rfl rfl rfl ?_|refine Zg 0 1 (Zl _ _ _ _ _ (by assumption)) rfl rfl rfl rfl rfl rfl ?_))|refine WO rfl rfl ?_|refine Qd rfl rfl ?_|refine QU rfl rfl (fun _ _ => ?_)))|(refine Qk ?_;(first|refine Qi ?_|refine QN rfl ?_|refine WD rfl rfl rfl rfl ?_|refine We rfl rfl (by omega) ?_))|(refine Qj ?_;(first|refine Qn ?_|refine Qc ?_|refine Qs ?_)))
  exact e_1 Tryz.results87 (Qg rfl) (c_pe (by simp [*]) (by simp [*, Bool.or_assoc]))
 ·refine Qa Tryz.func87 rfl Tryz.ntmps87 rfl (t := [(0, .ptr 0 g0 0), (1, .agg [.i k, .i n, .i m, QR ks]), (2, .i kids)]) rfl fun E hE => ?_
  (repeat' first|(refine Qe ?_;(first|refine QG rfl ?_|refine QJ rfl ?_|refine Qb rfl rfl rfl ?_|refine QS rfl rfl ?_|refine Zg 0 1 (Zj _) rfl rfl rfl rfl rfl rfl ?_|refine Wr rfl rfl ?_|refine Qd rfl rfl ?_|refine QU rfl rfl (fun _ _ => ?_)))|(refine Qk ?_;(first|refine Qi ?_|refine QN rfl ?_|refine W2 rfl rfl rfl rfl ?_|refine Q6 rfl rfl (by omega) ?_))|(refine Qj ?_;(first|refine Qn ?_|refine Qc ?_|refine Qs ?_)))
  exact e_1 Tryz.results87 (Qg rfl) (c_pe (by simp [*]) (by simp [*, Bool.or_assoc]))
def WT (n : Int) : Bool := decide (0 <= n) && decide (n <= 999)
theorem Zu (hG : G 6 = pow10T) (n : Int) (hn : -9223372036854775808 <= n /\ n <= 9223372036854775807) : PE Tryz.prog G 44 (fun p g => [.ptr p g 0, .i n]) o bad (WQ (Lib.itoa n)) (bad || !WT n) := fun g0 g1 B h0 h1 => by
 unfold WT
 by_cases h : 0 <= n
 ·refine Qa Tryz.func44 rfl Tryz.ntmps44 rfl (t := [(0, .ptr 0 g0 0), (1, .i n)]) rfl fun E hE => ?_
  (repeat' first|(refine Qe ?_;(first|refine QG rfl ?_|refine QJ rfl ?_|(refine Qo ?_;(first|refine Zp rfl rfl ?_|refine W0 rfl rfl ?_))|(refine Qq ?_;(first|refine Zg 0 1 (Zj _) rfl rfl rfl rfl rfl rfl ?_|refine QZ rfl rfl (itoa_c hG _ (by omega)) ?_))|refine WO rfl rfl ?_))|(refine Qk ?_;(first|refine Qi ?_|refine QN rfl ?_|refine WD rfl rfl rfl rfl ?_|refine We rfl rfl (by omega) ?_))|(refine Qj ?_;(first|refine Qn ?_|refine Qc ?_|refine Qs ?_)))
  exact e_1 Tryz.results44 (Qg rfl) (c_pe (by simp [*]) (by simp [*, Bool.or_assoc]))
 ·refine Qa Tryz.func44 rfl Tryz.ntmps44 rfl (t := [(0, .ptr 0 g0 0), (1, .i n)]) rfl fun E hE => ?_
  (repeat' first|(refine Qe ?_;(first|refine QG rfl ?_|refine QJ rfl ?_|refine W0 rfl rfl ?_|(refine Qq ?_;(first|refine Zg 0 1 (Zj _) rfl rfl rfl rfl rfl rfl ?_|refine QZ rfl rfl (itoa_c hG _ (by omega)) ?_))|refine Wr rfl rfl ?_))|(refine Qk ?_;(first|refine Qi ?_|refine QN rfl ?_|refine W2 rfl rfl rfl rfl ?_|refine Q6 rfl rfl (by omega) ?_))|(refine Qj ?_;(first|refine Qn ?_|refine Qc ?_|refine Qs ?_)))
  exact e_1 Tryz.results44 (Qg rfl) (c_pe (by simp [*]) (by simp [*, Bool.or_assoc]))
end Go.Proofs
end
section
namespace Go.Proofs
open Go.Av
variable {G : Nat -> DV}
attribute [local irreducible] OpSem Zd Zx ZL ACalls qt AClose RV
open Go.Bl
variable {o : List UInt8}
def comma : List UInt8 := [44, 32]
def WJ (l : List (List UInt8)) : List UInt8 := Lib.join l comma
theorem list_c (fid : FuncId) [FnOk Tryz.prog fid] (txt : Nd -> List UInt8) (ok : Nd -> Bool) (ks : List Nd) (bad : Bool) (h : ∀ x ∈ ks, ∀ b, PE Tryz.prog G fid (fun p g => [.ptr p g 0, .agg (Enc.enc x)]) o b (WQ (txt x)) (b || !ok x)) (hl : ks.length <= 1048576) (hlen : (WJ (ks.map txt)).length <= 140737488355328) :
  PE Tryz.prog G 84 (fun p g => [QR ks, .fn (.func fid) [.ptr p g 0] []]) o bad (WQ (WJ (ks.map txt))) (bad || !ks.all ok) := fun g0 g1 B h0 h1 => by
 refine Qa Tryz.func84 rfl Tryz.ntmps84 rfl (t := [(0, QR ks), (1, .fn (.func fid) [.ptr 0 g0 0] [])]) rfl fun E hE => ?_
 (repeat' first|(refine Qe ?_;(first|refine QG rfl ?_|refine QJ rfl ?_|refine Qt rfl ?_))|(refine Qk ?_;(first|refine Qi ?_|refine QN rfl ?_))|(refine Qj ?_;(first|refine Qn ?_|refine Qc ?_|refine Qf ?_)))
 refine r_own 5 1 rfl fun gO hgO => ?_
 refine r_loopg (fun (i : Nat) g => ⟨[(1, .fn (.func fid) [.ptr 0 g0 0] []), (5, .ref 2 g 0 ((ks.take i).map fun x => Str.mk (txt x)).length 1), (8, QR ks), (9, .i ks.length), (10, .i i)], [pRow 0 1 g0 g1 o.length (bad || !(ks.take i).all ok), .row g1 (Ws o), .row g (Ws ((ks.take i).map fun x => Str.mk (txt x)))]⟩) (fun i => i <= ks.length) (fun i => ks.length - i) 0 gO hgO ?_ (by omega) ?_
 ·rw [show (bad || !(ks.take 0).all ok) = bad by simp]
  exact zal rfl
 intro i g hi hg
 by_cases hil : i < ks.length
 ·have hx := h _ (List.getElem_mem hil) (bad || !(ks.take i).all ok)
  have hb1 : (bad || !(ks.take (i + 1)).all ok) = ((bad || !(ks.take i).all ok) || !ok ks[i]) := by rw [List.take_succ_eq_append_getElem hil, List.all_append];cases bad <;> simp
  have hb2 : ((ks.take (i + 1)).map fun x => Str.mk (txt x)) = ((ks.take i).map fun x => Str.mk (txt x)) ++ [Str.mk (txt ks[i])] := by rw [List.take_succ_eq_append_getElem hil, List.map_append];rfl
  have hal : ((ks.take i).map fun x => Str.mk (txt x)).length <= 1048576 := by simp;omega
  (repeat' first|(refine Qe ?_;(first|refine QG rfl ?_|refine QJ rfl ?_|(refine Qz ?_;(first|refine WF rfl rfl ?_|refine QD rfl ?_))|refine Qv rfl rfl (by first|assumption|omega|(simp;done)|(simp;omega)) ?_|(refine Qo ?_;(first|refine Q1 rfl rfl ?_|refine W3 rfl rfl (by omega) ?_))|(refine Qq ?_;(first|refine s_callv_pe (k0 := 0) (k1 := 1) (hx) rfl rfl rfl rfl rfl rfl (by repeat' first|exact .nil|refine .cons ?_ ?_|exact .s (.mp rfl)|exact .s (.ptr rfl)|exact .s (.ref rfl)|exact .fn (by repeat' first|exact .nil|refine .cons ?_ ?_|exact .ptr rfl|exact .mp rfl|exact .clo Wf) (by repeat' first|exact .nil|refine .cons ?_ ?_|exact .ptr rfl|exact .mp rfl|exact .clo Wf)|exact .s (.clo (by (repeat' first|exact Enc.clo _|exact Wf|exact Wu _|exact WB (QO _)|exact QO _|refine ZG ?_ ?_|refine Zq ?_|refine Wv ?_|refine Wp ?_|exact WL|refine Q8 ?_ ?_|refine WB ?_);done))) (by repeat' first|exact Wf|exact Wu _|exact WB (QO _)|exact QO _|refine ZG ?_ ?_|refine Zq ?_|refine Wv ?_|refine Wp ?_|exact WL|refine Q8 ?_ ?_|refine WB ?_) (by rfl) ?_|refine ZD (z := Str.mk _) rfl rfl rfl rfl rfl rfl rfl (by first|omega|(simp;omega)) (by first|omega|(simp;omega)) (fun _ => rfl) (fun _ _ => ?_)))|refine WR rfl rfl rfl rfl ?_|refine W1 rfl rfl (by decide) rfl ?_|refine QC (fun _ _ => ?_)))|(refine Qk ?_;(first|refine Qi ?_|refine QN rfl ?_|refine Q5 ?_))|(refine Qj ?_;(first|refine Qn ?_|refine Qc ?_|refine Qf ?_|refine Qx ?_|refine Qp rfl (by omega) ?_)))
  refine ⟨i + 1, _, by omega, by assumption, by omega, ?_⟩
  rw [hb1, hb2]
  exact zal rfl
 ·have hie : i = ks.length := by omega
  subst hie
  rw [List.take_length]
  have hN : (ks.map fun x => Str.mk (txt x)).length <= 140737488355328 := by simp;omega
  have hmm : (ks.map fun x => Str.mk (txt x)).map (·.l) = ks.map txt := by rw [List.map_map];rfl
  have hJ : (Lib.join ((ks.map fun x => Str.mk (txt x)).map (·.l)) [44, 32]).length <= 140737488355328 := by rw [hmm];exact hlen
  (repeat' first|(refine Qe ?_;(first|refine QG rfl ?_|refine QJ rfl ?_|refine Q1 rfl rfl ?_|refine s_call_v rfl rfl (View.ref rfl (by rw [QX];rfl) (QO _) (View.same View.nil)) (join_c _ _ hN hJ) rfl ?_))|(refine Qk ?_;(first|refine Qi ?_|refine QN rfl ?_))|(refine Qj ?_;(first|refine Qn ?_|refine Qc ?_|refine Qm rfl (by omega) ?_|refine WI rfl ?_|refine Qs ?_)))
  refine e_1 Tryz.results84 (Qg rfl) (c_pe ?_ ?_)
  ·rw [hmm];rfl
  ·rfl
end Go.Proofs
end
section
namespace Go.Proofs
open Go.Av Go.Bl
mutual
def Qu : Nd -> Nat
 | .mk _ _ _ ks => 1 + QT ks
def QT : List Nd -> Nat
 | [] => 0
 | x :: r => Qu x + QT r
end
theorem Wh (t : Nd) : 1 <= Qu t := by cases t;rw [Qu];omega
theorem WC : ∀ ts : List Nd, ts.length <= QT ts
 | [] => Nat.le_refl _
 | x :: r => by
  have := WC r
  have := Wh x
  rw [QT, List.length_cons];omega
theorem QY {x : Nd} : ∀ {ks : List Nd}, x ∈ ks -> Qu x <= QT ks
 | y :: r, h => by
  rw [QT]
  rcases List.mem_cons.1 h with rfl|h
  ·omega
  ·have := QY h;omega
theorem ZY (a b : List Nd) : QT (a ++ b) = QT a + QT b := by
 induction a with
 | nil => simp [QT]
 | cons x r ih => rw [List.cons_append, QT, QT, ih];omega
theorem qJ (ks : List Nd) (i : Nat) (h : i < ks.length) : QT (ks.take (i + 1)) = QT (ks.take i) + Qu ks[i] := by
 rw [List.take_succ_eq_append_getElem h, ZY, QT, QT];omega
theorem Wm (ks : List Nd) (i : Nat) : QT (ks.take i) <= QT ks := by
 have := ZY (ks.take i) (ks.drop i)
 rw [List.take_append_drop] at this;omega
def i64 (n : Int) : Prop := -9223372036854775808 <= n /\ n <= 9223372036854775807
mutual
def okN : Nd -> Prop
 | .mk k n m ks => (i64 k /\ i64 n /\ i64 m) /\ okL ks
def okL : List Nd -> Prop
 | [] => True
 | x :: r => okN x /\ okL r
end
theorem Wj {x : Nd} : ∀ {ks : List Nd}, okL ks -> x ∈ ks -> okN x
 | y :: r, h, hx => by
  rw [okL] at h
  rcases List.mem_cons.1 hx with rfl|hx
  ·exact h.1
  ·exact Wj h.2 hx
theorem Zb {n : Int} (h : i64 n) : (Lib.itoa n).length <= 21 := by
 have key : ∀ u : Nat, u < 10 ^ 20 -> Lib.nDigits u <= 20 := fun u hu => by
  rcases Nat.lt_or_ge 20 (Lib.nDigits u) with h'|h'
  ·exfalso
   obtain ⟨k, hk⟩ : ∃ k, Lib.nDigits u = k + 1 := ⟨Lib.nDigits u - 1, by omega⟩
   have : ∀ (k u : Nat), Lib.nDigits u = k + 1 -> 0 < k -> 10 ^ k <= u := by
    intro k
    induction k with
    | zero => intro u _ h0;omega
    | succ k ih =>
     intro u hu _
     by_cases hs : u < 10
     ·rw [Lib.nDigits_small hs] at hu;omega
     ·rw [Lib.nDigits_big hs] at hu
      by_cases hk0 : k = 0
      ·subst hk0;omega
      ·have := ih (u / 10) (by omega) (by omega)
       rw [Nat.pow_succ]
       omega
   have h1 := this k u hk (by omega)
   have : 10 ^ 20 <= 10 ^ k := Nat.pow_le_pow_right (by decide) (by omega)
   omega
  ·exact h'
 obtain ⟨h1, h2⟩ := h
 have e20 : (10 : Nat) ^ 20 = 100000000000000000000 := by decide
 unfold Lib.itoa
 split
 ·rw [List.length_cons, Lib.decDigits_length]
  have := key n.natAbs (by omega);omega
 ·rw [Lib.decDigits_length]
  have := key n.toNat (by omega);omega
theorem ZR {M : Nat} (f : Nd -> List UInt8) : ∀ (ks : List Nd), (∀ x ∈ ks, (f x).length + 2 <= M * Qu x) -> (WJ (ks.map f)).length <= M * QT ks
 | [], _ => by simp [WJ, Lib.join_nil, QT]
 | x :: r, h => by
  have hx := h x (by simp)
  have ih := ZR f r fun y hy => h y (by simp [hy])
  rw [QT, Nat.mul_add]
  cases r with
  | nil =>
   show (Lib.join [f x] comma).length <= _
   rw [Lib.join_one];omega
  | cons y r =>
   have hc : WJ ((x :: y :: r).map f) = f x ++ comma ++ WJ ((y :: r).map f) := by
    show Lib.join (f x :: f y :: r.map f) comma = f x ++ comma ++ Lib.join (f y :: r.map f) comma
    rw [Lib.join_cons, Lib.join_cons]
    simp [Lib.joinTail]
   rw [hc, List.length_append, List.length_append, show comma.length = 2 from rfl]
   omega
mutual
def qw : Nd -> List UInt8
 | .mk k n m ks => if k = 0 then [105, 110, 116] else if k = 1 then [98, 111, 111, 108] else if k = 2 then [97, 114, 114, 32] ++ Lib.itoa n else if k = 3 then [114, 101, 99, 32, 40] ++ WJ (typTs ks) ++ [41] else []
def typTs : List Nd -> List (List UInt8)
 | [] => []
 | x :: r => qw x :: typTs r
end
theorem typTs_eq : ∀ ks, typTs ks = ks.map qw
 | [] => rfl
 | x :: r => by rw [typTs, typTs_eq r];rfl
mutual
def ZJ : Nd -> Bool
 | .mk k n m ks => if k = 0 \/ k = 1 then Wz n m ks.length 0 else if k = 2 then Q0 m ks.length 0 && WT n else if k = 3 then Wz n m ks.length (-1) && decide (0 < ks.length) && typOks ks else false
def typOks : List Nd -> Bool
 | [] => true
 | x :: r => ZJ x && typOks r
end
theorem typOks_eq : ∀ ks, typOks ks = ks.all ZJ
 | [] => rfl
 | x :: r => by rw [typOks, typOks_eq r];rfl
theorem typT_len (t : Nd) : okN t -> (qw t).length + 2 <= 30 * Qu t := by
 induction t using Nd.ind with
 | h k n m ks ih =>
 intro hok
 rw [okN] at hok
 have hn := Zb hok.1.2.1
 have hs := ZR qw ks fun x hx => ih x hx (Wj hok.2 hx)
 rw [qw, Qu, typTs_eq]
 split
 ·simp;omega
 ·split
  ·simp;omega
  ·split
   ·simp only [List.length_append, List.length_cons, List.length_nil];omega
   ·split
    ·simp only [List.length_append, List.length_cons, List.length_nil];omega
    ·simp only [List.length_nil];omega
def opTexts : List (List UInt8) := [[43], [45], [42], [47], [37], [38], [124], [94], [60, 60], [62, 62], [60], [61, 61], [38, 38], [124, 124]]
mutual
def exT : Nd -> List UInt8
 | .mk k n m ks => 
  if k = 4 then Lib.itoa n else if k = 5 then (if n = 1 then [116, 114, 117, 101] else [102, 97, 108, 115, 101]) else if k = 6 then [118] ++ Lib.itoa n else
  if k = 7 then [118] ++ Lib.itoa n ++ [91] ++ WJ (exTs ks) ++ [93] else if k = 8 then [118] ++ Lib.itoa n ++ [46] ++ Lib.itoa m else
  if k = 9 then (if (Q0 m ks.length 2 && (decide (0 <= n) && decide (n < 14))) = true then [40] ++ (exTs ks).getD 0 [] ++ [32] ++ opTexts.getD n.toNat [] ++ [32] ++ (exTs ks).getD 1 [] ++ [41] else []) else
  if k = 10 then [33] ++ WJ (exTs ks) else if k = 11 then [102] ++ Lib.itoa n ++ [40] ++ WJ (exTs ks) ++ [41] else if k = 12 then [114, 101, 99, 118, 32, 99] ++ Lib.itoa n else []
def exTs : List Nd -> List (List UInt8)
 | [] => []
 | x :: r => exT x :: exTs r
end
theorem qX : ∀ ks, exTs ks = ks.map exT
 | [] => rfl
 | x :: r => by rw [exTs, qX r];rfl
mutual
def Zn : Nd -> Bool
 | .mk k n m ks =>
  if k = 4 then Q0 m ks.length 0 && (if n < 0 then decide (-999 <= n) else WT n) else if k = 5 then Q0 m ks.length 0 && (decide (n = 0) || decide (n = 1)) else if k = 6 then Q0 m ks.length 0 && WT n else
  if k = 7 then Q0 m ks.length 1 && WT n && exOks ks else if k = 8 then decide (ks.length = 0) && WT n && WT m else
  if k = 9 then Q0 m ks.length 2 && (decide (0 <= n) && decide (n < 14)) && exOks ks else
  if k = 10 then Wz n m ks.length 1 && exOks ks else if k = 11 then Q0 m ks.length (-1) && WT n && exOks ks else if k = 12 then Q0 m ks.length 0 && WT n else false
def exOks : List Nd -> Bool
 | [] => true
 | x :: r => Zn x && exOks r
end
theorem WY : ∀ ks, exOks ks = ks.all Zn
 | [] => rfl
 | x :: r => by rw [exOks, WY r];rfl
theorem opTexts_len (i : Nat) : (opTexts.getD i []).length <= 2 := by
 rcases Nat.lt_or_ge i 14 with h|h
 ·revert i;decide
 ·rw [List.getD_eq_getElem?_getD, List.getElem?_eq_none (by simpa [opTexts] using h)];simp
theorem qY (t : Nd) : okN t -> (exT t).length + 2 <= 60 * Qu t := by
 induction t using Nd.ind with
 | h k n m ks ih =>
 intro hok
 rw [okN] at hok
 have hn := Zb hok.1.2.1
 have hm := Zb hok.1.2.2
 have hs := ZR exT ks fun x hx => ih x hx (Wj hok.2 hx)
 have hop := opTexts_len n.toNat
 have hk : ∀ x ∈ ks, (exT x).length + 2 <= 60 * Qu x := fun x hx => ih x hx (Wj hok.2 hx)
 clear ih
 rw [exT, Qu, qX]
 split
 ·omega
 split
 ·split <;> (simp only [List.length_cons, List.length_nil];omega)
 split
 ·simp only [List.length_append, List.length_cons, List.length_nil];omega
 split
 ·simp only [List.length_append, List.length_cons, List.length_nil];omega
 split
 ·simp only [List.length_append, List.length_cons, List.length_nil];omega
 split
 ·split
  ·rename_i h2
   have : ks.length = 2 := by simp [Q0] at h2;omega
   match ks, this with
   | [a, b], _ =>
    have ha := hk a (by simp)
    have hb := hk b (by simp)
    simp only [List.map_cons, List.map_nil, List.getD_cons_zero, List.getD_cons_succ, List.length_append, List.length_cons, List.length_nil, QT]
    omega
  ·simp only [List.length_nil];omega
 split
 ·simp only [List.length_append, List.length_cons, List.length_nil];omega
 split
 ·simp only [List.length_append, List.length_cons, List.length_nil];omega
 split
 ·simp only [List.length_append, List.length_cons, List.length_nil];omega
 ·simp only [List.length_nil];omega
end Go.Proofs
end
section
namespace Go.Proofs
open Go.Av
variable {G : Nat -> DV}
attribute [local irreducible] OpSem Zd Zx ZL ACalls qt AClose RV
open Go.Bl
theorem decDigits_step {n : Nat} (h : ¬ n < 10) : Lib.decDigits n = Lib.decDigits (n / 10) ++ [UInt8.ofNat (48 + n % 10)] := by rw [Lib.decDigits, dif_neg h]
theorem digits_len (n : Nat) (h : n <= 9223372036854775807) : (Lib.decDigits n).length <= 21 := by
 have h1 := Zb (n := (n : Int)) ⟨by omega, by omega⟩
 unfold Lib.itoa at h1
 rw [if_neg (by omega)] at h1
 exact h1
theorem qP : ∀ (n : Nat), n <= 9223372036854775807 -> Go.Av.Pure Tryz.prog G 93 [.i n] (WQ (Lib.decDigits n)) := by
 intro n
 induction n using Nat.strongRecOn with
 | ind n ih =>
 intro hn B
 by_cases h : n < 10
 ·have hw : IntKind.u8.wrap (48 + (n : Int)) = ((UInt8.ofNat (48 + n)).toNat : Int) := by rw [<- wrap_u8 (48 + n) (by omega)];congr 1
  refine Qa Tryz.func93 rfl Tryz.ntmps93 rfl (t := [(0, .i n)]) rfl fun E hE => ?_
  (repeat' first|(refine Qe ?_;(first|refine QG rfl ?_|refine QJ rfl ?_|(refine Qo ?_;(first|refine Q1 rfl rfl ?_|refine W3 rfl rfl (by omega) ?_))|(refine g_convert ?_;(first|refine s_conv_u8 rfl hw ?_|refine s_conv_bsl1 rfl ?_))|refine W1 rfl rfl (by decide) rfl ?_))|(refine Qk ?_;(first|refine Qi ?_|refine QN rfl ?_))|(refine Qj ?_;(first|refine Qn ?_|refine Qc ?_|refine Qp rfl (by omega) ?_|refine Qs ?_)))
  refine e_1 Tryz.results93 (Qg rfl) (Qw ?_)
  rw [Lib.decDigits_one h]
 ·have hr := ih (n / 10) (by omega) (by omega)
  have hl := digits_len (n / 10) (by omega)
  rw [show ((n / 10 : Nat) : Int) = (n : Int) / 10 by omega] at hr
  have hw : IntKind.u8.wrap (48 + (n : Int) % 10) = ((UInt8.ofNat (48 + n % 10)).toNat : Int) := by rw [<- wrap_u8 (48 + n % 10) (by omega)];congr 1
  refine Qa Tryz.func93 rfl Tryz.ntmps93 rfl (t := [(0, .i n)]) rfl fun E hE => ?_
  (repeat' first|(refine Qe ?_;(first|refine QG rfl ?_|refine QJ rfl ?_|refine Q1 rfl rfl ?_))|(refine Qk ?_;(first|refine Qi ?_|refine QN rfl ?_))|(refine Qj ?_;(first|refine Qn ?_|refine Qc ?_|(refine Wg ?_;first|refine Q3 (by rfl) (by kernel_rfl) (by kernel_rfl) ?_|refine Q2 (by kernel_rfl) (by kernel_rfl) ?_)|refine Qx ?_|refine Qm rfl (by omega) ?_|refine Qs ?_))|(refine Zw ?_;(first|refine x_op rfl (by (repeat' first|(refine Qe ?_;(first|refine QG rfl ?_|refine QJ rfl ?_|(refine Qo ?_;(first|refine W3 rfl rfl (by omega) ?_|refine qD rfl rfl ?_|refine s_quo rfl rfl (by omega) (by omega) (by omega) ?_|refine s_rem rfl rfl (by first|omega|exact nn_shr (by omega)) (by omega) ?_))|refine QZ rfl rfl (hr) ?_|(refine g_convert ?_;(first|refine s_conv_u8 rfl hw ?_|refine s_conv_bsl1 rfl ?_))|refine W1 rfl rfl (by decide) rfl ?_))|exact ⟨rfl, rfl⟩)) ?_|refine Zr ?_)))
  refine e_1 Tryz.results93 (Qg rfl) (Qw ?_)
  rw [decDigits_step h]
theorem ZP (n : Int) : Go.Av.Pure Tryz.prog G 92 [.i n] (.b (WT n)) := fun B => by
 unfold WT
 by_cases h : 0 <= n
 ·refine Qa Tryz.func92 rfl Tryz.ntmps92 rfl (t := [(0, .i n)]) rfl fun E hE => ?_
  (repeat' first|(refine Qe ?_;(first|refine QG rfl ?_|refine QJ rfl ?_|(refine Qo ?_;(first|refine Zp rfl rfl ?_|refine W0 rfl rfl ?_))|refine WO rfl rfl ?_))|(refine Qk ?_;(first|refine Qi ?_|refine QN rfl ?_|refine WD rfl rfl rfl rfl ?_|refine We rfl rfl (by omega) ?_))|(refine Qj ?_;(first|refine Qn ?_|refine Qc ?_|refine Qs ?_)))
  refine e_1 Tryz.results92 (Qg rfl) (Qw ?_)
  simp [h]
 ·refine Qa Tryz.func92 rfl Tryz.ntmps92 rfl (t := [(0, .i n)]) rfl fun E hE => ?_
  (repeat' first|(refine Qe ?_;(first|refine QG rfl ?_|refine QJ rfl ?_|refine W0 rfl rfl ?_|refine Wr rfl rfl ?_))|(refine Qk ?_;(first|refine Qi ?_|refine QN rfl ?_|refine W2 rfl rfl rfl rfl ?_|refine Q6 rfl rfl (by omega) ?_))|(refine Qj ?_;(first|refine Qn ?_|refine Qc ?_|refine Qs ?_)))
  refine e_1 Tryz.results92 (Qg rfl) (Qw ?_)
  simp [h]
def bareR (m : Int) (len : Nat) (kids : Int) : Bool := decide (m = 0) && decide ((len : Int) = kids)
theorem WX (k n m : Int) (ks : List Nd) (kids : Int) : Go.Av.Pure Tryz.prog G 97 [.agg [.i k, .i n, .i m, QR ks], .i kids] (.b (bareR m ks.length kids)) := fun B => by
 unfold bareR
 by_cases h : m = 0
 ·refine Qa Tryz.func97 rfl Tryz.ntmps97 rfl (t := [(0, .agg [.i k, .i n, .i m, QR ks]), (1, .i kids)]) rfl fun E hE => ?_
  (repeat' first|(refine Qe ?_;(first|refine QG rfl ?_|refine QJ rfl ?_|refine Qb rfl rfl rfl ?_|refine QS rfl rfl ?_|refine Qt rfl ?_|refine WO rfl rfl ?_|refine Qd rfl rfl ?_|refine QU rfl rfl (fun _ _ => ?_)))|(refine Qk ?_;(first|refine Qi ?_|refine QN rfl ?_|refine WD rfl rfl rfl rfl ?_|refine We rfl rfl (by omega) ?_))|(refine Qj ?_;(first|refine Qn ?_|refine Qc ?_|refine Qs ?_)))
  refine e_1 Tryz.results97 (Qg rfl) (Qw ?_)
  simp [h]
 ·refine Qa Tryz.func97 rfl Tryz.ntmps97 rfl (t := [(0, .agg [.i k, .i n, .i m, QR ks]), (1, .i kids)]) rfl fun E hE => ?_
  (repeat' first|(refine Qe ?_;(first|refine QG rfl ?_|refine QJ rfl ?_|refine Qb rfl rfl rfl ?_|refine QS rfl rfl ?_|refine Wr rfl rfl ?_|refine Qd rfl rfl ?_|refine QU rfl rfl (fun _ _ => ?_)))|(refine Qk ?_;(first|refine Qi ?_|refine QN rfl ?_|refine W2 rfl rfl rfl rfl ?_|refine Q6 rfl rfl (by omega) ?_))|(refine Qj ?_;(first|refine Qn ?_|refine Qc ?_|refine Qs ?_)))
  refine e_1 Tryz.results97 (Qg rfl) (Qw ?_)
  simp [h]
theorem r_ops_c : Go.Av.Pure Tryz.prog G 99 [] (QR (opTexts.map Str.mk)) := fun B => by
 refine Qa Tryz.func99 rfl Tryz.ntmps99 rfl (t := []) rfl fun E hE => ?_
 (repeat' first|(refine Qe ?_;(first|refine QJ rfl ?_|refine qi [Str.mk [43], Str.mk [45], Str.mk [42], Str.mk [47], Str.mk [37], Str.mk [38], Str.mk [124], Str.mk [94], Str.mk [60, 60], Str.mk [62, 62], Str.mk [60], Str.mk [61, 61], Str.mk [38, 38], Str.mk [124, 124]] rfl rfl (by decide) rfl ?_))|(refine Qk ?_;(first|refine Qi ?_|refine QN rfl ?_))|(refine Qj ?_;(first|refine Qn ?_|refine Qc ?_|refine Qs ?_)))
 refine e_1 Tryz.results99 (Qg rfl) (Qw ?_)
 rfl
def qq (ls : List Str) : List (List UInt8) := ls.map (·.l)
theorem commas_snoc (a : List (List UInt8)) (x : List UInt8) : WJ (a ++ [x]) = if a = [] then x else WJ a ++ comma ++ x := by
 cases a with
 | nil => exact Lib.join_one _ _
 | cons y r =>
  rw [if_neg (by simp)]
  show Lib.join (y :: (r ++ [x])) comma = Lib.join (y :: r) comma ++ comma ++ x
  rw [Lib.join_cons, Lib.join_cons]
  simp [Lib.joinTail]
theorem commas_take_le (ls : List Str) (i : Nat) : (WJ (qq (ls.take i))).length <= (WJ (qq ls)).length := by
 have key : ∀ (a b : List (List UInt8)), (WJ a).length <= (WJ (a ++ b)).length := by
  intro a b
  cases a with
  | nil => simp [WJ, Lib.join_nil]
  | cons x r =>
   show (Lib.join (x :: r) comma).length <= (Lib.join (x :: (r ++ b)) comma).length
   rw [Lib.join_cons, Lib.join_cons]
   simp [Lib.joinTail]
 have := key (qq (ls.take i)) (qq (ls.drop i))
 unfold qq at this ⊢
 rwa [<- List.map_append, List.take_append_drop] at this
theorem r_list_c (ls : List Str) (hlen : (WJ (qq ls)).length <= 140737488355328) (hn : ls.length <= 1000000000) : Go.Av.Pure Tryz.prog G 96 [QR ls] (WQ (WJ (qq ls))) := fun B => by
 refine Qa Tryz.func96 rfl Tryz.ntmps96 rfl (t := [(0, QR ls)]) rfl fun E hE => ?_
 (repeat' first|refine QJ rfl ?_|(refine Qk ?_;(first|refine Qi ?_|refine QN rfl ?_))|(refine Qj ?_;(first|refine Qn ?_|refine Qc ?_|refine Qf ?_)))
 refine qb (fun (i : Nat) => ⟨[(0, QR ls), (3, WQ (WJ (qq (ls.take i)))), (4, .i i)], []⟩) (fun i => i <= ls.length) (fun i => ls.length - i) 0 ?_ (by omega) ?_
 ·exact zal rfl
 intro i hi
 have hle := commas_take_le ls i
 by_cases hil : i < ls.length
 ·have hle2 := commas_take_le ls (i + 1)
  have hsn : WJ (qq (ls.take (i + 1))) = if qq (ls.take i) = [] then ls[i].l else WJ (qq (ls.take i)) ++ comma ++ ls[i].l := by
   rw [<- commas_snoc];unfold qq;rw [List.take_succ_eq_append_getElem hil, List.map_append];rfl
  by_cases h0 : i = 0
  ·subst h0
   have hll : ls[0].l.length <= 140737488355328 := by
    rw [hsn, if_pos (by simp [qq])] at hle2;omega
   (repeat' first|(refine Qe ?_;(first|refine QG rfl ?_|refine QJ rfl ?_|refine QM rfl ?_|refine Qv rfl rfl (by first|assumption|omega|(simp;done)|(simp;omega)) ?_|(refine Qo ?_;(first|refine Q1 rfl rfl ?_|refine Z6 rfl rfl ?_|refine W3 rfl rfl (by omega) ?_|refine qD rfl rfl ?_))|refine Qt rfl ?_))|(refine Qk ?_;(first|refine Qi ?_|refine QN rfl ?_))|(refine Qj ?_;(first|refine Qn ?_|refine Qc ?_|refine Qf ?_|refine Qx ?_|refine Ql rfl ?_|refine Qp rfl (by omega) ?_)))
   refine ⟨1, by omega, by omega, ?_⟩
   rw [hsn, if_pos (by simp [qq])]
   exact zal rfl
  ·have hne : qq (ls.take i) ≠ [] := by
    intro h
    have h2 : (qq (ls.take i)).length = i := by unfold qq;rw [List.length_map, List.length_take];omega
    rw [h] at h2;exact h0 h2.symm
   rw [if_neg hne] at hsn
   have hll : (WJ (qq (ls.take i))).length + 2 + ls[i].l.length <= 140737488355328 := by
    rw [hsn] at hle2
    simp only [List.length_append, show comma.length = 2 from rfl] at hle2
    omega
   (repeat' first|(refine Qe ?_;(first|refine QG rfl ?_|refine QJ rfl ?_|refine QM rfl ?_|refine Qv rfl rfl (by first|assumption|omega|(simp;done)|(simp;omega)) ?_|(refine Qo ?_;(first|refine Q1 rfl rfl ?_|refine Z6 rfl rfl ?_|refine W3 rfl rfl (by omega) ?_|refine qD rfl rfl ?_))|refine Qt rfl ?_))|(refine Qk ?_;(first|refine Qi ?_|refine QN rfl ?_))|(refine Qj ?_;(first|refine Qn ?_|refine Qc ?_|refine Qf ?_|refine Qx ?_|refine Qp rfl (by omega) ?_)))
   refine ⟨i + 1, by omega, by omega, ?_⟩
   rw [hsn]
   exact zal rfl
 ·have hie : i = ls.length := by omega
  subst hie
  (repeat' first|(refine Qe ?_;(first|refine QG rfl ?_|refine QJ rfl ?_|refine Q1 rfl rfl ?_|refine Qt rfl ?_))|(refine Qk ?_;(first|refine Qi ?_|refine QN rfl ?_))|(refine Qj ?_;(first|refine Qn ?_|refine Qc ?_|refine Qm rfl (by omega) ?_|refine WI rfl ?_|refine Qs ?_)))
  refine e_1 Tryz.results96 (Qg rfl) (Qw ?_)
  rw [List.take_length]
theorem Wo (m : Int) (l : Nat) (c : Int) (h : 0 <= c) : Q0 m l c = bareR m l c := by unfold Q0 bareR;rw [decide_eq_false (show ¬ c < 0 by omega)];simp
theorem W8 (n m : Int) (l : Nat) (c : Int) (h : 0 <= c) : Wz n m l c = (decide (n = 0) && bareR m l c) := by unfold Wz;rw [Wo _ _ _ h]
theorem itoa_nat {n : Int} (h : 0 <= n) : Lib.itoa n = Lib.decDigits n.toNat := by unfold Lib.itoa;rw [if_neg (by omega)]
theorem qQ {n : Int} (h : WT n = true) : 0 <= n /\ n <= 999 := by simpa [WT] using h
theorem rTy_c (t : Nd) : okN t -> Qu t <= 1000000 -> ∃ x, Go.Av.Pure Tryz.prog G 54 [.agg (Enc.enc t)] (.tup [WQ x, .b (ZJ t)]) /\ (ZJ t = true -> x = qw t) := by
 induction t using Nd.ind with
 | h k n m ks ih =>
 intro hok hsz
 rw [okN] at hok
 rw [Qu] at hsz
 have hl1 := WC ks
 have hi : ∀ x ∈ ks, ∃ y, Go.Av.Pure Tryz.prog G 54 [.agg (Enc.enc x)] (.tup [WQ y, .b (ZJ x)]) /\ (ZJ x = true -> y = qw x) := fun x hx => ih x hx (Wj hok.2 hx) (by have := QY hx;omega)
 clear ih
 rw [qw, ZJ, typTs_eq, typOks_eq, QW]
 by_cases k2 : k = 2
 ·subst k2
  have hdig : Go.Av.Pure Tryz.prog G 93 [.i (max n 0)] (WQ (Lib.decDigits n.toNat)) := by
   rw [show max n 0 = (n.toNat : Int) by omega];exact qP _ (by have := hok.1.2.1.2;omega)
  have hdl := digits_len n.toNat (by have := hok.1.2.1.2;omega)
  rw [Wo _ _ _ (by decide)]
  refine ⟨[97, 114, 114, 32] ++ Lib.decDigits n.toNat, fun B => ?_, ?_⟩
  ·refine Qa Tryz.func54 rfl Tryz.ntmps54 rfl (t := [(0, .agg [.i 2, .i n, .i m, QR ks])]) rfl fun E hE => ?_
   (repeat' first|(refine Qe ?_;(first|refine QJ rfl ?_|refine Qb rfl rfl rfl ?_|refine QS rfl rfl ?_|refine Qd rfl rfl ?_|refine QU rfl rfl (fun _ _ => ?_)))|(refine Qk ?_;(first|refine Qi ?_|refine QN rfl ?_))|(refine Qj ?_;(first|refine Qn ?_|refine Qc ?_|(refine Wg ?_;first|refine Q3 (by rfl) (by kernel_rfl) (by kernel_rfl) ?_|refine Q2 (by kernel_rfl) (by kernel_rfl) ?_)|refine Qh rfl ?_|refine Qs ?_))|(refine Zw ?_;(first|refine x_gn rfl rfl rfl rfl ?_|refine x_op rfl (by (repeat' first|(refine Qe ?_;(first|refine QG rfl ?_|refine QJ rfl ?_|(refine Qz ?_;(first|refine WF rfl rfl ?_|refine Qb rfl rfl rfl ?_))|refine qD rfl rfl ?_|(refine Qq ?_;(first|refine s_max rfl rfl ?_|refine QZ rfl rfl (hdig) ?_|refine QZ rfl rfl (ZP _) ?_|refine QZ rfl rfl (WX _ _ _ _ _) ?_))|(refine Q4 ?_;(first|refine WO rfl rfl ?_|refine Wr rfl rfl ?_))|refine Qd rfl rfl ?_))|exact ⟨rfl, rfl⟩)) ?_|refine x_gy rfl rfl rfl rfl (by (repeat' first|(refine Qe ?_;(first|refine QG rfl ?_|refine QJ rfl ?_|(refine Qz ?_;(first|refine WF rfl rfl ?_|refine Qb rfl rfl rfl ?_))|refine qD rfl rfl ?_|(refine Qq ?_;(first|refine s_max rfl rfl ?_|refine QZ rfl rfl (hdig) ?_|refine QZ rfl rfl (ZP _) ?_|refine QZ rfl rfl (WX _ _ _ _ _) ?_))|(refine Q4 ?_;(first|refine WO rfl rfl ?_|refine Wr rfl rfl ?_))|refine Qd rfl rfl ?_))|exact ⟨rfl, rfl⟩)) ?_|refine Zr ?_|refine x_sp rfl rfl (fun _ => ?_) (fun _ => ?_))))
   all_goals exact e_2 Tryz.results54 (Qg rfl) (Qg rfl) (Qw (by simp [*]))
  ·intro h
   simp at h
   rw [itoa_nat (qQ h.2).1];simp
 by_cases k0 : k = 0
 ·subst k0
  rw [W8 _ _ _ _ (by decide)]
  refine ⟨[105, 110, 116], fun B => ?_, by simp⟩
  by_cases hn : n = 0
  all_goals
   refine Qa Tryz.func54 rfl Tryz.ntmps54 rfl (t := [(0, .agg [.i 0, .i n, .i m, QR ks])]) rfl fun E hE => ?_
   (repeat' first|(refine Qe ?_;(first|refine QG rfl ?_|refine QJ rfl ?_|refine Qb rfl rfl rfl ?_|refine QS rfl rfl ?_|refine WO rfl rfl ?_|refine Qd rfl rfl ?_|refine QU rfl rfl (fun _ _ => ?_)))|(refine Qk ?_;(first|refine Qi ?_|refine QN rfl ?_|refine W2 rfl rfl rfl rfl ?_))|(refine Qj ?_;(first|refine Qn ?_|refine Qc ?_|(refine Wg ?_;first|refine Q3 (by rfl) (by kernel_rfl) (by kernel_rfl) ?_|refine Q2 (by kernel_rfl) (by kernel_rfl) ?_)|refine Qx ?_|refine Qh rfl ?_|refine Ql rfl ?_|refine Qs ?_))|(refine Zw ?_;(first|refine x_gn rfl rfl rfl rfl ?_|refine x_op rfl (by (repeat' first|(refine Qe ?_;(first|refine QG rfl ?_|refine QJ rfl ?_|(refine Qz ?_;(first|refine WF rfl rfl ?_|refine QM rfl ?_|refine Qb rfl rfl rfl ?_))|refine Qv rfl rfl (by first|assumption|omega|(simp;done)|(simp;omega)) ?_|refine QS rfl rfl ?_|refine QZ rfl rfl (WX _ _ _ _ _) ?_|(refine Q4 ?_;(first|refine WO rfl rfl ?_|refine Wr rfl rfl ?_))|refine qi [Str.mk [105, 110, 116], Str.mk [98, 111, 111, 108]] rfl rfl (by decide) rfl ?_|refine Qd rfl rfl ?_))|exact ⟨rfl, rfl⟩)) ?_|refine x_gy rfl rfl rfl rfl (by (repeat' first|(refine Qe ?_;(first|refine QG rfl ?_|refine QJ rfl ?_|(refine Qz ?_;(first|refine WF rfl rfl ?_|refine QM rfl ?_|refine Qb rfl rfl rfl ?_))|refine Qv rfl rfl (by first|assumption|omega|(simp;done)|(simp;omega)) ?_|refine QS rfl rfl ?_|refine QZ rfl rfl (WX _ _ _ _ _) ?_|(refine Q4 ?_;(first|refine WO rfl rfl ?_|refine Wr rfl rfl ?_))|refine qi [Str.mk [105, 110, 116], Str.mk [98, 111, 111, 108]] rfl rfl (by decide) rfl ?_|refine Qd rfl rfl ?_))|exact ⟨rfl, rfl⟩)) ?_|refine Zr ?_|refine x_sp_t rfl rfl (by omega) ?_|refine x_sp_f rfl rfl (by omega) ?_)))
   all_goals exact e_2 Tryz.results54 (Qg rfl) (Qg rfl) (Qw (by simp [*]))
 by_cases k1 : k = 1
 ·subst k1
  rw [W8 _ _ _ _ (by decide)]
  refine ⟨[98, 111, 111, 108], fun B => ?_, by simp⟩
  by_cases hn : n = 0
  all_goals
   refine Qa Tryz.func54 rfl Tryz.ntmps54 rfl (t := [(0, .agg [.i 1, .i n, .i m, QR ks])]) rfl fun E hE => ?_
   (repeat' first|(refine Qe ?_;(first|refine QG rfl ?_|refine QJ rfl ?_|refine Qb rfl rfl rfl ?_|refine QS rfl rfl ?_|refine Wr rfl rfl ?_|refine Qd rfl rfl ?_|refine QU rfl rfl (fun _ _ => ?_)))|(refine Qk ?_;(first|refine Qi ?_|refine QN rfl ?_|refine WD rfl rfl rfl rfl ?_))|(refine Qj ?_;(first|refine Qn ?_|refine Qc ?_|(refine Wg ?_;first|refine Q3 (by rfl) (by kernel_rfl) (by kernel_rfl) ?_|refine Q2 (by kernel_rfl) (by kernel_rfl) ?_)|refine Qx ?_|refine Qh rfl ?_|refine Ql rfl ?_|refine Qs ?_))|(refine Zw ?_;(first|refine x_gn rfl rfl rfl rfl ?_|refine x_op rfl (by (repeat' first|(refine Qe ?_;(first|refine QG rfl ?_|refine QJ rfl ?_|(refine Qz ?_;(first|refine WF rfl rfl ?_|refine QM rfl ?_|refine Qb rfl rfl rfl ?_))|refine Qv rfl rfl (by first|assumption|omega|(simp;done)|(simp;omega)) ?_|refine QS rfl rfl ?_|refine QZ rfl rfl (WX _ _ _ _ _) ?_|(refine Q4 ?_;(first|refine WO rfl rfl ?_|refine Wr rfl rfl ?_))|refine qi [Str.mk [105, 110, 116], Str.mk [98, 111, 111, 108]] rfl rfl (by decide) rfl ?_|refine Qd rfl rfl ?_))|exact ⟨rfl, rfl⟩)) ?_|refine x_gy rfl rfl rfl rfl (by (repeat' first|(refine Qe ?_;(first|refine QG rfl ?_|refine QJ rfl ?_|(refine Qz ?_;(first|refine WF rfl rfl ?_|refine QM rfl ?_|refine Qb rfl rfl rfl ?_))|refine Qv rfl rfl (by first|assumption|omega|(simp;done)|(simp;omega)) ?_|refine QS rfl rfl ?_|refine QZ rfl rfl (WX _ _ _ _ _) ?_|(refine Q4 ?_;(first|refine WO rfl rfl ?_|refine Wr rfl rfl ?_))|refine qi [Str.mk [105, 110, 116], Str.mk [98, 111, 111, 108]] rfl rfl (by decide) rfl ?_|refine Qd rfl rfl ?_))|exact ⟨rfl, rfl⟩)) ?_|refine Zr ?_|refine x_sp_t rfl rfl (by omega) ?_|refine x_sp_f rfl rfl (by omega) ?_)))
   all_goals exact e_2 Tryz.results54 (Qg rfl) (Qg rfl) (Qw (by simp [*]))
 by_cases k3 : k = 3
 ·subst k3
  by_cases hc : ks.length = 0 \/ n ≠ 0 \/ m ≠ 0
  ·refine ⟨[], fun B => ?_, fun h => ?_⟩
   ·by_cases h0 : (ks.length : Int) = 0
    ·have h00 : ks.length = 0 := by omega
     refine Qa Tryz.func54 rfl Tryz.ntmps54 rfl (t := [(0, .agg [.i 3, .i n, .i m, QR ks])]) rfl fun E hE => ?_
     (repeat' first|(refine Qe ?_;(first|refine QG rfl ?_|refine QJ rfl ?_|refine Qb rfl rfl rfl ?_|(refine Qo ?_;(first|refine QS rfl rfl ?_|refine ZN rfl rfl ?_))|refine Qt rfl ?_|(refine Q4 ?_;(first|refine WO rfl rfl ?_|refine Wr rfl rfl ?_))|refine Qd rfl rfl ?_|refine QU rfl rfl (fun _ _ => ?_)))|(refine Qk ?_;(first|refine Qi ?_|refine QN rfl ?_|refine WD rfl rfl rfl rfl ?_|refine W2 rfl rfl rfl rfl ?_|refine We rfl rfl (by omega) ?_))|(refine Qj ?_;(first|refine Qn ?_|refine Qc ?_|refine Qx ?_|refine Qh rfl ?_|refine Ql rfl ?_|refine Qs ?_)))
     all_goals exact e_2 Tryz.results54 (Qg rfl) (Qg rfl) (Qw (by simp [*]))
    by_cases hn : n = 0
    ·have hm : m ≠ 0 := by omega
     refine Qa Tryz.func54 rfl Tryz.ntmps54 rfl (t := [(0, .agg [.i 3, .i n, .i m, QR ks])]) rfl fun E hE => ?_
     (repeat' first|(refine Qe ?_;(first|refine QG rfl ?_|refine QJ rfl ?_|refine Qb rfl rfl rfl ?_|(refine Qo ?_;(first|refine QS rfl rfl ?_|refine ZN rfl rfl ?_))|refine Qt rfl ?_|refine Wr rfl rfl ?_|refine Qd rfl rfl ?_|refine QU rfl rfl (fun _ _ => ?_)))|(refine Qk ?_;(first|refine Qi ?_|refine QN rfl ?_|refine WD rfl rfl rfl rfl ?_|refine Q6 rfl rfl (by omega) ?_))|(refine Qj ?_;(first|refine Qn ?_|refine Qc ?_|refine Qx ?_|refine Ql rfl ?_|refine Qp rfl (by omega) ?_|refine Qs ?_)))
     all_goals exact e_2 (Tryz.results54) (Qg rfl) (Qg rfl) (Qw (by simp [Wz, Q0, *]))
    ·refine Qa Tryz.func54 rfl Tryz.ntmps54 rfl (t := [(0, .agg [.i 3, .i n, .i m, QR ks])]) rfl fun E hE => ?_
     (repeat' first|(refine Qe ?_;(first|refine QG rfl ?_|refine QJ rfl ?_|refine Qb rfl rfl rfl ?_|(refine Qo ?_;(first|refine QS rfl rfl ?_|refine ZN rfl rfl ?_))|refine Qt rfl ?_|(refine Q4 ?_;(first|refine WO rfl rfl ?_|refine Wr rfl rfl ?_))|refine Qd rfl rfl ?_|refine QU rfl rfl (fun _ _ => ?_)))|(refine Qk ?_;(first|refine Qi ?_|refine QN rfl ?_|refine WD rfl rfl rfl rfl ?_|refine W2 rfl rfl rfl rfl ?_|refine We rfl rfl (by omega) ?_|refine Q6 rfl rfl (by omega) ?_))|(refine Qj ?_;(first|refine Qn ?_|refine Qc ?_|refine Qx ?_|refine Qh rfl ?_|refine Ql rfl ?_|refine Qs ?_)))
     all_goals exact e_2 (Tryz.results54) (Qg rfl) (Qg rfl) (Qw (by simp [Wz, Q0, *]))
   ·simp [Wz, Q0] at h;omega
  ·have hlen : ¬ ks.length = 0 := fun h => hc (.inl h)
   have hn : n = 0 := Classical.byContradiction fun h => hc (.inr (.inl h))
   have hm : m = 0 := Classical.byContradiction fun h => hc (.inr (.inr h))
   have hlz : ¬ (ks.length : Int) = 0 := by omega
   have hlp : 0 < ks.length := by omega
   have hcl := ZR qw ks fun x hx => typT_len x (Wj hok.2 hx)
   subst hn;subst hm
   refine ⟨if ks.all ZJ = true then [114, 101, 99, 32, 40] ++ WJ (ks.map qw) ++ [41] else [], fun B => ?_, fun h => ?_⟩
   ·refine Qa Tryz.func54 rfl Tryz.ntmps54 rfl (t := [(0, .agg [.i 3, .i 0, .i 0, QR ks])]) rfl fun E hE => ?_
    (repeat' first|(refine Qe ?_;(first|refine QG rfl ?_|refine QJ rfl ?_|refine Qb rfl rfl rfl ?_|(refine Qo ?_;(first|refine QS rfl rfl ?_|refine ZN rfl rfl ?_))|refine Qt rfl ?_|refine Wr rfl rfl ?_|refine Qd rfl rfl ?_|refine QU rfl rfl (fun _ _ => ?_)))|(refine Qk ?_;(first|refine Qi ?_|refine QN rfl ?_|refine WD rfl rfl rfl rfl ?_|refine Q6 rfl rfl (by omega) ?_))|(refine Qj ?_;(first|refine Qn ?_|refine Qc ?_|refine Qf ?_|refine Qx ?_|refine Ql rfl ?_)))
    rename_i gb hgb
    refine r_own 4 1 rfl fun gO hgO => ?_
    refine r_loopg (fun (i : Nat) g => ⟨[(1, .ptr 0 gb 0), (4, .ref 1 g 0 ((ks.take i).map fun x => Str.mk (qw x)).length 1), (5, .i i)], [.row gb [.i 3, .i 0, .i 0, QR ks], .row g (Ws ((ks.take i).map fun x => Str.mk (qw x)))]⟩) (fun i => i <= ks.length /\ (ks.take i).all ZJ = true) (fun i => ks.length - i) 0 gO hgO ?_ (by simp) ?_
    ·exact zal rfl
    intro i g ⟨hil0, hall⟩ hg
    by_cases hil : i < ks.length
    ·obtain ⟨y, hx, hxe⟩ := hi _ (List.getElem_mem hil)
     by_cases hk : ZJ ks[i] = true
     ·have hye := hxe hk
      subst hye
      rw [hk] at hx
      have hb2 : ((ks.take (i + 1)).map fun x => Str.mk (qw x)) = ((ks.take i).map fun x => Str.mk (qw x)) ++ [Str.mk (qw ks[i])] := by rw [List.take_succ_eq_append_getElem hil, List.map_append];rfl
      have hal : ((ks.take i).map fun x => Str.mk (qw x)).length <= 1048576 := by simp;omega
      (repeat' first|(refine Qe ?_;(first|refine QG rfl ?_|refine QJ rfl ?_|(refine Qz ?_;(first|refine QD rfl ?_|refine Qb rfl rfl rfl ?_))|refine Qv rfl rfl (by first|assumption|omega|(simp;done)|(simp;omega)) ?_|(refine Qo ?_;(first|refine Q1 rfl rfl ?_|refine W3 rfl rfl (by omega) ?_))|(refine Qq ?_;(first|refine QZ rfl rfl (hx) ?_|refine ZD (z := Str.mk _) rfl rfl rfl rfl rfl rfl rfl (by first|omega|(simp;omega)) (by first|omega|(simp;omega)) (fun _ => rfl) (fun _ _ => ?_)|refine Qt rfl ?_))|refine W1 rfl rfl (by decide) rfl ?_|refine Wn rfl ?_|refine Qd rfl rfl ?_|refine QI rfl rfl rfl ?_))|(refine Qk ?_;(first|refine Qi ?_|refine QN rfl ?_))|(refine Qj ?_;(first|refine Qn ?_|refine Qc ?_|refine Qf ?_|refine Qx ?_|refine Ql rfl ?_|refine Qp rfl (by omega) ?_)))
      refine ⟨i + 1, _, ⟨by omega, by rw [List.take_succ_eq_append_getElem hil, List.all_append, hall];simp [hk]⟩, by assumption, by omega, ?_⟩
      rw [hb2]
      exact zal rfl
     ·have hk2 : ZJ ks[i] = false := by rw [<- Bool.not_eq_true];exact hk
      rw [hk2] at hx
      have hna : ks.all ZJ = false := by
       rw [<- Bool.not_eq_true, List.all_eq_true]
       intro h;exact hk (h _ (List.getElem_mem hil))
      (repeat' first|(refine Qe ?_;(first|refine QG rfl ?_|refine QJ rfl ?_|(refine Qz ?_;(first|refine QD rfl ?_|refine Qb rfl rfl rfl ?_))|refine Qv rfl rfl (by first|assumption|omega|(simp;done)|(simp;omega)) ?_|refine Q1 rfl rfl ?_|(refine Qq ?_;(first|refine QZ rfl rfl (hx) ?_|refine Qt rfl ?_))|refine Wn rfl ?_|refine Qd rfl rfl ?_|refine QI rfl rfl rfl ?_))|(refine Qk ?_;(first|refine Qi ?_|refine QN rfl ?_))|(refine Qj ?_;(first|refine Qn ?_|refine Qc ?_|refine Qf ?_|refine Qx ?_|refine Qh rfl ?_|refine Qp rfl (by omega) ?_|refine Qs ?_)))
      exact e_2 (Tryz.results54) (Qg rfl) (Qg rfl) (Qw (by simp [hna]))
    ·have hie : i = ks.length := by omega
     subst hie
     rw [List.take_length] at *
     have hJ : (WJ (qq (ks.map fun x => Str.mk (qw x)))).length <= 140737488355328 := by unfold qq;rw [List.map_map];show (WJ (ks.map qw)).length <= _;omega
     have hN : (ks.map fun x => Str.mk (qw x)).length <= 1000000000 := by simp;omega
     have hst : qq (ks.map fun x => Str.mk (qw x)) = ks.map qw := by unfold qq;rw [List.map_map];rfl
     have hcl2 : (WJ (qq (ks.map fun x => Str.mk (qw x)))).length <= 30 * QT ks := by rw [hst];exact hcl
     (repeat' first|(refine Qe ?_;(first|refine QG rfl ?_|refine QJ rfl ?_|refine Qb rfl rfl rfl ?_|(refine Qo ?_;(first|refine Q1 rfl rfl ?_|refine qD rfl rfl ?_))|(refine Qq ?_;(first|refine s_call_v rfl rfl (View.ref rfl (by rw [QX];rfl) (QO _) View.nil) (r_list_c _ hJ hN) rfl ?_|refine Qt rfl ?_))|refine Qd rfl rfl ?_))|(refine Qk ?_;(first|refine Qi ?_|refine QN rfl ?_))|(refine Qj ?_;(first|refine Qn ?_|refine Qc ?_|refine Qm rfl (by omega) ?_|refine WI rfl ?_|refine Qs ?_)))
     exact e_2 (Tryz.results54) (Qg rfl) (Qg rfl) (Qw (by rw [hst];simp [hall, Wz, Q0, hlp]))
   ·have ha : ks.all ZJ = true := by simp at h;rw [List.all_eq_true];exact h.2
    rw [if_pos ha];simp
 ·refine ⟨[], fun B => ?_, by simp [k0, k1, k2, k3]⟩
  refine Qa Tryz.func54 rfl Tryz.ntmps54 rfl (t := [(0, .agg [.i k, .i n, .i m, QR ks])]) rfl fun E hE => ?_
  (repeat' first|(refine Qe ?_;(first|refine QG rfl ?_|refine QJ rfl ?_|refine Qb rfl rfl rfl ?_|(refine Qo ?_;(first|refine QS rfl rfl ?_|refine ZN rfl rfl ?_))|(refine Q4 ?_;(first|refine WO rfl rfl ?_|refine Wr rfl rfl ?_))|refine Qd rfl rfl ?_|refine QU rfl rfl (fun _ _ => ?_)))|(refine Qk ?_;(first|refine Qi ?_|refine QN rfl ?_|refine WD rfl rfl rfl rfl ?_|refine W2 rfl rfl rfl rfl ?_|refine We rfl rfl (by omega) ?_|refine Q6 rfl rfl (by omega) ?_))|(refine Qj ?_;(first|refine Qn ?_|refine Qc ?_|refine Qx ?_|refine Qh rfl ?_|refine Qm rfl (by omega) ?_|refine Qs ?_)))
  all_goals exact e_2 Tryz.results54 (Qg rfl) (Qg rfl) (Qw (by simp [*]))
def RxC (G : Nat -> DV) (t : Nd) : Prop := ∃ x, Go.Av.Pure Tryz.prog G 55 [.agg (Enc.enc t)] (.tup [WQ x, .b (Zn t)]) /\ (Zn t = true -> x = exT t)
theorem rexprs_c (ks : List Nd) (hsz : QT ks <= 1000000) (hi : ∀ x ∈ ks, RxC G x) : Go.Av.Pure Tryz.prog G 98 [QR ks] (.tup [QR (if ks.all Zn = true then ks.map (fun x => Str.mk (exT x)) else []), .b (ks.all Zn)]) := fun B => by
 have hl1 := WC ks
 refine Qa Tryz.func98 rfl Tryz.ntmps98 rfl (t := [(0, QR ks)]) rfl fun E hE => ?_
 (repeat' first|refine QJ rfl ?_|(refine Qk ?_;(first|refine Qi ?_|refine QN rfl ?_))|(refine Qj ?_;(first|refine Qn ?_|refine Qc ?_|refine Qf ?_)))
 refine r_own 4 1 rfl fun gO hgO => ?_
 refine r_loopg (fun (i : Nat) g => ⟨[(0, QR ks), (4, .ref 0 g 0 ((ks.take i).map fun x => Str.mk (exT x)).length 1), (5, .i i)], [.row g (Ws ((ks.take i).map fun x => Str.mk (exT x)))]⟩) (fun i => i <= ks.length /\ (ks.take i).all Zn = true) (fun i => ks.length - i) 0 gO hgO ?_ (by simp) ?_
 ·exact zal rfl
 intro i g ⟨hil0, hall⟩ hg
 by_cases hil : i < ks.length
 ·obtain ⟨y, hx, hxe⟩ := hi _ (List.getElem_mem hil)
  by_cases hk : Zn ks[i] = true
  ·have hye := hxe hk
   subst hye
   rw [hk] at hx
   have hb2 : ((ks.take (i + 1)).map fun x => Str.mk (exT x)) = ((ks.take i).map fun x => Str.mk (exT x)) ++ [Str.mk (exT ks[i])] := by rw [List.take_succ_eq_append_getElem hil, List.map_append];rfl
   have hal : ((ks.take i).map fun x => Str.mk (exT x)).length <= 1048576 := by simp;omega
   (repeat' first|(refine Qe ?_;(first|refine QG rfl ?_|refine QJ rfl ?_|refine QD rfl ?_|refine Qv rfl rfl (by first|assumption|omega|(simp;done)|(simp;omega)) ?_|(refine Qo ?_;(first|refine Q1 rfl rfl ?_|refine W3 rfl rfl (by omega) ?_))|(refine Qq ?_;(first|refine ZD (z := Str.mk _) rfl rfl rfl rfl rfl rfl rfl (by first|omega|(simp;omega)) (by first|omega|(simp;omega)) (fun _ => rfl) (fun _ _ => ?_)|refine Qt rfl ?_|refine QZ rfl rfl (hx) ?_))|refine W1 rfl rfl (by decide) rfl ?_|refine Wn rfl ?_|refine QI rfl rfl rfl ?_))|(refine Qk ?_;(first|refine Qi ?_|refine QN rfl ?_))|(refine Qj ?_;(first|refine Qn ?_|refine Qc ?_|refine Qf ?_|refine Qx ?_|refine Ql rfl ?_|refine Qp rfl (by omega) ?_)))
   refine ⟨i + 1, _, ⟨by omega, by rw [List.take_succ_eq_append_getElem hil, List.all_append, hall];simp [hk]⟩, by assumption, by omega, ?_⟩
   rw [hb2]
   exact zal rfl
  ·have hk2 : Zn ks[i] = false := by rw [<- Bool.not_eq_true];exact hk
   rw [hk2] at hx
   have hna : ks.all Zn = false := by
    rw [<- Bool.not_eq_true, List.all_eq_true]
    intro h;exact hk (h _ (List.getElem_mem hil))
   (repeat' first|(refine Qe ?_;(first|refine QG rfl ?_|refine QJ rfl ?_|refine QD rfl ?_|refine Qv rfl rfl (by first|assumption|omega|(simp;done)|(simp;omega)) ?_|refine Q1 rfl rfl ?_|(refine Qq ?_;(first|refine Qt rfl ?_|refine QZ rfl rfl (hx) ?_))|refine Wn rfl ?_|refine QI rfl rfl rfl ?_))|(refine Qk ?_;(first|refine Qi ?_|refine QN rfl ?_))|(refine Qj ?_;(first|refine Qn ?_|refine Qc ?_|refine Qf ?_|refine Qx ?_|refine Qh rfl ?_|refine Qp rfl (by omega) ?_|refine Qs ?_)))
   exact e_2 (Tryz.results98) (Qg rfl) (Qg rfl) (ZB (fun L v h => ZH (fun v hv => Zm (es := 1) hv) h) (Qw (by simp [hna];rfl)))
 ·have hie : i = ks.length := by omega
  subst hie
  rw [List.take_length] at *
  refine r_pub 4 rfl rfl (by rw [QX];rfl) rfl ?_
  (repeat' first|(refine Qe ?_;(first|refine QG rfl ?_|refine QJ rfl ?_|refine Q1 rfl rfl ?_|refine Qt rfl ?_))|(refine Qk ?_;(first|refine Qi ?_|refine QN rfl ?_))|(refine Qj ?_;(first|refine Qn ?_|refine Qc ?_|refine Qm rfl (by omega) ?_|refine WI rfl ?_|refine Qs ?_)))
  exact e_2 (Tryz.results98) (Qg rfl) (Qg rfl) (Zc (σ := []) ⟨by simp [hall];rfl, rfl⟩)
theorem exOk_all (k n m : Int) (ks : List Nd) (h : Zn (.mk k n m ks) = true) : ks.all Zn = true := by
 rw [Zn, WY] at h
 have h0 : ks.length = 0 -> ks.all Zn = true := fun h => by rw [List.eq_nil_of_length_eq_zero h];rfl
 have hp : Q0 m ks.length 0 = true -> ks.all Zn = true := fun h => h0 (by unfold Q0 at h;simp only [Bool.and_eq_true, Bool.or_eq_true, decide_eq_true_eq] at h;omega)
 split at h
 ·simp only [Bool.and_eq_true] at h;exact hp h.1
 split at h
 ·simp only [Bool.and_eq_true] at h;exact hp h.1
 split at h
 ·simp only [Bool.and_eq_true] at h;exact hp h.1
 split at h
 ·simp only [Bool.and_eq_true] at h;exact h.2
 split at h
 ·simp only [Bool.and_eq_true, decide_eq_true_eq] at h;exact h0 h.1.1
 split at h
 ·simp only [Bool.and_eq_true] at h;exact h.2
 split at h
 ·simp only [Bool.and_eq_true] at h;exact h.2
 split at h
 ·simp only [Bool.and_eq_true] at h;exact h.2
 split at h
 ·simp only [Bool.and_eq_true] at h;exact hp h.1
 ·cases h
theorem exOk_small (k n m : Int) (ks : List Nd) (hk : k ≠ 4) (h : Zn (.mk k n m ks) = true) : WT n = true := by
 rw [Zn] at h
 have h5 : decide (n = 0) = true \/ decide (n = 1) = true -> WT n = true := fun h => by simp [WT] at h ⊢;omega
 split at h
 ·exact absurd (by assumption) hk
 split at h
 ·simp only [Bool.and_eq_true, Bool.or_eq_true] at h;exact h5 h.2
 split at h
 ·simp only [Bool.and_eq_true] at h;exact h.2
 split at h
 ·simp only [Bool.and_eq_true] at h;exact h.1.2
 split at h
 ·simp only [Bool.and_eq_true, decide_eq_true_eq] at h;exact h.1.2
 split at h
 ·simp only [Bool.and_eq_true, decide_eq_true_eq] at h;simp [WT];omega
 split at h
 ·simp only [Bool.and_eq_true, Wz, decide_eq_true_eq] at h;simp [WT];omega
 split at h
 ·simp only [Bool.and_eq_true] at h;exact h.1.2
 split at h
 ·simp only [Bool.and_eq_true] at h;exact h.2
 ·cases h
theorem ZQ (m : Int) (l : Nat) : Q0 m l (-1) = decide (m = 0) := by unfold Q0;simp
theorem opAt2 {n : Int} (h0 : 0 <= n) (h1 : n < 14) (h : n.toNat < (opTexts.map Str.mk).length) : ((opTexts.map Str.mk)[n.toNat]).l = opTexts.getD n.toNat [] := by
 rw [List.getElem_map, List.getD_eq_getElem?_getD, List.getElem?_eq_getElem (by simpa using h)];rfl
theorem rEx_c (t : Nd) : okN t -> Qu t <= 1000000 -> RxC G t := by
 induction t using Nd.ind with
 | h k n m ks ih =>
 intro hok hsz
 rw [okN] at hok
 rw [Qu] at hsz
 have hl1 := WC ks
 have hes := rexprs_c ks (by omega) fun x hx => ih x hx (Wj hok.2 hx) (by have := QY hx;omega)
 have hcl := ZR exT ks (fun x hx => qY x (Wj hok.2 hx))
 have hxl : ∀ x ∈ ks, (exT x).length <= 60000000 := fun x hx => by have := qY x (Wj hok.2 hx);have := QY hx;omega
 have hsx := exOk_small k n m ks
 have hax := exOk_all k n m ks
 clear ih
 unfold RxC
 rw [QW]
 by_cases hall : ks.all Zn = true
 ·rw [hall, if_pos rfl] at hes
  have hst : qq (ks.map fun x => Str.mk (exT x)) = ks.map exT := by unfold qq;rw [List.map_map];rfl
  have hli := r_list_c (G := G) (ks.map fun x => Str.mk (exT x)) (by rw [hst];omega) (by simp;omega)
  rw [hst] at hli
  by_cases k4 : k = 4
  ·subst k4
   by_cases hn : n < 0
   ·have hdig : Go.Av.Pure Tryz.prog G 93 [.i (-(max n (-999)))] (WQ (Lib.decDigits (-(max n (-999))).toNat)) := by
     have := qP (G := G) (-(max n (-999))).toNat (by omega)
     rwa [show (((-(max n (-999))).toNat : Nat) : Int) = -(max n (-999)) by omega] at this
    have hdl := digits_len (-(max n (-999))).toNat (by omega)
    have hi := hok.1.2.1.1
    refine ⟨[45] ++ Lib.decDigits (-(max n (-999))).toNat, fun B => ?_, fun h => ?_⟩
    ·by_cases h9 : -999 <= n
     all_goals
      refine Qa Tryz.func55 rfl Tryz.ntmps55 rfl (t := [(0, .agg [.i 4, .i n, .i m, QR ks])]) rfl fun E hE => ?_
      (repeat' first|(refine Qe ?_;(first|refine QG rfl ?_|refine QJ rfl ?_|refine Qb rfl rfl rfl ?_|(refine Qo ?_;(first|refine Q1 rfl rfl ?_|refine QS rfl rfl ?_))|refine QZ rfl rfl (hes) ?_|refine Wn rfl ?_|refine Qd rfl rfl ?_|refine QI rfl rfl rfl ?_|refine QU rfl rfl (fun _ _ => ?_)))|(refine Qk ?_;(first|refine Qi ?_|refine QN rfl ?_))|(refine Qj ?_;(first|refine Qn ?_|refine Qc ?_|(refine Wg ?_;first|refine Q3 (by rfl) (by kernel_rfl) (by kernel_rfl) ?_|refine Q2 (by kernel_rfl) (by kernel_rfl) ?_)|refine Qx ?_|refine Qh rfl ?_|refine Ql rfl ?_|refine Qp rfl (by omega) ?_|refine Qs ?_))|(refine Zw ?_;(first|refine x_gn rfl rfl rfl rfl ?_|refine x_op rfl (by (repeat' first|(refine Qe ?_;(first|refine QG rfl ?_|refine QJ rfl ?_|(refine Qz ?_;(first|refine WF rfl rfl ?_|refine Qb rfl rfl rfl ?_))|(refine Qo ?_;(first|refine W0 rfl rfl ?_|refine qD rfl rfl ?_))|(refine Qq ?_;(first|refine s_max rfl rfl ?_|refine QZ rfl rfl (hdig) ?_|refine QZ rfl rfl (WX _ _ _ _ _) ?_))|(refine Q4 ?_;(first|refine WO rfl rfl ?_|refine Wr rfl rfl ?_))|refine s_neg rfl (by omega) ?_|refine Qd rfl rfl ?_))|exact ⟨rfl, rfl⟩)) ?_|refine x_gy rfl rfl rfl rfl (by (repeat' first|(refine Qe ?_;(first|refine QG rfl ?_|refine QJ rfl ?_|(refine Qz ?_;(first|refine WF rfl rfl ?_|refine Qb rfl rfl rfl ?_))|(refine Qo ?_;(first|refine W0 rfl rfl ?_|refine qD rfl rfl ?_))|(refine Qq ?_;(first|refine s_max rfl rfl ?_|refine QZ rfl rfl (hdig) ?_|refine QZ rfl rfl (WX _ _ _ _ _) ?_))|(refine Q4 ?_;(first|refine WO rfl rfl ?_|refine Wr rfl rfl ?_))|refine s_neg rfl (by omega) ?_|refine Qd rfl rfl ?_))|exact ⟨rfl, rfl⟩)) ?_|refine Zr ?_|refine x_sp_t rfl rfl (by omega) ?_|refine x_sp_f rfl rfl (by omega) ?_)))
      all_goals exact e_2 (Tryz.results55) (Qg rfl) (Qg rfl) (Qw (by rw [Zn, WY];simp [Wo, *]))
    ·rw [Zn] at h
     rw [exT, if_pos rfl]
     have h9 : -999 <= n := by simp [hn] at h;omega
     unfold Lib.itoa
     rw [if_pos hn, show (-(max n (-999))).toNat = n.natAbs by omega];rfl
   ·have hn0 : 0 <= n := by omega
    have hdig : Go.Av.Pure Tryz.prog G 93 [.i n] (WQ (Lib.itoa n)) := by
     rw [itoa_nat hn0]
     have := qP (G := G) n.toNat (by have := hok.1.2.1.2;omega)
     rwa [show ((n.toNat : Nat) : Int) = n by omega] at this
    refine ⟨Lib.itoa n, fun B => ?_, fun h => by rw [exT, if_pos rfl]⟩
    by_cases hs : WT n = true
    ·have hsm : Go.Av.Pure Tryz.prog G 92 [.i n] (.b true) := by have := ZP (G := G) n;rwa [hs] at this
     refine Qa Tryz.func55 rfl Tryz.ntmps55 rfl (t := [(0, .agg [.i 4, .i n, .i m, QR ks])]) rfl fun E hE => ?_
     (repeat' first|(refine Qe ?_;(first|refine QG rfl ?_|refine QJ rfl ?_|refine Qb rfl rfl rfl ?_|(refine Qo ?_;(first|refine Q1 rfl rfl ?_|refine QS rfl rfl ?_))|refine QZ rfl rfl (hes) ?_|refine Wn rfl ?_|refine Qd rfl rfl ?_|refine QI rfl rfl rfl ?_|refine QU rfl rfl (fun _ _ => ?_)))|(refine Qk ?_;(first|refine Qi ?_|refine QN rfl ?_))|(refine Qj ?_;(first|refine Qn ?_|refine Qc ?_|(refine Wg ?_;first|refine Q3 (by rfl) (by kernel_rfl) (by kernel_rfl) ?_|refine Q2 (by kernel_rfl) (by kernel_rfl) ?_)|refine Qx ?_|refine Qh rfl ?_|refine Ql rfl ?_|refine Qm rfl (by omega) ?_|refine Qs ?_))|(refine Zw ?_;(first|refine x_op rfl (by (repeat' first|(refine Qe ?_;(first|refine QG rfl ?_|refine QJ rfl ?_|(refine Qz ?_;(first|refine WF rfl rfl ?_|refine Qb rfl rfl rfl ?_))|(refine Qq ?_;(first|refine QZ rfl rfl (hdig) ?_|refine QZ rfl rfl (hsm) ?_|refine QZ rfl rfl (WX _ _ _ _ _) ?_))|refine WO rfl rfl ?_|refine Qd rfl rfl ?_))|exact ⟨rfl, rfl⟩)) ?_|refine x_gy rfl rfl rfl rfl (by (repeat' first|(refine Qe ?_;(first|refine QG rfl ?_|refine QJ rfl ?_|(refine Qz ?_;(first|refine WF rfl rfl ?_|refine Qb rfl rfl rfl ?_))|(refine Qq ?_;(first|refine QZ rfl rfl (hdig) ?_|refine QZ rfl rfl (hsm) ?_|refine QZ rfl rfl (WX _ _ _ _ _) ?_))|refine WO rfl rfl ?_|refine Qd rfl rfl ?_))|exact ⟨rfl, rfl⟩)) ?_|refine Zr ?_)))
     all_goals exact e_2 (Tryz.results55) (Qg rfl) (Qg rfl) (Qw (by rw [Zn, WY];simp [Wo, *]))
    ·have hs2 : WT n = false := by rw [<- Bool.not_eq_true];exact hs
     have hsm : Go.Av.Pure Tryz.prog G 92 [.i n] (.b false) := by have := ZP (G := G) n;rwa [hs2] at this
     refine Qa Tryz.func55 rfl Tryz.ntmps55 rfl (t := [(0, .agg [.i 4, .i n, .i m, QR ks])]) rfl fun E hE => ?_
     (repeat' first|(refine Qe ?_;(first|refine QG rfl ?_|refine QJ rfl ?_|refine Qb rfl rfl rfl ?_|(refine Qo ?_;(first|refine Q1 rfl rfl ?_|refine QS rfl rfl ?_))|refine QZ rfl rfl (hes) ?_|refine Wn rfl ?_|refine Qd rfl rfl ?_|refine QI rfl rfl rfl ?_|refine QU rfl rfl (fun _ _ => ?_)))|(refine Qk ?_;(first|refine Qi ?_|refine QN rfl ?_))|(refine Qj ?_;(first|refine Qn ?_|refine Qc ?_|(refine Wg ?_;first|refine Q3 (by rfl) (by kernel_rfl) (by kernel_rfl) ?_|refine Q2 (by kernel_rfl) (by kernel_rfl) ?_)|refine Qx ?_|refine Qh rfl ?_|refine Ql rfl ?_|refine Qm rfl (by omega) ?_|refine Qs ?_))|(refine Zw ?_;(first|refine x_gn rfl rfl rfl rfl ?_|refine x_op rfl (by (repeat' first|(refine Qe ?_;(first|refine QG rfl ?_|refine QJ rfl ?_|refine Qb rfl rfl rfl ?_|(refine Qq ?_;(first|refine QZ rfl rfl (hdig) ?_|refine QZ rfl rfl (hsm) ?_))|refine Wr rfl rfl ?_|refine Qd rfl rfl ?_))|exact ⟨rfl, rfl⟩)) ?_|refine Zr ?_)))
     all_goals exact e_2 (Tryz.results55) (Qg rfl) (Qg rfl) (Qw (by rw [Zn, WY];simp [Wo, *]))
  have hsx := hsx k4
  by_cases hs : WT n = true
  case neg =>
   have hs2 : WT n = false := by rw [<- Bool.not_eq_true];exact hs
   have hsm : Go.Av.Pure Tryz.prog G 92 [.i n] (.b false) := by have := ZP (G := G) n;rwa [hs2] at this
   have hf : Zn (.mk k n m ks) = false := by rw [<- Bool.not_eq_true];exact fun h => hs (hsx h)
   refine ⟨[], fun B => ?_, fun h => by rw [hf] at h;cases h⟩
   refine Qa Tryz.func55 rfl Tryz.ntmps55 rfl (t := [(0, .agg [.i k, .i n, .i m, QR ks])]) rfl fun E hE => ?_
   (repeat' first|(refine Qe ?_;(first|refine QG rfl ?_|refine QJ rfl ?_|refine Qb rfl rfl rfl ?_|refine QS rfl rfl ?_|(refine Qq ?_;(first|refine QZ rfl rfl (hsm) ?_|refine QZ rfl rfl (hes) ?_))|refine Wn rfl ?_|refine Qd rfl rfl ?_|refine QI rfl rfl rfl ?_|refine QU rfl rfl (fun _ _ => ?_)))|(refine Qk ?_;(first|refine Qi ?_|refine QN rfl ?_))|(refine Qj ?_;(first|refine Qn ?_|refine Qc ?_|refine Qx ?_|refine Qh rfl ?_|refine Ql rfl ?_|refine Qm rfl (by omega) ?_|refine Qs ?_)))
   all_goals exact e_2 (Tryz.results55) (Qg rfl) (Qg rfl) (Qw (by rw [hf]))
  have hsm : Go.Av.Pure Tryz.prog G 92 [.i n] (.b true) := by have := ZP (G := G) n;rwa [hs] at this
  obtain ⟨hn0, hn9⟩ := qQ hs
  have hdig : Go.Av.Pure Tryz.prog G 93 [.i n] (WQ (Lib.itoa n)) := by
   rw [itoa_nat hn0]
   have := qP (G := G) n.toNat (by omega)
   rwa [show ((n.toNat : Nat) : Int) = n by omega] at this
  have hil := Zb hok.1.2.1
  by_cases k5 : k = 5
  ·subst k5
   refine ⟨if n = 0 then [102, 97, 108, 115, 101] else [116, 114, 117, 101], fun B => ?_, fun h => ?_⟩
   ·by_cases n0 : n = 0
    ·subst n0
     refine Qa Tryz.func55 rfl Tryz.ntmps55 rfl (t := [(0, .agg [.i 5, .i 0, .i m, QR ks])]) rfl fun E hE => ?_
     (repeat' first|(refine Qe ?_;(first|refine QG rfl ?_|refine QJ rfl ?_|refine Qb rfl rfl rfl ?_|refine QS rfl rfl ?_|(refine Qq ?_;(first|refine QZ rfl rfl (hdig) ?_|refine QZ rfl rfl (hsm) ?_|refine QZ rfl rfl (hes) ?_))|refine Wn rfl ?_|refine Qd rfl rfl ?_|refine QI rfl rfl rfl ?_|refine QU rfl rfl (fun _ _ => ?_)))|(refine Qk ?_;(first|refine Qi ?_|refine QN rfl ?_))|(refine Qj ?_;(first|refine Qn ?_|refine Qc ?_|refine Qf ?_|(refine Wg ?_;first|refine Q3 (by rfl) (by kernel_rfl) (by kernel_rfl) ?_|refine Q2 (by kernel_rfl) (by kernel_rfl) ?_)|refine Qx ?_|refine Qh rfl ?_|refine Ql rfl ?_|refine Qs ?_))|(refine Zw ?_;(first|refine x_op rfl (by (repeat' first|(refine Qe ?_;(first|refine QG rfl ?_|refine QJ rfl ?_|(refine Qz ?_;(first|refine WF rfl rfl ?_|refine QM rfl ?_|refine Qb rfl rfl rfl ?_))|refine Qv rfl rfl (by first|assumption|omega|(simp;done)|(simp;omega)) ?_|refine Zp rfl rfl ?_|(refine Qq ?_;(first|refine s_min rfl rfl ?_|refine QZ rfl rfl (WX _ _ _ _ _) ?_))|refine WO rfl rfl ?_|refine qi [Str.mk [102, 97, 108, 115, 101], Str.mk [116, 114, 117, 101]] rfl rfl (by decide) rfl ?_|refine Qd rfl rfl ?_))|exact ⟨rfl, rfl⟩)) ?_|refine x_gy rfl rfl rfl rfl (by (repeat' first|(refine Qe ?_;(first|refine QG rfl ?_|refine QJ rfl ?_|(refine Qz ?_;(first|refine WF rfl rfl ?_|refine QM rfl ?_|refine Qb rfl rfl rfl ?_))|refine Qv rfl rfl (by first|assumption|omega|(simp;done)|(simp;omega)) ?_|refine Zp rfl rfl ?_|(refine Qq ?_;(first|refine s_min rfl rfl ?_|refine QZ rfl rfl (WX _ _ _ _ _) ?_))|refine WO rfl rfl ?_|refine qi [Str.mk [102, 97, 108, 115, 101], Str.mk [116, 114, 117, 101]] rfl rfl (by decide) rfl ?_|refine Qd rfl rfl ?_))|exact ⟨rfl, rfl⟩)) ?_|refine Zr ?_)))
     all_goals exact e_2 (Tryz.results55) (Qg rfl) (Qg rfl) (Qw (by rw [Zn, WY];simp [Wo, W8, *]))
    ·have hmin : min n 1 = 1 := by omega
     by_cases n1 : n <= 1
     all_goals
      refine Qa Tryz.func55 rfl Tryz.ntmps55 rfl (t := [(0, .agg [.i 5, .i n, .i m, QR ks])]) rfl fun E hE => ?_
      (repeat' first|(refine Qe ?_;(first|refine QG rfl ?_|refine QJ rfl ?_|refine Qb rfl rfl rfl ?_|refine QS rfl rfl ?_|(refine Qq ?_;(first|refine QZ rfl rfl (hdig) ?_|refine QZ rfl rfl (hsm) ?_|refine QZ rfl rfl (hes) ?_))|refine Wn rfl ?_|refine Qd rfl rfl ?_|refine QI rfl rfl rfl ?_|refine QU rfl rfl (fun _ _ => ?_)))|(refine Qk ?_;(first|refine Qi ?_|refine QN rfl ?_))|(refine Qj ?_;(first|refine Qn ?_|refine Qc ?_|refine Qf ?_|(refine Wg ?_;first|refine Q3 (by rfl) (by kernel_rfl) (by kernel_rfl) ?_|refine Q2 (by kernel_rfl) (by kernel_rfl) ?_)|refine Qx ?_|refine Qh rfl ?_|refine Ql rfl ?_|refine Qs ?_))|(refine Zw ?_;(first|refine x_gn rfl rfl rfl rfl ?_|refine x_op rfl (by (repeat' first|(refine Qe ?_;(first|refine QG rfl ?_|refine QJ rfl ?_|(refine Qz ?_;(first|refine WF rfl rfl ?_|refine QM rfl ?_|refine Qb rfl rfl rfl ?_))|refine qh rfl rfl (by omega) (by first|assumption|omega|(simp;done)|(simp;omega)) ?_|refine Zp rfl rfl ?_|(refine Qq ?_;(first|refine s_min rfl rfl ?_|refine QZ rfl rfl (WX _ _ _ _ _) ?_))|(refine Q4 ?_;(first|refine WO rfl rfl ?_|refine Wr rfl rfl ?_))|refine qi [Str.mk [102, 97, 108, 115, 101], Str.mk [116, 114, 117, 101]] rfl rfl (by decide) rfl ?_|refine Qd rfl rfl ?_))|exact ⟨rfl, rfl⟩)) ?_|refine x_gy rfl rfl rfl rfl (by (repeat' first|(refine Qe ?_;(first|refine QG rfl ?_|refine QJ rfl ?_|(refine Qz ?_;(first|refine WF rfl rfl ?_|refine QM rfl ?_|refine Qb rfl rfl rfl ?_))|refine qh rfl rfl (by omega) (by first|assumption|omega|(simp;done)|(simp;omega)) ?_|refine Zp rfl rfl ?_|(refine Qq ?_;(first|refine s_min rfl rfl ?_|refine QZ rfl rfl (WX _ _ _ _ _) ?_))|(refine Q4 ?_;(first|refine WO rfl rfl ?_|refine Wr rfl rfl ?_))|refine qi [Str.mk [102, 97, 108, 115, 101], Str.mk [116, 114, 117, 101]] rfl rfl (by decide) rfl ?_|refine Qd rfl rfl ?_))|exact ⟨rfl, rfl⟩)) ?_|refine Zr ?_|refine x_sp_t rfl rfl (by omega) ?_|refine x_sp_f rfl rfl (by omega) ?_)))
      all_goals exact e_2 (Tryz.results55) (Qg rfl) (Qg rfl) (Qw (by rw [Zn, WY];simp [Wo, W8, *] <;> omega))
   ·rw [Zn, WY] at h
    rw [exT, qX]
    simp at h ⊢
    rcases h.2 with h|h <;> simp [h]
  by_cases k6 : k = 6
  ·subst k6
   refine ⟨[118] ++ Lib.itoa n, fun B => ?_, fun h => ?_⟩
   ·refine Qa Tryz.func55 rfl Tryz.ntmps55 rfl (t := [(0, .agg [.i 6, .i n, .i m, QR ks])]) rfl fun E hE => ?_
    (repeat' first|(refine Qe ?_;(first|refine QG rfl ?_|refine QJ rfl ?_|(refine Qz ?_;(first|refine WF rfl rfl ?_|refine Qb rfl rfl rfl ?_))|(refine Qo ?_;(first|refine QS rfl rfl ?_|refine qD rfl rfl ?_))|(refine Qq ?_;(first|refine QZ rfl rfl (hdig) ?_|refine QZ rfl rfl (hsm) ?_|refine QZ rfl rfl (hes) ?_|refine QZ rfl rfl (WX _ _ _ _ _) ?_))|refine Wn rfl ?_|refine Qd rfl rfl ?_|refine QI rfl rfl rfl ?_|refine QU rfl rfl (fun _ _ => ?_)))|(refine Qk ?_;(first|refine Qi ?_|refine QN rfl ?_))|(refine Qj ?_;(first|refine Qn ?_|refine Qc ?_|refine Qf ?_|refine Qx ?_|refine Qh rfl ?_|refine Ql rfl ?_|refine Qs ?_)))
    all_goals exact e_2 (Tryz.results55) (Qg rfl) (Qg rfl) (Qw (by rw [Zn, WY];simp [Wo, W8, *]))
   ·rw [Zn, WY] at h
    rw [exT, qX]
    simp at h ⊢
  by_cases k7 : k = 7
  ·subst k7
   refine ⟨[118] ++ Lib.itoa n ++ [91] ++ WJ (ks.map exT) ++ [93], fun B => ?_, fun h => ?_⟩
   ·refine Qa Tryz.func55 rfl Tryz.ntmps55 rfl (t := [(0, .agg [.i 7, .i n, .i m, QR ks])]) rfl fun E hE => ?_
    (repeat' first|(refine Qe ?_;(first|refine QG rfl ?_|refine QJ rfl ?_|refine Qb rfl rfl rfl ?_|refine QS rfl rfl ?_|(refine Qq ?_;(first|refine QZ rfl rfl (hdig) ?_|refine QZ rfl rfl (hsm) ?_|refine QZ rfl rfl (hes) ?_))|refine Wn rfl ?_|refine Qd rfl rfl ?_|refine QI rfl rfl rfl ?_|refine QU rfl rfl (fun _ _ => ?_)))|(refine Qk ?_;(first|refine Qi ?_|refine QN rfl ?_))|(refine Qj ?_;(first|refine Qn ?_|refine Qc ?_|refine Qf ?_|(refine Wg ?_;first|refine Q3 (by rfl) (by kernel_rfl) (by kernel_rfl) ?_|refine Q2 (by kernel_rfl) (by kernel_rfl) ?_)|refine Qx ?_|refine Qh rfl ?_|refine Ql rfl ?_|refine Qs ?_))|(refine Zw ?_;(first|refine x_op rfl (by (repeat' first|(refine Qe ?_;(first|refine QG rfl ?_|refine QJ rfl ?_|refine WF rfl rfl ?_|refine qD rfl rfl ?_|(refine Qq ?_;(first|refine QZ rfl rfl (hli) ?_|refine QZ rfl rfl (WX _ _ _ _ _) ?_))))|exact ⟨rfl, rfl⟩)) ?_|refine Zr ?_)))
    all_goals exact e_2 (Tryz.results55) (Qg rfl) (Qg rfl) (Qw (by rw [Zn, WY];simp [Wo, W8, *]))
   ·rw [Zn, WY] at h
    rw [exT, qX]
    simp at h ⊢
  by_cases k8 : k = 8
  ·subst k8
   have hdig2 : Go.Av.Pure Tryz.prog G 93 [.i (max m 0)] (WQ (Lib.decDigits m.toNat)) := by
    rw [show max m 0 = (m.toNat : Int) by omega];exact qP _ (by have := hok.1.2.2.2;omega)
   have hdl := digits_len m.toNat (by have := hok.1.2.2.2;omega)
   have hsm2 := ZP (G := G) m
   refine ⟨[118] ++ Lib.itoa n ++ [46] ++ Lib.decDigits m.toNat, fun B => ?_, fun h => ?_⟩
   ·refine Qa Tryz.func55 rfl Tryz.ntmps55 rfl (t := [(0, .agg [.i 8, .i n, .i m, QR ks])]) rfl fun E hE => ?_
    (repeat' first|(refine Qe ?_;(first|refine QG rfl ?_|refine QJ rfl ?_|refine Qb rfl rfl rfl ?_|refine QS rfl rfl ?_|(refine Qq ?_;(first|refine QZ rfl rfl (hdig) ?_|refine QZ rfl rfl (hsm) ?_|refine QZ rfl rfl (hes) ?_))|refine Wn rfl ?_|refine Qd rfl rfl ?_|refine QI rfl rfl rfl ?_|refine QU rfl rfl (fun _ _ => ?_)))|(refine Qk ?_;(first|refine Qi ?_|refine QN rfl ?_))|(refine Qj ?_;(first|refine Qn ?_|refine Qc ?_|refine Qf ?_|(refine Wg ?_;first|refine Q3 (by rfl) (by kernel_rfl) (by kernel_rfl) ?_|refine Q2 (by kernel_rfl) (by kernel_rfl) ?_)|refine Qx ?_|refine Qh rfl ?_|refine Ql rfl ?_|refine Qs ?_))|(refine Zw ?_;(first|refine x_gn rfl rfl rfl rfl ?_|refine x_op rfl (by (repeat' first|(refine Qe ?_;(first|refine QG rfl ?_|refine QJ rfl ?_|refine Qb rfl rfl rfl ?_|(refine Qo ?_;(first|refine QS rfl rfl ?_|refine qD rfl rfl ?_))|(refine Qq ?_;(first|refine s_max rfl rfl ?_|refine Qt rfl ?_|refine QZ rfl rfl (hdig2) ?_|refine QZ rfl rfl (hsm2) ?_))|(refine Q4 ?_;(first|refine WO rfl rfl ?_|refine Wr rfl rfl ?_))|refine Qd rfl rfl ?_))|exact ⟨rfl, rfl⟩)) ?_|refine x_gy rfl rfl rfl rfl (by (repeat' first|(refine Qe ?_;(first|refine QG rfl ?_|refine QJ rfl ?_|refine Qb rfl rfl rfl ?_|(refine Qo ?_;(first|refine QS rfl rfl ?_|refine qD rfl rfl ?_))|(refine Qq ?_;(first|refine s_max rfl rfl ?_|refine Qt rfl ?_|refine QZ rfl rfl (hdig2) ?_|refine QZ rfl rfl (hsm2) ?_))|(refine Q4 ?_;(first|refine WO rfl rfl ?_|refine Wr rfl rfl ?_))|refine Qd rfl rfl ?_))|exact ⟨rfl, rfl⟩)) ?_|refine Zr ?_|refine x_sp rfl rfl (fun _ => ?_) (fun _ => ?_))))
    all_goals exact e_2 (Tryz.results55) (Qg rfl) (Qg rfl) (Qw (by rw [Zn, WY];simp [Wo, W8, *]))
   ·rw [Zn, WY] at h
    rw [exT, qX]
    simp at h ⊢
    rw [itoa_nat (qQ h.2).1]
  by_cases k10 : k = 10
  ·subst k10
   refine ⟨[33] ++ WJ (ks.map exT), fun B => ?_, fun h => ?_⟩
   ·refine Qa Tryz.func55 rfl Tryz.ntmps55 rfl (t := [(0, .agg [.i 10, .i n, .i m, QR ks])]) rfl fun E hE => ?_
    (repeat' first|(refine Qe ?_;(first|refine QG rfl ?_|refine QJ rfl ?_|refine Qb rfl rfl rfl ?_|refine QS rfl rfl ?_|(refine Qq ?_;(first|refine QZ rfl rfl (hdig) ?_|refine QZ rfl rfl (hsm) ?_|refine QZ rfl rfl (hes) ?_))|refine Wn rfl ?_|refine Qd rfl rfl ?_|refine QI rfl rfl rfl ?_|refine QU rfl rfl (fun _ _ => ?_)))|(refine Qk ?_;(first|refine Qi ?_|refine QN rfl ?_))|(refine Qj ?_;(first|refine Qn ?_|refine Qc ?_|refine Qf ?_|(refine Wg ?_;first|refine Q3 (by rfl) (by kernel_rfl) (by kernel_rfl) ?_|refine Q2 (by kernel_rfl) (by kernel_rfl) ?_)|refine Qx ?_|refine Qh rfl ?_|refine Ql rfl ?_|refine Qs ?_))|(refine Zw ?_;(first|refine x_gn rfl rfl rfl rfl ?_|refine x_op rfl (by (repeat' first|(refine Qe ?_;(first|refine QG rfl ?_|refine QJ rfl ?_|(refine Qz ?_;(first|refine WF rfl rfl ?_|refine Qb rfl rfl rfl ?_))|(refine Qo ?_;(first|refine QS rfl rfl ?_|refine qD rfl rfl ?_))|(refine Qq ?_;(first|refine QZ rfl rfl (hli) ?_|refine QZ rfl rfl (WX _ _ _ _ _) ?_))|(refine Q4 ?_;(first|refine WO rfl rfl ?_|refine Wr rfl rfl ?_))|refine Qd rfl rfl ?_))|exact ⟨rfl, rfl⟩)) ?_|refine x_gy rfl rfl rfl rfl (by (repeat' first|(refine Qe ?_;(first|refine QG rfl ?_|refine QJ rfl ?_|(refine Qz ?_;(first|refine WF rfl rfl ?_|refine Qb rfl rfl rfl ?_))|(refine Qo ?_;(first|refine QS rfl rfl ?_|refine qD rfl rfl ?_))|(refine Qq ?_;(first|refine QZ rfl rfl (hli) ?_|refine QZ rfl rfl (WX _ _ _ _ _) ?_))|(refine Q4 ?_;(first|refine WO rfl rfl ?_|refine Wr rfl rfl ?_))|refine Qd rfl rfl ?_))|exact ⟨rfl, rfl⟩)) ?_|refine Zr ?_|refine x_sp_d rfl rfl (fun _ => ?_) (fun _ => ?_))))
    all_goals exact e_2 (Tryz.results55) (Qg rfl) (Qg rfl) (Qw (by rw [Zn, WY];simp [Wo, W8, *]))
   ·rw [Zn, WY] at h
    rw [exT, qX]
    simp at h ⊢
  by_cases k11 : k = 11
  ·subst k11
   refine ⟨[102] ++ Lib.itoa n ++ [40] ++ WJ (ks.map exT) ++ [41], fun B => ?_, fun h => ?_⟩
   ·refine Qa Tryz.func55 rfl Tryz.ntmps55 rfl (t := [(0, .agg [.i 11, .i n, .i m, QR ks])]) rfl fun E hE => ?_
    (repeat' first|(refine Qe ?_;(first|refine QG rfl ?_|refine QJ rfl ?_|refine Qb rfl rfl rfl ?_|refine QS rfl rfl ?_|(refine Qq ?_;(first|refine QZ rfl rfl (hdig) ?_|refine QZ rfl rfl (hsm) ?_|refine QZ rfl rfl (hes) ?_))|refine Wn rfl ?_|refine Qd rfl rfl ?_|refine QI rfl rfl rfl ?_|refine QU rfl rfl (fun _ _ => ?_)))|(refine Qk ?_;(first|refine Qi ?_|refine QN rfl ?_))|(refine Qj ?_;(first|refine Qn ?_|refine Qc ?_|refine Qf ?_|(refine Wg ?_;first|refine Q3 (by rfl) (by kernel_rfl) (by kernel_rfl) ?_|refine Q2 (by kernel_rfl) (by kernel_rfl) ?_)|refine Qx ?_|refine Qh rfl ?_|refine Ql rfl ?_|refine Qs ?_))|(refine Zw ?_;(first|refine x_op rfl (by (repeat' first|(refine Qe ?_;(first|refine QG rfl ?_|refine QJ rfl ?_|refine Qb rfl rfl rfl ?_|(refine Qo ?_;(first|refine QS rfl rfl ?_|refine qD rfl rfl ?_))|refine QZ rfl rfl (hli) ?_|refine Qd rfl rfl ?_))|exact ⟨rfl, rfl⟩)) ?_|refine Zr ?_)))
    all_goals exact e_2 (Tryz.results55) (Qg rfl) (Qg rfl) (Qw (by rw [Zn, WY];simp [Wo, W8, ZQ, *]))
   ·rw [Zn, WY] at h
    rw [exT, qX]
    simp at h ⊢
  by_cases k12 : k = 12
  ·subst k12
   refine ⟨[114, 101, 99, 118, 32, 99] ++ Lib.itoa n, fun B => ?_, fun h => ?_⟩
   ·refine Qa Tryz.func55 rfl Tryz.ntmps55 rfl (t := [(0, .agg [.i 12, .i n, .i m, QR ks])]) rfl fun E hE => ?_
    (repeat' first|(refine Qe ?_;(first|refine QG rfl ?_|refine QJ rfl ?_|(refine Qz ?_;(first|refine WF rfl rfl ?_|refine Qb rfl rfl rfl ?_))|(refine Qo ?_;(first|refine QS rfl rfl ?_|refine qD rfl rfl ?_))|(refine Qq ?_;(first|refine QZ rfl rfl (hdig) ?_|refine QZ rfl rfl (hsm) ?_|refine QZ rfl rfl (hes) ?_|refine QZ rfl rfl (WX _ _ _ _ _) ?_))|refine Wn rfl ?_|refine Qd rfl rfl ?_|refine QI rfl rfl rfl ?_|refine QU rfl rfl (fun _ _ => ?_)))|(refine Qk ?_;(first|refine Qi ?_|refine QN rfl ?_))|(refine Qj ?_;(first|refine Qn ?_|refine Qc ?_|refine Qf ?_|refine Qx ?_|refine Qh rfl ?_|refine Ql rfl ?_|refine Qs ?_)))
    all_goals exact e_2 (Tryz.results55) (Qg rfl) (Qg rfl) (Qw (by rw [Zn, WY];simp [Wo, W8, *]))
   ·rw [Zn, WY] at h
    rw [exT, qX]
    simp at h ⊢
  by_cases k9 : k = 9
  ·subst k9
   have hops := r_ops_c (G := G)
   by_cases hc : n < 14 /\ bareR m ks.length 2 = true
   ·obtain ⟨hn14, hbr2⟩ := hc
    have h2 : ks.length = 2 := by simp [bareR] at hbr2;omega
    match ks, h2 with
    | [a, b], _ =>
     have hal := hxl a (by simp)
     have hbl := hxl b (by simp)
     have hlt : n.toNat < (opTexts.map Str.mk).length := by show n.toNat < 14;omega
     have hoa := opAt2 hn0 hn14 hlt
     have hol' : ((opTexts.map Str.mk)[n.toNat]).l.length <= 2 := by rw [hoa];exact opTexts_len n.toNat
     have hbr : Go.Av.Pure Tryz.prog G 97 [.agg [.i 9, .i n, .i m, QR [a, b]], .i 2] (.b true) := by have := WX (G := G) 9 n m [a, b] 2;rwa [hbr2] at this
     obtain ⟨ls, hls⟩ : ∃ ls, ls = [Str.mk (exT a), Str.mk (exT b)] := ⟨_, rfl⟩
     have hes2 : Go.Av.Pure Tryz.prog G 98 [QR [a, b]] (.tup [QR ls, .b true]) := by rw [hls];exact hes
     have hll : ls.length = 2 := by rw [hls];rfl
     have hz0 : 0 < ls.length := by omega
     have hz1 : 1 < ls.length := by omega
     have ha0 : ls[0].l = exT a := by subst hls;rfl
     have hb0 : ls[1].l = exT b := by subst hls;rfl
     have hla : ls[0].l.length <= 60000000 := by rw [ha0];exact hal
     have hlb : ls[1].l.length <= 60000000 := by rw [hb0];exact hbl
     clear hls hes hcl hxl hst hli hax hsx
     refine ⟨[40] ++ exT a ++ [32] ++ ((opTexts.map Str.mk)[n.toNat]).l ++ [32] ++ exT b ++ [41], fun B => ?_, fun h => ?_⟩
     ·refine Qa Tryz.func55 rfl Tryz.ntmps55 rfl (t := [(0, .agg [.i 9, .i n, .i m, QR [a, b]])]) rfl fun E hE => ?_
      (repeat' first|(refine Qe ?_;(first|refine QG rfl ?_|refine QJ rfl ?_|(refine Qz ?_;(first|refine WF rfl rfl ?_|refine Qb rfl rfl rfl ?_))|(refine Qo ?_;(first|refine W0 rfl rfl ?_|refine QS rfl rfl ?_))|(refine Qq ?_;(first|refine QZ rfl rfl (hdig) ?_|refine QZ rfl rfl (hsm) ?_|refine QZ rfl rfl (hbr) ?_|refine QZ rfl rfl (hes2) ?_))|refine Wr rfl rfl ?_|refine Wn rfl ?_|refine Qd rfl rfl ?_|refine QI rfl rfl rfl ?_|refine QU rfl rfl (fun _ _ => ?_)))|(refine Qk ?_;(first|refine Qi ?_|refine QN rfl ?_|refine WD rfl rfl rfl rfl ?_|refine Q6 rfl rfl (by omega) ?_))|(refine Qj ?_;(first|refine Qn ?_|refine Qc ?_|refine Qf ?_|(refine Wg ?_;first|refine Q3 (by rfl) (by kernel_rfl) (by kernel_rfl) ?_|refine Q2 (by kernel_rfl) (by kernel_rfl) ?_)|refine Qx ?_|refine Qh rfl ?_|refine Ql rfl ?_|refine Qs ?_))|(refine Zw ?_;(first|refine x_op rfl (by (repeat' first|(refine Qe ?_;(first|refine QG rfl ?_|refine QJ rfl ?_|(refine Qz ?_;(first|refine QM rfl ?_|refine Qb rfl rfl rfl ?_))|(refine W6 ?_;(first|refine Qv rfl rfl (by first|assumption|omega|(simp;done)|(simp;omega)) ?_|refine qh rfl rfl (by omega) (by first|assumption|omega|(simp;done)|(simp;omega)) ?_))|refine qD rfl rfl ?_|refine QZ rfl rfl (hops) ?_|refine Qd rfl rfl ?_))|exact ⟨rfl, rfl⟩)) ?_|refine Zr ?_)))
      have hbr3 : bareR m 2 2 = true := hbr2
      all_goals exact e_2 (Tryz.results55) (Qg rfl) (Qg rfl) (Qw (by rw [Zn, WY];simp [Wo, W8, *]))
     ·have hbr3 : bareR m 2 2 = true := hbr2
      rw [exT, qX, hoa]
      simp [Wo, hbr3, hn0, hn14]
   ·refine ⟨[], fun B => ?_, fun h => by rw [Zn] at h;simp [Wo] at h;exact absurd ⟨h.1.2.2, h.1.1⟩ hc⟩
    by_cases hn14 : n < 14
    ·have hbr2 : bareR m ks.length 2 = false := by rw [<- Bool.not_eq_true];exact fun h => hc ⟨hn14, h⟩
     have hbr : Go.Av.Pure Tryz.prog G 97 [.agg [.i 9, .i n, .i m, QR ks], .i 2] (.b false) := by have := WX (G := G) 9 n m ks 2;rwa [hbr2] at this
     refine Qa Tryz.func55 rfl Tryz.ntmps55 rfl (t := [(0, .agg [.i 9, .i n, .i m, QR ks])]) rfl fun E hE => ?_
     (repeat' first|(refine Qe ?_;(first|refine QG rfl ?_|refine QJ rfl ?_|(refine Qz ?_;(first|refine WF rfl rfl ?_|refine Qb rfl rfl rfl ?_))|(refine Qo ?_;(first|refine W0 rfl rfl ?_|refine QS rfl rfl ?_))|(refine Qq ?_;(first|refine QZ rfl rfl (hdig) ?_|refine QZ rfl rfl (hsm) ?_|refine QZ rfl rfl (hbr) ?_|refine QZ rfl rfl (hes) ?_))|refine Wr rfl rfl ?_|refine Wn rfl ?_|refine Qd rfl rfl ?_|refine QI rfl rfl rfl ?_|refine QU rfl rfl (fun _ _ => ?_)))|(refine Qk ?_;(first|refine Qi ?_|refine QN rfl ?_|refine WD rfl rfl rfl rfl ?_|refine Q6 rfl rfl (by omega) ?_))|(refine Qj ?_;(first|refine Qn ?_|refine Qc ?_|refine Qf ?_|refine Qx ?_|refine Qh rfl ?_|refine Ql rfl ?_|refine Qs ?_)))
     all_goals exact e_2 (Tryz.results55) (Qg rfl) (Qg rfl) (Qw (by rw [Zn, WY];simp [Wo, W8, *]))
    ·refine Qa Tryz.func55 rfl Tryz.ntmps55 rfl (t := [(0, .agg [.i 9, .i n, .i m, QR ks])]) rfl fun E hE => ?_
     (repeat' first|(refine Qe ?_;(first|refine QG rfl ?_|refine QJ rfl ?_|refine Qb rfl rfl rfl ?_|(refine Qo ?_;(first|refine W0 rfl rfl ?_|refine QS rfl rfl ?_))|(refine Qq ?_;(first|refine QZ rfl rfl (hdig) ?_|refine QZ rfl rfl (hsm) ?_|refine QZ rfl rfl (hes) ?_))|refine WO rfl rfl ?_|refine Wn rfl ?_|refine Qd rfl rfl ?_|refine QI rfl rfl rfl ?_|refine QU rfl rfl (fun _ _ => ?_)))|(refine Qk ?_;(first|refine Qi ?_|refine QN rfl ?_|refine W2 rfl rfl rfl rfl ?_|refine We rfl rfl (by omega) ?_))|(refine Qj ?_;(first|refine Qn ?_|refine Qc ?_|refine Qf ?_|refine Qx ?_|refine Qh rfl ?_|refine Ql rfl ?_|refine Qs ?_)))
     all_goals exact e_2 (Tryz.results55) (Qg rfl) (Qg rfl) (Qw (by rw [Zn, WY];simp [Wo, W8, *]))
  refine ⟨[], fun B => ?_, fun h => by rw [Zn] at h;simp [*] at h⟩
  refine Qa Tryz.func55 rfl Tryz.ntmps55 rfl (t := [(0, .agg [.i k, .i n, .i m, QR ks])]) rfl fun E hE => ?_
  (repeat' first|(refine Qe ?_;(first|refine QG rfl ?_|refine QJ rfl ?_|refine Qb rfl rfl rfl ?_|refine QS rfl rfl ?_|(refine Qq ?_;(first|refine QZ rfl rfl (hdig) ?_|refine QZ rfl rfl (hsm) ?_|refine QZ rfl rfl (hes) ?_))|refine Wn rfl ?_|refine Qd rfl rfl ?_|refine QI rfl rfl rfl ?_|refine QU rfl rfl (fun _ _ => ?_)))|(refine Qk ?_;(first|refine Qi ?_|refine QN rfl ?_))|(refine Qj ?_;(first|refine Qn ?_|refine Qc ?_|refine Qf ?_|refine Qx ?_|refine Ql rfl ?_|refine Qm rfl (by omega) ?_|refine Qs ?_)))
  all_goals exact e_2 (Tryz.results55) (Qg rfl) (Qg rfl) (Qw (by rw [Zn, WY];simp [Wo, W8, *]))
 ·have hall2 : ks.all Zn = false := by rw [<- Bool.not_eq_true];exact hall
  rw [hall2] at hes
  have hf : Zn (.mk k n m ks) = false := by rw [<- Bool.not_eq_true];exact fun h => hall (hax h)
  refine ⟨[], fun B => ?_, fun h => by rw [hf] at h;cases h⟩
  refine Qa Tryz.func55 rfl Tryz.ntmps55 rfl (t := [(0, .agg [.i k, .i n, .i m, QR ks])]) rfl fun E hE => ?_
  (repeat' first|(refine Qe ?_;(first|refine QG rfl ?_|refine QJ rfl ?_|refine Qb rfl rfl rfl ?_|refine QZ rfl rfl (hes) ?_|refine Wn rfl ?_|refine Qd rfl rfl ?_|refine QI rfl rfl rfl ?_|refine QU rfl rfl (fun _ _ => ?_)))|(refine Qk ?_;(first|refine Qi ?_|refine QN rfl ?_))|(refine Qj ?_;(first|refine Qn ?_|refine Qc ?_|refine Qh rfl ?_|refine Qs ?_)))
  exact e_2 (Tryz.results55) (Qg rfl) (Qg rfl) (Qw (by rw [hf]))
end Go.Proofs
end
section
namespace Go.Proofs
open Go.Av
variable {G : Nat -> DV}
attribute [local irreducible] OpSem Zd Zx ZL ACalls qt AClose RV
open Go.Bl
variable {o : List UInt8} {bad : Bool}
theorem typed_c (hG : G 6 = pow10T) (t : Nd) : okN t -> Qu t <= 1000000 -> ∀ bad, PE Tryz.prog G 47 (fun p g => [.ptr p g 0, .agg (Enc.enc t)]) o bad (WQ (qw t)) (bad || !ZJ t) := by
 induction t using Nd.ind with
 | h k n m ks ih =>
 intro hok hsz bad g0 g1 B h0 h1
 rw [okN] at hok
 rw [Qu] at hsz
 have hl1 := WC ks
 have hl : ks.length <= 1048576 := by omega
 have hn : -9223372036854775808 <= n /\ n <= 9223372036854775807 := hok.1.2.1
 have hnl := Zb hok.1.2.1
 have hcl := ZR qw ks fun x hx => typT_len x (Wj hok.2 hx)
 have hlist : ∀ b, PE Tryz.prog G 84 (fun p g => [QR ks, .fn (.func 47) [.ptr p g 0] []]) o b (WQ (WJ (ks.map qw))) (b || !ks.all ZJ) := fun b => list_c _ qw ZJ ks b (fun x hx b => ih x hx (Wj hok.2 hx) (by have := QY hx;omega) b) hl (by omega)
 clear ih
 rw [qw, ZJ, typTs_eq, typOks_eq, QW]
 by_cases k0 : k = 0
 ·subst k0
  refine Qa Tryz.func47 rfl Tryz.ntmps47 rfl (t := [(0, .ptr 0 g0 0), (1, .agg [.i _, .i n, .i m, QR ks])]) rfl fun E hE => ?_
  (repeat' first|(refine Qe ?_;(first|refine QG rfl ?_|refine QJ rfl ?_|(refine Qz ?_;(first|refine WF rfl rfl ?_|refine Qb rfl rfl rfl ?_))|refine QS rfl rfl ?_|refine Zg 0 1 (qH _ _ _ _ _ (by assumption)) rfl rfl rfl rfl rfl rfl ?_|refine Qd rfl rfl ?_|refine QU rfl rfl (fun _ _ => ?_)))|(refine Qk ?_;(first|refine Qi ?_|refine QN rfl ?_))|(refine Qj ?_;(first|refine Qn ?_|refine Qc ?_|refine Qf ?_|refine Qh rfl ?_|refine Qs ?_)))
  exact e_1 Tryz.results47 (Qg rfl) (c_pe (by simp [*]) (by simp [*, Bool.or_assoc]))
 by_cases k1 : k = 1
 ·subst k1
  refine Qa Tryz.func47 rfl Tryz.ntmps47 rfl (t := [(0, .ptr 0 g0 0), (1, .agg [.i _, .i n, .i m, QR ks])]) rfl fun E hE => ?_
  (repeat' first|(refine Qe ?_;(first|refine QG rfl ?_|refine QJ rfl ?_|(refine Qz ?_;(first|refine WF rfl rfl ?_|refine Qb rfl rfl rfl ?_))|refine QS rfl rfl ?_|refine Zg 0 1 (qH _ _ _ _ _ (by assumption)) rfl rfl rfl rfl rfl rfl ?_|refine Qd rfl rfl ?_|refine QU rfl rfl (fun _ _ => ?_)))|(refine Qk ?_;(first|refine Qi ?_|refine QN rfl ?_))|(refine Qj ?_;(first|refine Qn ?_|refine Qc ?_|refine Qf ?_|refine Qh rfl ?_|refine Ql rfl ?_|refine Qs ?_)))
  exact e_1 Tryz.results47 (Qg rfl) (c_pe (by simp [*]) (by simp [*, Bool.or_assoc]))
 by_cases k2 : k = 2
 ·subst k2
  refine Qa Tryz.func47 rfl Tryz.ntmps47 rfl (t := [(0, .ptr 0 g0 0), (1, .agg [.i _, .i n, .i m, QR ks])]) rfl fun E hE => ?_
  (repeat' first|(refine Qe ?_;(first|refine QG rfl ?_|refine QJ rfl ?_|(refine Qz ?_;(first|refine WF rfl rfl ?_|refine Qb rfl rfl rfl ?_))|(refine Qo ?_;(first|refine QS rfl rfl ?_|refine qD rfl rfl ?_))|(refine Qq ?_;(first|refine Zg 0 1 (Zl _ _ _ _ _ (by assumption)) rfl rfl rfl rfl rfl rfl ?_|refine Zg 0 1 (Zu hG _ (by assumption)) rfl rfl rfl rfl rfl rfl ?_))|refine Qd rfl rfl ?_|refine QU rfl rfl (fun _ _ => ?_)))|(refine Qk ?_;(first|refine Qi ?_|refine QN rfl ?_))|(refine Qj ?_;(first|refine Qn ?_|refine Qc ?_|refine Qf ?_|refine Qh rfl ?_|refine Ql rfl ?_|refine Qs ?_)))
  exact e_1 Tryz.results47 (Qg rfl) (c_pe (by simp [*]) (by simp [*, Bool.or_assoc]))
 by_cases k3 : k = 3
 ·subst k3
  refine Qa Tryz.func47 rfl Tryz.ntmps47 rfl (t := [(0, .ptr 0 g0 0), (1, .agg [.i _, .i n, .i m, QR ks])]) rfl fun E hE => ?_
  (repeat' first|(refine Qe ?_;(first|refine QG rfl ?_|refine QJ rfl ?_|(refine Qz ?_;(first|refine WF rfl rfl ?_|refine Qb rfl rfl rfl ?_))|(refine Qo ?_;(first|refine Z6 rfl rfl ?_|refine QS rfl rfl ?_|refine qD rfl rfl ?_))|(refine Qq ?_;(first|refine Qt rfl ?_|refine Zg 0 1 (Zj _) rfl rfl rfl rfl rfl rfl ?_|refine Zg 0 1 (qH _ _ _ _ _ (by assumption)) rfl rfl rfl rfl rfl rfl ?_|refine Zg 0 1 (hlist _) rfl rfl rfl rfl rfl rfl ?_))|refine Qd rfl rfl ?_|refine QV rfl rfl ?_|refine QU rfl rfl (fun _ _ => ?_)))|(refine Qk ?_;(first|refine Qi ?_|refine QN rfl ?_))|(refine Qj ?_;(first|refine Qn ?_|refine Qc ?_|refine Qf ?_|refine Qh rfl ?_|refine Ql rfl ?_|refine Qs ?_)))
  exact e_1 Tryz.results47 (Qg rfl) (c_pe (by simp [*]) (by simp [*, Bool.or_assoc]))
 ·refine Qa Tryz.func47 rfl Tryz.ntmps47 rfl (t := [(0, .ptr 0 g0 0), (1, .agg [.i k, .i n, .i m, QR ks])]) rfl fun E hE => ?_
  (repeat' first|(refine Qe ?_;(first|refine QG rfl ?_|refine QJ rfl ?_|refine Qb rfl rfl rfl ?_|refine QS rfl rfl ?_|refine Zg 0 1 (Zj _) rfl rfl rfl rfl rfl rfl ?_|refine Qd rfl rfl ?_|refine QU rfl rfl (fun _ _ => ?_)))|(refine Qk ?_;(first|refine Qi ?_|refine QN rfl ?_))|(refine Qj ?_;(first|refine Qn ?_|refine Qc ?_|refine Qf ?_|refine Qx ?_|refine Qm rfl (by omega) ?_|refine Qs ?_)))
  exact e_1 Tryz.results47 (Qg rfl) (c_pe (by simp [*]) (by simp [*, Bool.or_assoc]))
end Go.Proofs
end
section
namespace Go.Proofs
open Go.Av Go.Bl
def simT : Nd -> List UInt8
 | .mk k n m ks =>
  if k = 14 then (if Q0 m ks.length 1 = true then [118] ++ Lib.itoa n ++ [32, 61, 32] ++ WJ (ks.map exT) else []) else
  if k = 15 then (if Q0 m ks.length 2 = true then [118] ++ Lib.itoa n ++ [91] ++ (ks.map exT).getD 0 [] ++ [93, 32, 61, 32] ++ (ks.map exT).getD 1 [] else []) else
  if k = 16 then (if ks.length = 1 then [118] ++ Lib.itoa n ++ [46] ++ Lib.itoa m ++ [32, 61, 32] ++ WJ (ks.map exT) else []) else
  if k = 19 then (if Wz n m ks.length 1 = true then [114, 101, 116, 117, 114, 110, 32] ++ WJ (ks.map exT) else []) else
  if k = 20 then (if Wz n m ks.length 1 = true then [116, 104, 114, 111, 119, 32] ++ WJ (ks.map exT) else []) else
  if k = 24 then (if Wz n m ks.length 1 = true then [111, 117, 116, 32] ++ WJ (ks.map exT) else []) else
  if k = 25 then (if Wz n m ks.length 0 = true then [115, 107, 105, 112] else []) else
  if k = 22 then (if Q0 m ks.length 1 = true then [115, 101, 110, 100, 32, 99] ++ Lib.itoa n ++ [32] ++ WJ (ks.map exT) else []) else
  if k = 23 then (if Q0 m ks.length (-1) = true then [115, 112, 97, 119, 110, 32, 102] ++ Lib.itoa n ++ [40] ++ WJ (ks.map exT) ++ [41] else []) else []
def Zt : Nd -> Bool
 | .mk k n m ks =>
  if k = 14 then Q0 m ks.length 1 && WT n && ks.all Zn else if k = 15 then Q0 m ks.length 2 && WT n && ks.all Zn else if k = 16 then decide (ks.length = 1) && WT n && WT m && ks.all Zn else
  if k = 19 then Wz n m ks.length 1 && ks.all Zn else if k = 20 then Wz n m ks.length 1 && ks.all Zn else if k = 24 then Wz n m ks.length 1 && ks.all Zn else if k = 25 then Wz n m ks.length 0 else
  if k = 22 then Q0 m ks.length 1 && WT n && ks.all Zn else if k = 23 then Q0 m ks.length (-1) && WT n && ks.all Zn else false
theorem exs_len {ks : List Nd} (h : okL ks) : ∀ x ∈ ks, (exT x).length + 2 <= 60 * Qu x := fun x hx => qY x (Wj h hx)
theorem getD2_len {ks : List Nd} (h : okL ks) (h2 : ks.length = 2) : ((ks.map exT).getD 0 []).length + ((ks.map exT).getD 1 []).length <= 60 * QT ks := by
 match ks, h2 with
 | [a, b], _ =>
  have ha := exs_len h a (by simp)
  have hb := exs_len h b (by simp)
  simp only [List.map_cons, List.map_nil, List.getD_cons_zero, List.getD_cons_succ, QT];omega
theorem simT_len (t : Nd) (hok : okN t) : (simT t).length <= 60 * Qu t := by
 obtain ⟨k, n, m, ks⟩ := t
 rw [okN] at hok
 have hn := Zb hok.1.2.1
 have hm := Zb hok.1.2.2
 have hs := ZR exT ks (exs_len hok.2)
 have h2 : Q0 m ks.length 2 = true -> ((ks.map exT).getD 0 []).length + ((ks.map exT).getD 1 []).length <= 60 * QT ks := fun h => getD2_len hok.2 (by simp [Q0] at h;omega)
 rw [simT]
 rw [Qu]
 repeat' split
 all_goals (try have h2 := h2 (by assumption));simp only [List.length_append, List.length_cons, List.length_nil];omega
def qm (i : Nat) (s : List UInt8) : List UInt8 := Lib.repeatL [32, 32] i ++ s ++ [10]
theorem Wk (i : Nat) (s : List UInt8) : (qm i s).length = 2 * i + s.length + 1 := by
 unfold qm
 rw [List.length_append, List.length_append, Lib.repeatL_length]
 show i * 2 + s.length + 1 = _
 omega
abbrev sOpen : List UInt8 := [123]
abbrev sClose : List UInt8 := [125]
abbrev sElse : List UInt8 := [125, 32, 101, 108, 115, 101, 32, 123]
abbrev sIf : List UInt8 := [105, 102, 32]
abbrev sWhile : List UInt8 := [119, 104, 105, 108, 101, 32]
abbrev sTry : List UInt8 := [116, 114, 121, 32, 123]
abbrev sCatch : List UInt8 := [125, 32, 99, 97, 116, 99, 104, 32, 118]
abbrev sBr : List UInt8 := [32, 123]
mutual
def stT : Nd -> Nat -> List UInt8
 | .mk k n m ks, i =>
  if k = 13 then qm i sOpen ++ (if Wz n m ks.length (-1) = true then stTs ks (i + 1) else []) ++ qm i sClose else
  if k = 17 /\ Wz n m ks.length 3 = true then qm i (sIf ++ (ks.map exT).getD 0 [] ++ sBr) ++ (inTs ks i).getD 1 [] ++ qm i sElse ++ (inTs ks i).getD 2 [] ++ qm i sClose else
  if k = 18 /\ Wz n m ks.length 2 = true then qm i (sWhile ++ (ks.map exT).getD 0 [] ++ sBr) ++ (inTs ks i).getD 1 [] ++ qm i sClose else
  if k = 21 /\ Q0 m ks.length 2 = true then qm i sTry ++ (inTs ks i).getD 0 [] ++ qm i (sCatch ++ Lib.itoa n ++ sBr) ++ (inTs ks i).getD 1 [] ++ qm i sClose else
  qm i (simT (.mk k n m ks))
def stTs : List Nd -> Nat -> List UInt8
 | [], _ => []
 | x :: r, i => stT x i ++ stTs r i
def inT : Nd -> Nat -> List UInt8
 | .mk k n m ks, i => if (decide (k = 13) && Wz n m ks.length (-1)) = true then stTs ks (i + 1) else []
def inTs : List Nd -> Nat -> List (List UInt8)
 | [], _ => []
 | x :: r, i => inT x i :: inTs r i
end
theorem inTs_eq (i : Nat) : ∀ ks, inTs ks i = ks.map fun x => inT x i
 | [] => rfl
 | x :: r => by rw [inTs, inTs_eq i r];rfl
mutual
def qg : Nd -> Bool
 | .mk k n m ks =>
  if k = 13 then Wz n m ks.length (-1) && stOks ks else
  if k = 17 then Wz n m ks.length 3 && (ks.map Zn).getD 0 false && (inOks ks).getD 1 false && (inOks ks).getD 2 false else
  if k = 18 then Wz n m ks.length 2 && (ks.map Zn).getD 0 false && (inOks ks).getD 1 false else
  if k = 21 then Q0 m ks.length 2 && WT n && (inOks ks).getD 0 false && (inOks ks).getD 1 false else Zt (.mk k n m ks)
def stOks : List Nd -> Bool
 | [] => true
 | x :: r => qg x && stOks r
def inOk : Nd -> Bool
 | .mk k n m ks => decide (k = 13) && Wz n m ks.length (-1) && stOks ks
def inOks : List Nd -> List Bool
 | [] => []
 | x :: r => inOk x :: inOks r
end
theorem ZE : ∀ ks, inOks ks = ks.map inOk
 | [] => rfl
 | x :: r => by rw [inOks, ZE r];rfl
theorem stOks_eq : ∀ ks, stOks ks = ks.all qg
 | [] => rfl
 | x :: r => by rw [stOks, stOks_eq r];rfl
theorem stTs_app (a b : List Nd) (i : Nat) : stTs (a ++ b) i = stTs a i ++ stTs b i := by
 induction a with
 | nil => simp [stTs]
 | cons x r ih => rw [List.cons_append, stTs, stTs, ih, List.append_assoc]
theorem stTs_take {ks : List Nd} {j : Nat} (h : j < ks.length) (i : Nat) : stTs (ks.take (j + 1)) i = stTs (ks.take j) i ++ stT ks[j] i := by
 rw [List.take_succ_eq_append_getElem h, stTs_app, stTs, stTs, List.append_nil]
theorem stOks_take {ks : List Nd} {j : Nat} (h : j < ks.length) : stOks (ks.take (j + 1)) = (stOks (ks.take j) && qg ks[j]) := by
 rw [stOks_eq, stOks_eq, List.take_succ_eq_append_getElem h, List.all_append];simp
def bnd (i s : Nat) : Nat := (6 * (i + s) + 100) * s
theorem stTs_len {C : Nat} : ∀ (ks : List Nd) (i : Nat), (∀ x ∈ ks, (stT x i).length <= C * Qu x) -> (stTs ks i).length <= C * QT ks
 | [], i, _ => by simp [stTs]
 | x :: r, i, h => by
  have h1 := h x (by simp)
  have h2 := stTs_len r i fun y hy => h y (by simp [hy])
  rw [stTs, QT, List.length_append, Nat.mul_add];omega
theorem getD_map_le {ks : List Nd} {f : Nd -> List UInt8} {C : Nat} (h : ∀ x ∈ ks, (f x).length <= C * Qu x) (j : Nat) (hj : j < ks.length) : ((ks.map f).getD j []).length <= C * Qu ks[j] := by
 rw [List.getD_eq_getElem?_getD, List.getElem?_map, List.getElem?_eq_getElem hj]
 exact h _ (List.getElem_mem hj)
theorem st_len (t : Nd) : okN t -> ∀ i, (stT t i).length <= bnd i (Qu t) /\ (inT t i).length <= (6 * (i + Qu t) + 100) * (Qu t - 1) := by
 induction t using Nd.ind with
 | h k n m ks ih =>
 intro hok0 i
 have hsim := simT_len (.mk k n m ks) hok0
 have hok := hok0
 rw [okN] at hok
 have hn := Zb hok.1.2.1
 rw [Qu] at hsim ⊢
 have hin : (stTs ks (i + 1)).length <= (6 * (i + (1 + QT ks)) + 100) * QT ks := by
  refine stTs_len ks (i + 1) fun x hx => ?_
  refine Nat.le_trans (ih x hx (Wj hok.2 hx) (i + 1)).1 (Nat.mul_le_mul ?_ (Nat.le_refl _))
  have := QY hx;omega
 have hC : (6 * (i + (1 + QT ks)) + 100) * (1 + QT ks) = (6 * (i + (1 + QT ks)) + 100) + (6 * (i + (1 + QT ks)) + 100) * QT ks := by rw [Nat.mul_add, Nat.mul_one]
 have hex : ∀ x ∈ ks, (exT x).length <= (6 * (i + (1 + QT ks)) + 100) * Qu x := fun x hx => by
  have := exs_len hok.2 x hx
  have : 60 * Qu x <= (6 * (i + (1 + QT ks)) + 100) * Qu x := Nat.mul_le_mul (by omega) (Nat.le_refl _)
  omega
 have hib : ∀ x ∈ ks, (inT x i).length <= (6 * (i + (1 + QT ks)) + 100) * Qu x := fun x hx => by
  refine Nat.le_trans (ih x hx (Wj hok.2 hx) i).2 (Nat.mul_le_mul ?_ (by omega))
  have := QY hx;omega
 have h60 : 60 * (1 + QT ks) <= 60 + (6 * (i + (1 + QT ks)) + 100) * QT ks := by
  have : 60 * QT ks <= (6 * (i + (1 + QT ks)) + 100) * QT ks := Nat.mul_le_mul (by omega) (Nat.le_refl _)
  omega
 have h2 : ks.length = 2 -> ((6 * (i + (1 + QT ks)) + 100) * Qu (ks.getD 0 (.mk 0 0 0 [])) + (6 * (i + (1 + QT ks)) + 100) * Qu (ks.getD 1 (.mk 0 0 0 []))) <= (6 * (i + (1 + QT ks)) + 100) * QT ks := fun h => by
  match ks, h with
  | [a, b], _ =>
   rw [<- Nat.mul_add]
   refine Nat.mul_le_mul (Nat.le_refl _) ?_
   show Qu a + Qu b <= _
   rw [QT, QT, QT];omega
 have h3 : ks.length = 3 -> ((6 * (i + (1 + QT ks)) + 100) * Qu (ks.getD 0 (.mk 0 0 0 [])) + (6 * (i + (1 + QT ks)) + 100) * Qu (ks.getD 1 (.mk 0 0 0 [])) + (6 * (i + (1 + QT ks)) + 100) * Qu (ks.getD 2 (.mk 0 0 0 []))) <= (6 * (i + (1 + QT ks)) + 100) * QT ks := fun h => by
  match ks, h with
  | [a, b, c], _ =>
   rw [<- Nat.mul_add, <- Nat.mul_add]
   refine Nat.mul_le_mul (Nat.le_refl _) ?_
   show Qu a + Qu b + Qu c <= _
   rw [QT, QT, QT, QT];omega
 have gx : ∀ j, j < ks.length -> ((ks.map exT).getD j []).length <= (6 * (i + (1 + QT ks)) + 100) * Qu (ks.getD j (.mk 0 0 0 [])) := fun j hj => by
  have := getD_map_le hex j hj
  rwa [List.getD_eq_getElem?_getD (l := ks), List.getElem?_eq_getElem hj]
 have gi : ∀ j, j < ks.length -> ((inTs ks i).getD j []).length <= (6 * (i + (1 + QT ks)) + 100) * Qu (ks.getD j (.mk 0 0 0 [])) := fun j hj => by
  rw [inTs_eq]
  have := getD_map_le hib j hj
  rwa [List.getD_eq_getElem?_getD (l := ks), List.getElem?_eq_getElem hj]
 refine ⟨?_, ?_⟩
 ·rw [stT]
  unfold bnd
  rw [hC]
  generalize (6 * (i + (1 + QT ks)) + 100) * QT ks = W at *
  clear ih hex hib hok hok0
  split
  ·split
   ·simp only [List.length_append, Wk, List.length_cons, List.length_nil];omega
   ·simp only [List.length_append, Wk, List.length_cons, List.length_nil];omega
  split
  ·rename_i h
   have hl : ks.length = 3 := by have := h.2;simp [Wz, Q0] at this;omega
   have e0 := gx 0 (by omega)
   have e1 := gi 1 (by omega)
   have e2 := gi 2 (by omega)
   have := h3 hl
   simp only [List.length_append, Wk, List.length_cons, List.length_nil];omega
  split
  ·rename_i h
   have hl : ks.length = 2 := by have := h.2;simp [Wz, Q0] at this;omega
   have e0 := gx 0 (by omega)
   have e1 := gi 1 (by omega)
   have := h2 hl
   simp only [List.length_append, Wk, List.length_cons, List.length_nil];omega
  split
  ·rename_i h
   have hl : ks.length = 2 := by have := h.2;simp [Q0] at this;omega
   have e0 := gi 0 (by omega)
   have e1 := gi 1 (by omega)
   have := h2 hl
   simp only [List.length_append, Wk, List.length_cons, List.length_nil];omega
  ·rw [Wk];omega
 ·rw [inT]
  split
  ·rw [Nat.add_sub_cancel_left];exact hin
  ·simp
def funT : Nd -> List UInt8
 | .mk k n m ks =>
  if (decide (k = 26) && decide (0 < ks.length) && Q0 m ks.length (-1)) = true then
   qm 0 ([102, 117, 110, 32] ++ Lib.itoa n ++ [32, 40] ++ WJ ((ks.take (ks.length - 1)).map qw) ++ [41, 32, 123]) ++ (inT (ks.getD (ks.length - 1) (.mk 0 0 0 [])) 0 ++ qm 0 sClose)
  else []
def ZF : Nd -> Bool
 | .mk k n m ks => decide (k = 26) && decide (0 < ks.length) && Q0 m ks.length (-1) && WT n && (ks.take (ks.length - 1)).all ZJ && inOk (ks.getD (ks.length - 1) (.mk 0 0 0 []))
def prT : Nd -> List UInt8
 | .mk k n m ks =>
  if k = 27 then qm 0 ([112, 114, 111, 103, 114, 97, 109, 32] ++ Lib.itoa n) ++ (ks.map funT).flatten else
  if k = 26 then funT (.mk k n m ks) else if 0 <= k /\ k <= 3 then qw (.mk k n m ks) else if 4 <= k /\ k <= 12 then exT (.mk k n m ks) else stT (.mk k n m ks) 0
def prOk : Nd -> Bool
 | .mk k n m ks =>
  if k = 27 then Q0 m ks.length (-1) && WT n && ks.all ZF else
  if k = 26 then ZF (.mk k n m ks) else if 0 <= k /\ k <= 3 then ZJ (.mk k n m ks) else if 4 <= k /\ k <= 12 then Zn (.mk k n m ks) else qg (.mk k n m ks)
def Zo (t : Nd) : List UInt8 := if prOk t = true then prT t else []
theorem qB (f : Nd -> List UInt8) {M : Nat} (ks : List Nd) (j : Nat) (h : ∀ x ∈ ks, (f x).length + 2 <= M * Qu x) : (WJ ((ks.take j).map f)).length <= M * QT (ks.take j) := ZR f _ fun x hx => h x (List.mem_of_mem_take hx)
theorem sizeL_last {ks : List Nd} (h : 0 < ks.length) : QT (ks.take (ks.length - 1)) + Qu (ks.getD (ks.length - 1) (.mk 0 0 0 [])) = QT ks := by
 have h1 := qJ ks (ks.length - 1) (by omega)
 rw [show ks.length - 1 + 1 = ks.length by omega, List.take_length] at h1
 rw [List.getD_eq_getElem?_getD, List.getElem?_eq_getElem (show ks.length - 1 < ks.length by omega)]
 exact h1.symm
theorem last_mem {ks : List Nd} (h : 0 < ks.length) : ks.getD (ks.length - 1) (.mk 0 0 0 []) ∈ ks := by
 rw [List.getD_eq_getElem?_getD, List.getElem?_eq_getElem (show ks.length - 1 < ks.length by omega)]
 exact List.getElem_mem _
theorem funT_len (t : Nd) (hok : okN t) (hs : Qu t <= 1000000) : (funT t).length <= 7000000 * Qu t := by
 obtain ⟨k, n, m, ks⟩ := t
 rw [okN] at hok
 rw [Qu] at hs ⊢
 have hn := Zb hok.1.2.1
 rw [funT]
 split
 ·rename_i h
  have hk : 0 < ks.length := by simp at h;omega
  have hl := sizeL_last hk
  have hb := (st_len _ (Wj hok.2 (last_mem hk)) 0).2
  have hc := qB qw (M := 30) ks (ks.length - 1) fun x hx => typT_len x (Wj hok.2 hx)
  generalize ks.getD (ks.length - 1) (.mk 0 0 0 []) = b at *
  have hb2 : (6 * (0 + Qu b) + 100) * (Qu b - 1) <= 7000000 * (Qu b - 1) := Nat.mul_le_mul (by omega) (Nat.le_refl _)
  simp only [List.length_append, Wk, List.length_cons, List.length_nil]
  omega
 ·simp
theorem funs_len : ∀ (ks : List Nd), okL ks -> QT ks <= 1000000 -> ((ks.map funT).flatten).length <= 7000000 * QT ks
 | [], _, _ => by simp
 | x :: r, h, hs => by
  rw [okL] at h
  rw [QT] at hs
  have h1 := funT_len x h.1 (by omega)
  have h2 := funs_len r h.2 (by omega)
  rw [List.map_cons, List.flatten_cons, List.length_append, QT, Nat.mul_add];omega
theorem flatten_take {ks : List Nd} {j : Nat} (f : Nd -> List UInt8) (h : j < ks.length) : ((ks.take (j + 1)).map f).flatten = ((ks.take j).map f).flatten ++ f ks[j] := by
 rw [List.take_succ_eq_append_getElem h, List.map_append, List.flatten_append];simp
end Go.Proofs
end
