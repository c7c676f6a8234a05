/-
  The evaluator's tables for this translation: types and functions (by program).
-/
import Derived.Test.YtecbcpilcjmhlaaDoorEvA
import Derived.Test.YtecbcpilcjmhlaaDoorInst
namespace Go.Proofs
open Go.Av
set_option linter.unusedVariables false
set_option maxRecDepth 10000
def Tryd.ti1 : TI := ⟨.other, false, 1, 8, [.nilFunc]⟩
def Tryd.ti2 : TI := ⟨(.int .i64), false, 1, 8, [.int .i64 (0)]⟩
def Tryd.ti3 : TI := ⟨(.int .i64), false, 1, 8, [.int .i64 (0)]⟩
def Tryd.ti4 : TI := ⟨.bool, false, 1, 1, [.bool false]⟩
def Tryd.ti5 : TI := ⟨(.int .u8), false, 1, 1, [.int .u8 (0)]⟩
def Tryd.ti6 : TI := ⟨(.int .u8), false, 1, 1, [.int .u8 (0)]⟩
def Tryd.ti7 : TI := ⟨(.struct [(0, 1, false), (1, 1, false), (2, 1, false), (3, 1, false)]), true, 4, 24, [.int .i64 (0), .int .i64 (0), .bool false, .int .u8 (0)]⟩
def Tryd.ti8 : TI := ⟨(.struct [(0, 1, false), (1, 1, false), (2, 1, false), (3, 1, false)]), true, 4, 24, [.int .i64 (0), .int .i64 (0), .bool false, .int .u8 (0)]⟩
def Tryd.ti9 : TI := ⟨.str, false, 1, 16, [.string .empty]⟩
def Tryd.ti10 : TI := ⟨.str, false, 1, 16, [.string .empty]⟩
def Tryd.ti11 : TI := ⟨.str, false, 1, 16, [.string .empty]⟩
def Tryd.ti12 : TI := ⟨(.int .u64), false, 1, 8, [.int .u64 (0)]⟩
def Tryd.ti13 : TI := ⟨(.struct [(0, 1, false), (1, 1, false)]), true, 2, 24, [.string .empty, .int .u64 (0)]⟩
def Tryd.ti14 : TI := ⟨(.struct [(0, 1, false), (1, 1, false)]), true, 2, 24, [.string .empty, .int .u64 (0)]⟩
def Tryd.ti15 : TI := ⟨.other, false, 1, 8, [.pointer none]⟩
def Tryd.ti16 : TI := ⟨.other, false, 1, 8, [.pointer none]⟩
def Tryd.ti17 : TI := ⟨.other, false, 1, 8, [.pointer none]⟩
def Tryd.ti18 : TI := ⟨(.struct [(0, 1, false)]), true, 1, 8, [.pointer none]⟩
def Tryd.ti19 : TI := ⟨(.struct [(0, 1, false)]), true, 1, 8, [.pointer none]⟩
def Tryd.ti20 : TI := ⟨.other, false, 1, 16, [.nilIface]⟩
def Tryd.ti21 : TI := ⟨(.int .i32), false, 1, 4, [.int .i32 (0)]⟩
def Tryd.ti22 : TI := ⟨(.slice 3), false, 1, 24, [.slice none 0 0]⟩
def Tryd.ti23 : TI := ⟨(.slice 25), false, 1, 24, [.slice none 0 0]⟩
def Tryd.ti24 : TI := ⟨(.struct [(0, 1, false), (1, 1, false), (2, 1, false), (3, 1, false)]), true, 4, 48, [.int .i64 (0), .int .i64 (0), .int .i64 (0), .slice none 0 0]⟩
def Tryd.ti25 : TI := ⟨(.struct [(0, 1, false), (1, 1, false), (2, 1, false), (3, 1, false)]), true, 4, 48, [.int .i64 (0), .int .i64 (0), .int .i64 (0), .slice none 0 0]⟩
def Tryd.ti26 : TI := ⟨.other, false, 1, 8, [.nilFunc]⟩
def Tryd.ti27 : TI := ⟨(.slice 23), false, 1, 24, [.slice none 0 0]⟩
def Tryd.ti28 : TI := ⟨.other, false, 1, 8, [.nilFunc]⟩
def Tryd.ti29 : TI := ⟨.other, false, 1, 8, [.nilFunc]⟩
def Tryd.ti30 : TI := ⟨.other, false, 1, 8, [.nilFunc]⟩
def Tryd.ti31 : TI := ⟨(.slice 22), false, 1, 24, [.slice none 0 0]⟩
def Tryd.ti32 : TI := ⟨(.struct [(0, 1, false), (1, 1, false), (2, 1, false), (3, 1, false), (4, 1, false)]), true, 5, 104, [.int .i64 (0), .slice none 0 0, .slice none 0 0, .slice none 0 0, .slice none 0 0]⟩
def Tryd.ti33 : TI := ⟨(.struct [(0, 1, false), (1, 1, false), (2, 1, false), (3, 1, false), (4, 1, false)]), true, 5, 104, [.int .i64 (0), .slice none 0 0, .slice none 0 0, .slice none 0 0, .slice none 0 0]⟩
def Tryd.ti34 : TI := ⟨(.int .i64), false, 1, 8, [.int .i64 (0)]⟩
def Tryd.ti36 : TI := ⟨.other, false, 1, 8, [.nilFunc]⟩
def Tryd.ti37 : TI := ⟨.other, false, 1, 8, [.nilFunc]⟩
def Tryd.ti38 : TI := ⟨.other, false, 1, 8, [.nilFunc]⟩
def Tryd.ti39 : TI := ⟨.other, false, 1, 8, [.nilFunc]⟩
def Tryd.ti40 : TI := ⟨.other, false, 1, 8, [.nilFunc]⟩
def Tryd.ti41 : TI := ⟨.other, false, 1, 8, [.nilFunc]⟩
def Tryd.ti43 : TI := ⟨.other, false, 1, 8, [.nilFunc]⟩
def Tryd.ti44 : TI := ⟨.other, false, 1, 8, [.nilFunc]⟩
def Tryd.ti45 : TI := ⟨.other, false, 1, 8, [.nilFunc]⟩
def Tryd.ti46 : TI := ⟨.other, false, 1, 8, [.nilFunc]⟩
def Tryd.ti47 : TI := ⟨.other, false, 1, 8, [.nilFunc]⟩
def Tryd.ti48 : TI := ⟨.other, false, 1, 8, [.nilFunc]⟩
def Tryd.ti49 : TI := ⟨.other, false, 1, 8, [.nilFunc]⟩
def Tryd.ti50 : TI := ⟨.other, false, 1, 8, [.nilFunc]⟩
def Tryd.ti51 : TI := ⟨.other, false, 1, 8, [.nilFunc]⟩
def Tryd.ti52 : TI := ⟨(.slice 4), false, 1, 24, [.slice none 0 0]⟩
def Tryd.ti53 : TI := ⟨.other, false, 1, 8, [.nilFunc]⟩
def Tryd.ti54 : TI := ⟨.other, false, 1, 8, [.nilFunc]⟩
def Tryd.ti70 : TI := ⟨(.map 3 3), false, 1, 8, [.map none]⟩
def Tryd.ti74 : TI := ⟨.other, false, 1, 8, [.pointer none]⟩
def Tryd.ti75 : TI := ⟨(.map 9 81), false, 1, 8, [.map none]⟩
def Tryd.ti77 : TI := ⟨(.struct [(0, 5, true), (5, 1, false), (6, 1, false)]), true, 7, 120, [.int .i64 (0), .slice none 0 0, .slice none 0 0, .slice none 0 0, .slice none 0 0, .map none, .map none]⟩
def Tryd.ti81 : TI := ⟨(.arr 4 3), true, 4, 32, [.int .i64 (0), .int .i64 (0), .int .i64 (0), .int .i64 (0)]⟩
def Tryd.ti83 : TI := ⟨.other, false, 1, 8, [.nilFunc]⟩
def Tryd.ti87 : TI := ⟨.other, false, 1, 8, [.nilFunc]⟩
def Tryd.ti98 : TI := ⟨(.map 3 3), false, 1, 8, [.map none]⟩
def Tryd.ti107 : TI := ⟨(.struct [(0, 1, false), (1, 1, false), (2, 1, false)]), true, 3, 16, [.nilFunc, .bool false, .bool false]⟩
def Tryd.ti108 : TI := ⟨(.arr 14 107), true, 42, 224, [.nilFunc, .bool false, .bool false, .nilFunc, .bool false, .bool false, .nilFunc, .bool false, .bool false, .nilFunc, .bool false, .bool false, .nilFunc, .bool false, .bool false, .nilFunc, .bool false, .bool false, .nilFunc, .bool false, .bool false, .nilFunc, .bool false, .bool false, .nilFunc, .bool false, .bool false, .nilFunc, .bool false, .bool false, .nilFunc, .bool false, .bool false, .nilFunc, .bool false, .bool false, .nilFunc, .bool false, .bool false, .nilFunc, .bool false, .bool false]⟩
def Tryd.ti123 : TI := ⟨(.int .u64), false, 1, 8, [.int .u64 (0)]⟩
def Tryd.ti125 : TI := ⟨(.arr 24 5), true, 24, 24, [.int .u8 (0), .int .u8 (0), .int .u8 (0), .int .u8 (0), .int .u8 (0), .int .u8 (0), .int .u8 (0), .int .u8 (0), .int .u8 (0), .int .u8 (0), .int .u8 (0), .int .u8 (0), .int .u8 (0), .int .u8 (0), .int .u8 (0), .int .u8 (0), .int .u8 (0), .int .u8 (0), .int .u8 (0), .int .u8 (0), .int .u8 (0), .int .u8 (0), .int .u8 (0), .int .u8 (0)]⟩
def Tryd.ti126 : TI := ⟨(.int .u64), false, 1, 8, [.int .u64 (0)]⟩
def Tryd.ti129 : TI := ⟨(.slice 5), false, 1, 24, [.slice none 0 0]⟩
def Tryd.ti132 : TI := ⟨(.arr 20 126), true, 20, 160, [.int .u64 (0), .int .u64 (0), .int .u64 (0), .int .u64 (0), .int .u64 (0), .int .u64 (0), .int .u64 (0), .int .u64 (0), .int .u64 (0), .int .u64 (0), .int .u64 (0), .int .u64 (0), .int .u64 (0), .int .u64 (0), .int .u64 (0), .int .u64 (0), .int .u64 (0), .int .u64 (0), .int .u64 (0), .int .u64 (0)]⟩
def Tryd.ti133 : TI := ⟨(.int .u32), false, 1, 4, [.int .u32 (0)]⟩
def Tryd.ti137 : TI := ⟨(.arr 32 5), true, 32, 32, [.int .u8 (0), .int .u8 (0), .int .u8 (0), .int .u8 (0), .int .u8 (0), .int .u8 (0), .int .u8 (0), .int .u8 (0), .int .u8 (0), .int .u8 (0), .int .u8 (0), .int .u8 (0), .int .u8 (0), .int .u8 (0), .int .u8 (0), .int .u8 (0), .int .u8 (0), .int .u8 (0), .int .u8 (0), .int .u8 (0), .int .u8 (0), .int .u8 (0), .int .u8 (0), .int .u8 (0), .int .u8 (0), .int .u8 (0), .int .u8 (0), .int .u8 (0), .int .u8 (0), .int .u8 (0), .int .u8 (0), .int .u8 (0)]⟩
def Tryd.ti138 : TI := ⟨(.arr 64 5), true, 64, 64, [.int .u8 (0), .int .u8 (0), .int .u8 (0), .int .u8 (0), .int .u8 (0), .int .u8 (0), .int .u8 (0), .int .u8 (0), .int .u8 (0), .int .u8 (0), .int .u8 (0), .int .u8 (0), .int .u8 (0), .int .u8 (0), .int .u8 (0), .int .u8 (0), .int .u8 (0), .int .u8 (0), .int .u8 (0), .int .u8 (0), .int .u8 (0), .int .u8 (0), .int .u8 (0), .int .u8 (0), .int .u8 (0), .int .u8 (0), .int .u8 (0), .int .u8 (0), .int .u8 (0), .int .u8 (0), .int .u8 (0), .int .u8 (0), .int .u8 (0), .int .u8 (0), .int .u8 (0), .int .u8 (0), .int .u8 (0), .int .u8 (0), .int .u8 (0), .int .u8 (0), .int .u8 (0), .int .u8 (0), .int .u8 (0), .int .u8 (0), .int .u8 (0), .int .u8 (0), .int .u8 (0), .int .u8 (0), .int .u8 (0), .int .u8 (0), .int .u8 (0), .int .u8 (0), .int .u8 (0), .int .u8 (0), .int .u8 (0), .int .u8 (0), .int .u8 (0), .int .u8 (0), .int .u8 (0), .int .u8 (0), .int .u8 (0), .int .u8 (0), .int .u8 (0), .int .u8 (0)]⟩
noncomputable def Tryd.evTy : Tr TI :=
  (.n none (.n (some (Tryd.ti1)) (.n (some (Tryd.ti3)) (.n (some (Tryd.ti7)) (.n (some (Tryd.ti15)) (.n (some (Tryd.ti31)) .e .e) (.n (some (Tryd.ti47)) .e .e)) (.n (some (Tryd.ti23)) (.n (some (Tryd.ti39)) .e .e) (.n none (.n (some (Tryd.ti87)) .e .e) .e))) (.n (some (Tryd.ti11)) (.n (some (Tryd.ti19)) .e (.n (some (Tryd.ti51)) (.n (some (Tryd.ti83)) .e .e) .e)) (.n (some (Tryd.ti27)) (.n (some (Tryd.ti43)) (.n (some (Tryd.ti75)) .e .e) (.n (some (Tryd.ti107)) .e .e)) (.n none .e (.n (some (Tryd.ti123)) .e .e))))) (.n (some (Tryd.ti5)) (.n (some (Tryd.ti9)) (.n (some (Tryd.ti17)) (.n (some (Tryd.ti33)) (.n none (.n (some (Tryd.ti129)) .e .e) .e) .e) (.n (some (Tryd.ti49)) (.n (some (Tryd.ti81)) .e .e) .e)) (.n (some (Tryd.ti25)) (.n (some (Tryd.ti41)) (.n none (.n (some (Tryd.ti137)) .e .e) .e) .e) .e)) (.n (some (Tryd.ti13)) (.n (some (Tryd.ti21)) (.n (some (Tryd.ti37)) (.n none (.n (some (Tryd.ti133)) .e .e) .e) .e) (.n (some (Tryd.ti53)) .e .e)) (.n (some (Tryd.ti29)) (.n (some (Tryd.ti45)) (.n (some (Tryd.ti77)) .e .e) .e) (.n none .e (.n (some (Tryd.ti125)) .e .e)))))) (.n (some (Tryd.ti2)) (.n (some (Tryd.ti4)) (.n (some (Tryd.ti8)) (.n (some (Tryd.ti16)) (.n (some (Tryd.ti32)) .e .e) (.n (some (Tryd.ti48)) .e .e)) (.n (some (Tryd.ti24)) (.n (some (Tryd.ti40)) .e .e) .e)) (.n (some (Tryd.ti12)) (.n (some (Tryd.ti20)) (.n (some (Tryd.ti36)) (.n none (.n (some (Tryd.ti132)) .e .e) .e) .e) (.n (some (Tryd.ti52)) .e .e)) (.n (some (Tryd.ti28)) (.n (some (Tryd.ti44)) .e (.n (some (Tryd.ti108)) .e .e)) .e))) (.n (some (Tryd.ti6)) (.n (some (Tryd.ti10)) (.n (some (Tryd.ti18)) (.n (some (Tryd.ti34)) .e (.n (some (Tryd.ti98)) .e .e)) (.n (some (Tryd.ti50)) .e .e)) (.n (some (Tryd.ti26)) (.n none (.n (some (Tryd.ti74)) (.n (some (Tryd.ti138)) .e .e) .e) .e) .e)) (.n (some (Tryd.ti14)) (.n (some (Tryd.ti22)) (.n (some (Tryd.ti38)) (.n (some (Tryd.ti70)) .e .e) .e) (.n (some (Tryd.ti54)) .e .e)) (.n (some (Tryd.ti30)) (.n (some (Tryd.ti46)) .e .e) (.n none .e (.n (some (Tryd.ti126)) .e .e)))))))
noncomputable def Tryd.evFs : Tr Func :=
  (.n none (.n none (.n none (.n none (.n (some (Tryd.f15)) (.n none .e (.n (some (Tryd.f95)) .e .e)) (.n (some (Tryd.f47)) (.n (some (Tryd.f79)) .e .e) (.n (some (Tryd.f111)) .e .e))) (.n (some (Tryd.f23)) (.n (some (Tryd.f39)) (.n (some (Tryd.f71)) .e .e) (.n (some (Tryd.f103)) .e .e)) (.n none (.n (some (Tryd.f87)) .e .e) (.n (some (Tryd.f119)) .e .e)))) (.n (some (Tryd.f11)) (.n none (.n (some (Tryd.f35)) (.n (some (Tryd.f67)) .e .e) (.n (some (Tryd.f99)) .e .e)) (.n (some (Tryd.f51)) (.n (some (Tryd.f83)) .e .e) (.n (some (Tryd.f115)) .e .e))) (.n none (.n none (.n (some (Tryd.f75)) .e .e) (.n (some (Tryd.f107)) .e .e)) .e))) (.n none (.n none (.n (some (Tryd.f17)) (.n none (.n (some (Tryd.f65)) .e .e) (.n (some (Tryd.f97)) .e .e)) (.n (some (Tryd.f49)) (.n (some (Tryd.f81)) .e .e) (.n (some (Tryd.f113)) .e .e))) (.n none (.n (some (Tryd.f41)) (.n (some (Tryd.f73)) .e .e) (.n (some (Tryd.f105)) .e .e)) (.n (some (Tryd.f57)) .e .e))) (.n none (.n none (.n (some (Tryd.f37)) (.n (some (Tryd.f69)) .e .e) (.n (some (Tryd.f101)) .e .e)) (.n (some (Tryd.f53)) (.n (some (Tryd.f85)) .e .e) (.n (some (Tryd.f117)) .e .e))) (.n none (.n (some (Tryd.f45)) .e (.n (some (Tryd.f109)) .e .e)) .e)))) (.n none (.n none (.n none (.n none (.n (some (Tryd.f32)) (.n (some (Tryd.f64)) .e .e) (.n (some (Tryd.f96)) .e .e)) (.n (some (Tryd.f48)) (.n (some (Tryd.f80)) .e .e) (.n (some (Tryd.f112)) .e .e))) (.n none (.n (some (Tryd.f40)) .e (.n (some (Tryd.f104)) .e .e)) (.n none (.n (some (Tryd.f88)) .e .e) .e))) (.n (some (Tryd.f12)) (.n none (.n (some (Tryd.f36)) (.n (some (Tryd.f68)) .e .e) (.n (some (Tryd.f100)) .e .e)) (.n (some (Tryd.f52)) (.n (some (Tryd.f84)) .e .e) (.n (some (Tryd.f116)) .e .e))) (.n none (.n none (.n (some (Tryd.f76)) .e .e) (.n (some (Tryd.f108)) .e .e)) (.n (some (Tryd.f60)) .e .e)))) (.n none (.n none (.n (some (Tryd.f18)) (.n none (.n (some (Tryd.f66)) .e .e) (.n (some (Tryd.f98)) .e .e)) (.n (some (Tryd.f50)) (.n (some (Tryd.f82)) .e .e) (.n (some (Tryd.f114)) .e .e))) (.n none (.n (some (Tryd.f42)) (.n (some (Tryd.f74)) .e .e) (.n (some (Tryd.f106)) .e .e)) (.n (some (Tryd.f58)) .e .e))) (.n (some (Tryd.f14)) (.n none (.n (some (Tryd.f38)) (.n (some (Tryd.f70)) .e .e) (.n (some (Tryd.f102)) .e .e)) (.n none (.n (some (Tryd.f86)) .e .e) (.n (some (Tryd.f118)) .e .e))) (.n none (.n (some (Tryd.f46)) .e (.n (some (Tryd.f110)) .e .e)) .e)))))
noncomputable def Tryd.evT : Tab := ⟨Tryd.evTy, Tryd.evFs⟩
theorem Tryd.tiok1 : TIok Tryd.prog 1 Tryd.ti1 := ⟨⟨_, inferInstance, trivial⟩, inferInstance, inferInstance, fun z h => by cases h <;> kernel_rfl⟩
theorem Tryd.tiok2 : TIok Tryd.prog 2 Tryd.ti2 := ⟨⟨_, inferInstance, rfl⟩, inferInstance, inferInstance, fun z h => by cases h <;> kernel_rfl⟩
theorem Tryd.tiok3 : TIok Tryd.prog 3 Tryd.ti3 := ⟨⟨_, inferInstance, rfl⟩, inferInstance, inferInstance, fun z h => by cases h <;> kernel_rfl⟩
theorem Tryd.tiok4 : TIok Tryd.prog 4 Tryd.ti4 := ⟨⟨_, inferInstance, rfl⟩, inferInstance, inferInstance, fun z h => by cases h <;> kernel_rfl⟩
theorem Tryd.tiok5 : TIok Tryd.prog 5 Tryd.ti5 := ⟨⟨_, inferInstance, rfl⟩, inferInstance, inferInstance, fun z h => by cases h <;> kernel_rfl⟩
theorem Tryd.tiok6 : TIok Tryd.prog 6 Tryd.ti6 := ⟨⟨_, inferInstance, rfl⟩, inferInstance, inferInstance, fun z h => by cases h <;> kernel_rfl⟩
theorem Tryd.tiok7 : TIok Tryd.prog 7 Tryd.ti7 := ⟨⟨_, inferInstance, ⟨inferInstance, fun fi p h => match fi, h with | 0, h => by cases h; exact inferInstance | 1, h => by cases h; exact inferInstance | 2, h => by cases h; exact inferInstance | 3, h => by cases h; exact inferInstance | j + 4, h => by cases h⟩⟩, inferInstance, inferInstance, (by show (Tryd.prog.info? 7).bind (·.zero) = some (.agg Tryd.ti7.zs.toArray); kernel_rfl)⟩
theorem Tryd.tiok8 : TIok Tryd.prog 8 Tryd.ti8 := ⟨⟨_, inferInstance, ⟨inferInstance, fun fi p h => match fi, h with | 0, h => by cases h; exact inferInstance | 1, h => by cases h; exact inferInstance | 2, h => by cases h; exact inferInstance | 3, h => by cases h; exact inferInstance | j + 4, h => by cases h⟩⟩, inferInstance, inferInstance, (by show (Tryd.prog.info? 8).bind (·.zero) = some (.agg Tryd.ti8.zs.toArray); kernel_rfl)⟩
theorem Tryd.tiok9 : TIok Tryd.prog 9 Tryd.ti9 := ⟨⟨_, inferInstance, rfl⟩, inferInstance, inferInstance, fun z h => by cases h <;> kernel_rfl⟩
theorem Tryd.tiok10 : TIok Tryd.prog 10 Tryd.ti10 := ⟨⟨_, inferInstance, rfl⟩, inferInstance, inferInstance, fun z h => by cases h <;> kernel_rfl⟩
theorem Tryd.tiok11 : TIok Tryd.prog 11 Tryd.ti11 := ⟨⟨_, inferInstance, rfl⟩, inferInstance, inferInstance, fun z h => by cases h <;> kernel_rfl⟩
theorem Tryd.tiok12 : TIok Tryd.prog 12 Tryd.ti12 := ⟨⟨_, inferInstance, rfl⟩, inferInstance, inferInstance, fun z h => by cases h <;> kernel_rfl⟩
theorem Tryd.tiok13 : TIok Tryd.prog 13 Tryd.ti13 := ⟨⟨_, inferInstance, ⟨inferInstance, fun fi p h => match fi, h with | 0, h => by cases h; exact inferInstance | 1, h => by cases h; exact inferInstance | j + 2, h => by cases h⟩⟩, inferInstance, inferInstance, (by show (Tryd.prog.info? 13).bind (·.zero) = some (.agg Tryd.ti13.zs.toArray); kernel_rfl)⟩
theorem Tryd.tiok14 : TIok Tryd.prog 14 Tryd.ti14 := ⟨⟨_, inferInstance, ⟨inferInstance, fun fi p h => match fi, h with | 0, h => by cases h; exact inferInstance | 1, h => by cases h; exact inferInstance | j + 2, h => by cases h⟩⟩, inferInstance, inferInstance, (by show (Tryd.prog.info? 14).bind (·.zero) = some (.agg Tryd.ti14.zs.toArray); kernel_rfl)⟩
theorem Tryd.tiok15 : TIok Tryd.prog 15 Tryd.ti15 := ⟨⟨_, inferInstance, trivial⟩, inferInstance, inferInstance, fun z h => by cases h <;> kernel_rfl⟩
theorem Tryd.tiok16 : TIok Tryd.prog 16 Tryd.ti16 := ⟨⟨_, inferInstance, trivial⟩, inferInstance, inferInstance, fun z h => by cases h <;> kernel_rfl⟩
theorem Tryd.tiok17 : TIok Tryd.prog 17 Tryd.ti17 := ⟨⟨_, inferInstance, trivial⟩, inferInstance, inferInstance, fun z h => by cases h <;> kernel_rfl⟩
theorem Tryd.tiok18 : TIok Tryd.prog 18 Tryd.ti18 := ⟨⟨_, inferInstance, ⟨inferInstance, fun fi p h => match fi, h with | 0, h => by cases h; exact inferInstance | j + 1, h => by cases h⟩⟩, inferInstance, inferInstance, (by show (Tryd.prog.info? 18).bind (·.zero) = some (.agg Tryd.ti18.zs.toArray); kernel_rfl)⟩
theorem Tryd.tiok19 : TIok Tryd.prog 19 Tryd.ti19 := ⟨⟨_, inferInstance, ⟨inferInstance, fun fi p h => match fi, h with | 0, h => by cases h; exact inferInstance | j + 1, h => by cases h⟩⟩, inferInstance, inferInstance, (by show (Tryd.prog.info? 19).bind (·.zero) = some (.agg Tryd.ti19.zs.toArray); kernel_rfl)⟩
theorem Tryd.tiok20 : TIok Tryd.prog 20 Tryd.ti20 := ⟨⟨_, inferInstance, trivial⟩, inferInstance, inferInstance, fun z h => by cases h <;> kernel_rfl⟩
theorem Tryd.tiok21 : TIok Tryd.prog 21 Tryd.ti21 := ⟨⟨_, inferInstance, rfl⟩, inferInstance, inferInstance, fun z h => by cases h <;> kernel_rfl⟩
theorem Tryd.tiok22 : TIok Tryd.prog 22 Tryd.ti22 := ⟨⟨_, inferInstance, rfl⟩, inferInstance, inferInstance, fun z h => by cases h <;> kernel_rfl⟩
theorem Tryd.tiok23 : TIok Tryd.prog 23 Tryd.ti23 := ⟨⟨_, inferInstance, rfl⟩, inferInstance, inferInstance, fun z h => by cases h <;> kernel_rfl⟩
theorem Tryd.tiok24 : TIok Tryd.prog 24 Tryd.ti24 := ⟨⟨_, inferInstance, ⟨inferInstance, fun fi p h => match fi, h with | 0, h => by cases h; exact inferInstance | 1, h => by cases h; exact inferInstance | 2, h => by cases h; exact inferInstance | 3, h => by cases h; exact inferInstance | j + 4, h => by cases h⟩⟩, inferInstance, inferInstance, (by show (Tryd.prog.info? 24).bind (·.zero) = some (.agg Tryd.ti24.zs.toArray); kernel_rfl)⟩
theorem Tryd.tiok25 : TIok Tryd.prog 25 Tryd.ti25 := ⟨⟨_, inferInstance, ⟨inferInstance, fun fi p h => match fi, h with | 0, h => by cases h; exact inferInstance | 1, h => by cases h; exact inferInstance | 2, h => by cases h; exact inferInstance | 3, h => by cases h; exact inferInstance | j + 4, h => by cases h⟩⟩, inferInstance, inferInstance, (by show (Tryd.prog.info? 25).bind (·.zero) = some (.agg Tryd.ti25.zs.toArray); kernel_rfl)⟩
theorem Tryd.tiok26 : TIok Tryd.prog 26 Tryd.ti26 := ⟨⟨_, inferInstance, trivial⟩, inferInstance, inferInstance, fun z h => by cases h <;> kernel_rfl⟩
theorem Tryd.tiok27 : TIok Tryd.prog 27 Tryd.ti27 := ⟨⟨_, inferInstance, rfl⟩, inferInstance, inferInstance, fun z h => by cases h <;> kernel_rfl⟩
theorem Tryd.tiok28 : TIok Tryd.prog 28 Tryd.ti28 := ⟨⟨_, inferInstance, trivial⟩, inferInstance, inferInstance, fun z h => by cases h <;> kernel_rfl⟩
theorem Tryd.tiok29 : TIok Tryd.prog 29 Tryd.ti29 := ⟨⟨_, inferInstance, trivial⟩, inferInstance, inferInstance, fun z h => by cases h <;> kernel_rfl⟩
theorem Tryd.tiok30 : TIok Tryd.prog 30 Tryd.ti30 := ⟨⟨_, inferInstance, trivial⟩, inferInstance, inferInstance, fun z h => by cases h <;> kernel_rfl⟩
theorem Tryd.tiok31 : TIok Tryd.prog 31 Tryd.ti31 := ⟨⟨_, inferInstance, rfl⟩, inferInstance, inferInstance, fun z h => by cases h <;> kernel_rfl⟩
theorem Tryd.tiok32 : TIok Tryd.prog 32 Tryd.ti32 := ⟨⟨_, inferInstance, ⟨inferInstance, fun fi p h => match fi, h with | 0, h => by cases h; exact inferInstance | 1, h => by cases h; exact inferInstance | 2, h => by cases h; exact inferInstance | 3, h => by cases h; exact inferInstance | 4, h => by cases h; exact inferInstance | j + 5, h => by cases h⟩⟩, inferInstance, inferInstance, (by show (Tryd.prog.info? 32).bind (·.zero) = some (.agg Tryd.ti32.zs.toArray); kernel_rfl)⟩
theorem Tryd.tiok33 : TIok Tryd.prog 33 Tryd.ti33 := ⟨⟨_, inferInstance, ⟨inferInstance, fun fi p h => match fi, h with | 0, h => by cases h; exact inferInstance | 1, h => by cases h; exact inferInstance | 2, h => by cases h; exact inferInstance | 3, h => by cases h; exact inferInstance | 4, h => by cases h; exact inferInstance | j + 5, h => by cases h⟩⟩, inferInstance, inferInstance, (by show (Tryd.prog.info? 33).bind (·.zero) = some (.agg Tryd.ti33.zs.toArray); kernel_rfl)⟩
theorem Tryd.tiok34 : TIok Tryd.prog 34 Tryd.ti34 := ⟨⟨_, inferInstance, rfl⟩, inferInstance, inferInstance, fun z h => by cases h <;> kernel_rfl⟩
theorem Tryd.tiok36 : TIok Tryd.prog 36 Tryd.ti36 := ⟨⟨_, inferInstance, trivial⟩, inferInstance, inferInstance, fun z h => by cases h <;> kernel_rfl⟩
theorem Tryd.tiok37 : TIok Tryd.prog 37 Tryd.ti37 := ⟨⟨_, inferInstance, trivial⟩, inferInstance, inferInstance, fun z h => by cases h <;> kernel_rfl⟩
theorem Tryd.tiok38 : TIok Tryd.prog 38 Tryd.ti38 := ⟨⟨_, inferInstance, trivial⟩, inferInstance, inferInstance, fun z h => by cases h <;> kernel_rfl⟩
theorem Tryd.tiok39 : TIok Tryd.prog 39 Tryd.ti39 := ⟨⟨_, inferInstance, trivial⟩, inferInstance, inferInstance, fun z h => by cases h <;> kernel_rfl⟩
theorem Tryd.tiok40 : TIok Tryd.prog 40 Tryd.ti40 := ⟨⟨_, inferInstance, trivial⟩, inferInstance, inferInstance, fun z h => by cases h <;> kernel_rfl⟩
theorem Tryd.tiok41 : TIok Tryd.prog 41 Tryd.ti41 := ⟨⟨_, inferInstance, trivial⟩, inferInstance, inferInstance, fun z h => by cases h <;> kernel_rfl⟩
theorem Tryd.tiok43 : TIok Tryd.prog 43 Tryd.ti43 := ⟨⟨_, inferInstance, trivial⟩, inferInstance, inferInstance, fun z h => by cases h <;> kernel_rfl⟩
theorem Tryd.tiok44 : TIok Tryd.prog 44 Tryd.ti44 := ⟨⟨_, inferInstance, trivial⟩, inferInstance, inferInstance, fun z h => by cases h <;> kernel_rfl⟩
theorem Tryd.tiok45 : TIok Tryd.prog 45 Tryd.ti45 := ⟨⟨_, inferInstance, trivial⟩, inferInstance, inferInstance, fun z h => by cases h <;> kernel_rfl⟩
theorem Tryd.tiok46 : TIok Tryd.prog 46 Tryd.ti46 := ⟨⟨_, inferInstance, trivial⟩, inferInstance, inferInstance, fun z h => by cases h <;> kernel_rfl⟩
theorem Tryd.tiok47 : TIok Tryd.prog 47 Tryd.ti47 := ⟨⟨_, inferInstance, trivial⟩, inferInstance, inferInstance, fun z h => by cases h <;> kernel_rfl⟩
theorem Tryd.tiok48 : TIok Tryd.prog 48 Tryd.ti48 := ⟨⟨_, inferInstance, trivial⟩, inferInstance, inferInstance, fun z h => by cases h <;> kernel_rfl⟩
theorem Tryd.tiok49 : TIok Tryd.prog 49 Tryd.ti49 := ⟨⟨_, inferInstance, trivial⟩, inferInstance, inferInstance, fun z h => by cases h <;> kernel_rfl⟩
theorem Tryd.tiok50 : TIok Tryd.prog 50 Tryd.ti50 := ⟨⟨_, inferInstance, trivial⟩, inferInstance, inferInstance, fun z h => by cases h <;> kernel_rfl⟩
theorem Tryd.tiok51 : TIok Tryd.prog 51 Tryd.ti51 := ⟨⟨_, inferInstance, trivial⟩, inferInstance, inferInstance, fun z h => by cases h <;> kernel_rfl⟩
theorem Tryd.tiok52 : TIok Tryd.prog 52 Tryd.ti52 := ⟨⟨_, inferInstance, rfl⟩, inferInstance, inferInstance, fun z h => by cases h <;> kernel_rfl⟩
theorem Tryd.tiok53 : TIok Tryd.prog 53 Tryd.ti53 := ⟨⟨_, inferInstance, trivial⟩, inferInstance, inferInstance, fun z h => by cases h <;> kernel_rfl⟩
theorem Tryd.tiok54 : TIok Tryd.prog 54 Tryd.ti54 := ⟨⟨_, inferInstance, trivial⟩, inferInstance, inferInstance, fun z h => by cases h <;> kernel_rfl⟩
theorem Tryd.tiok70 : TIok Tryd.prog 70 Tryd.ti70 := ⟨⟨_, inferInstance, rfl⟩, inferInstance, inferInstance, fun z h => by cases h <;> kernel_rfl⟩
theorem Tryd.tiok74 : TIok Tryd.prog 74 Tryd.ti74 := ⟨⟨_, inferInstance, trivial⟩, inferInstance, inferInstance, fun z h => by cases h <;> kernel_rfl⟩
theorem Tryd.tiok75 : TIok Tryd.prog 75 Tryd.ti75 := ⟨⟨_, inferInstance, rfl⟩, inferInstance, inferInstance, fun z h => by cases h <;> kernel_rfl⟩
theorem Tryd.tiok77 : TIok Tryd.prog 77 Tryd.ti77 := ⟨⟨_, inferInstance, ⟨inferInstance, fun fi p h => match fi, h with | 0, h => by cases h; exact inferInstance | 1, h => by cases h; exact inferInstance | 2, h => by cases h; exact inferInstance | j + 3, h => by cases h⟩⟩, inferInstance, inferInstance, (by show (Tryd.prog.info? 77).bind (·.zero) = some (.agg Tryd.ti77.zs.toArray); kernel_rfl)⟩
theorem Tryd.tiok81 : TIok Tryd.prog 81 Tryd.ti81 := ⟨⟨_, inferInstance, rfl⟩, inferInstance, inferInstance, (by show (Tryd.prog.info? 81).bind (·.zero) = some (.agg Tryd.ti81.zs.toArray); kernel_rfl)⟩
theorem Tryd.tiok83 : TIok Tryd.prog 83 Tryd.ti83 := ⟨⟨_, inferInstance, trivial⟩, inferInstance, inferInstance, fun z h => by cases h <;> kernel_rfl⟩
theorem Tryd.tiok87 : TIok Tryd.prog 87 Tryd.ti87 := ⟨⟨_, inferInstance, trivial⟩, inferInstance, inferInstance, fun z h => by cases h <;> kernel_rfl⟩
theorem Tryd.tiok98 : TIok Tryd.prog 98 Tryd.ti98 := ⟨⟨_, inferInstance, rfl⟩, inferInstance, inferInstance, fun z h => by cases h <;> kernel_rfl⟩
theorem Tryd.tiok107 : TIok Tryd.prog 107 Tryd.ti107 := ⟨⟨_, inferInstance, ⟨inferInstance, fun fi p h => match fi, h with | 0, h => by cases h; exact inferInstance | 1, h => by cases h; exact inferInstance | 2, h => by cases h; exact inferInstance | j + 3, h => by cases h⟩⟩, inferInstance, inferInstance, (by show (Tryd.prog.info? 107).bind (·.zero) = some (.agg Tryd.ti107.zs.toArray); kernel_rfl)⟩
theorem Tryd.tiok108 : TIok Tryd.prog 108 Tryd.ti108 := ⟨⟨_, inferInstance, rfl⟩, inferInstance, inferInstance, (by show (Tryd.prog.info? 108).bind (·.zero) = some (.agg Tryd.ti108.zs.toArray); kernel_rfl)⟩
theorem Tryd.tiok123 : TIok Tryd.prog 123 Tryd.ti123 := ⟨⟨_, inferInstance, rfl⟩, inferInstance, inferInstance, fun z h => by cases h <;> kernel_rfl⟩
theorem Tryd.tiok125 : TIok Tryd.prog 125 Tryd.ti125 := ⟨⟨_, inferInstance, rfl⟩, inferInstance, inferInstance, (by show (Tryd.prog.info? 125).bind (·.zero) = some (.agg Tryd.ti125.zs.toArray); kernel_rfl)⟩
theorem Tryd.tiok126 : TIok Tryd.prog 126 Tryd.ti126 := ⟨⟨_, inferInstance, rfl⟩, inferInstance, inferInstance, fun z h => by cases h <;> kernel_rfl⟩
theorem Tryd.tiok129 : TIok Tryd.prog 129 Tryd.ti129 := ⟨⟨_, inferInstance, rfl⟩, inferInstance, inferInstance, fun z h => by cases h <;> kernel_rfl⟩
theorem Tryd.tiok132 : TIok Tryd.prog 132 Tryd.ti132 := ⟨⟨_, inferInstance, rfl⟩, inferInstance, inferInstance, (by show (Tryd.prog.info? 132).bind (·.zero) = some (.agg Tryd.ti132.zs.toArray); kernel_rfl)⟩
theorem Tryd.tiok133 : TIok Tryd.prog 133 Tryd.ti133 := ⟨⟨_, inferInstance, rfl⟩, inferInstance, inferInstance, fun z h => by cases h <;> kernel_rfl⟩
theorem Tryd.tiok137 : TIok Tryd.prog 137 Tryd.ti137 := ⟨⟨_, inferInstance, rfl⟩, inferInstance, inferInstance, (by show (Tryd.prog.info? 137).bind (·.zero) = some (.agg Tryd.ti137.zs.toArray); kernel_rfl)⟩
theorem Tryd.tiok138 : TIok Tryd.prog 138 Tryd.ti138 := ⟨⟨_, inferInstance, rfl⟩, inferInstance, inferInstance, (by show (Tryd.prog.info? 138).bind (·.zero) = some (.agg Tryd.ti138.zs.toArray); kernel_rfl)⟩
theorem Tryd.tyAll : TrAll (fun t ti => TIok Tryd.prog t ti) Tryd.evTy :=
  (tr_o (tr_s Tryd.tiok1 (tr_s Tryd.tiok3 (tr_s Tryd.tiok7 (tr_s Tryd.tiok15 (tr_s Tryd.tiok31 tr_e tr_e) (tr_s Tryd.tiok47 tr_e tr_e)) (tr_s Tryd.tiok23 (tr_s Tryd.tiok39 tr_e tr_e) (tr_o (tr_s Tryd.tiok87 tr_e tr_e) tr_e))) (tr_s Tryd.tiok11 (tr_s Tryd.tiok19 tr_e (tr_s Tryd.tiok51 (tr_s Tryd.tiok83 tr_e tr_e) tr_e)) (tr_s Tryd.tiok27 (tr_s Tryd.tiok43 (tr_s Tryd.tiok75 tr_e tr_e) (tr_s Tryd.tiok107 tr_e tr_e)) (tr_o tr_e (tr_s Tryd.tiok123 tr_e tr_e))))) (tr_s Tryd.tiok5 (tr_s Tryd.tiok9 (tr_s Tryd.tiok17 (tr_s Tryd.tiok33 (tr_o (tr_s Tryd.tiok129 tr_e tr_e) tr_e) tr_e) (tr_s Tryd.tiok49 (tr_s Tryd.tiok81 tr_e tr_e) tr_e)) (tr_s Tryd.tiok25 (tr_s Tryd.tiok41 (tr_o (tr_s Tryd.tiok137 tr_e tr_e) tr_e) tr_e) tr_e)) (tr_s Tryd.tiok13 (tr_s Tryd.tiok21 (tr_s Tryd.tiok37 (tr_o (tr_s Tryd.tiok133 tr_e tr_e) tr_e) tr_e) (tr_s Tryd.tiok53 tr_e tr_e)) (tr_s Tryd.tiok29 (tr_s Tryd.tiok45 (tr_s Tryd.tiok77 tr_e tr_e) tr_e) (tr_o tr_e (tr_s Tryd.tiok125 tr_e tr_e)))))) (tr_s Tryd.tiok2 (tr_s Tryd.tiok4 (tr_s Tryd.tiok8 (tr_s Tryd.tiok16 (tr_s Tryd.tiok32 tr_e tr_e) (tr_s Tryd.tiok48 tr_e tr_e)) (tr_s Tryd.tiok24 (tr_s Tryd.tiok40 tr_e tr_e) tr_e)) (tr_s Tryd.tiok12 (tr_s Tryd.tiok20 (tr_s Tryd.tiok36 (tr_o (tr_s Tryd.tiok132 tr_e tr_e) tr_e) tr_e) (tr_s Tryd.tiok52 tr_e tr_e)) (tr_s Tryd.tiok28 (tr_s Tryd.tiok44 tr_e (tr_s Tryd.tiok108 tr_e tr_e)) tr_e))) (tr_s Tryd.tiok6 (tr_s Tryd.tiok10 (tr_s Tryd.tiok18 (tr_s Tryd.tiok34 tr_e (tr_s Tryd.tiok98 tr_e tr_e)) (tr_s Tryd.tiok50 tr_e tr_e)) (tr_s Tryd.tiok26 (tr_o (tr_s Tryd.tiok74 (tr_s Tryd.tiok138 tr_e tr_e) tr_e) tr_e) tr_e)) (tr_s Tryd.tiok14 (tr_s Tryd.tiok22 (tr_s Tryd.tiok38 (tr_s Tryd.tiok70 tr_e tr_e) tr_e) (tr_s Tryd.tiok54 tr_e tr_e)) (tr_s Tryd.tiok30 (tr_s Tryd.tiok46 tr_e tr_e) (tr_o tr_e (tr_s Tryd.tiok126 tr_e tr_e)))))))
theorem Tryd.evf11 : Tryd.prog.funcs[11]? = some Tryd.f11 ∧ FnOk Tryd.prog 11 := ⟨Tryd.func11, inferInstance⟩
theorem Tryd.evf12 : Tryd.prog.funcs[12]? = some Tryd.f12 ∧ FnOk Tryd.prog 12 := ⟨Tryd.func12, inferInstance⟩
theorem Tryd.evf14 : Tryd.prog.funcs[14]? = some Tryd.f14 ∧ FnOk Tryd.prog 14 := ⟨Tryd.func14, inferInstance⟩
theorem Tryd.evf15 : Tryd.prog.funcs[15]? = some Tryd.f15 ∧ FnOk Tryd.prog 15 := ⟨Tryd.func15, inferInstance⟩
theorem Tryd.evf17 : Tryd.prog.funcs[17]? = some Tryd.f17 ∧ FnOk Tryd.prog 17 := ⟨Tryd.func17, inferInstance⟩
theorem Tryd.evf18 : Tryd.prog.funcs[18]? = some Tryd.f18 ∧ FnOk Tryd.prog 18 := ⟨Tryd.func18, inferInstance⟩
theorem Tryd.evf23 : Tryd.prog.funcs[23]? = some Tryd.f23 ∧ FnOk Tryd.prog 23 := ⟨Tryd.func23, inferInstance⟩
theorem Tryd.evf32 : Tryd.prog.funcs[32]? = some Tryd.f32 ∧ FnOk Tryd.prog 32 := ⟨Tryd.func32, inferInstance⟩
theorem Tryd.evf35 : Tryd.prog.funcs[35]? = some Tryd.f35 ∧ FnOk Tryd.prog 35 := ⟨Tryd.func35, inferInstance⟩
theorem Tryd.evf36 : Tryd.prog.funcs[36]? = some Tryd.f36 ∧ FnOk Tryd.prog 36 := ⟨Tryd.func36, inferInstance⟩
theorem Tryd.evf37 : Tryd.prog.funcs[37]? = some Tryd.f37 ∧ FnOk Tryd.prog 37 := ⟨Tryd.func37, inferInstance⟩
theorem Tryd.evf38 : Tryd.prog.funcs[38]? = some Tryd.f38 ∧ FnOk Tryd.prog 38 := ⟨Tryd.func38, inferInstance⟩
theorem Tryd.evf39 : Tryd.prog.funcs[39]? = some Tryd.f39 ∧ FnOk Tryd.prog 39 := ⟨Tryd.func39, inferInstance⟩
theorem Tryd.evf40 : Tryd.prog.funcs[40]? = some Tryd.f40 ∧ FnOk Tryd.prog 40 := ⟨Tryd.func40, inferInstance⟩
theorem Tryd.evf41 : Tryd.prog.funcs[41]? = some Tryd.f41 ∧ FnOk Tryd.prog 41 := ⟨Tryd.func41, inferInstance⟩
theorem Tryd.evf42 : Tryd.prog.funcs[42]? = some Tryd.f42 ∧ FnOk Tryd.prog 42 := ⟨Tryd.func42, inferInstance⟩
theorem Tryd.evf45 : Tryd.prog.funcs[45]? = some Tryd.f45 ∧ FnOk Tryd.prog 45 := ⟨Tryd.func45, inferInstance⟩
theorem Tryd.evf46 : Tryd.prog.funcs[46]? = some Tryd.f46 ∧ FnOk Tryd.prog 46 := ⟨Tryd.func46, inferInstance⟩
theorem Tryd.evf47 : Tryd.prog.funcs[47]? = some Tryd.f47 ∧ FnOk Tryd.prog 47 := ⟨Tryd.func47, inferInstance⟩
theorem Tryd.evf48 : Tryd.prog.funcs[48]? = some Tryd.f48 ∧ FnOk Tryd.prog 48 := ⟨Tryd.func48, inferInstance⟩
theorem Tryd.evf49 : Tryd.prog.funcs[49]? = some Tryd.f49 ∧ FnOk Tryd.prog 49 := ⟨Tryd.func49, inferInstance⟩
theorem Tryd.evf50 : Tryd.prog.funcs[50]? = some Tryd.f50 ∧ FnOk Tryd.prog 50 := ⟨Tryd.func50, inferInstance⟩
theorem Tryd.evf51 : Tryd.prog.funcs[51]? = some Tryd.f51 ∧ FnOk Tryd.prog 51 := ⟨Tryd.func51, inferInstance⟩
theorem Tryd.evf52 : Tryd.prog.funcs[52]? = some Tryd.f52 ∧ FnOk Tryd.prog 52 := ⟨Tryd.func52, inferInstance⟩
theorem Tryd.evf53 : Tryd.prog.funcs[53]? = some Tryd.f53 ∧ FnOk Tryd.prog 53 := ⟨Tryd.func53, inferInstance⟩
theorem Tryd.evf57 : Tryd.prog.funcs[57]? = some Tryd.f57 ∧ FnOk Tryd.prog 57 := ⟨Tryd.func57, inferInstance⟩
theorem Tryd.evf58 : Tryd.prog.funcs[58]? = some Tryd.f58 ∧ FnOk Tryd.prog 58 := ⟨Tryd.func58, inferInstance⟩
theorem Tryd.evf60 : Tryd.prog.funcs[60]? = some Tryd.f60 ∧ FnOk Tryd.prog 60 := ⟨Tryd.func60, inferInstance⟩
theorem Tryd.evf64 : Tryd.prog.funcs[64]? = some Tryd.f64 ∧ FnOk Tryd.prog 64 := ⟨Tryd.func64, inferInstance⟩
theorem Tryd.evf65 : Tryd.prog.funcs[65]? = some Tryd.f65 ∧ FnOk Tryd.prog 65 := ⟨Tryd.func65, inferInstance⟩
theorem Tryd.evf66 : Tryd.prog.funcs[66]? = some Tryd.f66 ∧ FnOk Tryd.prog 66 := ⟨Tryd.func66, inferInstance⟩
theorem Tryd.evf67 : Tryd.prog.funcs[67]? = some Tryd.f67 ∧ FnOk Tryd.prog 67 := ⟨Tryd.func67, inferInstance⟩
theorem Tryd.evf68 : Tryd.prog.funcs[68]? = some Tryd.f68 ∧ FnOk Tryd.prog 68 := ⟨Tryd.func68, inferInstance⟩
theorem Tryd.evf69 : Tryd.prog.funcs[69]? = some Tryd.f69 ∧ FnOk Tryd.prog 69 := ⟨Tryd.func69, inferInstance⟩
theorem Tryd.evf70 : Tryd.prog.funcs[70]? = some Tryd.f70 ∧ FnOk Tryd.prog 70 := ⟨Tryd.func70, inferInstance⟩
theorem Tryd.evf71 : Tryd.prog.funcs[71]? = some Tryd.f71 ∧ FnOk Tryd.prog 71 := ⟨Tryd.func71, inferInstance⟩
theorem Tryd.evf73 : Tryd.prog.funcs[73]? = some Tryd.f73 ∧ FnOk Tryd.prog 73 := ⟨Tryd.func73, inferInstance⟩
theorem Tryd.evf74 : Tryd.prog.funcs[74]? = some Tryd.f74 ∧ FnOk Tryd.prog 74 := ⟨Tryd.func74, inferInstance⟩
theorem Tryd.evf75 : Tryd.prog.funcs[75]? = some Tryd.f75 ∧ FnOk Tryd.prog 75 := ⟨Tryd.func75, inferInstance⟩
theorem Tryd.evf76 : Tryd.prog.funcs[76]? = some Tryd.f76 ∧ FnOk Tryd.prog 76 := ⟨Tryd.func76, inferInstance⟩
theorem Tryd.evf79 : Tryd.prog.funcs[79]? = some Tryd.f79 ∧ FnOk Tryd.prog 79 := ⟨Tryd.func79, inferInstance⟩
theorem Tryd.evf80 : Tryd.prog.funcs[80]? = some Tryd.f80 ∧ FnOk Tryd.prog 80 := ⟨Tryd.func80, inferInstance⟩
theorem Tryd.evf81 : Tryd.prog.funcs[81]? = some Tryd.f81 ∧ FnOk Tryd.prog 81 := ⟨Tryd.func81, inferInstance⟩
theorem Tryd.evf82 : Tryd.prog.funcs[82]? = some Tryd.f82 ∧ FnOk Tryd.prog 82 := ⟨Tryd.func82, inferInstance⟩
theorem Tryd.evf83 : Tryd.prog.funcs[83]? = some Tryd.f83 ∧ FnOk Tryd.prog 83 := ⟨Tryd.func83, inferInstance⟩
theorem Tryd.evf84 : Tryd.prog.funcs[84]? = some Tryd.f84 ∧ FnOk Tryd.prog 84 := ⟨Tryd.func84, inferInstance⟩
theorem Tryd.evf85 : Tryd.prog.funcs[85]? = some Tryd.f85 ∧ FnOk Tryd.prog 85 := ⟨Tryd.func85, inferInstance⟩
theorem Tryd.evf86 : Tryd.prog.funcs[86]? = some Tryd.f86 ∧ FnOk Tryd.prog 86 := ⟨Tryd.func86, inferInstance⟩
theorem Tryd.evf87 : Tryd.prog.funcs[87]? = some Tryd.f87 ∧ FnOk Tryd.prog 87 := ⟨Tryd.func87, inferInstance⟩
theorem Tryd.evf88 : Tryd.prog.funcs[88]? = some Tryd.f88 ∧ FnOk Tryd.prog 88 := ⟨Tryd.func88, inferInstance⟩
theorem Tryd.evf95 : Tryd.prog.funcs[95]? = some Tryd.f95 ∧ FnOk Tryd.prog 95 := ⟨Tryd.func95, inferInstance⟩
theorem Tryd.evf96 : Tryd.prog.funcs[96]? = some Tryd.f96 ∧ FnOk Tryd.prog 96 := ⟨Tryd.func96, inferInstance⟩
theorem Tryd.evf97 : Tryd.prog.funcs[97]? = some Tryd.f97 ∧ FnOk Tryd.prog 97 := ⟨Tryd.func97, inferInstance⟩
theorem Tryd.evf98 : Tryd.prog.funcs[98]? = some Tryd.f98 ∧ FnOk Tryd.prog 98 := ⟨Tryd.func98, inferInstance⟩
theorem Tryd.evf99 : Tryd.prog.funcs[99]? = some Tryd.f99 ∧ FnOk Tryd.prog 99 := ⟨Tryd.func99, inferInstance⟩
theorem Tryd.evf100 : Tryd.prog.funcs[100]? = some Tryd.f100 ∧ FnOk Tryd.prog 100 := ⟨Tryd.func100, inferInstance⟩
theorem Tryd.evf101 : Tryd.prog.funcs[101]? = some Tryd.f101 ∧ FnOk Tryd.prog 101 := ⟨Tryd.func101, inferInstance⟩
theorem Tryd.evf102 : Tryd.prog.funcs[102]? = some Tryd.f102 ∧ FnOk Tryd.prog 102 := ⟨Tryd.func102, inferInstance⟩
theorem Tryd.evf103 : Tryd.prog.funcs[103]? = some Tryd.f103 ∧ FnOk Tryd.prog 103 := ⟨Tryd.func103, inferInstance⟩
theorem Tryd.evf104 : Tryd.prog.funcs[104]? = some Tryd.f104 ∧ FnOk Tryd.prog 104 := ⟨Tryd.func104, inferInstance⟩
theorem Tryd.evf105 : Tryd.prog.funcs[105]? = some Tryd.f105 ∧ FnOk Tryd.prog 105 := ⟨Tryd.func105, inferInstance⟩
theorem Tryd.evf106 : Tryd.prog.funcs[106]? = some Tryd.f106 ∧ FnOk Tryd.prog 106 := ⟨Tryd.func106, inferInstance⟩
theorem Tryd.evf107 : Tryd.prog.funcs[107]? = some Tryd.f107 ∧ FnOk Tryd.prog 107 := ⟨Tryd.func107, inferInstance⟩
theorem Tryd.evf108 : Tryd.prog.funcs[108]? = some Tryd.f108 ∧ FnOk Tryd.prog 108 := ⟨Tryd.func108, inferInstance⟩
theorem Tryd.evf109 : Tryd.prog.funcs[109]? = some Tryd.f109 ∧ FnOk Tryd.prog 109 := ⟨Tryd.func109, inferInstance⟩
theorem Tryd.evf110 : Tryd.prog.funcs[110]? = some Tryd.f110 ∧ FnOk Tryd.prog 110 := ⟨Tryd.func110, inferInstance⟩
theorem Tryd.evf111 : Tryd.prog.funcs[111]? = some Tryd.f111 ∧ FnOk Tryd.prog 111 := ⟨Tryd.func111, inferInstance⟩
theorem Tryd.evf112 : Tryd.prog.funcs[112]? = some Tryd.f112 ∧ FnOk Tryd.prog 112 := ⟨Tryd.func112, inferInstance⟩
theorem Tryd.evf113 : Tryd.prog.funcs[113]? = some Tryd.f113 ∧ FnOk Tryd.prog 113 := ⟨Tryd.func113, inferInstance⟩
theorem Tryd.evf114 : Tryd.prog.funcs[114]? = some Tryd.f114 ∧ FnOk Tryd.prog 114 := ⟨Tryd.func114, inferInstance⟩
theorem Tryd.evf115 : Tryd.prog.funcs[115]? = some Tryd.f115 ∧ FnOk Tryd.prog 115 := ⟨Tryd.func115, inferInstance⟩
theorem Tryd.evf116 : Tryd.prog.funcs[116]? = some Tryd.f116 ∧ FnOk Tryd.prog 116 := ⟨Tryd.func116, inferInstance⟩
theorem Tryd.evf117 : Tryd.prog.funcs[117]? = some Tryd.f117 ∧ FnOk Tryd.prog 117 := ⟨Tryd.func117, inferInstance⟩
theorem Tryd.evf118 : Tryd.prog.funcs[118]? = some Tryd.f118 ∧ FnOk Tryd.prog 118 := ⟨Tryd.func118, inferInstance⟩
theorem Tryd.evf119 : Tryd.prog.funcs[119]? = some Tryd.f119 ∧ FnOk Tryd.prog 119 := ⟨Tryd.func119, inferInstance⟩
theorem Tryd.fsAll : TrAll (fun f fn => Tryd.prog.funcs[f]? = some fn ∧ FnOk Tryd.prog f) Tryd.evFs :=
  (tr_o (tr_o (tr_o (tr_o (tr_s Tryd.evf15 (tr_o tr_e (tr_s Tryd.evf95 tr_e tr_e)) (tr_s Tryd.evf47 (tr_s Tryd.evf79 tr_e tr_e) (tr_s Tryd.evf111 tr_e tr_e))) (tr_s Tryd.evf23 (tr_s Tryd.evf39 (tr_s Tryd.evf71 tr_e tr_e) (tr_s Tryd.evf103 tr_e tr_e)) (tr_o (tr_s Tryd.evf87 tr_e tr_e) (tr_s Tryd.evf119 tr_e tr_e)))) (tr_s Tryd.evf11 (tr_o (tr_s Tryd.evf35 (tr_s Tryd.evf67 tr_e tr_e) (tr_s Tryd.evf99 tr_e tr_e)) (tr_s Tryd.evf51 (tr_s Tryd.evf83 tr_e tr_e) (tr_s Tryd.evf115 tr_e tr_e))) (tr_o (tr_o (tr_s Tryd.evf75 tr_e tr_e) (tr_s Tryd.evf107 tr_e tr_e)) tr_e))) (tr_o (tr_o (tr_s Tryd.evf17 (tr_o (tr_s Tryd.evf65 tr_e tr_e) (tr_s Tryd.evf97 tr_e tr_e)) (tr_s Tryd.evf49 (tr_s Tryd.evf81 tr_e tr_e) (tr_s Tryd.evf113 tr_e tr_e))) (tr_o (tr_s Tryd.evf41 (tr_s Tryd.evf73 tr_e tr_e) (tr_s Tryd.evf105 tr_e tr_e)) (tr_s Tryd.evf57 tr_e tr_e))) (tr_o (tr_o (tr_s Tryd.evf37 (tr_s Tryd.evf69 tr_e tr_e) (tr_s Tryd.evf101 tr_e tr_e)) (tr_s Tryd.evf53 (tr_s Tryd.evf85 tr_e tr_e) (tr_s Tryd.evf117 tr_e tr_e))) (tr_o (tr_s Tryd.evf45 tr_e (tr_s Tryd.evf109 tr_e tr_e)) tr_e)))) (tr_o (tr_o (tr_o (tr_o (tr_s Tryd.evf32 (tr_s Tryd.evf64 tr_e tr_e) (tr_s Tryd.evf96 tr_e tr_e)) (tr_s Tryd.evf48 (tr_s Tryd.evf80 tr_e tr_e) (tr_s Tryd.evf112 tr_e tr_e))) (tr_o (tr_s Tryd.evf40 tr_e (tr_s Tryd.evf104 tr_e tr_e)) (tr_o (tr_s Tryd.evf88 tr_e tr_e) tr_e))) (tr_s Tryd.evf12 (tr_o (tr_s Tryd.evf36 (tr_s Tryd.evf68 tr_e tr_e) (tr_s Tryd.evf100 tr_e tr_e)) (tr_s Tryd.evf52 (tr_s Tryd.evf84 tr_e tr_e) (tr_s Tryd.evf116 tr_e tr_e))) (tr_o (tr_o (tr_s Tryd.evf76 tr_e tr_e) (tr_s Tryd.evf108 tr_e tr_e)) (tr_s Tryd.evf60 tr_e tr_e)))) (tr_o (tr_o (tr_s Tryd.evf18 (tr_o (tr_s Tryd.evf66 tr_e tr_e) (tr_s Tryd.evf98 tr_e tr_e)) (tr_s Tryd.evf50 (tr_s Tryd.evf82 tr_e tr_e) (tr_s Tryd.evf114 tr_e tr_e))) (tr_o (tr_s Tryd.evf42 (tr_s Tryd.evf74 tr_e tr_e) (tr_s Tryd.evf106 tr_e tr_e)) (tr_s Tryd.evf58 tr_e tr_e))) (tr_s Tryd.evf14 (tr_o (tr_s Tryd.evf38 (tr_s Tryd.evf70 tr_e tr_e) (tr_s Tryd.evf102 tr_e tr_e)) (tr_o (tr_s Tryd.evf86 tr_e tr_e) (tr_s Tryd.evf118 tr_e tr_e))) (tr_o (tr_s Tryd.evf46 tr_e (tr_s Tryd.evf110 tr_e tr_e)) tr_e)))))
theorem Tryd.evOk : TOk Tryd.prog Tryd.evT := ⟨fun t ti h => get_all _ Tryd.tyAll h, fun f fn h => (get_all _ Tryd.fsAll h).1, fun f fn h => (get_all _ Tryd.fsAll h).2⟩
end Go.Proofs
