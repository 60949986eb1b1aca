/- The kit's contract of strings.Repeat at this program: laid by the kit's own commands (lay-shelf, lay-plain; shelf.sh). -/
import Derived.Shelf.Strings.Search3
import Derived.Shelf.Strings.Count
import Derived.Shelf.Strings.FieldsFuncGrows
import Derived.Test.YtocchemnfpnmeaaDoorProg
namespace Go.Proofs
open Go.Shelf
def Tryd.lays143_ren:Go.Shelf.Ren:=⟨fun | 143=>60 | 219=>65 | 217=>67 | 225=>68 | 224=>69 | 267=>70 | 266=>71 | 314=>72 | n=>n,fun | 9=>9 | 3=>3 | 4=>4 | 5=>5 | 46=>114 | 146=>131 | 51=>130 | n=>n,fun | 1=>0 | n=>n⟩
theorem Tryd.lays143:Go.Proofs.Lays.n143 Tryd.prog Tryd.lays143_ren:={
 mixed:=by kernel_rfl
 f143:=Tryd.func60.trans (congrArg some (by kernel_rfl))
 f217:=Tryd.func67.trans (congrArg some (by kernel_rfl))
 f219:=Tryd.func65.trans (congrArg some (by kernel_rfl))
 f224:=Tryd.func69.trans (congrArg some (by kernel_rfl))
 f225:=Tryd.func68.trans (congrArg some (by kernel_rfl))
 f266:=Tryd.func71.trans (congrArg some (by kernel_rfl))
 f267:=Tryd.func70.trans (congrArg some (by kernel_rfl))
 f314:=Tryd.func72.trans (congrArg some (by kernel_rfl))
 t3:=Tryd.underlying3
 a3:=Tryd.isAgg3
 z3:=Tryd.sizeOf3
 v3:=Tryd.zeroValue3
 t4:=Tryd.underlying4
 a4:=Tryd.isAgg4
 z4:=Tryd.sizeOf4
 v4:=Tryd.zeroValue4
 t5:=Tryd.underlying5
 a5:=Tryd.isAgg5
 z5:=Tryd.sizeOf5
 v5:=Tryd.zeroValue5
 t9:=Tryd.underlying9
 a9:=Tryd.isAgg9
 z9:=Tryd.sizeOf9
 v9:=Tryd.zeroValue9
 t46:=Tryd.underlying114
 a46:=Tryd.isAgg114
 z46:=Tryd.sizeOf114
 v46:=Tryd.zeroValue114
 t51:=Tryd.underlying130
 a51:=Tryd.isAgg130
 z51:=Tryd.sizeOf130
 v51:=Tryd.zeroValue130
 t146:=Tryd.underlying131
 a146:=Tryd.isAgg131
 z146:=Tryd.sizeOf131
 v146:=Tryd.zeroValue131
 g1:=by kernel_rfl }
open Go.RowKit Go.Lib in
theorem Tryd.strings_Index_one (s:ByteArray) (c:UInt8) (w:World) :
    Calls Tryd.prog 60 #[.string s,.string ⟨#[c]⟩] w fun e w'=>e=.returned (.int .i64 (Lib.indexByte s.data.toList c))∧w'=w:=Any.strings_Index_one Tryd.lays143 s c w
def Tryd.lays138_ren:Go.Shelf.Ren:=⟨fun | 138=>59 | 195=>62 | 218=>64 | 143=>60 | 219=>65 | 217=>67 | 225=>68 | 224=>69 | 267=>70 | 266=>71 | 314=>72 | n=>n,fun | 9=>9 | 3=>3 | 4=>4 | 5=>5 | 0=>0 | 46=>114 | 146=>131 | 51=>130 | n=>n,fun | 1=>0 | n=>n⟩
theorem Tryd.lays138:Go.Proofs.Lays.n138 Tryd.prog Tryd.lays138_ren:={
 mixed:=by kernel_rfl
 f138:=Tryd.func59.trans (congrArg some (by kernel_rfl))
 f143:=Tryd.func60.trans (congrArg some (by kernel_rfl))
 f195:=Tryd.func62.trans (congrArg some (by kernel_rfl))
 f217:=Tryd.func67.trans (congrArg some (by kernel_rfl))
 f218:=Tryd.func64.trans (congrArg some (by kernel_rfl))
 f219:=Tryd.func65.trans (congrArg some (by kernel_rfl))
 f224:=Tryd.func69.trans (congrArg some (by kernel_rfl))
 f225:=Tryd.func68.trans (congrArg some (by kernel_rfl))
 f266:=Tryd.func71.trans (congrArg some (by kernel_rfl))
 f267:=Tryd.func70.trans (congrArg some (by kernel_rfl))
 f314:=Tryd.func72.trans (congrArg some (by kernel_rfl))
 t0:=Tryd.underlying0
 a0:=Tryd.isAgg0
 z0:=Tryd.sizeOf0
 v0:=Tryd.zeroValue0
 t3:=Tryd.underlying3
 a3:=Tryd.isAgg3
 z3:=Tryd.sizeOf3
 v3:=Tryd.zeroValue3
 t4:=Tryd.underlying4
 a4:=Tryd.isAgg4
 z4:=Tryd.sizeOf4
 v4:=Tryd.zeroValue4
 t5:=Tryd.underlying5
 a5:=Tryd.isAgg5
 z5:=Tryd.sizeOf5
 v5:=Tryd.zeroValue5
 t9:=Tryd.underlying9
 a9:=Tryd.isAgg9
 z9:=Tryd.sizeOf9
 v9:=Tryd.zeroValue9
 t46:=Tryd.underlying114
 a46:=Tryd.isAgg114
 z46:=Tryd.sizeOf114
 v46:=Tryd.zeroValue114
 t51:=Tryd.underlying130
 a51:=Tryd.isAgg130
 z51:=Tryd.sizeOf130
 v51:=Tryd.zeroValue130
 t146:=Tryd.underlying131
 a146:=Tryd.isAgg131
 z146:=Tryd.sizeOf131
 v146:=Tryd.zeroValue131
 g1:=by kernel_rfl }
open Go.RowKit Go.Lib in
theorem Tryd.strings_Count_one (s:ByteArray) (c:UInt8) (w:World) :
    Calls Tryd.prog 59 #[.string s,.string ⟨#[c]⟩] w fun e w'=>e=.returned (.int .i64 (Lib.countByte s.data.toList c))∧w'=w:=Any.strings_Count_one Tryd.lays138 s c w
def Tryd.lays229_ren:Go.Shelf.Ren:=⟨fun | 229=>26 | n=>n,fun | 9=>9 | 40=>76 | 31=>45 | 152=>97 | 3=>3 | 0=>0 | 4=>4 | 21=>21 | 154=>99 | n=>n,fun | n=>n⟩
theorem Tryd.lays229:Go.Proofs.Lays.n229 Tryd.prog Tryd.lays229_ren:={
 mixed:=by kernel_rfl
 f229:=Tryd.func26.trans (congrArg some (by kernel_rfl))
 t0:=Tryd.underlying0
 a0:=Tryd.isAgg0
 z0:=Tryd.sizeOf0
 v0:=Tryd.zeroValue0
 t3:=Tryd.underlying3
 a3:=Tryd.isAgg3
 z3:=Tryd.sizeOf3
 v3:=Tryd.zeroValue3
 t4:=Tryd.underlying4
 a4:=Tryd.isAgg4
 z4:=Tryd.sizeOf4
 v4:=Tryd.zeroValue4
 t9:=Tryd.underlying9
 a9:=Tryd.isAgg9
 z9:=Tryd.sizeOf9
 v9:=Tryd.zeroValue9
 t21:=Tryd.underlying21
 a21:=Tryd.isAgg21
 z21:=Tryd.sizeOf21
 v21:=Tryd.zeroValue21
 t31:=Tryd.underlying45
 a31:=Tryd.isAgg45
 z31:=Tryd.sizeOf45
 v31:=Tryd.zeroValue45
 t40:=Tryd.underlying76
 a40:=Tryd.isAgg76
 z40:=Tryd.sizeOf76
 v40:=Tryd.zeroValue76
 t152:=Tryd.underlying97
 a152:=Tryd.isAgg97
 z152:=Tryd.sizeOf97
 v152:=Tryd.zeroValue97
 t154:=Tryd.underlying99
 a154:=Tryd.isAgg99
 z154:=Tryd.sizeOf99
 v154:=Tryd.zeroValue99 }
open Go.RowKit Go.Lib in
theorem Tryd.strings_FieldsFunc_grows (g:Nat) (lb:Array Value) (eg:∀ args w,(callFunc g args).run Tryd.prog w=.ok (.enter g args) w) (p:Nat→Bool) (s:ByteArray) (w:World) (hs:s.size≤4294967296) (hp:PredGrows Tryd.prog g lb p w) :
    Calls Tryd.prog 26 #[.string s,.func (.func g) #[] lb] w fun e w'=>∃ A,e=.returned (.slice (some ⟨A,0,none⟩) (Lib.goFieldsP p s).length (Lib.goFieldsP p s).length)∧w.heap.size≤A ∧
      w'.ownsRow w.heap.size 9 1 (.slice (some ⟨A,0,none⟩) (Lib.goFieldsP p s).length (Lib.goFieldsP p s).length) (Lib.goFieldsP p s).length ((Lib.goFieldsP p s).map Value.string)∧Below w.heap.size w w':=Any.strings_FieldsFunc_grows Tryd.lays229 g lb eg p s w hs hp (by kernel_rfl) (by kernel_rfl)
end Go.Proofs
