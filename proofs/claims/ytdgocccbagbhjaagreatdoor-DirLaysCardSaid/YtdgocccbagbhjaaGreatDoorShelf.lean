/- The kit's contract of strings.Repeat at this program: laid by the kit's own commands (lay-shelf, lay-plain; shelf.sh). -/
import Derived.Shelf.Strings.Trim
import Derived.Shelf.Strings.Search1
import Derived.Shelf.Strings.Search2
import Derived.Shelf.Strings.Search3
import Derived.Ground.GgsProg
import Derived.Shelf.GgSortFunc.Insertion
import Derived.Shelf.GgSortFunc.Small
import Derived.Shelf.GgSortFunc.InsertionK
import Derived.Shelf.GgSortFunc.SmallK
import Derived.Shelf.GgSortFunc.Tiny
import Derived.Shelf.GgSortFunc.Compose
import Derived.Shelf.GgSortFunc.LotD
import Derived.Shelf.GgSortFunc.Pivot
import Derived.Shelf.GgSortFunc.Partition
import Derived.Shelf.GgSortFunc.Pdq
import Derived.Shelf.GgSortFunc.Whole
import Derived.Shelf.Strings.Repeat
import Derived.Test.YtdgocccbagbhjaaGreatDoorProg
namespace Go.Proofs
open Go.Shelf
def Tryz.lays231_ren:Go.Shelf.Ren:=⟨fun | 231=>48 | n=>n,fun | 9=>9 | 5=>5 | 3=>3 | 4=>4 | n=>n,fun | n=>n⟩
def Tryz.lays232_ren:Go.Shelf.Ren:=⟨fun | 232=>49 | n=>n,fun | 9=>9 | 5=>5 | 3=>3 | 4=>4 | n=>n,fun | n=>n⟩
def Tryz.lays162_ren:Go.Shelf.Ren:=⟨fun | 162=>46 | 232=>49 | 227=>50 | 234=>52 | 236=>54 | 228=>79 | 271=>82 | 151=>81 | 120=>116 | 197=>80 | 152=>115 | 260=>114 | 137=>33 | 119=>126 | 224=>112 | 225=>111 | 217=>59 | 266=>100 | n=>n,fun | 9=>9 | 4=>4 | 3=>3 | 5=>5 | 117=>72 | 116=>71 | 0=>0 | 124=>75 | 21=>21 | 105=>111 | 46=>68 | 119=>146 | 139=>149 | 138=>148 | n=>n,fun | 3=>1 | 4=>2 | n=>n⟩
theorem Tryz.lays162:Go.Proofs.Lays.n162 Tryz.prog Tryz.lays162_ren:={
 mixed:=by kernel_rfl
 f119:=Tryz.func126.trans (congrArg some (by kernel_rfl))
 f120:=Tryz.func116.trans (congrArg some (by kernel_rfl))
 f137:=Tryz.func33.trans (congrArg some (by kernel_rfl))
 f151:=Tryz.func81.trans (congrArg some (by kernel_rfl))
 f152:=Tryz.func115.trans (congrArg some (by kernel_rfl))
 f162:=Tryz.func46.trans (congrArg some (by kernel_rfl))
 f197:=Tryz.func80.trans (congrArg some (by kernel_rfl))
 f217:=Tryz.func59.trans (congrArg some (by kernel_rfl))
 f224:=Tryz.func112.trans (congrArg some (by kernel_rfl))
 f225:=Tryz.func111.trans (congrArg some (by kernel_rfl))
 f227:=Tryz.func50.trans (congrArg some (by kernel_rfl))
 f228:=Tryz.func79.trans (congrArg some (by kernel_rfl))
 f232:=Tryz.func49.trans (congrArg some (by kernel_rfl))
 f234:=Tryz.func52.trans (congrArg some (by kernel_rfl))
 f236:=Tryz.func54.trans (congrArg some (by kernel_rfl))
 f260:=Tryz.func114.trans (congrArg some (by kernel_rfl))
 f266:=Tryz.func100.trans (congrArg some (by kernel_rfl))
 f271:=Tryz.func82.trans (congrArg some (by kernel_rfl))
 t0:=Tryz.underlying0
 a0:=Tryz.isAgg0
 z0:=Tryz.sizeOf0
 v0:=Tryz.zeroValue0
 t3:=Tryz.underlying3
 a3:=Tryz.isAgg3
 z3:=Tryz.sizeOf3
 v3:=Tryz.zeroValue3
 t4:=Tryz.underlying4
 a4:=Tryz.isAgg4
 z4:=Tryz.sizeOf4
 v4:=Tryz.zeroValue4
 t5:=Tryz.underlying5
 a5:=Tryz.isAgg5
 z5:=Tryz.sizeOf5
 v5:=Tryz.zeroValue5
 t9:=Tryz.underlying9
 a9:=Tryz.isAgg9
 z9:=Tryz.sizeOf9
 v9:=Tryz.zeroValue9
 t21:=Tryz.underlying21
 a21:=Tryz.isAgg21
 z21:=Tryz.sizeOf21
 v21:=Tryz.zeroValue21
 t46:=Tryz.underlying68
 a46:=Tryz.isAgg68
 z46:=Tryz.sizeOf68
 v46:=Tryz.zeroValue68
 t105:=Tryz.underlying111
 a105:=Tryz.isAgg111
 z105:=Tryz.sizeOf111
 v105:=Tryz.zeroValue111
 t116:=Tryz.underlying71
 a116:=Tryz.isAgg71
 z116:=Tryz.sizeOf71
 t117:=Tryz.underlying72
 a117:=Tryz.isAgg72
 z117:=Tryz.sizeOf72
 v117:=Tryz.zeroValue72
 t119:=Tryz.underlying146
 a119:=Tryz.isAgg146
 z119:=Tryz.sizeOf146
 t124:=Tryz.underlying75
 a124:=Tryz.isAgg75
 z124:=Tryz.sizeOf75
 v124:=Tryz.zeroValue75
 t138:=Tryz.underlying148
 a138:=Tryz.isAgg148
 z138:=Tryz.sizeOf148
 v138:=Tryz.zeroValue148
 t139:=Tryz.underlying149
 a139:=Tryz.isAgg149
 z139:=Tryz.sizeOf149
 v139:=Tryz.zeroValue149
 g3:=by kernel_rfl
 g4:=by kernel_rfl }
open Go.RowKit in
theorem Tryz.strings_TrimRight_one (s:ByteArray) (c:UInt8) (hc:c.toNat<128) (w:World) (hs:s.size≤9223372036854775807) :
    Calls Tryz.prog 46 #[.string s,.string ⟨#[c]⟩] w fun e w'=>e=.returned (.string ⟨(Lib.trimRightB s.data.toList c).toArray⟩)∧w'=w:=Any.strings_TrimRight_one Tryz.lays162 s c hc w hs
def Tryz.lays160_ren:Go.Shelf.Ren:=⟨fun | 160=>28 | 232=>49 | 231=>48 | 227=>50 | 234=>52 | 233=>51 | 236=>54 | 235=>53 | 228=>79 | 271=>82 | 151=>81 | 197=>80 | 120=>116 | 152=>115 | 260=>114 | 137=>33 | 119=>126 | 224=>112 | 225=>111 | 217=>59 | 266=>100 | n=>n,fun | 9=>9 | 4=>4 | 3=>3 | 5=>5 | 117=>72 | 116=>71 | 0=>0 | 124=>75 | 21=>21 | 105=>111 | 46=>68 | 119=>146 | 139=>149 | 138=>148 | n=>n,fun | 3=>1 | 4=>2 | n=>n⟩
theorem Tryz.lays160:Go.Proofs.Lays.n160 Tryz.prog Tryz.lays160_ren:={
 mixed:=by kernel_rfl
 f119:=Tryz.func126.trans (congrArg some (by kernel_rfl))
 f120:=Tryz.func116.trans (congrArg some (by kernel_rfl))
 f137:=Tryz.func33.trans (congrArg some (by kernel_rfl))
 f151:=Tryz.func81.trans (congrArg some (by kernel_rfl))
 f152:=Tryz.func115.trans (congrArg some (by kernel_rfl))
 f160:=Tryz.func28.trans (congrArg some (by kernel_rfl))
 f197:=Tryz.func80.trans (congrArg some (by kernel_rfl))
 f217:=Tryz.func59.trans (congrArg some (by kernel_rfl))
 f224:=Tryz.func112.trans (congrArg some (by kernel_rfl))
 f225:=Tryz.func111.trans (congrArg some (by kernel_rfl))
 f227:=Tryz.func50.trans (congrArg some (by kernel_rfl))
 f228:=Tryz.func79.trans (congrArg some (by kernel_rfl))
 f231:=Tryz.func48.trans (congrArg some (by kernel_rfl))
 f232:=Tryz.func49.trans (congrArg some (by kernel_rfl))
 f233:=Tryz.func51.trans (congrArg some (by kernel_rfl))
 f234:=Tryz.func52.trans (congrArg some (by kernel_rfl))
 f235:=Tryz.func53.trans (congrArg some (by kernel_rfl))
 f236:=Tryz.func54.trans (congrArg some (by kernel_rfl))
 f260:=Tryz.func114.trans (congrArg some (by kernel_rfl))
 f266:=Tryz.func100.trans (congrArg some (by kernel_rfl))
 f271:=Tryz.func82.trans (congrArg some (by kernel_rfl))
 t0:=Tryz.underlying0
 a0:=Tryz.isAgg0
 z0:=Tryz.sizeOf0
 v0:=Tryz.zeroValue0
 t3:=Tryz.underlying3
 a3:=Tryz.isAgg3
 z3:=Tryz.sizeOf3
 v3:=Tryz.zeroValue3
 t4:=Tryz.underlying4
 a4:=Tryz.isAgg4
 z4:=Tryz.sizeOf4
 v4:=Tryz.zeroValue4
 t5:=Tryz.underlying5
 a5:=Tryz.isAgg5
 z5:=Tryz.sizeOf5
 v5:=Tryz.zeroValue5
 t9:=Tryz.underlying9
 a9:=Tryz.isAgg9
 z9:=Tryz.sizeOf9
 v9:=Tryz.zeroValue9
 t21:=Tryz.underlying21
 a21:=Tryz.isAgg21
 z21:=Tryz.sizeOf21
 v21:=Tryz.zeroValue21
 t46:=Tryz.underlying68
 a46:=Tryz.isAgg68
 z46:=Tryz.sizeOf68
 v46:=Tryz.zeroValue68
 t105:=Tryz.underlying111
 a105:=Tryz.isAgg111
 z105:=Tryz.sizeOf111
 v105:=Tryz.zeroValue111
 t116:=Tryz.underlying71
 a116:=Tryz.isAgg71
 z116:=Tryz.sizeOf71
 t117:=Tryz.underlying72
 a117:=Tryz.isAgg72
 z117:=Tryz.sizeOf72
 v117:=Tryz.zeroValue72
 t119:=Tryz.underlying146
 a119:=Tryz.isAgg146
 z119:=Tryz.sizeOf146
 t124:=Tryz.underlying75
 a124:=Tryz.isAgg75
 z124:=Tryz.sizeOf75
 v124:=Tryz.zeroValue75
 t138:=Tryz.underlying148
 a138:=Tryz.isAgg148
 z138:=Tryz.sizeOf148
 v138:=Tryz.zeroValue148
 t139:=Tryz.underlying149
 a139:=Tryz.isAgg149
 z139:=Tryz.sizeOf149
 v139:=Tryz.zeroValue149
 g3:=by kernel_rfl
 g4:=by kernel_rfl }
open Go.RowKit in
theorem Tryz.strings_Trim_one (s:ByteArray) (c:UInt8) (hc:c.toNat<128) (w:World) (hs:s.size≤9223372036854775807) :
    Calls Tryz.prog 28 #[.string s,.string ⟨#[c]⟩] w fun e w'=>e=.returned (.string ⟨(Lib.trimB s.data.toList c).toArray⟩)∧(w'=w∨w'=w.drew):=Any.strings_Trim_one Tryz.lays160 s c hc w hs
def Tryz.lays217_ren:Go.Shelf.Ren:=⟨fun | 217=>59 | 266=>100 | n=>n,fun | 9=>9 | 5=>5 | 3=>3 | n=>n,fun | n=>n⟩
theorem Tryz.lays217:Go.Proofs.Lays.n217 Tryz.prog Tryz.lays217_ren:={
 mixed:=by kernel_rfl
 f217:=Tryz.func59.trans (congrArg some (by kernel_rfl))
 f266:=Tryz.func100.trans (congrArg some (by kernel_rfl))
 t3:=Tryz.underlying3
 a3:=Tryz.isAgg3
 z3:=Tryz.sizeOf3
 v3:=Tryz.zeroValue3
 t5:=Tryz.underlying5
 a5:=Tryz.isAgg5
 z5:=Tryz.sizeOf5
 v5:=Tryz.zeroValue5
 t9:=Tryz.underlying9
 a9:=Tryz.isAgg9
 z9:=Tryz.sizeOf9
 v9:=Tryz.zeroValue9 }
open Go.RowKit Go.Lib in
theorem Tryz.stringslite_IndexByte (s:ByteArray) (c:Int) (w:World) :
    Calls Tryz.prog 59 #[.string s,.int .u8 c] w fun e w'=>e=.returned (.int .i64 (Lib.indexByte s.data.toList c.toNat.toUInt8))∧w'=w:=Any.stringslite_IndexByte Tryz.lays217 s c w
def Tryz.lays224_ren:Go.Shelf.Ren:=⟨fun | 224=>112 | n=>n,fun | 3=>3 | n=>n,fun | n=>n⟩
def Tryz.lays314_ren:Go.Shelf.Ren:=⟨fun | 314=>125 | n=>n,fun | 9=>9 | 51=>107 | 3=>3 | 4=>4 | 5=>5 | 46=>68 | n=>n,fun | n=>n⟩
def Tryz.lays267_ren:Go.Shelf.Ren:=⟨fun | 267=>113 | 314=>125 | n=>n,fun | 9=>9 | 3=>3 | 146=>124 | 51=>107 | 4=>4 | 5=>5 | 46=>68 | n=>n,fun | n=>n⟩
def Tryz.lays219_ren:Go.Shelf.Ren:=⟨fun | 219=>78 | 217=>59 | 225=>111 | 224=>112 | 267=>113 | 266=>100 | 314=>125 | n=>n,fun | 9=>9 | 3=>3 | 4=>4 | 5=>5 | 46=>68 | 146=>124 | 51=>107 | n=>n,fun | 1=>0 | n=>n⟩
theorem Tryz.lays219:Go.Proofs.Lays.n219 Tryz.prog Tryz.lays219_ren:={
 mixed:=by kernel_rfl
 f217:=Tryz.func59.trans (congrArg some (by kernel_rfl))
 f219:=Tryz.func78.trans (congrArg some (by kernel_rfl))
 f224:=Tryz.func112.trans (congrArg some (by kernel_rfl))
 f225:=Tryz.func111.trans (congrArg some (by kernel_rfl))
 f266:=Tryz.func100.trans (congrArg some (by kernel_rfl))
 f267:=Tryz.func113.trans (congrArg some (by kernel_rfl))
 f314:=Tryz.func125.trans (congrArg some (by kernel_rfl))
 t3:=Tryz.underlying3
 a3:=Tryz.isAgg3
 z3:=Tryz.sizeOf3
 v3:=Tryz.zeroValue3
 t4:=Tryz.underlying4
 a4:=Tryz.isAgg4
 z4:=Tryz.sizeOf4
 v4:=Tryz.zeroValue4
 t5:=Tryz.underlying5
 a5:=Tryz.isAgg5
 z5:=Tryz.sizeOf5
 v5:=Tryz.zeroValue5
 t9:=Tryz.underlying9
 a9:=Tryz.isAgg9
 z9:=Tryz.sizeOf9
 v9:=Tryz.zeroValue9
 t46:=Tryz.underlying68
 a46:=Tryz.isAgg68
 z46:=Tryz.sizeOf68
 v46:=Tryz.zeroValue68
 t51:=Tryz.underlying107
 a51:=Tryz.isAgg107
 z51:=Tryz.sizeOf107
 v51:=Tryz.zeroValue107
 t146:=Tryz.underlying124
 a146:=Tryz.isAgg124
 z146:=Tryz.sizeOf124
 v146:=Tryz.zeroValue124
 g1:=by kernel_rfl }
open Go.RowKit Go.Lib in
theorem Tryz.stringslite_Index_one (s:ByteArray) (c:UInt8) (w:World) :
    Calls Tryz.prog 78 #[.string s,.string ⟨#[c]⟩] w fun e w'=>e=.returned (.int .i64 (Lib.indexByte s.data.toList c))∧w'=w:=Any.stringslite_Index_one Tryz.lays219 s c w
def Tryz.lays143_ren:Go.Shelf.Ren:=⟨fun | 143=>60 | 219=>78 | 217=>59 | 225=>111 | 224=>112 | 267=>113 | 266=>100 | 314=>125 | n=>n,fun | 9=>9 | 3=>3 | 4=>4 | 5=>5 | 46=>68 | 146=>124 | 51=>107 | n=>n,fun | 1=>0 | n=>n⟩
theorem Tryz.lays143:Go.Proofs.Lays.n143 Tryz.prog Tryz.lays143_ren:={
 mixed:=by kernel_rfl
 f143:=Tryz.func60.trans (congrArg some (by kernel_rfl))
 f217:=Tryz.func59.trans (congrArg some (by kernel_rfl))
 f219:=Tryz.func78.trans (congrArg some (by kernel_rfl))
 f224:=Tryz.func112.trans (congrArg some (by kernel_rfl))
 f225:=Tryz.func111.trans (congrArg some (by kernel_rfl))
 f266:=Tryz.func100.trans (congrArg some (by kernel_rfl))
 f267:=Tryz.func113.trans (congrArg some (by kernel_rfl))
 f314:=Tryz.func125.trans (congrArg some (by kernel_rfl))
 t3:=Tryz.underlying3
 a3:=Tryz.isAgg3
 z3:=Tryz.sizeOf3
 v3:=Tryz.zeroValue3
 t4:=Tryz.underlying4
 a4:=Tryz.isAgg4
 z4:=Tryz.sizeOf4
 v4:=Tryz.zeroValue4
 t5:=Tryz.underlying5
 a5:=Tryz.isAgg5
 z5:=Tryz.sizeOf5
 v5:=Tryz.zeroValue5
 t9:=Tryz.underlying9
 a9:=Tryz.isAgg9
 z9:=Tryz.sizeOf9
 v9:=Tryz.zeroValue9
 t46:=Tryz.underlying68
 a46:=Tryz.isAgg68
 z46:=Tryz.sizeOf68
 v46:=Tryz.zeroValue68
 t51:=Tryz.underlying107
 a51:=Tryz.isAgg107
 z51:=Tryz.sizeOf107
 v51:=Tryz.zeroValue107
 t146:=Tryz.underlying124
 a146:=Tryz.isAgg124
 z146:=Tryz.sizeOf124
 v146:=Tryz.zeroValue124
 g1:=by kernel_rfl }
open Go.RowKit Go.Lib in
theorem Tryz.strings_Index_one (s:ByteArray) (c:UInt8) (w:World) :
    Calls Tryz.prog 60 #[.string s,.string ⟨#[c]⟩] w fun e w'=>e=.returned (.int .i64 (Lib.indexByte s.data.toList c))∧w'=w:=Any.strings_Index_one Tryz.lays143 s c w
def Tryz.lays144_ren:Go.Shelf.Ren:=⟨fun | 144=>34 | 143=>60 | 219=>78 | 217=>59 | 225=>111 | 224=>112 | 267=>113 | 266=>100 | 314=>125 | n=>n,fun | 9=>9 | 4=>4 | 3=>3 | 5=>5 | 46=>68 | 146=>124 | 51=>107 | n=>n,fun | 1=>0 | n=>n⟩
def Tryz.laysGg26_ren:Go.Shelf.Ren:=⟨fun | 26=>92 | n=>n,fun | 44=>86 | 3=>3 | 0=>0 | 4=>4 | 26=>56 | 37=>81 | n=>n,fun | n=>n⟩
def Tryz.laysGg14_ren:Go.Shelf.Ren:=⟨fun | 14=>58 | 26=>92 | 27=>93 | 28=>94 | 29=>95 | 30=>96 | 31=>97 | 32=>98 | 33=>99 | 34=>117 | 35=>118 | 36=>119 | 37=>120 | 38=>121 | 13=>44 | 39=>127 | 24=>76 | 25=>77 | n=>n,fun | 44=>86 | 3=>3 | 0=>0 | 4=>4 | 54=>119 | 53=>118 | 26=>56 | 58=>104 | 37=>81 | 60=>137 | 41=>68 | 51=>109 | 64=>133 | 66=>151 | 67=>143 | 49=>107 | 5=>5 | 9=>9 | n=>n,fun | n=>n⟩
def Tryz.laysGg6_ren:Go.Shelf.Ren:=⟨fun | 6=>29 | 10=>55 | 11=>56 | 12=>57 | 13=>44 | 14=>58 | 24=>76 | 25=>77 | 26=>92 | 27=>93 | 28=>94 | 29=>95 | 30=>96 | 31=>97 | 32=>98 | 33=>99 | 34=>117 | 35=>118 | 36=>119 | 37=>120 | 38=>121 | 39=>127 | n=>n,fun | 20=>20 | 26=>56 | 35=>79 | 0=>0 | 37=>81 | 3=>3 | 41=>68 | 44=>86 | 49=>107 | 51=>109 | 4=>4 | 54=>119 | 53=>118 | 58=>104 | 5=>5 | 9=>9 | 60=>137 | 64=>133 | 66=>151 | 67=>143 | 17=>17 | 32=>76 | 33=>77 | 82=>164 | 12=>12 | 75=>158 | 76=>159 | 77=>160 | 78=>128 | 79=>161 | 80=>162 | n=>n,fun | n=>n⟩
theorem Tryz.laysGg6:Go.Proofs.LaysGg.n6 Tryz.prog Tryz.laysGg6_ren:={
 mixed:=by kernel_rfl
 f6:=Tryz.func29.trans (congrArg some (by kernel_rfl))
 f10:=Tryz.func55.trans (congrArg some (by kernel_rfl))
 f11:=Tryz.func56.trans (congrArg some (by kernel_rfl))
 f12:=Tryz.func57.trans (congrArg some (by kernel_rfl))
 f13:=Tryz.func44.trans (congrArg some (by kernel_rfl))
 f14:=Tryz.func58.trans (congrArg some (by kernel_rfl))
 f24:=Tryz.func76.trans (congrArg some (by kernel_rfl))
 f25:=Tryz.func77.trans (congrArg some (by kernel_rfl))
 f26:=Tryz.func92.trans (congrArg some (by kernel_rfl))
 f27:=Tryz.func93.trans (congrArg some (by kernel_rfl))
 f28:=Tryz.func94.trans (congrArg some (by kernel_rfl))
 f29:=Tryz.func95.trans (congrArg some (by kernel_rfl))
 f30:=Tryz.func96.trans (congrArg some (by kernel_rfl))
 f31:=Tryz.func97.trans (congrArg some (by kernel_rfl))
 f32:=Tryz.func98.trans (congrArg some (by kernel_rfl))
 f33:=Tryz.func99.trans (congrArg some (by kernel_rfl))
 f34:=Tryz.func117.trans (congrArg some (by kernel_rfl))
 f35:=Tryz.func118.trans (congrArg some (by kernel_rfl))
 f36:=Tryz.func119.trans (congrArg some (by kernel_rfl))
 f37:=Tryz.func120.trans (congrArg some (by kernel_rfl))
 f38:=Tryz.func121.trans (congrArg some (by kernel_rfl))
 f39:=Tryz.func127.trans (congrArg some (by kernel_rfl))
 t0:=Tryz.underlying0
 a0:=Tryz.isAgg0
 z0:=Tryz.sizeOf0
 v0:=Tryz.zeroValue0
 i0:=by kernel_rfl
 t3:=Tryz.underlying3
 a3:=Tryz.isAgg3
 z3:=Tryz.sizeOf3
 v3:=Tryz.zeroValue3
 i3:=by kernel_rfl
 t4:=Tryz.underlying4
 a4:=Tryz.isAgg4
 z4:=Tryz.sizeOf4
 v4:=Tryz.zeroValue4
 i4:=by kernel_rfl
 t5:=Tryz.underlying5
 a5:=Tryz.isAgg5
 z5:=Tryz.sizeOf5
 v5:=Tryz.zeroValue5
 i5:=by kernel_rfl
 t9:=Tryz.underlying9
 a9:=Tryz.isAgg9
 z9:=Tryz.sizeOf9
 v9:=Tryz.zeroValue9
 i9:=by kernel_rfl
 t12:=Tryz.underlying12
 a12:=Tryz.isAgg12
 z12:=Tryz.sizeOf12
 v12:=Tryz.zeroValue12
 i12:=by kernel_rfl
 t17:=Tryz.underlying17
 a17:=Tryz.isAgg17
 z17:=Tryz.sizeOf17
 v17:=Tryz.zeroValue17
 i17:=by kernel_rfl
 t20:=Tryz.underlying20
 a20:=Tryz.isAgg20
 z20:=Tryz.sizeOf20
 v20:=Tryz.zeroValue20
 i20:=by kernel_rfl
 t26:=Tryz.underlying56
 a26:=Tryz.isAgg56
 z26:=Tryz.sizeOf56
 v26:=Tryz.zeroValue56
 i26:=by kernel_rfl
 t32:=Tryz.underlying76
 a32:=Tryz.isAgg76
 z32:=Tryz.sizeOf76
 v32:=Tryz.zeroValue76
 i32:=by kernel_rfl
 t33:=Tryz.underlying77
 a33:=Tryz.isAgg77
 z33:=Tryz.sizeOf77
 v33:=Tryz.zeroValue77
 i33:=by kernel_rfl
 t35:=Tryz.underlying79
 a35:=Tryz.isAgg79
 z35:=Tryz.sizeOf79
 v35:=Tryz.zeroValue79
 i35:=by kernel_rfl
 t37:=Tryz.underlying81
 a37:=Tryz.isAgg81
 z37:=Tryz.sizeOf81
 v37:=Tryz.zeroValue81
 i37:=by kernel_rfl
 t41:=Tryz.underlying68
 a41:=Tryz.isAgg68
 z41:=Tryz.sizeOf68
 v41:=Tryz.zeroValue68
 i41:=by kernel_rfl
 t44:=Tryz.underlying86
 a44:=Tryz.isAgg86
 z44:=Tryz.sizeOf86
 v44:=Tryz.zeroValue86
 i44:=by kernel_rfl
 t49:=Tryz.underlying107
 a49:=Tryz.isAgg107
 z49:=Tryz.sizeOf107
 v49:=Tryz.zeroValue107
 i49:=by kernel_rfl
 t51:=Tryz.underlying109
 a51:=Tryz.isAgg109
 z51:=Tryz.sizeOf109
 v51:=Tryz.zeroValue109
 i51:=by kernel_rfl
 t53:=Tryz.underlying118
 a53:=Tryz.isAgg118
 z53:=Tryz.sizeOf118
 v53:=Tryz.zeroValue118
 i53:=by kernel_rfl
 t54:=Tryz.underlying119
 a54:=Tryz.isAgg119
 z54:=Tryz.sizeOf119
 v54:=Tryz.zeroValue119
 i54:=by kernel_rfl
 t58:=Tryz.underlying104
 a58:=Tryz.isAgg104
 z58:=Tryz.sizeOf104
 v58:=Tryz.zeroValue104
 i58:=by kernel_rfl
 t60:=Tryz.underlying137
 a60:=Tryz.isAgg137
 z60:=Tryz.sizeOf137
 v60:=Tryz.zeroValue137
 i60:=by kernel_rfl
 t64:=Tryz.underlying133
 a64:=Tryz.isAgg133
 z64:=Tryz.sizeOf133
 v64:=Tryz.zeroValue133
 i64:=by kernel_rfl
 t66:=Tryz.underlying151
 a66:=Tryz.isAgg151
 z66:=Tryz.sizeOf151
 v66:=Tryz.zeroValue151
 i66:=by kernel_rfl
 t67:=Tryz.underlying143
 a67:=Tryz.isAgg143
 z67:=Tryz.sizeOf143
 v67:=Tryz.zeroValue143
 i67:=by kernel_rfl
 t75:=Tryz.underlying158
 a75:=Tryz.isAgg158
 z75:=Tryz.sizeOf158
 v75:=Tryz.zeroValue158
 i75:=by kernel_rfl
 t76:=Tryz.underlying159
 a76:=Tryz.isAgg159
 z76:=Tryz.sizeOf159
 v76:=Tryz.zeroValue159
 i76:=by kernel_rfl
 t77:=Tryz.underlying160
 a77:=Tryz.isAgg160
 z77:=Tryz.sizeOf160
 v77:=Tryz.zeroValue160
 i77:=by kernel_rfl
 t78:=Tryz.underlying128
 a78:=Tryz.isAgg128
 z78:=Tryz.sizeOf128
 v78:=Tryz.zeroValue128
 i78:=by kernel_rfl
 t79:=Tryz.underlying161
 a79:=Tryz.isAgg161
 z79:=Tryz.sizeOf161
 v79:=Tryz.zeroValue161
 i79:=by kernel_rfl
 t80:=Tryz.underlying162
 a80:=Tryz.isAgg162
 z80:=Tryz.sizeOf162
 v80:=Tryz.zeroValue162
 i80:=by kernel_rfl
 t82:=Tryz.underlying164
 a82:=Tryz.isAgg164
 z82:=Tryz.sizeOf164
 v82:=Tryz.zeroValue164
 i82:=by kernel_rfl }
def Tryz.laysGg30_ren:Go.Shelf.Ren:=⟨fun | 30=>96 | n=>n,fun | 44=>86 | 3=>3 | 0=>0 | 4=>4 | 37=>81 | 26=>56 | n=>n,fun | n=>n⟩
def Tryz.laysGg39_ren:Go.Shelf.Ren:=⟨fun | 39=>127 | n=>n,fun | 44=>86 | 3=>3 | 64=>133 | 0=>0 | 26=>56 | 4=>4 | 37=>81 | n=>n,fun | n=>n⟩
def Tryz.laysGg38_ren:Go.Shelf.Ren:=⟨fun | 38=>121 | 39=>127 | n=>n,fun | 44=>86 | 3=>3 | 64=>133 | 0=>0 | 67=>143 | 26=>56 | 4=>4 | 37=>81 | n=>n,fun | n=>n⟩
def Tryz.laysGg37_ren:Go.Shelf.Ren:=⟨fun | 37=>120 | 38=>121 | 39=>127 | n=>n,fun | 44=>86 | 3=>3 | 64=>133 | 0=>0 | 67=>143 | 26=>56 | 4=>4 | 37=>81 | n=>n,fun | n=>n⟩
def Tryz.laysGg29_ren:Go.Shelf.Ren:=⟨fun | 29=>95 | 37=>120 | 38=>121 | 39=>127 | n=>n,fun | 44=>86 | 3=>3 | 53=>118 | 0=>0 | 4=>4 | 64=>133 | 67=>143 | 26=>56 | 37=>81 | n=>n,fun | n=>n⟩
def Tryz.laysGg32_ren:Go.Shelf.Ren:=⟨fun | 32=>98 | n=>n,fun | 44=>86 | 3=>3 | 0=>0 | 37=>81 | 4=>4 | 26=>56 | n=>n,fun | n=>n⟩
def Tryz.laysGg33_ren:Go.Shelf.Ren:=⟨fun | 33=>99 | n=>n,fun | 44=>86 | 3=>3 | 4=>4 | 0=>0 | 37=>81 | 26=>56 | n=>n,fun | n=>n⟩
def Tryz.lays105_ren:Go.Shelf.Ren:=⟨fun | 105=>37 | 212=>62 | 99=>63 | 165=>64 | 166=>65 | 170=>66 | 169=>67 | 263=>101 | 264=>102 | 206=>103 | 240=>104 | 241=>105 | 276=>122 | 277=>123 | n=>n,fun | 9=>9 | 3=>3 | 4=>4 | 20=>20 | 0=>0 | 46=>68 | 109=>88 | 5=>5 | 72=>92 | 76=>95 | 51=>107 | 146=>124 | 53=>109 | 148=>126 | 70=>90 | 37=>23 | 75=>94 | 127=>128 | 164=>76 | 80=>97 | n=>n,fun | n=>n⟩
theorem Tryz.lays105:Go.Proofs.Lays.n105 Tryz.prog Tryz.lays105_ren:={
 mixed:=by kernel_rfl
 f99:=Tryz.func63.trans (congrArg some (by kernel_rfl))
 f105:=Tryz.func37.trans (congrArg some (by kernel_rfl))
 f165:=Tryz.func64.trans (congrArg some (by kernel_rfl))
 f166:=Tryz.func65.trans (congrArg some (by kernel_rfl))
 f169:=Tryz.func67.trans (congrArg some (by kernel_rfl))
 f170:=Tryz.func66.trans (congrArg some (by kernel_rfl))
 f206:=Tryz.func103.trans (congrArg some (by kernel_rfl))
 f212:=Tryz.func62.trans (congrArg some (by kernel_rfl))
 f240:=Tryz.func104.trans (congrArg some (by kernel_rfl))
 f241:=Tryz.func105.trans (congrArg some (by kernel_rfl))
 f263:=Tryz.func101.trans (congrArg some (by kernel_rfl))
 f264:=Tryz.func102.trans (congrArg some (by kernel_rfl))
 f276:=Tryz.func122.trans (congrArg some (by kernel_rfl))
 f277:=Tryz.func123.trans (congrArg some (by kernel_rfl))
 t0:=Tryz.underlying0
 a0:=Tryz.isAgg0
 z0:=Tryz.sizeOf0
 v0:=Tryz.zeroValue0
 t3:=Tryz.underlying3
 a3:=Tryz.isAgg3
 z3:=Tryz.sizeOf3
 v3:=Tryz.zeroValue3
 t4:=Tryz.underlying4
 a4:=Tryz.isAgg4
 z4:=Tryz.sizeOf4
 v4:=Tryz.zeroValue4
 t5:=Tryz.underlying5
 a5:=Tryz.isAgg5
 z5:=Tryz.sizeOf5
 v5:=Tryz.zeroValue5
 t9:=Tryz.underlying9
 a9:=Tryz.isAgg9
 z9:=Tryz.sizeOf9
 v9:=Tryz.zeroValue9
 t20:=Tryz.underlying20
 a20:=Tryz.isAgg20
 z20:=Tryz.sizeOf20
 v20:=Tryz.zeroValue20
 t37:=Tryz.underlying23
 a37:=Tryz.isAgg23
 z37:=Tryz.sizeOf23
 v37:=Tryz.zeroValue23
 t46:=Tryz.underlying68
 a46:=Tryz.isAgg68
 z46:=Tryz.sizeOf68
 v46:=Tryz.zeroValue68
 t51:=Tryz.underlying107
 a51:=Tryz.isAgg107
 z51:=Tryz.sizeOf107
 v51:=Tryz.zeroValue107
 t53:=Tryz.underlying109
 a53:=Tryz.isAgg109
 z53:=Tryz.sizeOf109
 v53:=Tryz.zeroValue109
 t70:=Tryz.underlying90
 a70:=Tryz.isAgg90
 z70:=Tryz.sizeOf90
 v70:=Tryz.zeroValue90
 t72:=Tryz.underlying92
 a72:=Tryz.isAgg92
 z72:=Tryz.sizeOf92
 v72:=Tryz.zeroValue92
 t75:=Tryz.underlying94
 a75:=Tryz.isAgg94
 z75:=Tryz.sizeOf94
 v75:=Tryz.zeroValue94
 t76:=Tryz.underlying95
 a76:=Tryz.isAgg95
 z76:=Tryz.sizeOf95
 v76:=Tryz.zeroValue95
 t109:=Tryz.underlying88
 a109:=Tryz.isAgg88
 z109:=Tryz.sizeOf88
 v109:=Tryz.zeroValue88
 t127:=Tryz.underlying128
 a127:=Tryz.isAgg128
 z127:=Tryz.sizeOf128
 v127:=Tryz.zeroValue128
 t146:=Tryz.underlying124
 a146:=Tryz.isAgg124
 z146:=Tryz.sizeOf124
 v146:=Tryz.zeroValue124
 t148:=Tryz.underlying126
 a148:=Tryz.isAgg126
 z148:=Tryz.sizeOf126
 v148:=Tryz.zeroValue126
 t164:=Tryz.underlying76
 a164:=Tryz.isAgg76
 z164:=Tryz.sizeOf76
 v164:=Tryz.zeroValue76 }
theorem Tryz.Builder_Extra_105:Builder.Extra Tryz.prog Tryz.lays105_ren:={
 sizeBuilder:=by kernel_rfl
 liesBuilder:=by kernel_rfl
 t5:=Tryz.underlying5
 a5:=Tryz.isAgg5
 z5:=Tryz.sizeOf5
 v5:=Tryz.zeroValue5
 infoByte:=by kernel_rfl
 cellsByte:=by kernel_rfl
 sizeByte:=by kernel_rfl
 neB5:=by decide }
open Go.RowKit Go.Lib in
theorem Tryz.strings_Repeat (s:ByteArray) (c:Nat) (w:World) (hc:c≤9223372036854775807) (hlen:s.size*c≤140737488355328) :
    Calls Tryz.prog 37 #[.string s,.int .i64 c] w fun e w'=>e=.returned (.string ⟨(Lib.repeatL s.data.toList c).toArray⟩)∧Below w.heap.size w w':=Any.strings_Repeat Tryz.lays105 Tryz.Builder_Extra_105 s c w hc hlen
end Go.Proofs
