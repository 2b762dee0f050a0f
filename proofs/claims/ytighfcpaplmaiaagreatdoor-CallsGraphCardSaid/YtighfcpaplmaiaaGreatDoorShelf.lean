/- The library's contracts at this program, as the kit's shelf lays them. -/
import Derived.Shelf.Small.Bits
import Derived.Shelf.Small.Strs
import Derived.Shelf.Strconv.Itoa0
import Derived.Shelf.Strings.Search1
import Derived.Shelf.Sort.Plain
import Derived.Ground.GgsProg
import Derived.Shelf.GgSortFunc.Insertion
import Derived.Shelf.GgSortFunc.Small
import Derived.Shelf.GgSortFunc.InsertionK
import Derived.Shelf.GgSortFunc.SmallK
import Derived.Shelf.GgSortFunc.Tiny
import Derived.Shelf.GgSortFunc.Compose
import Derived.Shelf.GgSortFunc.LotD
import Derived.Shelf.Strings.Prefix
import Derived.Shelf.Slices.In.SortNone
import Derived.Shelf.Slices.In.SortNone2
import Derived.Shelf.SlSortFunc.Xorshift
import Derived.Shelf.SlSortFuncK.ComposeK
import Derived.Shelf.SlSortFuncK.SiftDownK
import Derived.Shelf.SlSortFuncK.HeapSortK
import Derived.Shelf.SlSortFuncK.PartialInsertionK
import Derived.Shelf.SlSortFuncK.LotDK
import Derived.Shelf.SlSortFuncK.PivotK
import Derived.Shelf.SlSortFuncK.PartitionK
import Derived.Test.YtighfcpaplmaiaaGreatDoorProg
namespace Go.Proofs
open Go.Shelf
def Tryz.lays137_ren:Go.Shelf.Ren:=⟨fun | 137=>252 | 217=>254 | 266=>255 | n=>n,fun | 9=>9 | 5=>5 | 3=>3 | n=>n,fun | n=>n⟩
theorem Tryz.lays137:Go.Proofs.Lays.n137 Tryz.prog Tryz.lays137_ren:={
 mixed:=by kernel_rfl
 f137:=Tryz.func252.trans (congrArg some (by kernel_rfl))
 f217:=Tryz.func254.trans (congrArg some (by kernel_rfl))
 f266:=Tryz.func255.trans (congrArg some (by kernel_rfl))
 t3:=Tryz.underlying3
 a3:=Tryz.isAgg3
 z3:=Tryz.sizeOf3
 v3:=Tryz.zeroValue3
 t5:=Tryz.underlying5
 a5:=Tryz.isAgg5
 z5:=Tryz.sizeOf5
 v5:=Tryz.zeroValue5
 t9:=Tryz.underlying9
 a9:=Tryz.isAgg9
 z9:=Tryz.sizeOf9
 v9:=Tryz.zeroValue9 }
open Go.RowKit in
theorem Tryz.strings_IndexByte(s:ByteArray)(c:Int)(w:World) :
  Calls Tryz.prog 252 #[.string s,.int .u8 c] w fun e w'=>e = .returned (.int .i64 (Lib.indexByte s.data.toList c.toNat.toUInt8))∧w'=w:=Any.strings_IndexByte Tryz.lays137 s c w
def Tryz.lays192_ren:Go.Shelf.Ren:=⟨fun | 192=>70 | 190=>99 | 125=>81 | 258=>157 | 128=>127 | 129=>128 | 302=>189 | 303=>190 | 304=>191 | 305=>192 | 306=>193 | 307=>194 | 308=>195 | 309=>196 | 310=>197 | 333=>213 | 329=>214 | 330=>215 | 334=>216 | 335=>217 | 336=>218 | 344=>227 | n=>n,fun | 31=>28 | 0=>0 | 9=>9 | 3=>3 | 46=>127 | 51=>177 | 53=>179 | 4=>4 | 183=>237 | 182=>236 | 131=>90 | 5=>5 | 218=>251 | 222=>223 | 228=>261 | 229=>244 | n=>n,fun | n=>n⟩
theorem Tryz.lays192:Go.Proofs.Lays.n192 Tryz.prog Tryz.lays192_ren:={
 mixed:=by kernel_rfl
 f125:=Tryz.func81.trans (congrArg some (by kernel_rfl))
 f128:=Tryz.func127.trans (congrArg some (by kernel_rfl))
 f129:=Tryz.func128.trans (congrArg some (by kernel_rfl))
 f190:=Tryz.func99.trans (congrArg some (by kernel_rfl))
 f192:=Tryz.func70.trans (congrArg some (by kernel_rfl))
 f258:=Tryz.func157.trans (congrArg some (by kernel_rfl))
 f302:=Tryz.func189.trans (congrArg some (by kernel_rfl))
 f303:=Tryz.func190.trans (congrArg some (by kernel_rfl))
 f304:=Tryz.func191.trans (congrArg some (by kernel_rfl))
 f305:=Tryz.func192.trans (congrArg some (by kernel_rfl))
 f306:=Tryz.func193.trans (congrArg some (by kernel_rfl))
 f307:=Tryz.func194.trans (congrArg some (by kernel_rfl))
 f308:=Tryz.func195.trans (congrArg some (by kernel_rfl))
 f309:=Tryz.func196.trans (congrArg some (by kernel_rfl))
 f310:=Tryz.func197.trans (congrArg some (by kernel_rfl))
 f329:=Tryz.func214.trans (congrArg some (by kernel_rfl))
 f330:=Tryz.func215.trans (congrArg some (by kernel_rfl))
 f333:=Tryz.func213.trans (congrArg some (by kernel_rfl))
 f334:=Tryz.func216.trans (congrArg some (by kernel_rfl))
 f335:=Tryz.func217.trans (congrArg some (by kernel_rfl))
 f336:=Tryz.func218.trans (congrArg some (by kernel_rfl))
 f344:=Tryz.func227.trans (congrArg some (by kernel_rfl))
 t0:=Tryz.underlying0
 a0:=Tryz.isAgg0
 z0:=Tryz.sizeOf0
 v0:=Tryz.zeroValue0
 t3:=Tryz.underlying3
 a3:=Tryz.isAgg3
 z3:=Tryz.sizeOf3
 v3:=Tryz.zeroValue3
 t4:=Tryz.underlying4
 a4:=Tryz.isAgg4
 z4:=Tryz.sizeOf4
 v4:=Tryz.zeroValue4
 t5:=Tryz.underlying5
 a5:=Tryz.isAgg5
 z5:=Tryz.sizeOf5
 v5:=Tryz.zeroValue5
 t9:=Tryz.underlying9
 a9:=Tryz.isAgg9
 z9:=Tryz.sizeOf9
 v9:=Tryz.zeroValue9
 t31:=Tryz.underlying28
 a31:=Tryz.isAgg28
 z31:=Tryz.sizeOf28
 v31:=Tryz.zeroValue28
 t46:=Tryz.underlying127
 a46:=Tryz.isAgg127
 z46:=Tryz.sizeOf127
 v46:=Tryz.zeroValue127
 t51:=Tryz.underlying177
 a51:=Tryz.isAgg177
 z51:=Tryz.sizeOf177
 v51:=Tryz.zeroValue177
 t53:=Tryz.underlying179
 a53:=Tryz.isAgg179
 z53:=Tryz.sizeOf179
 v53:=Tryz.zeroValue179
 t131:=Tryz.underlying90
 a131:=Tryz.isAgg90
 z131:=Tryz.sizeOf90
 v131:=Tryz.zeroValue90
 t182:=Tryz.underlying236
 a182:=Tryz.isAgg236
 z182:=Tryz.sizeOf236
 v182:=Tryz.zeroValue236
 t183:=Tryz.underlying237
 a183:=Tryz.isAgg237
 z183:=Tryz.sizeOf237
 v183:=Tryz.zeroValue237
 t218:=Tryz.underlying251
 a218:=Tryz.isAgg251
 z218:=Tryz.sizeOf251
 v218:=Tryz.zeroValue251
 t222:=Tryz.underlying223
 a222:=Tryz.isAgg223
 z222:=Tryz.sizeOf223
 v222:=Tryz.zeroValue223
 t228:=Tryz.underlying261
 a228:=Tryz.isAgg261
 z228:=Tryz.sizeOf261
 v228:=Tryz.zeroValue261
 t229:=Tryz.underlying244
 a229:=Tryz.isAgg244
 z229:=Tryz.sizeOf244
 v229:=Tryz.zeroValue244 }
def Tryz.laysGg6_ren:Go.Shelf.Ren:=⟨fun | 6=>43 | 10=>78 | 11=>79 | 12=>80 | 13=>81 | 14=>82 | 24=>127 | 25=>128 | 26=>129 | 27=>130 | 28=>131 | 29=>132 | 30=>133 | 31=>134 | 32=>135 | 33=>136 | 34=>175 | 35=>176 | 36=>177 | 37=>178 | 38=>179 | 39=>202 | n=>n,fun | 20=>20 | 26=>81 | 35=>121 | 0=>0 | 37=>123 | 3=>3 | 41=>127 | 44=>130 | 49=>177 | 51=>179 | 4=>4 | 54=>182 | 53=>181 | 58=>90 | 5=>5 | 9=>9 | 60=>219 | 64=>223 | 66=>243 | 67=>244 | 17=>17 | 32=>118 | 33=>119 | 82=>282 | 12=>12 | 75=>275 | 76=>276 | 77=>277 | 78=>278 | 79=>279 | 80=>280 | n=>n,fun | n=>n⟩
theorem Tryz.laysGg6:Go.Proofs.LaysGg.n6 Tryz.prog Tryz.laysGg6_ren:={
 mixed:=by kernel_rfl
 f6:=Tryz.func43.trans (congrArg some (by kernel_rfl))
 f10:=Tryz.func78.trans (congrArg some (by kernel_rfl))
 f11:=Tryz.func79.trans (congrArg some (by kernel_rfl))
 f12:=Tryz.func80.trans (congrArg some (by kernel_rfl))
 f13:=Tryz.func81.trans (congrArg some (by kernel_rfl))
 f14:=Tryz.func82.trans (congrArg some (by kernel_rfl))
 f24:=Tryz.func127.trans (congrArg some (by kernel_rfl))
 f25:=Tryz.func128.trans (congrArg some (by kernel_rfl))
 f26:=Tryz.func129.trans (congrArg some (by kernel_rfl))
 f27:=Tryz.func130.trans (congrArg some (by kernel_rfl))
 f28:=Tryz.func131.trans (congrArg some (by kernel_rfl))
 f29:=Tryz.func132.trans (congrArg some (by kernel_rfl))
 f30:=Tryz.func133.trans (congrArg some (by kernel_rfl))
 f31:=Tryz.func134.trans (congrArg some (by kernel_rfl))
 f32:=Tryz.func135.trans (congrArg some (by kernel_rfl))
 f33:=Tryz.func136.trans (congrArg some (by kernel_rfl))
 f34:=Tryz.func175.trans (congrArg some (by kernel_rfl))
 f35:=Tryz.func176.trans (congrArg some (by kernel_rfl))
 f36:=Tryz.func177.trans (congrArg some (by kernel_rfl))
 f37:=Tryz.func178.trans (congrArg some (by kernel_rfl))
 f38:=Tryz.func179.trans (congrArg some (by kernel_rfl))
 f39:=Tryz.func202.trans (congrArg some (by kernel_rfl))
 t0:=Tryz.underlying0
 a0:=Tryz.isAgg0
 z0:=Tryz.sizeOf0
 v0:=Tryz.zeroValue0
 i0:=by kernel_rfl
 t3:=Tryz.underlying3
 a3:=Tryz.isAgg3
 z3:=Tryz.sizeOf3
 v3:=Tryz.zeroValue3
 i3:=by kernel_rfl
 t4:=Tryz.underlying4
 a4:=Tryz.isAgg4
 z4:=Tryz.sizeOf4
 v4:=Tryz.zeroValue4
 i4:=by kernel_rfl
 t5:=Tryz.underlying5
 a5:=Tryz.isAgg5
 z5:=Tryz.sizeOf5
 v5:=Tryz.zeroValue5
 i5:=by kernel_rfl
 t9:=Tryz.underlying9
 a9:=Tryz.isAgg9
 z9:=Tryz.sizeOf9
 v9:=Tryz.zeroValue9
 i9:=by kernel_rfl
 t12:=Tryz.underlying12
 a12:=Tryz.isAgg12
 z12:=Tryz.sizeOf12
 v12:=Tryz.zeroValue12
 i12:=by kernel_rfl
 t17:=Tryz.underlying17
 a17:=Tryz.isAgg17
 z17:=Tryz.sizeOf17
 v17:=Tryz.zeroValue17
 i17:=by kernel_rfl
 t20:=Tryz.underlying20
 a20:=Tryz.isAgg20
 z20:=Tryz.sizeOf20
 v20:=Tryz.zeroValue20
 i20:=by kernel_rfl
 t26:=Tryz.underlying81
 a26:=Tryz.isAgg81
 z26:=Tryz.sizeOf81
 v26:=Tryz.zeroValue81
 i26:=by kernel_rfl
 t32:=Tryz.underlying118
 a32:=Tryz.isAgg118
 z32:=Tryz.sizeOf118
 v32:=Tryz.zeroValue118
 i32:=by kernel_rfl
 t33:=Tryz.underlying119
 a33:=Tryz.isAgg119
 z33:=Tryz.sizeOf119
 v33:=Tryz.zeroValue119
 i33:=by kernel_rfl
 t35:=Tryz.underlying121
 a35:=Tryz.isAgg121
 z35:=Tryz.sizeOf121
 v35:=Tryz.zeroValue121
 i35:=by kernel_rfl
 t37:=Tryz.underlying123
 a37:=Tryz.isAgg123
 z37:=Tryz.sizeOf123
 v37:=Tryz.zeroValue123
 i37:=by kernel_rfl
 t41:=Tryz.underlying127
 a41:=Tryz.isAgg127
 z41:=Tryz.sizeOf127
 v41:=Tryz.zeroValue127
 i41:=by kernel_rfl
 t44:=Tryz.underlying130
 a44:=Tryz.isAgg130
 z44:=Tryz.sizeOf130
 v44:=Tryz.zeroValue130
 i44:=by kernel_rfl
 t49:=Tryz.underlying177
 a49:=Tryz.isAgg177
 z49:=Tryz.sizeOf177
 v49:=Tryz.zeroValue177
 i49:=by kernel_rfl
 t51:=Tryz.underlying179
 a51:=Tryz.isAgg179
 z51:=Tryz.sizeOf179
 v51:=Tryz.zeroValue179
 i51:=by kernel_rfl
 t53:=Tryz.underlying181
 a53:=Tryz.isAgg181
 z53:=Tryz.sizeOf181
 v53:=Tryz.zeroValue181
 i53:=by kernel_rfl
 t54:=Tryz.underlying182
 a54:=Tryz.isAgg182
 z54:=Tryz.sizeOf182
 v54:=Tryz.zeroValue182
 i54:=by kernel_rfl
 t58:=Tryz.underlying90
 a58:=Tryz.isAgg90
 z58:=Tryz.sizeOf90
 v58:=Tryz.zeroValue90
 i58:=by kernel_rfl
 t60:=Tryz.underlying219
 a60:=Tryz.isAgg219
 z60:=Tryz.sizeOf219
 v60:=Tryz.zeroValue219
 i60:=by kernel_rfl
 t64:=Tryz.underlying223
 a64:=Tryz.isAgg223
 z64:=Tryz.sizeOf223
 v64:=Tryz.zeroValue223
 i64:=by kernel_rfl
 t66:=Tryz.underlying243
 a66:=Tryz.isAgg243
 z66:=Tryz.sizeOf243
 v66:=Tryz.zeroValue243
 i66:=by kernel_rfl
 t67:=Tryz.underlying244
 a67:=Tryz.isAgg244
 z67:=Tryz.sizeOf244
 v67:=Tryz.zeroValue244
 i67:=by kernel_rfl
 t75:=Tryz.underlying275
 a75:=Tryz.isAgg275
 z75:=Tryz.sizeOf275
 v75:=Tryz.zeroValue275
 i75:=by kernel_rfl
 t76:=Tryz.underlying276
 a76:=Tryz.isAgg276
 z76:=Tryz.sizeOf276
 v76:=Tryz.zeroValue276
 i76:=by kernel_rfl
 t77:=Tryz.underlying277
 a77:=Tryz.isAgg277
 z77:=Tryz.sizeOf277
 v77:=Tryz.zeroValue277
 i77:=by kernel_rfl
 t78:=Tryz.underlying278
 a78:=Tryz.isAgg278
 z78:=Tryz.sizeOf278
 v78:=Tryz.zeroValue278
 i78:=by kernel_rfl
 t79:=Tryz.underlying279
 a79:=Tryz.isAgg279
 z79:=Tryz.sizeOf279
 v79:=Tryz.zeroValue279
 i79:=by kernel_rfl
 t80:=Tryz.underlying280
 a80:=Tryz.isAgg280
 z80:=Tryz.sizeOf280
 v80:=Tryz.zeroValue280
 i80:=by kernel_rfl
 t82:=Tryz.underlying282
 a82:=Tryz.isAgg282
 z82:=Tryz.sizeOf282
 v82:=Tryz.zeroValue282
 i82:=by kernel_rfl }
def Tryz.lays99_ren:Go.Shelf.Ren:=⟨fun | 99=>251 | 206=>253 | n=>n,fun | 9=>9 | 4=>4 | 3=>3 | n=>n,fun | n=>n⟩
theorem Tryz.lays99:Go.Proofs.Lays.n99 Tryz.prog Tryz.lays99_ren:={
 mixed:=by kernel_rfl
 f99:=Tryz.func251.trans (congrArg some (by kernel_rfl))
 f206:=Tryz.func253.trans (congrArg some (by kernel_rfl))
 t3:=Tryz.underlying3
 a3:=Tryz.isAgg3
 z3:=Tryz.sizeOf3
 v3:=Tryz.zeroValue3
 t4:=Tryz.underlying4
 a4:=Tryz.isAgg4
 z4:=Tryz.sizeOf4
 v4:=Tryz.zeroValue4
 t9:=Tryz.underlying9
 a9:=Tryz.isAgg9
 z9:=Tryz.sizeOf9
 v9:=Tryz.zeroValue9 }
open Go.RowKit Go.Lib in
theorem Tryz.strings_HasPrefix(s p:ByteArray)(w:World) :
  Calls Tryz.prog 251 #[.string s,.string p] w fun e w'=>e = .returned (.bool (Lib.hasPrefix s.data.toList p.data.toList))∧w'=w:=Any.strings_HasPrefix Tryz.lays99 s p w
end Go.Proofs
