/-
  The contracts of the library at this translation.
-/
import Derived.Shelf.Small.Strs
import Derived.Shelf.Small.Wraps
import Derived.Shelf.Strconv.Itoa0
import Derived.Shelf.Strconv.Itoa1
import Derived.Shelf.LaysM
import Derived.Shelf.Strconv.Itoa2
import Derived.Shelf.Strconv.Itoa3
import Derived.Shelf.Sort.Plain
import Derived.Shelf.Strings.Prefix
import Derived.Shelf.Slices.Turned
import Derived.Shelf.Slices.In.SortNone
import Derived.Test.YtokemihbkeddoaaGreatDoorProg
namespace Go.Proofs
open Go.Shelf Go.RowKit Tryz
theorem tq{α}{a:Option α}{b c:α}(h:a=some b)(e:b=c:=by kernel_rfl):a=some c:=h.trans (congrArg some e)
def Tryz.lays106_ren:Go.Shelf.Ren:=⟨fun|106=>272|213=>286|265=>296|n=>n,fun|9=>9|3=>3|n=>n,fun|n=>n⟩
theorem Tryz.lays106:Go.Proofs.Lays.n106 prog Tryz.lays106_ren:={
 mixed:=by kernel_rfl
 f106:=tq func272
 f213:=tq func286
 f265:=tq func296
 t3:=underlying3
 a3:=isAgg3
 z3:=sizeOf3
 v3:=zeroValue3
 t9:=underlying9
 a9:=isAgg9
 z9:=sizeOf9
 v9:=zeroValue9}
open Go.RowKit in
theorem Tryz.strings_Compare(a b:ByteArray)(w:World):
    Calls prog 272 #[.string a,.string b] w fun e w'=>e=.returned (.int .i64 (Lib.compareBytes a.data.toList b.data.toList))∧w'=w:=Any.strings_Compare Tryz.lays106 a b w
def Tryz.lays122_ren:Go.Shelf.Ren:=⟨fun|122=>287|215=>297|n=>n,fun|3=>3|4=>4|n=>n,fun|n=>n⟩
theorem Tryz.lays122:Go.Proofs.Lays.n122 prog Tryz.lays122_ren:={
 mixed:=by kernel_rfl
 f122:=tq func287
 f215:=tq func297
 t3:=underlying3
 a3:=isAgg3
 z3:=sizeOf3
 v3:=zeroValue3
 t4:=underlying4
 a4:=isAgg4
 z4:=sizeOf4
 v4:=zeroValue4}
open Go.RowKit in
theorem Tryz.cmp_Compare_int(x y:Int)(w:World):
    Calls prog 287 #[.int .i64 x,.int .i64 y] w fun e w'=>e=.returned (.int .i64 (Lib.compareInt x y))∧w'=w:=Any.cmp_Compare_int Tryz.lays122 x y w
def Tryz.laysM171_ren:Go.Shelf.Ren:=⟨fun|171=>219|243=>269|246=>285|283=>292|284=>293|285=>294|286=>295|129=>260|317=>298|318=>299|319=>300|320=>301|337=>302|338=>303|n=>n,fun|3=>3|9=>9|2=>2|4=>4|171=>298|0=>0|53=>275|37=>246|5=>5|173=>300|212=>304|51=>74|20=>20|213=>305|46=>238|232=>306|233=>307|n=>n,fun|17=>2|18=>3|19=>4|n=>n⟩
theorem Tryz.laysM171:Go.Proofs.LaysM.n171 prog Tryz.laysM171_ren:={
 mixed:=by kernel_rfl
 f129:=tq func260
 f171:=tq func219
 f243:=tq func269
 f246:=tq func285
 f283:=tq func292
 f284:=tq func293
 f285:=tq func294
 f286:=tq func295
 f317:=tq func298
 f318:=tq func299
 f319:=tq func300
 f320:=tq func301
 f337:=tq func302
 f338:=tq func303
 t0:=underlying0
 a0:=isAgg0
 z0:=sizeOf0
 v0:=zeroValue0
 t2:=underlying2
 a2:=isAgg2
 z2:=sizeOf2
 v2:=zeroValue2
 t3:=underlying3
 a3:=isAgg3
 z3:=sizeOf3
 v3:=zeroValue3
 t4:=underlying4
 a4:=isAgg4
 z4:=sizeOf4
 v4:=zeroValue4
 t5:=underlying5
 a5:=isAgg5
 z5:=sizeOf5
 v5:=zeroValue5
 t9:=underlying9
 a9:=isAgg9
 z9:=sizeOf9
 v9:=zeroValue9
 t20:=underlying20
 a20:=isAgg20
 z20:=sizeOf20
 v20:=zeroValue20
 t37:=underlying246
 a37:=isAgg246
 z37:=sizeOf246
 v37:=zeroValue246
 t46:=underlying238
 a46:=isAgg238
 z46:=sizeOf238
 v46:=zeroValue238
 t51:=underlying74
 a51:=isAgg74
 z51:=sizeOf74
 v51:=zeroValue74
 t53:=underlying275
 a53:=isAgg275
 z53:=sizeOf275
 v53:=zeroValue275
 t171:=underlying298
 a171:=isAgg298
 z171:=sizeOf298
 v171:=zeroValue298
 t173:=underlying300
 a173:=isAgg300
 z173:=sizeOf300
 v173:=zeroValue300
 t212:=underlying304
 a212:=isAgg304
 z212:=sizeOf304
 v212:=zeroValue304
 t213:=underlying305
 a213:=isAgg305
 z213:=sizeOf305
 t232:=underlying306
 a232:=isAgg306
 z232:=sizeOf306
 v232:=zeroValue306
 t233:=underlying307
 a233:=isAgg307
 z233:=sizeOf307
 v233:=zeroValue307
 g17:=by kernel_rfl
 g18:=by kernel_rfl
 g19:=by kernel_rfl
 i0:=by kernel_rfl
 i2:=by kernel_rfl
 i3:=by kernel_rfl
 i4:=by kernel_rfl
 i5:=by kernel_rfl
 i9:=by kernel_rfl
 i20:=by kernel_rfl
 i37:=by kernel_rfl
 i46:=by kernel_rfl
 i51:=by kernel_rfl
 i53:=by kernel_rfl
 i171:=by kernel_rfl
 i173:=by kernel_rfl
 i212:=by kernel_rfl
 i232:=by kernel_rfl
 i233:=by kernel_rfl
 m17:=by kernel_rfl
 m18:=by kernel_rfl
 m19:=by kernel_rfl}
open Go.RowKit Go.Sort Go.Lib in
theorem Tryz.strconv_Itoa(n:Int)(h0:-9223372036854775808≤n)(h1:n≤9223372036854775807)(w:World)(htab:Lib.TabIs prog w "internal/strconv.uint64pow10" .u64 Lib.pow10Tab):
    Calls prog 219 #[.int .i64 n] w fun e w'=>e=.returned (.string ⟨(Lib.itoa n).toArray⟩)∧∃k os,w'=grow (w.drewN k) os:=Any.strconv_Itoa Tryz.laysM171 n h0 h1 w htab
def Tryz.lays190_ren:Go.Shelf.Ren:=⟨fun|190=>134|125=>202|258=>201|128=>259|129=>260|302=>250|303=>251|304=>252|305=>253|306=>254|307=>255|308=>256|309=>257|310=>258|333=>276|329=>277|330=>278|334=>279|335=>280|336=>281|344=>288|n=>n,fun|31=>66|9=>9|3=>3|46=>238|0=>0|51=>74|53=>275|4=>4|183=>267|182=>266|131=>271|5=>5|218=>285|222=>289|228=>295|229=>209|n=>n,fun|n=>n⟩
theorem Tryz.lays190:Go.Proofs.Lays.n190 prog Tryz.lays190_ren:={
 mixed:=by kernel_rfl
 f125:=tq func202
 f128:=tq func259
 f129:=tq func260
 f190:=tq func134
 f258:=tq func201
 f302:=tq func250
 f303:=tq func251
 f304:=tq func252
 f305:=tq func253
 f306:=tq func254
 f307:=tq func255
 f308:=tq func256
 f309:=tq func257
 f310:=tq func258
 f329:=tq func277
 f330:=tq func278
 f333:=tq func276
 f334:=tq func279
 f335:=tq func280
 f336:=tq func281
 f344:=tq func288
 t0:=underlying0
 a0:=isAgg0
 z0:=sizeOf0
 v0:=zeroValue0
 t3:=underlying3
 a3:=isAgg3
 z3:=sizeOf3
 v3:=zeroValue3
 t4:=underlying4
 a4:=isAgg4
 z4:=sizeOf4
 v4:=zeroValue4
 t5:=underlying5
 a5:=isAgg5
 z5:=sizeOf5
 v5:=zeroValue5
 t9:=underlying9
 a9:=isAgg9
 z9:=sizeOf9
 v9:=zeroValue9
 t31:=underlying66
 a31:=isAgg66
 z31:=sizeOf66
 v31:=zeroValue66
 t46:=underlying238
 a46:=isAgg238
 z46:=sizeOf238
 v46:=zeroValue238
 t51:=underlying74
 a51:=isAgg74
 z51:=sizeOf74
 v51:=zeroValue74
 t53:=underlying275
 a53:=isAgg275
 z53:=sizeOf275
 v53:=zeroValue275
 t131:=underlying271
 a131:=isAgg271
 z131:=sizeOf271
 v131:=zeroValue271
 t182:=underlying266
 a182:=isAgg266
 z182:=sizeOf266
 v182:=zeroValue266
 t183:=underlying267
 a183:=isAgg267
 z183:=sizeOf267
 v183:=zeroValue267
 t218:=underlying285
 a218:=isAgg285
 z218:=sizeOf285
 v218:=zeroValue285
 t222:=underlying289
 a222:=isAgg289
 z222:=sizeOf289
 v222:=zeroValue289
 t228:=underlying295
 a228:=isAgg295
 z228:=sizeOf295
 v228:=zeroValue295
 t229:=underlying209
 a229:=isAgg209
 z229:=sizeOf209
 v229:=zeroValue209}
open Go.Sort Go.RowKit in
theorem Tryz.slices_Sort_string(blk off cap:Nat)(ss:List (List UInt8))(w:World)(hH:Holds encStr w blk off ss.toArray)(hblk:blk<w.heap.size)(hsz:ss.length<4611686018427387904):
    Calls prog 134 #[.slice (some ⟨blk,off,none⟩) ss.length cap] w fun e w'=>
      e=.returned (.tuple #[])∧∃n os,w'=grow (putRow encStr (Sort.ahead w n) blk off (ss.mergeSort fun x y=>decide (x≤y)).toArray) os:=Any.slices_Sort_string Tryz.lays190 blk off cap ss w hH hblk hsz
def Tryz.lays110_ren:Go.Shelf.Ren:=⟨fun|110=>128|109=>198|n=>n,fun|31=>66|9=>9|4=>4|3=>3|0=>0|n=>n,fun|n=>n⟩
theorem Tryz.lays110:Go.Proofs.Lays.n110 prog Tryz.lays110_ren:={
 mixed:=by kernel_rfl
 f109:=tq func198
 f110:=tq func128
 t0:=underlying0
 a0:=isAgg0
 z0:=sizeOf0
 v0:=zeroValue0
 t3:=underlying3
 a3:=isAgg3
 z3:=sizeOf3
 v3:=zeroValue3
 t4:=underlying4
 a4:=isAgg4
 z4:=sizeOf4
 v4:=zeroValue4
 t9:=underlying9
 a9:=isAgg9
 z9:=sizeOf9
 v9:=zeroValue9
 t31:=underlying66
 a31:=isAgg66
 z31:=sizeOf66
 v31:=zeroValue66}
open Go.Lib in
theorem Tryz.slices_Contains_string(b off n c:Nat)(zs:List ByteArray)(x:ByteArray)(w:World)(hz:n≤zs.length)(hbig:n≤9223372036854775807)(hc:∀j,j<zs.length→w.cell? ⟨b,off+j,none⟩=some (.string (zs.getD j ByteArray.empty))):
    Calls prog 128 #[.slice (some ⟨b,off,none⟩) n c,.string x] w fun e w'=>e=.returned (.bool (Lib.containsS (zs.take n) x))∧w'=w:=Any.slices_Contains_string Tryz.lays110 b off n c zs x w hz hbig hc
open Go.Lib in
theorem Tryz.slices_Contains_string_empty(a:Option Addr)(c:Nat)(x:ByteArray)(w:World):
    Calls prog 128 #[.slice a 0 c,.string x] w fun e w'=>e=.returned (.bool false)∧w'=w:=Any.slices_Contains_string_empty Tryz.lays110 a c x w
open Go.RowKit Go.Sort in
theorem Tryz.slices_Sort_string_none(p:Option Addr)(cap:Nat)(w:World):
    Calls prog 134 #[.slice p 0 cap] w fun e w'=>e=.returned (.tuple #[])∧w'=w:=Any.slices_Sort_string_none Tryz.lays190 p cap w
end Go.Proofs
