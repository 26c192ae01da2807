/- One part of the texts that lead to the theorem; it claims nothing by itself. -/
import Derived.Shelf.Strings.Builder1
import Derived.Shelf.Strings.BuilderF
import Derived.Shelf.Strconv.Atoi
import Derived.Shelf.Strconv.Itoa0
import Derived.Shelf.Strconv.Itoa1
import Derived.Shelf.LaysM
import Derived.Shelf.Strconv.Itoa2
import Derived.Shelf.Strconv.Itoa3
import Derived.Shelf.Strconv.AtoiErrFast
import Derived.Shelf.Strconv.ParseIntEmpty
import Derived.Shelf.Strconv.AtoiFail
import Derived.Shelf.Strconv.Clone
import Derived.Shelf.Strconv.SyntaxError
import Derived.Shelf.LaysC
import Derived.Shelf.Strconv.ToError
import Derived.Shelf.Strconv.Lower
import Derived.Shelf.Strconv.ParseUint10
import Derived.Shelf.Strconv.ParseUint10Empty
import Derived.Shelf.Strconv.ParseUint10Any
import Derived.Shelf.Strconv.ParseInt10
import Derived.Shelf.Strconv.AtoiLong
import Derived.Shelf.Strconv.AtoiInnerAll
import Derived.Shelf.Strconv.RangeError
import Derived.Shelf.Strconv.ToErrorRange
import Derived.Shelf.Strconv.AtoiAll
import Derived.Shelf.Strconv.ErrVarAll
import Derived.Shelf.Strings.Search1
import Derived.Shelf.Strings.Search2
import Derived.Shelf.Strings.Cut
import Derived.Shelf.Strings.Shaped
import Derived.Shelf.Strings.Prefix
import Derived.Shelf.Slices.Turned
import Derived.Ground.Names2Prog
import Derived.Shelf.Slices.Clone
import Derived.Shelf.Slices.SearchI
import Derived.Ground.SlgnProg
import Derived.Shelf.SlicesE.Clone
import Derived.Test.YtdlnalepibeibaaGreatDoorChecked
import Derived.Lib.ItoaNum
import Derived.Lib.AtoiAll
import Derived.Lib.AtoiErrMem
import Derived.Lib.Repeat
import Derived.Lib.LaidTab
import Derived.Lib.AppendIntMem
import Derived.Lib.Split
import Derived.Lib.SplitLaws
import Derived.Lib.CutLaws
import Derived.Lib.SlicesS
import Derived.Deep.Draws
import Derived.Test.YtdlnalepibeibaaGreatDoorProg
import Derived.Test.YtdlnalepibeibaaGreatDoorFic
section
namespace Go.Proofs
open Go.Shelf
section
def Tryz.laysM171_ren:Go.Shelf.Ren:=⟨fun|171=>103|243=>156|246=>200|283=>247|284=>248|285=>249|286=>250|129=>275|317=>274|318=>276|319=>277|320=>278|337=>282|338=>283|n=>n,fun|3=>3|9=>9|2=>2|4=>4|171=>290|0=>0|53=>32|37=>213|5=>5|173=>293|212=>320|51=>192|20=>20|213=>321|46=>277|232=>340|233=>341|n=>n,fun|17=>3|18=>4|19=>5|n=>n⟩
theorem Tryz.laysM171:Go.Proofs.LaysM.n171 Tryz.prog Tryz.laysM171_ren:={
 mixed:=by kernel_rfl
 f129:=Tryz.func275.trans (congrArg some (by kernel_rfl))
 f171:=Tryz.func103.trans (congrArg some (by kernel_rfl))
 f243:=Tryz.func156.trans (congrArg some (by kernel_rfl))
 f246:=Tryz.func200.trans (congrArg some (by kernel_rfl))
 f283:=Tryz.func247.trans (congrArg some (by kernel_rfl))
 f284:=Tryz.func248.trans (congrArg some (by kernel_rfl))
 f285:=Tryz.func249.trans (congrArg some (by kernel_rfl))
 f286:=Tryz.func250.trans (congrArg some (by kernel_rfl))
 f317:=Tryz.func274.trans (congrArg some (by kernel_rfl))
 f318:=Tryz.func276.trans (congrArg some (by kernel_rfl))
 f319:=Tryz.func277.trans (congrArg some (by kernel_rfl))
 f320:=Tryz.func278.trans (congrArg some (by kernel_rfl))
 f337:=Tryz.func282.trans (congrArg some (by kernel_rfl))
 f338:=Tryz.func283.trans (congrArg some (by kernel_rfl))
 t0:=Tryz.underlying0
 a0:=Tryz.isAgg0
 z0:=Tryz.sizeOf0
 v0:=Tryz.zeroValue0
 t2:=Tryz.underlying2
 a2:=Tryz.isAgg2
 z2:=Tryz.sizeOf2
 v2:=Tryz.zeroValue2
 t3:=Tryz.underlying3
 a3:=Tryz.isAgg3
 z3:=Tryz.sizeOf3
 v3:=Tryz.zeroValue3
 t4:=Tryz.underlying4
 a4:=Tryz.isAgg4
 z4:=Tryz.sizeOf4
 v4:=Tryz.zeroValue4
 t5:=Tryz.underlying5
 a5:=Tryz.isAgg5
 z5:=Tryz.sizeOf5
 v5:=Tryz.zeroValue5
 t9:=Tryz.underlying9
 a9:=Tryz.isAgg9
 z9:=Tryz.sizeOf9
 v9:=Tryz.zeroValue9
 t20:=Tryz.underlying20
 a20:=Tryz.isAgg20
 z20:=Tryz.sizeOf20
 v20:=Tryz.zeroValue20
 t37:=Tryz.underlying213
 a37:=Tryz.isAgg213
 z37:=Tryz.sizeOf213
 v37:=Tryz.zeroValue213
 t46:=Tryz.underlying277
 a46:=Tryz.isAgg277
 z46:=Tryz.sizeOf277
 v46:=Tryz.zeroValue277
 t51:=Tryz.underlying192
 a51:=Tryz.isAgg192
 z51:=Tryz.sizeOf192
 v51:=Tryz.zeroValue192
 t53:=Tryz.underlying32
 a53:=Tryz.isAgg32
 z53:=Tryz.sizeOf32
 v53:=Tryz.zeroValue32
 t171:=Tryz.underlying290
 a171:=Tryz.isAgg290
 z171:=Tryz.sizeOf290
 v171:=Tryz.zeroValue290
 t173:=Tryz.underlying293
 a173:=Tryz.isAgg293
 z173:=Tryz.sizeOf293
 v173:=Tryz.zeroValue293
 t212:=Tryz.underlying320
 a212:=Tryz.isAgg320
 z212:=Tryz.sizeOf320
 v212:=Tryz.zeroValue320
 t213:=Tryz.underlying321
 a213:=Tryz.isAgg321
 z213:=Tryz.sizeOf321
 t232:=Tryz.underlying340
 a232:=Tryz.isAgg340
 z232:=Tryz.sizeOf340
 v232:=Tryz.zeroValue340
 t233:=Tryz.underlying341
 a233:=Tryz.isAgg341
 z233:=Tryz.sizeOf341
 v233:=Tryz.zeroValue341
 g17:=by kernel_rfl
 g18:=by kernel_rfl
 g19:=by kernel_rfl
 i0:=by kernel_rfl
 i2:=by kernel_rfl
 i3:=by kernel_rfl
 i4:=by kernel_rfl
 i5:=by kernel_rfl
 i9:=by kernel_rfl
 i20:=by kernel_rfl
 i37:=by kernel_rfl
 i46:=by kernel_rfl
 i51:=by kernel_rfl
 i53:=by kernel_rfl
 i171:=by kernel_rfl
 i173:=by kernel_rfl
 i212:=by kernel_rfl
 i232:=by kernel_rfl
 i233:=by kernel_rfl
 m17:=by kernel_rfl
 m18:=by kernel_rfl
 m19:=by kernel_rfl}
open Go.RowKit Go.Sort Go.Lib in
theorem Tryz.strconv_Itoa(n:Int)(h0: -9223372036854775808<=n)(h1:n<=9223372036854775807)(w:World)(htab:Lib.TabIs Tryz.prog w "internal/strconv.uint64pow10" .u64 Lib.pow10Tab):
 Calls Tryz.prog 103 #[.int .i64 n] w fun e w'=>e= .returned (.string ⟨(Lib.itoa n).toArray⟩)/\∃k os,w'=grow (w.drewN k) os:=Any.strconv_Itoa Tryz.laysM171 n h0 h1 w htab
def Tryz.laysC172_ren:Go.Shelf.Ren:=⟨fun|172=>153|244=>199|245=>182|247=>246|279=>237|280=>238|281=>239|282=>240|287=>181|316=>271|171=>103|205=>272|321=>235|322=>236|243=>156|246=>200|283=>247|284=>248|285=>249|286=>250|129=>275|317=>274|318=>276|319=>277|320=>278|337=>282|338=>283|n=>n,fun|9=>9|3=>3|75=>189|76=>211|4=>4|5=>5|167=>279|37=>213|0=>0|85=>288|2=>2|168=>281|53=>32|175=>190|46=>277|210=>315|127=>285|145=>334|143=>332|21=>21|171=>290|173=>293|212=>320|51=>192|20=>20|213=>321|232=>340|233=>341|80=>203|n=>n,fun|15=>1|16=>2|17=>3|18=>4|19=>5|n=>n⟩
theorem Tryz.laysC172:Go.Proofs.LaysC.n172 Tryz.prog Tryz.laysC172_ren:={
 mixed:=by kernel_rfl
 f129:=Tryz.func275.trans (congrArg some (by kernel_rfl))
 f171:=Tryz.func103.trans (congrArg some (by kernel_rfl))
 f172:=Tryz.func153.trans (congrArg some (by kernel_rfl))
 f205:=Tryz.func272.trans (congrArg some (by kernel_rfl))
 f243:=Tryz.func156.trans (congrArg some (by kernel_rfl))
 f244:=Tryz.func199.trans (congrArg some (by kernel_rfl))
 f245:=Tryz.func182.trans (congrArg some (by kernel_rfl))
 f246:=Tryz.func200.trans (congrArg some (by kernel_rfl))
 f247:=Tryz.func246.trans (congrArg some (by kernel_rfl))
 f279:=Tryz.func237.trans (congrArg some (by kernel_rfl))
 f280:=Tryz.func238.trans (congrArg some (by kernel_rfl))
 f281:=Tryz.func239.trans (congrArg some (by kernel_rfl))
 f282:=Tryz.func240.trans (congrArg some (by kernel_rfl))
 f283:=Tryz.func247.trans (congrArg some (by kernel_rfl))
 f284:=Tryz.func248.trans (congrArg some (by kernel_rfl))
 f285:=Tryz.func249.trans (congrArg some (by kernel_rfl))
 f286:=Tryz.func250.trans (congrArg some (by kernel_rfl))
 f287:=Tryz.func181.trans (congrArg some (by kernel_rfl))
 f316:=Tryz.func271.trans (congrArg some (by kernel_rfl))
 f317:=Tryz.func274.trans (congrArg some (by kernel_rfl))
 f318:=Tryz.func276.trans (congrArg some (by kernel_rfl))
 f319:=Tryz.func277.trans (congrArg some (by kernel_rfl))
 f320:=Tryz.func278.trans (congrArg some (by kernel_rfl))
 f321:=Tryz.func235.trans (congrArg some (by kernel_rfl))
 f322:=Tryz.func236.trans (congrArg some (by kernel_rfl))
 f337:=Tryz.func282.trans (congrArg some (by kernel_rfl))
 f338:=Tryz.func283.trans (congrArg some (by kernel_rfl))
 t0:=Tryz.underlying0
 a0:=Tryz.isAgg0
 z0:=Tryz.sizeOf0
 v0:=Tryz.zeroValue0
 t2:=Tryz.underlying2
 a2:=Tryz.isAgg2
 z2:=Tryz.sizeOf2
 v2:=Tryz.zeroValue2
 t3:=Tryz.underlying3
 a3:=Tryz.isAgg3
 z3:=Tryz.sizeOf3
 v3:=Tryz.zeroValue3
 t4:=Tryz.underlying4
 a4:=Tryz.isAgg4
 z4:=Tryz.sizeOf4
 v4:=Tryz.zeroValue4
 t5:=Tryz.underlying5
 a5:=Tryz.isAgg5
 z5:=Tryz.sizeOf5
 v5:=Tryz.zeroValue5
 t9:=Tryz.underlying9
 a9:=Tryz.isAgg9
 z9:=Tryz.sizeOf9
 v9:=Tryz.zeroValue9
 t20:=Tryz.underlying20
 a20:=Tryz.isAgg20
 z20:=Tryz.sizeOf20
 v20:=Tryz.zeroValue20
 t21:=Tryz.underlying21
 a21:=Tryz.isAgg21
 z21:=Tryz.sizeOf21
 v21:=Tryz.zeroValue21
 t37:=Tryz.underlying213
 a37:=Tryz.isAgg213
 z37:=Tryz.sizeOf213
 v37:=Tryz.zeroValue213
 t46:=Tryz.underlying277
 a46:=Tryz.isAgg277
 z46:=Tryz.sizeOf277
 v46:=Tryz.zeroValue277
 t51:=Tryz.underlying192
 a51:=Tryz.isAgg192
 z51:=Tryz.sizeOf192
 v51:=Tryz.zeroValue192
 t53:=Tryz.underlying32
 a53:=Tryz.isAgg32
 z53:=Tryz.sizeOf32
 v53:=Tryz.zeroValue32
 t75:=Tryz.underlying189
 a75:=Tryz.isAgg189
 z75:=Tryz.sizeOf189
 v75:=Tryz.zeroValue189
 t76:=Tryz.underlying211
 a76:=Tryz.isAgg211
 z76:=Tryz.sizeOf211
 v76:=Tryz.zeroValue211
 t85:=Tryz.underlying288
 a85:=Tryz.isAgg288
 z85:=Tryz.sizeOf288
 v85:=Tryz.zeroValue288
 t127:=Tryz.underlying285
 a127:=Tryz.isAgg285
 z127:=Tryz.sizeOf285
 v127:=Tryz.zeroValue285
 t143:=Tryz.underlying332
 a143:=Tryz.isAgg332
 z143:=Tryz.sizeOf332
 v143:=Tryz.zeroValue332
 t145:=Tryz.underlying334
 a145:=Tryz.isAgg334
 z145:=Tryz.sizeOf334
 v145:=Tryz.zeroValue334
 t167:=Tryz.underlying279
 a167:=Tryz.isAgg279
 z167:=Tryz.sizeOf279
 v167:=Tryz.zeroValue279
 t168:=Tryz.underlying281
 a168:=Tryz.isAgg281
 z168:=Tryz.sizeOf281
 v168:=Tryz.zeroValue281
 t171:=Tryz.underlying290
 a171:=Tryz.isAgg290
 z171:=Tryz.sizeOf290
 v171:=Tryz.zeroValue290
 t173:=Tryz.underlying293
 a173:=Tryz.isAgg293
 z173:=Tryz.sizeOf293
 v173:=Tryz.zeroValue293
 t175:=Tryz.underlying190
 a175:=Tryz.isAgg190
 z175:=Tryz.sizeOf190
 v175:=Tryz.zeroValue190
 t210:=Tryz.underlying315
 a210:=Tryz.isAgg315
 z210:=Tryz.sizeOf315
 v210:=Tryz.zeroValue315
 t212:=Tryz.underlying320
 a212:=Tryz.isAgg320
 z212:=Tryz.sizeOf320
 v212:=Tryz.zeroValue320
 t213:=Tryz.underlying321
 a213:=Tryz.isAgg321
 z213:=Tryz.sizeOf321
 t232:=Tryz.underlying340
 a232:=Tryz.isAgg340
 z232:=Tryz.sizeOf340
 v232:=Tryz.zeroValue340
 t233:=Tryz.underlying341
 a233:=Tryz.isAgg341
 z233:=Tryz.sizeOf341
 v233:=Tryz.zeroValue341
 g15:=by kernel_rfl
 g16:=by kernel_rfl
 g17:=by kernel_rfl
 g18:=by kernel_rfl
 g19:=by kernel_rfl
 t80:=Tryz.underlying203
 a80:=Tryz.isAgg203
 z80:=Tryz.sizeOf203
 v80:=Tryz.zeroValue203
 i0:=by kernel_rfl
 i2:=by kernel_rfl
 i3:=by kernel_rfl
 i4:=by kernel_rfl
 i5:=by kernel_rfl
 i9:=by kernel_rfl
 i20:=by kernel_rfl
 i21:=by kernel_rfl
 i37:=by kernel_rfl
 i46:=by kernel_rfl
 i51:=by kernel_rfl
 i53:=by kernel_rfl
 i75:=by kernel_rfl
 i76:=by kernel_rfl
 i80:=by kernel_rfl
 i85:=by kernel_rfl
 i127:=by kernel_rfl
 i143:=by kernel_rfl
 i145:=by kernel_rfl
 i167:=by kernel_rfl
 i168:=by kernel_rfl
 i171:=by kernel_rfl
 i173:=by kernel_rfl
 i175:=by kernel_rfl
 i210:=by kernel_rfl
 i212:=by kernel_rfl
 i232:=by kernel_rfl
 i233:=by kernel_rfl
 m15:=by kernel_rfl
 m16:=by kernel_rfl
 m17:=by kernel_rfl
 m18:=by kernel_rfl
 m19:=by kernel_rfl
 c0:=by kernel_rfl
 c2:=by kernel_rfl
 c3:=by kernel_rfl
 c4:=by kernel_rfl
 c5:=by kernel_rfl
 c9:=by kernel_rfl
 c20:=by kernel_rfl
 c21:=by kernel_rfl
 c37:=by kernel_rfl
 c46:=by kernel_rfl
 c51:=by kernel_rfl
 c53:=by kernel_rfl
 c75:=by kernel_rfl
 c76:=by kernel_rfl
 c80:=by kernel_rfl
 c85:=by kernel_rfl
 c127:=by kernel_rfl
 c143:=by kernel_rfl
 c145:=by kernel_rfl
 c167:=by kernel_rfl
 c168:=by kernel_rfl
 c171:=by kernel_rfl
 c173:=by kernel_rfl
 c175:=by kernel_rfl
 c210:=by kernel_rfl
 c212:=by kernel_rfl
 c213:=by kernel_rfl
 c232:=by kernel_rfl
 c233:=by kernel_rfl}
open Go.RowKit in
theorem Tryz.strconv_Atoi_ok(s:ByteArray)(hmax:s.size<=9223372036854775806)(v:Int)(h:Lib.atoiAll s.data.toList= .ok v)(w:World):
 Calls Tryz.prog 153 #[.string s] w fun e w'=>e= .returned (.tuple #[.int .i64 v,.nilIface])/\(w'=w\/∃t,w'=Lib.bytesWorld w 5 t):=Any.strconv_Atoi_ok Tryz.laysC172 s hmax v h w
open Go.RowKit in
theorem Tryz.strconv_Atoi_bad(s:ByteArray)(hlim:s.size<=281474976710656)(h1:∀v,Lib.atoiAll s.data.toList≠ .ok v)(h2:Lib.atoiAll s.data.toList≠ .range)(ev:Value)(w:World)(hv:w.cell? ⟨1,0,none⟩=some ev)(hev:ev= .nilIface\/∃te pe,ev= .iface te pe):
 Calls Tryz.prog 153 #[.string s] w fun e w'=>∃N,e= .returned (.tuple #[.int .i64 (0),.iface 281 (.pointer (some ⟨N,0,none⟩))])/\w.heap.size<=N/\w'.heap[N]? =some (.cells #[.string ⟨#[65,116,111,105]⟩,.string s,ev] 315 (0,0))/\Below w.heap.size w w':=Any.strconv_Atoi_syntax Tryz.laysC172 s hlim (by cases hx:Lib.atoiAll s.data.toList<;>first|rfl|exact absurd hx (h1 _)|exact absurd hx h2) ev w hv hev
open Go.RowKit in
theorem Tryz.strconv_Atoi_range(s:ByteArray)(hlim:s.size<=281474976710656)(h:Lib.atoiAll s.data.toList= .range)(ev:Value)(w:World)(hv:w.cell? ⟨2,0,none⟩=some ev)(hev:ev= .nilIface\/∃te pe,ev= .iface te pe):
 Calls Tryz.prog 153 #[.string s] w fun e w'=>∃N,e= .returned (.tuple #[.int .i64 (Lib.atoiSat s.data.toList),.iface 281 (.pointer (some ⟨N,0,none⟩))])/\w.heap.size<=N/\w'.heap[N]? =some (.cells #[.string ⟨#[65,116,111,105]⟩,.string s,ev] 315 (0,0))/\Below w.heap.size w w':=Any.strconv_Atoi_range Tryz.laysC172 s hlim h ev w hv hev
def Tryz.lays145_ren:Go.Shelf.Ren:=⟨fun|145=>71|220=>127|219=>179|217=>230|225=>231|224=>232|267=>233|266=>269|314=>270|n=>n,fun|9=>9|4=>4|59=>133|3=>3|5=>5|46=>277|146=>312|51=>192|n=>n,fun|1=>0|n=>n⟩
theorem Tryz.lays145:Go.Proofs.Lays.n145 Tryz.prog Tryz.lays145_ren:={
 mixed:=by kernel_rfl
 f145:=Tryz.func71.trans (congrArg some (by kernel_rfl))
 f217:=Tryz.func230.trans (congrArg some (by kernel_rfl))
 f219:=Tryz.func179.trans (congrArg some (by kernel_rfl))
 f220:=Tryz.func127.trans (congrArg some (by kernel_rfl))
 f224:=Tryz.func232.trans (congrArg some (by kernel_rfl))
 f225:=Tryz.func231.trans (congrArg some (by kernel_rfl))
 f266:=Tryz.func269.trans (congrArg some (by kernel_rfl))
 f267:=Tryz.func233.trans (congrArg some (by kernel_rfl))
 f314:=Tryz.func270.trans (congrArg some (by kernel_rfl))
 t3:=Tryz.underlying3
 a3:=Tryz.isAgg3
 z3:=Tryz.sizeOf3
 v3:=Tryz.zeroValue3
 t4:=Tryz.underlying4
 a4:=Tryz.isAgg4
 z4:=Tryz.sizeOf4
 v4:=Tryz.zeroValue4
 t5:=Tryz.underlying5
 a5:=Tryz.isAgg5
 z5:=Tryz.sizeOf5
 v5:=Tryz.zeroValue5
 t9:=Tryz.underlying9
 a9:=Tryz.isAgg9
 z9:=Tryz.sizeOf9
 v9:=Tryz.zeroValue9
 t46:=Tryz.underlying277
 a46:=Tryz.isAgg277
 z46:=Tryz.sizeOf277
 v46:=Tryz.zeroValue277
 t51:=Tryz.underlying192
 a51:=Tryz.isAgg192
 z51:=Tryz.sizeOf192
 v51:=Tryz.zeroValue192
 t59:=Tryz.underlying133
 a59:=Tryz.isAgg133
 z59:=Tryz.sizeOf133
 v59:=Tryz.zeroValue133
 t146:=Tryz.underlying312
 a146:=Tryz.isAgg312
 z146:=Tryz.sizeOf312
 v146:=Tryz.zeroValue312
 g1:=by kernel_rfl}
open Go.RowKit Go.Lib in
theorem Tryz.strings_Cut(s sep:ByteArray)(m:Int)(w:World)(hs:s.size<4294967281)(hm:w.cell? ⟨0,0,none⟩=some (.int .i64 m)):
 Calls Tryz.prog 71 #[.string s,.string sep] w fun e w'=>e= .returned (.tuple #[.string ⟨(Lib.cut s.data.toList sep.data.toList).1.toArray⟩,.string ⟨(Lib.cut s.data.toList sep.data.toList).2.1.toArray⟩,.bool (Lib.cut s.data.toList sep.data.toList).2.2])/\∃n,w'=w.drewN n:=Any.strings_Cut Tryz.lays145 s sep m w hs hm
end
end Go.Proofs
end
section
namespace Go.Proofs.YtdlnalepibeibaaGreatDoor.Kx
open Go Go.RowKit Go.IntKind
section
variable {P:Program} {g:FuncId}
theorem Bc6{args:List V}{v:V}(h:∀M w vals,Ai2 M w->GlA M w->B5 M noR args vals->∃u,C0 M noR v u/\Calls P g vals.toArray w (fun e w'=>e= .returned u/\Below w.heap.size w w')):C3 P g args v:=
 fun M w vals hs hg hr=>by
  obtain⟨u,hv,hc⟩:=h M w vals hs hg hr;exact hc.mono fun e w' ⟨he,hb⟩=>⟨u,M,he,Ext.same hs hb,hv⟩
theorem Go1{M:Mem}{v:V}{vals:List Value}(h:B5 M noR [v] vals):∃a,vals=[a]/\C0 M noR v a:=by
 simp only[B5]at h;obtain⟨a,r,rfl,h1,rfl⟩:=h;exact⟨a,rfl,h1⟩
theorem Gz1{M:Mem}{v u:V}{vals:List Value}(h:B5 M noR [v,u] vals):∃a b,vals=[a,b]/\C0 M noR v a/\C0 M noR u b:=by
 simp only[B5]at h;obtain⟨a,r,rfl,h1,b,r',rfl,h2,rfl⟩:=h;exact⟨a,b,rfl,h1,h2⟩
theorem Cj8(w:World)(n:Nat):Below w.heap.size w (w.drewN n):=⟨rfl,rfl,rfl,Nat.le_refl _,fun _ _=>rfl⟩
theorem Aq7(s:List UInt8):(⟨s.toArray⟩:ByteArray).size=s.length:=rfl
def Gb7:Nat->Nat->List UInt8->List UInt8
 |0,_,acc=>acc
 |k+1,n,acc=>bif Nat.blt n 10 then UInt8.ofNat (48+n)::acc else Gb7 k (n/10) (UInt8.ofNat (48+n%10)::acc)
theorem Ck6:∀(k n:Nat) (acc:List UInt8),n<10^k->0<k->Gb7 k n acc=Lib.decDigits n++acc
 |0,_,_,_,h=>by omega
 |k+1,n,acc,h,_=>by
  rw[Gb7,Lib.decDigits];by_cases hn:n<10
  ·rw[show Nat.blt n 10=true from Nat.ble_eq_true_of_le hn,cond_true,dif_pos hn];rfl
  ·have hb:Nat.blt n 10=false:=by
    cases hb:Nat.blt n 10 with
    |false=>rfl
    |true=>exact absurd (Nat.le_of_ble_eq_true hb) hn
   have hk:0<k:=by
    rcases Nat.eq_zero_or_pos k with e|e
    ·subst e;simp at h;omega
    ·exact e
   have hd:n/10<10^k:=by rw[Nat.pow_succ]at h;omega
   rw[hb,cond_false,dif_neg hn,Ck6 k (n/10) _ hd hk,List.append_assoc];rfl
def Cn1(n:Int):Option (List UInt8):=
 bif decide (-9223372036854775808<=n)&&decide (n<=9223372036854775807) then some (match n with| .ofNat m=>Gb7 20 m []| .negSucc m=>45::Gb7 20 (m+1) []) else none
theorem Cw8{n:Int}{r:List UInt8}(h:Cn1 n=some r):(-9223372036854775808<=n/\n<=9223372036854775807)/\r=Lib.itoa n:=by
 unfold Cn1 at h;cases hb:(decide (-9223372036854775808<=n)&&decide (n<=9223372036854775807)) with
 |false=>rw[hb]at h;cases h
 |true=>
  rw[hb,cond_true]at h;rw[Bool.and_eq_true,decide_eq_true_eq,decide_eq_true_eq]at hb;refine⟨hb,?_⟩;unfold Lib.itoa;cases n with
  |ofNat m=>
   have hm:m<10^20:=by have:=hb.2;have:(m:Int)<=9223372036854775807:=this;omega
   have:=Option.some.inj h;rw[<-this];simp only[Ck6 20 m [] hm (by omega),List.append_nil];rw[if_neg (show¬Int.ofNat m<0 by simp)];rfl
  |negSucc m=>
   have hm:m+1<10^20:=by have:=hb.1;omega
   have:=Option.some.inj h;rw[<-this];simp only[Ck6 20 (m+1) [] hm (by omega),List.append_nil];rw[if_pos (Int.negSucc_lt_zero m)];rfl
theorem Bn2{M:Mem}{k:IntKind}:∀{zs:List Int} {us:List Value},D3 M (zs.map (Dat.int k)) us->us=zs.map fun z=>Value.int k z
 |[],us,h=>h
 |z::zs,us,⟨u,us',e,r,rs⟩=>by
  subst e;cases r;rw[Bn2 rs];rfl
theorem Gi8{M:Mem}{w:World}{name:String}{gn:Nat}{k:IntKind}{zs:List Int}(hg:P.globalNamed name=some gn)(he:gl gn=some (zs.map (Dat.int k)))(hs:Ai2 M w)(ha:GlA M w):Lib.TabIs P w name k zs:=by
 obtain⟨us,⟨c,hc,hcell⟩,hr⟩:=ha.ok.d gn _ he;obtain⟨c',e',z',h1,h2⟩:=hs gn c hc;obtain⟨c2,e2,z2,h3,h4⟩:=ha.sz gn _ he;rw[h1]at h3;cases h3;have hus:=Bn2 hr;unfold Lib.TabIs World.var?;rw[hg,Option.bind_some,h1];show some c'=_;congr 1;refine Array.ext' ?_;refine List.ext_getElem? fun j=> ?_
 rw[List.length_map]at h4;rw[<-hus];have hul:us.length=zs.length:=by rw[hus,List.length_map]
 by_cases hj:j<us.length
 ·have h5:=hcell j hj;rw[Nat.zero_add]at h5;have h6:us[j]? =some us[j]:=List.getElem?_eq_getElem hj;rw[h6]at h5;rw[Array.getElem?_toList,h2 j _ h5,h6]
 ·rw[List.getElem?_eq_none (by rw[Array.length_toList];omega),List.getElem?_eq_none (by simpa using Nat.le_of_not_lt hj)]
theorem Dd4(w:World)(k:Nat)(os:Array Obj):Below w.heap.size w (Go.Sort.grow (w.drewN k) os):=
 ⟨rfl,rfl,rfl,by show w.heap.size<=(w.heap++os).size;rw[Array.size_append];omega,fun g h=>Lib.heap_grow_old w k os g h⟩
theorem Df7{gn:Nat}(hg:P.globalNamed "internal/strconv.uint64pow10" =some gn)(he:gl gn=some (Lib.pow10Tab.map (Dat.int .u64)))
 (h:∀(n:Int),-9223372036854775808<=n->n<=9223372036854775807->∀w,Lib.TabIs P w "internal/strconv.uint64pow10" .u64 Lib.pow10Tab->Calls P g #[.int .i64 n] w fun e w'=>e= .returned (.string ⟨(Lib.itoa n).toArray⟩)/\∃k os,w'=Go.Sort.grow (w.drewN k) os) {n:Int} {r:List UInt8} (hF:Cn1 n=some r):C3 P g [.d (.int .i64 n)] (.d (.str r)):=by
 obtain⟨hn,rfl⟩:=Cw8 hF;refine Bc6 fun M w vals hs hgl hr=> ?_
 obtain⟨a,rfl,h1⟩:=Go1 hr;obtain rfl:=P8 h1;exact⟨_,Cc3 (s:=Lib.itoa n),(h n hn.1 hn.2 w (Gi8 hg he hs hgl)).mono fun e w' ⟨h2,k,os,h3⟩=>⟨h2,by rw[h3];exact Dd4 w k os⟩⟩
def Eh3(s:List UInt8):Option (Int×Bool):=bif decide (s.length<=2147483648) then some (match Lib.atoiAll s with| .ok v=>(v,false)| .range=>(Lib.atoiSat s,true)|_=>(0,true)) else none
theorem Cw3{M:Mem}{w:World}{n:Nat}(he:gl n=some [.ife true])(hs:Ai2 M w)(hg:GlA M w):∃t u,w.cell? ⟨n,0,none⟩=some (.iface t u):=by
 obtain⟨us,⟨c,hc,hcell⟩,u,us',rfl,hr,_⟩:=hg.ok.d n _ he;cases hr with
 |ifc t u=>
  have h0:=hcell 0 (by simp);exact⟨t,u,hs.cell hc (by simpa using h0)⟩
theorem Dd2{bt te tc:TypeId}{gs gr:Nat}(hes:gl gs=some [.ife true])(her:gl gr=some [.ife true])
 (h:∀(s:ByteArray),s.size<=9223372036854775806->∀v:Int,Lib.atoiAll s.data.toList= .ok v->∀w,Calls P g #[.string s] w fun e w'=>e= .returned (.tuple #[.int .i64 v,.nilIface])/\(w'=w\/∃t,w'=Lib.bytesWorld w bt t))
 (hb:∀(s:ByteArray),s.size<=281474976710656->(∀v,Lib.atoiAll s.data.toList≠ .ok v)->Lib.atoiAll s.data.toList≠ .range->∀(ev:Value) (w:World),w.cell? ⟨gs,0,none⟩=some ev->(ev= .nilIface\/∃te pe,ev= .iface te pe)->
  Calls P g #[.string s] w fun e w'=>∃N,e= .returned (.tuple #[.int .i64 (0),.iface te (.pointer (some ⟨N,0,none⟩))])/\w.heap.size<=N/\w'.heap[N]? =some (.cells #[.string ⟨#[65,116,111,105]⟩,.string s,ev] tc (0,0))/\Below w.heap.size w w')
 (hr0:∀(s:ByteArray),s.size<=281474976710656->Lib.atoiAll s.data.toList= .range->∀(ev:Value) (w:World),w.cell? ⟨gr,0,none⟩=some ev->(ev= .nilIface\/∃te pe,ev= .iface te pe)->
  Calls P g #[.string s] w fun e w'=>∃N,e= .returned (.tuple #[.int .i64 (Lib.atoiSat s.data.toList),.iface te (.pointer (some ⟨N,0,none⟩))])/\w.heap.size<=N/\w'.heap[N]? =some (.cells #[.string ⟨#[65,116,111,105]⟩,.string s,ev] tc (0,0))/\Below w.heap.size w w')
 {s:List UInt8} {r:Int×Bool} (hF:Eh3 s=some r):C3 P g [.d (.str s)] (.tup [.d (.int .i64 r.1),.d (.ife r.2)]):=by
 unfold Eh3 at hF;cases hb1:decide (s.length<=2147483648) with
 |false=>rw[hb1]at hF;cases hF
 |true=>
  rw[hb1,cond_true]at hF;have hlen:=of_decide_eq_true hb1;have hr1:=Option.some.inj hF;intro M w vals hs hg hr;obtain⟨a,rfl,h1⟩:=Go1 hr;obtain rfl:=P9 h1;have pair:∀(n:Int) (N:Nat),C0 M noR (.tup [.d (.int .i64 n),.d (.ife true)]) (.tuple #[.int .i64 n,.iface te (.pointer (some ⟨N,0,none⟩))]):=fun n N=>by
   simp only[C0,B5];exact⟨[.int .i64 n,.iface te (.pointer (some ⟨N,0,none⟩))],rfl,_,_,rfl,.int _ _,_,_,rfl,.ifc _ _,rfl⟩
  split at hr1
  ·rename_i v hv;subst hr1;refine(h ⟨s.toArray⟩ (by rw[Aq7];omega) v (by simpa using hv) w).mono fun e w' ⟨h2,h3⟩=>⟨_,M,h2,Ext.same hs ?_,?_⟩
   ·rcases h3 with rfl|⟨t,rfl⟩
    ·exact Below.refl _ _
    ·exact Lib.bytesWorld_below _ _ _
   ·simp only[C0,B5];exact⟨[.int .i64 v,.nilIface],rfl,_,_,rfl,.int _ _,_,_,rfl,.nili,rfl⟩
  ·rename_i hv;subst hr1;obtain⟨t,u,hc⟩:=Cw3 her hs hg;exact(hr0 ⟨s.toArray⟩ (by rw[Aq7];omega) (by simpa using hv) _ w hc (.inr ⟨t,u,rfl⟩)).mono fun e w' ⟨N,h2,_,_,h3⟩=>⟨_,M,h2,Ext.same hs h3,by simpa using pair (Lib.atoiSat s) N⟩
  ·rename_i hv1 hv2;subst hr1;obtain⟨t,u,hc⟩:=Cw3 hes hs hg;exact(hb ⟨s.toArray⟩ (by rw[Aq7];omega) (fun v hv=>hv1 v (by simpa using hv)) (fun hv=>hv2 (by simpa using hv)) _ w hc (.inr ⟨t,u,rfl⟩)).mono fun e w' ⟨N,h2,_,_,h3⟩=>⟨_,M,h2,Ext.same hs h3,pair 0 N⟩
def Bi8(c:UInt8):List UInt8->List UInt8×List UInt8×Bool
 |[]=>([],[],false)
 |b::l=>match b==c with
  |true=>([],l,true)
  |false=>match Bi8 c l with|(x,y,t)=>(b::x,y,t)
theorem Df5(b c:UInt8)(l:List UInt8):Lib.index (b::l) [c]=if b=c then 0 else if Lib.index l [c]= -1 then-1 else Lib.index l [c]+1:=by
 rw[Lib.index];by_cases h:b=c
 ·subst h;simp[List.isPrefixOf]
 ·have hp:([c]:List UInt8).isPrefixOf (b::l)=false:=by simp[List.isPrefixOf,Ne.symm h]
  rw[hp,if_neg h];by_cases h2:Lib.index l [c]= -1<;>simp[h2]
theorem Dp4(c:UInt8):∀l,Lib.cut l [c]=Bi8 c l
 |[]=>rfl
 |b::l=>by
  have ih:=Dp4 c l;have hge:=Lib.index_ge l [c];unfold Lib.cut at ih⊢;rw[Df5];unfold Bi8;by_cases h:b=c
  ·subst h;simp
  ·rw[if_neg h,show(b==c)=false from by simpa using h];dsimp only;rw[<-ih];by_cases h2:Lib.index l [c]= -1
   ·simp[h2]
   ·rw[if_neg h2];obtain⟨j,hj⟩:∃j:Nat,Lib.index l [c]=j:=⟨(Lib.index l [c]).toNat,by omega⟩
    rw[hj,if_pos (by omega),if_pos (by omega)];have e1:((j:Int)+1).toNat=j+1:=by omega
    rw[e1,Int.toNat_natCast];simp
def Ft0(s p:List UInt8):Option (List UInt8×List UInt8×Bool):=match p with
 |[c]=>bif decide (s.length<=2147483648) then some (Bi8 c s) else none
 |_=>none
theorem Dp6{n:Nat}(hx:(n,i64)∈gxT)(h:∀(s sep:ByteArray) (m:Int) (w:World),s.size<4294967281->w.cell? ⟨n,0,none⟩=some (.int .i64 m)->Calls P g #[.string s,.string sep] w fun e w'=>
 e= .returned (.tuple #[.string ⟨(Lib.cut s.data.toList sep.data.toList).1.toArray⟩,.string ⟨(Lib.cut s.data.toList sep.data.toList).2.1.toArray⟩,.bool (Lib.cut s.data.toList sep.data.toList).2.2])/\∃n,w'=w.drewN n)
 {s p:List UInt8} {r:List UInt8×List UInt8×Bool} (hF:Ft0 s p=some r):C3 P g [.d (.str s),.d (.str p)] (.tup [.d (.str r.1),.d (.str r.2.1),.d (.bool r.2.2)]):=by
 unfold Ft0 at hF;split at hF
 ·rename_i c;cases hb:decide (s.length<=2147483648) with
  |false=>rw[hb]at hF;cases hF
  |true=>
   rw[hb,cond_true]at hF;cases hF;have hb:=of_decide_eq_true hb;refine Bc6 fun M w vals hs hg hr=> ?_
   obtain⟨a,b,rfl,h1,h2⟩:=Gz1 hr;obtain rfl:=P9 h1;obtain rfl:=P9 h2;obtain⟨m,hm⟩:=hg.ok.x _ _ hx;have hc:=h ⟨s.toArray⟩ ⟨([c]:List UInt8).toArray⟩ m w (by rw[Aq7];omega) (hm.cell hs (j:=0) rfl);have e:Lib.cut (⟨s.toArray⟩:ByteArray).data.toList (⟨([c]:List UInt8).toArray⟩:ByteArray).data.toList=Bi8 c s:=by rw[<-Dp4]
   rw[e]at hc;refine⟨.tuple #[Ac5 (Bi8 c s).1,Ac5 (Bi8 c s).2.1,.bool (Bi8 c s).2.2],?_,hc.mono fun e w' ⟨h3,k,h4⟩=>⟨h3,by rw[h4];exact Cj8 _ _⟩⟩;simp only[C0,B5];exact⟨[Ac5 (Bi8 c s).1,Ac5 (Bi8 c s).2.1,.bool (Bi8 c s).2.2],rfl,_,_,rfl,.str _,_,_,rfl,.str _,_,_,rfl,.bool _,rfl⟩
 ·cases hF
end
end Go.Proofs.YtdlnalepibeibaaGreatDoor.Kx
end
section
set_option linter.unusedVariables false
set_option maxRecDepth 100000
namespace Go.Proofs.YtdlnalepibeibaaGreatDoor
open Go Go.RowKit Kx Go.IntKind
section
theorem Ft4:A8 Tryz.prog 73:=Kx.A7 Tryz.func73 (by kernel_rfl) (by kernel_rfl)
theorem Gd7:A8 Tryz.prog 216:=Kx.A7 Tryz.func216 (by kernel_rfl) (by kernel_rfl)
theorem Gd3:A8 Tryz.prog 168:=Kx.A7 Tryz.func168 (by kernel_rfl) (by kernel_rfl)
theorem Ge3:A8 Tryz.prog 260:=Kx.A7 Tryz.func260 (by kernel_rfl) (by kernel_rfl)
theorem Gw1:A8 Tryz.prog 217:=Kx.A7 Tryz.func217 (by kernel_rfl) (by kernel_rfl)
theorem Ek3:A8 Tryz.prog 169:=Kx.A7 Tryz.func169 (by kernel_rfl) (by kernel_rfl)
theorem Ge0:A8 Tryz.prog 229:=Kx.A7 Tryz.func229 (by kernel_rfl) (by kernel_rfl)
theorem Ge4:A8 Tryz.prog 268:=Kx.A7 Tryz.func268 (by kernel_rfl) (by kernel_rfl)
theorem Gd8:A8 Tryz.prog 225:=Kx.A7 Tryz.func225 (by kernel_rfl) (by kernel_rfl)
theorem Gd9:A8 Tryz.prog 226:=Kx.A7 Tryz.func226 (by kernel_rfl) (by kernel_rfl)
theorem Gw2:A8 Tryz.prog 227:=Kx.A7 Tryz.func227 (by kernel_rfl) (by kernel_rfl)
theorem Gw3:A8 Tryz.prog 228:=Kx.A7 Tryz.func228 (by kernel_rfl) (by kernel_rfl)
theorem Ax4:A8 Tryz.prog 130:=Kx.A7 Tryz.func130 (by kernel_rfl) (by kernel_rfl)
theorem Fj7:A8 Tryz.prog 177:=Kx.A7 Tryz.func177 (by kernel_rfl) (by kernel_rfl)
theorem Gd4:A8 Tryz.prog 178:=Kx.A7 Tryz.func178 (by kernel_rfl) (by kernel_rfl)
theorem Fj2:A8 Tryz.prog 126:=Kx.A7 Tryz.func126 (by kernel_rfl) (by kernel_rfl)
theorem Fj9:A8 Tryz.prog 184:=Kx.A7 Tryz.func184 (by kernel_rfl) (by kernel_rfl)
theorem Gm9:A8 Tryz.prog 74:=Kx.A7 Tryz.func74 (by kernel_rfl) (by kernel_rfl)
theorem Gw6:A8 Tryz.prog 242:=Kx.A7 Tryz.func242 (by kernel_rfl) (by kernel_rfl)
theorem Ge1:A8 Tryz.prog 243:=Kx.A7 Tryz.func243 (by kernel_rfl) (by kernel_rfl)
theorem Fk1:A8 Tryz.prog 189:=Kx.A7 Tryz.func189 (by kernel_rfl) (by kernel_rfl)
theorem Gw5:A8 Tryz.prog 241:=Kx.A7 Tryz.func241 (by kernel_rfl) (by kernel_rfl)
theorem Ek4:A8 Tryz.prog 185:=Kx.A7 Tryz.func185 (by kernel_rfl) (by kernel_rfl)
theorem Fj4:A8 Tryz.prog 136:=Kx.A7 Tryz.func136 (by kernel_rfl) (by kernel_rfl)
theorem Hf7:A8 Tryz.prog 71:=Kx.A7 Tryz.func71 (by kernel_rfl) (by kernel_rfl)
theorem Gw4:A8 Tryz.prog 234:=Kx.A7 Tryz.func234 (by kernel_rfl) (by kernel_rfl)
theorem Gv0:A8 Tryz.prog 180:=Kx.A7 Tryz.func180 (by kernel_rfl) (by kernel_rfl)
theorem Gc3:A8 Tryz.prog 128:=Kx.A7 Tryz.func128 (by kernel_rfl) (by kernel_rfl)
theorem Fk5:A8 Tryz.prog 235:=Kx.A7 Tryz.func235 (by kernel_rfl) (by kernel_rfl)
theorem Gv1:A8 Tryz.prog 181:=Kx.A7 Tryz.func181 (by kernel_rfl) (by kernel_rfl)
theorem Gt4:A8 Tryz.prog 129:=Kx.A7 Tryz.func129 (by kernel_rfl) (by kernel_rfl)
theorem Gx5:A8 Tryz.prog 72:=Kx.A7 Tryz.func72 (by kernel_rfl) (by kernel_rfl)
theorem Cl8:A8 Tryz.prog 114:=Kx.A7 Tryz.func114 (by kernel_rfl) (by kernel_rfl)
theorem Ds1:A8 Tryz.prog 115:=Kx.A7 Tryz.func115 (by kernel_rfl) (by kernel_rfl)
theorem Gu0:A8 Tryz.prog 141:=Kx.A7 Tryz.func141 (by kernel_rfl) (by kernel_rfl)
theorem Gc7:A8 Tryz.prog 140:=Kx.A7 Tryz.func140 (by kernel_rfl) (by kernel_rfl)
theorem Df0:A8 Tryz.prog 103:=Kx.A7 Tryz.func103 (by kernel_rfl) (by kernel_rfl)
theorem Gc8:A8 Tryz.prog 142:=Kx.A7 Tryz.func142 (by kernel_rfl) (by kernel_rfl)
theorem Gn0:A8 Tryz.prog 81:=Kx.A7 Tryz.func81 (by kernel_rfl) (by kernel_rfl)
theorem Gu1:A8 Tryz.prog 143:=Kx.A7 Tryz.func143 (by kernel_rfl) (by kernel_rfl)
theorem Fk6:A8 Tryz.prog 244:=Kx.A7 Tryz.func244 (by kernel_rfl) (by kernel_rfl)
theorem Gv3:A8 Tryz.prog 190:=Kx.A7 Tryz.func190 (by kernel_rfl) (by kernel_rfl)
theorem Ax5:A8 Tryz.prog 191:=Kx.A7 Tryz.func191 (by kernel_rfl) (by kernel_rfl)
theorem Fk2:A8 Tryz.prog 192:=Kx.A7 Tryz.func192 (by kernel_rfl) (by kernel_rfl)
theorem Ds2:A8 Tryz.prog 144:=Kx.A7 Tryz.func144 (by kernel_rfl) (by kernel_rfl)
theorem Hn6:A8 Tryz.prog 82:=Kx.A7 Tryz.func82 (by kernel_rfl) (by kernel_rfl)
theorem Ek2:A8 Tryz.prog 124:=Kx.A7 Tryz.func124 (by kernel_rfl) (by kernel_rfl)
theorem Gm7:A8 Tryz.prog 36:=Kx.A7 Tryz.func36 (by kernel_rfl) (by kernel_rfl)
theorem Fj1:A8 Tryz.prog 125:=Kx.A7 Tryz.func125 (by kernel_rfl) (by kernel_rfl)
theorem Gx4:A8 Tryz.prog 70:=Kx.A7 Tryz.func70 (by kernel_rfl) (by kernel_rfl)
structure A3 where
 neg:Bool
 mag:List Int
 deriving DecidableEq
structure A1 where
 n_:A3
 d:A3
 deriving DecidableEq
def A5(x:Int):List Dat:=[.int .u32 x]
def V5(d0:Int):Nat->Int->(List Int)->Option A3
 |0,_,_=>none
 |nL1+1,v2,l4=>
  bif decide (v2>0) then
   (Option.bind (app l4 [u32.wrap (Int.tmod v2 1000000000)]) fun l5=>
   (V5 d0 nL1) (u64.wrap (Int.tdiv v2 1000000000)) l5)
  else
   (some (⟨decide (d0<0),l4⟩:A3))
def Ba8(d0:Int):Nat->Int->(List Int)->Option A3
 |0,_,_=>none
 |nL2+1,v4,l9=>
  bif decide (v4>0) then
   (Option.bind (app l9 [u32.wrap (Int.tmod v4 1000000000)]) fun l10=>
   (Ba8 d0 nL2) (u64.wrap (Int.tdiv v4 1000000000)) l10)
  else
   (some (⟨decide (d0<0),l9⟩:A3))
def F73(fuel:Nat)(d0:Int):Option A3:=
 bif decide (d0<0) then
  (V5 d0 fuel (u64.wrap (0-(u64.wrap d0))) [])
 else
  (Ba8 d0 fuel (u64.wrap d0) [])
noncomputable abbrev b73:=C2 Tryz.f73
abbrev G73(r:A3):=J none Tryz.prog 27 [] (L5 Tryz.prog Tryz.f73 (.agg [.b r.neg,.l 1 r.mag A5]))
theorem Bk3{fuel:Nat}{d0:Int}{r:A3}(hF:F73 fuel d0=some r):
 C3 Tryz.prog 73 [.i d0] (.agg [.b r.neg,.l 1 r.mag A5]):=by
 unfold F73 at hF;refine cf 27 Tryz.func73 ?_;refine jI 24 11 hF ?_ ?_<;>intro hF
 ·have hL1:∀(nL1:Nat) (v2:Int) (l4:List Int),V5 d0 nL1 v2 l4=some r->G73 r ⟨mkT [(2,.ptr 2 0),(3,.ptr 3 0),(4,.n v2)],[(2,.box 82 [.b false,.esl 1]),(3,.box 82 [.b (decide (d0<0)),.suf 24 0 0]),(24,.buf 0 192 1 (l4.map A5))],[kL b73 [1,1,1,1,0,0,0],.inBlock 0,kC b73 [1,1,1,1,1]]⟩:=by
   clear hF;intro nL1
   induction nL1 with
   |zero=>intro v2 l4 hF;cases hF
   |succ nL1 iL1=>
    intro v2 l4 hF;rw[V5]at hF;refine jI 7 15 hF ?_ ?_<;>intro hF
    ·obtain⟨l5,e3,hF⟩:=bnd hF;refine jo2 11 (am (f:=A5) e3) ?_;exact ja 9 (iL1 _ _ hF)
    ·cases hF;exact jr 7
  refine C4 9 (Bw6 (n:=1) 3 1 24 192 1 (by kernel_rfl) (by kernel_rfl) ?_);exact ja 0 (hL1 _ _ _ hF)
 ·have hL2:∀(nL2:Nat) (v4:Int) (l9:List Int),Ba8 d0 nL2 v4 l9=some r->G73 r ⟨mkT [(2,.ptr 2 0),(3,.ptr 3 0),(4,.n v4)],[(2,.box 82 [.b false,.esl 1]),(3,.box 82 [.b (decide (d0<0)),.suf 24 0 0]),(24,.buf 0 192 1 (l9.map A5))],[kL b73 [1,1,1,1,0,0,0],.inBlock 0,kC b73 [1,1,1,1,1]]⟩:=by
   clear hF;intro nL2
   induction nL2 with
   |zero=>intro v4 l9 hF;cases hF
   |succ nL2 iL2=>
    intro v4 l9 hF;rw[Ba8]at hF;refine jI 7 15 hF ?_ ?_<;>intro hF
    ·obtain⟨l10,e6,hF⟩:=bnd hF;refine jo2 11 (am (f:=A5) e6) ?_;exact ja 9 (iL2 _ _ hF)
    ·cases hF;exact jr 7
  refine C4 5 (Bw6 (n:=1) 3 1 24 192 1 (by kernel_rfl) (by kernel_rfl) ?_);exact ja 0 (hL2 _ _ _ hF)
def Fv9(d0:Int):Option Bool:=
 some (d0 !=d0)
theorem Dl3{d0:Int}{r:Bool}(hF:Fv9 d0=some r):
 C3 Tryz.prog 216 [.i d0] (.b r):=by
 unfold Fv9 at hF;refine cf 6 Tryz.func216 ?_;cases hF;exact jr 11
def Fr1(d0:Int)(d1:Int):Option Int:=
 Option.bind (Fv9 d0) fun y1=>
 Option.bind (Fv9 d1) fun y2=>
 bif y1 then
  (bif y2 then
   (some 0)
  else
   (some (-1)))
 else
  (bif y2 then
   (some 1)
  else
   (bif decide (d0<d1) then
    (some (-1))
   else
    (bif decide (d0>d1) then
     (some 1)
    else
     (some 0))))
theorem Dk5{d0:Int}{d1:Int}{r:Int}(hF:Fr1 d0 d1=some r):
 C3 Tryz.prog 168 [.i d0,.i d1] (.i r):=by
 unfold Fr1 at hF;refine cf 20 Tryz.func168 ?_;refine jB 7 hF Gd7 Dl3 fun y1 hF=> ?_
 refine jB 5 hF Gd7 Dl3 fun y2 hF=> ?_
 refine jI 7 11 hF ?_ ?_<;>intro hF
 ·refine jI 6 12 hF ?_ ?_<;>intro hF
  ·cases hF;exact jr 5
  ·cases hF;exact jr 6
 ·refine jI 7 13 hF ?_ ?_<;>intro hF
  ·cases hF;exact jr 5
  ·refine jI 9 16 hF ?_ ?_<;>intro hF
   ·cases hF;exact jr 5
   ·refine jI 9 19 hF ?_ ?_<;>intro hF
    ·cases hF;exact jr 5
    ·cases hF;exact jr 6
def Fw4(d0:Int):Option Bool:=
 some (d0 !=d0)
theorem Dm1{d0:Int}{r:Bool}(hF:Fw4 d0=some r):
 C3 Tryz.prog 260 [.w d0] (.b r):=by
 unfold Fw4 at hF;refine cf 6 Tryz.func260 ?_;cases hF;exact jr 11
def Fw0(d0:Int)(d1:Int):Option Int:=
 Option.bind (Fw4 d0) fun y1=>
 Option.bind (Fw4 d1) fun y2=>
 bif y1 then
  (bif y2 then
   (some 0)
  else
   (some (-1)))
 else
  (bif y2 then
   (some 1)
  else
   (bif decide (d0<d1) then
    (some (-1))
   else
    (bif decide (d0>d1) then
     (some 1)
    else
     (some 0))))
theorem Fc5{d0:Int}{d1:Int}{r:Int}(hF:Fw0 d0 d1=some r):
 C3 Tryz.prog 217 [.w d0,.w d1] (.i r):=by
 unfold Fw0 at hF;refine cf 20 Tryz.func217 ?_;refine jB 7 hF Ge3 Dm1 fun y1 hF=> ?_
 refine jB 5 hF Ge3 Dm1 fun y2 hF=> ?_
 refine jI 7 11 hF ?_ ?_<;>intro hF
 ·refine jI 6 12 hF ?_ ?_<;>intro hF
  ·cases hF;exact jr 5
  ·cases hF;exact jr 6
 ·refine jI 7 13 hF ?_ ?_<;>intro hF
  ·cases hF;exact jr 5
  ·refine jI 9 16 hF ?_ ?_<;>intro hF
   ·cases hF;exact jr 5
   ·refine jI 9 19 hF ?_ ?_<;>intro hF
    ·cases hF;exact jr 5
    ·cases hF;exact jr 6
def Ak2(d0:List Int)(d1:List Int):Nat->Int->Option Int
 |0,_=>none
 |nL1+1,v2=>
  bif decide (v2>=0) then
   (Option.bind (C6 d0 v2) fun y8=>
   Option.bind (C6 d1 v2) fun y9=>
   Option.bind (Fw0 y8 y9) fun y10=>
   bif y10 !=0 then
    (some y10)
   else
    ((Ak2 d0 d1 nL1) (i64.wrap (v2-1))))
  else
   (some 0)
def Dk6(fuel:Nat)(d0:List Int)(d1:List Int):Option Int:=
 Option.bind (Fr1 ((d0.map A5).length:Int) ((d1.map A5).length:Int)) fun y1=>
 bif y1 !=0 then
  (some y1)
 else
  (Ak2 d0 d1 fuel (i64.wrap (((d0.map A5).length:Int)-1)))
noncomputable abbrev Hc4:=C2 Tryz.f169
abbrev Hi2(r:Int):=J none Tryz.prog 35 [] (L5 Tryz.prog Tryz.f169 (.i r))
theorem Bo4{fuel:Nat}{d0:List Int}{d1:List Int}{r:Int}(hF:Dk6 fuel d0 d1=some r):
 C3 Tryz.prog 169 [.l 1 d0 A5,.l 1 d1 A5] (.i r):=by
 unfold Dk6 at hF;refine cf 35 Tryz.func169 ?_;refine jB 11 hF Gd3 Dk5 fun y1 hF=> ?_
 refine jI 7 14 hF ?_ ?_<;>intro hF
 ·cases hF;exact jr 6
 ·have hL1:∀(nL1:Nat) (v2:Int),Ak2 d0 d1 nL1 v2=some r->Hi2 r ⟨mkT [(0,.l 1 d0 A5),(1,.l 1 d1 A5),(6,.i v2)],[],[kL Hc4 [1,1,0,1,0,0],.inBlock 0,kC Hc4 [1,1,1]]⟩:=by
   clear hF;intro nL1
   induction nL1 with
   |zero=>intro v2 hF;cases hF
   |succ nL1 iL1=>
    intro v2 hF;rw[Ak2]at hF;refine jI 7 20 hF ?_ ?_<;>intro hF
    ·refine jd 5 ?_;obtain⟨y8,e8,hF⟩:=bnd hF;refine do1 2 (gm (f:=A5) e8) ?_;obtain⟨y9,e9,hF⟩:=bnd hF;refine do1 3 (gm (f:=A5) e9) ?_;refine dB 1 hF Gw1 Fc5 fun y10 hF=> ?_
     refine je 1 ?_;refine jI 5 33 hF ?_ ?_<;>intro hF
     ·cases hF;exact jr 6
     ·exact ja 8 (iL1 _ hF)
    ·cases hF;exact jr 6
  exact ja 12 (hL1 _ _ hF)
def Fr5(d0:List Int):Option (List Int):=
 some d0
noncomputable abbrev Hk8:=C2 Tryz.f229
theorem Dl6{d0:List Int}{r:List Int}(hF:Fr5 d0=some r):
 I0 Tryz.prog 229 [] [.l 1 d0 A5] [(2000,.box 80 [.l 1 r A5])] (.fn 268 [] [.ptr 2000 0]):=by
 unfold Fr5 at hF;refine cr 4 Tryz.func229 ?_;refine ja 10 (S0:=[(2,.fn 268 [] [.ptr 1 0])]) (O0:=[(1,.box 80 [.l 1 d0 A5])]) (T0:=[kC Hk8 [1,1]]) ?_;refine C4 0 (Ax2 [(1,2000)] (by kernel_rfl) (by kernel_rfl) (by kernel_rfl) (by kernel_rfl) ?_);have hF:=oi hF;subst hF;exact C4 0 (Ci6 (xs:=[.fn 268 [] [.ptr 2000 0]]) [.fn 268 [] [.ptr 2000 0]] rfl (by kernel_rfl) (by kernel_rfl) (M8.refl _) rfl)
def V0(x:Int×Int):List Kx.V:=[.d (.int .i64 x.1),.d (.int .u32 x.2)]
def Ak7(d0:List Int):Nat->Int->Option (List (Int×Int))
 |0,_=>none
 |nL1+1,v2=>
  bif decide (v2>=0) then
   (Option.bind (C6 d0 v2) fun y3=>
   Option.bind (
    (Ak7 d0 nL1) (i64.wrap (v2-1))) fun l3=>
   some ((v2,y3)::l3))
  else
   (some [])
def Fr9(fuel:Nat)(d0:List Int):Option (List (Int×Int)):=
 Ak7 d0 fuel (i64.wrap (((d0.map A5).length:Int)-1))
noncomputable abbrev Hk9:=C2 Tryz.f268
theorem Dm2{fuel:Nat}{d0:List Int}{r:List (Int×Int)}(hF:Fr9 fuel d0=some r):
 Dc4 Tryz.prog 268 [(2000,.frn 2000)] [.yl 2000,.rp [.sl 1 (d0.map A5)] 0] (r.map V0) false:=by
 unfold Fr9 at hF;refine Cw7 (N:=19) (b:=C2 Tryz.f268) Tryz.func268 (by kernel_rfl) rfl rfl (fun yl_ Inv_ Stop_ Pan_ hR_=> ?_);have hL1:∀(nL1:Nat) (r:List (Int×Int)) (v2:Int),Ak7 d0 nL1 v2=some r->J none Tryz.prog 19 [] (Df3 Tryz.prog Tryz.f268 yl_ Inv_ Stop_ Pan_ false (some (r.map V0))) ⟨mkT [(0,.yl 2000),(1,.rp [.sl 1 (d0.map A5)] 0),(3,.i v2)],[(2000,.frn 2000)],[kL Hk9 [1,0,0],.inBlock 0]⟩:=by
  clear hF;intro nL1
  induction nL1 with
  |zero=>intro r v2 hF;cases hF
  |succ nL1 iL1=>
   intro r v2 hF;rw[Ak7]at hF;refine jI 7 8 hF ?_ ?_<;>intro hF
   ·obtain⟨y3,e3,hF⟩:=bnd hF;refine jo1 10 (gm (f:=A5) e3) ?_;obtain⟨l3,hY_,hr_⟩:=bnd hF;clear hF;have hr_:=Option.some.inj hr_;subst hr_;have hF:=hY_;clear hY_;refine C4 1 (Ci7 hR_ (xs:=[.i v2,.w y3]) [.i v2,.w y3] (ys:=l3.map V0) (by kernel_rfl) (by kernel_rfl) (M8.refl _) ?_ ?_)
    rotate_left
    ·exact C4 3 (Bb6 hR_ (.inr rfl) rfl rfl (by kernel_rfl))
    ·exact ja 10 (iL1 _ _ hF)
   ·have hF:=oi hF;subst hF;exact C4 2 (Bb6 hR_ (.inl ⟨rfl,rfl⟩) rfl rfl (by kernel_rfl))
 exact ja 9 (hL1 _ _ _ hF)
def Ad0(d1:Int):List (Int×Int)->Int->(List Int)->Option (List Int×Int)
 |[],v2,l5=>
  some (l5,u32.wrap v2)
 |y6::ys_F225_L1,v2,l5=>
  ass (decide ((u64.wrap d1)≠0))<|
  ass (decide ((u64.wrap d1)≠0))<|
  Option.bind (C6 l5 y6.1) fun y7=>
  Option.bind (some (l5.set (0+Int.toNat y6.1) (u32.wrap (u64.wrap (Int.tdiv (u64.wrap ((u64.wrap (v2*1000000000))+(u64.wrap y6.2))) (u64.wrap d1)))))) fun l6=>
  (Ad0 d1 ys_F225_L1) (Int.tmod (u64.wrap ((u64.wrap (v2*1000000000))+(u64.wrap y6.2))) (u64.wrap d1)) l6
def Fr3(fuel:Nat)(d0:List Int)(d1:Int):Option (List Int×Int):=
 Option.bind (mkL ((d0.map A5).length:Int) ((d0.map A5).length:Int) 0) fun l1=>
 Option.bind (Fr5 d0) fun y1=>
 Option.bind (Fr9 fuel y1) fun ys1=>
 Ad0 d1 ys1 0 l1
noncomputable abbrev Di0:=C2 Tryz.f225
theorem Dl4{fuel:Nat}{d0:List Int}{d1:Int}{r:List Int×Int}(hF:Fr3 fuel d0 d1=some r):
 C3 Tryz.prog 225 [.l 1 d0 A5,.w d1] (.tup [.l 1 r.1 A5,.w r.2]):=by
 unfold Fr3 at hF;refine Ay2 (N:=38) (b:=C2 Tryz.f225) Tryz.func225 (by kernel_rfl) rfl rfl (fun w00_ M00_=> ?_);obtain⟨l1,e1,hF⟩:=bnd hF;refine jo2 10 (mm (f:=A5) e1) ?_;obtain⟨y1,e2,hF⟩:=bnd hF;refine jcr 12 [(15,2000)] Ge0 (Dl6 e2) ?_;refine ja 2 (S0:=[(3,.ptr 3 0),(6,.ptr 6 0),(7,.ptr 7 0),(15,.fn 268 [] [.ptr 15 0])]) (O0:=[(3,.box 192 [.w d1]),(6,.box 80 [.suf 13 0 0]),(7,.box 32 [.n 0]),(13,.buf 0 192 1 (l1.map A5)),(15,.box 80 [.l 1 y1 A5])]) (T0:=[kC Di0 [1,1,1,0,1,0],.inBlock 0,kC Di0 [1,1,1,1]]) ?_;refine Ax2 [(13,13),(15,15),(3,2100),(6,2101),(7,2102)] (by kernel_rfl) (by kernel_rfl) (by kernel_rfl) (by kernel_rfl) ?_;refine Ci5 (S0:=[(3,.ptr 2100 0),(6,.ptr 2101 0),(7,.ptr 2102 0),(15,.fn 268 [] [.ptr 15 0])]) (O0:=[(13,.buf 0 192 1 (l1.map A5)),(15,.box 80 [.l 1 y1 A5]),(2100,.box 192 [.w d1]),(2101,.box 80 [.suf 13 0 0]),(2102,.box 32 [.n 0])]) (T0:=[kC Di0 [1,1,1,0,1,0],.inBlock 0,kC Di0 [1,1,1,1]]) [3,6,7,15] [13,15,2100,2101,2102] (by kernel_rfl) rfl ?_;obtain⟨ys1,e3,hF⟩:=bnd hF;obtain⟨G_,hG_⟩:∃G:List (List Kx.V)->List (Nat×B9)->Prop,G=(fun yv ob=>∃(yl_:List (Int×Int)) (v2:Int) (l5:List Int),yv=yl_.map V0/\ob=[(13,.buf 0 192 1 (l5.map A5)),(2100,.box 192 [.w d1]),(2101,.box 80 [.suf 13 0 0]),(2102,.box 32 [.n v2])]/\Ad0 d1 yl_ v2 l5=some r):=⟨_,rfl⟩
 obtain⟨GX_,hGX_⟩:∃G:Code->List (Nat×B9)->Prop,G=(fun j ob=>False):=⟨_,rfl⟩
 refine Bb8 (P:=Tryz.prog) (g:=(.tmp 15)) (ps:= #[16,17]) (asg:=(cAt Di0 [1,1,1,0,1,0,0])) (bo:=(cAt Di0 [1,1,1,0,1,0,1])) (k:=[.inBlock 0,kC Di0 [1,1,1,1]]) (gf:=268) (first:=[]) (cap:=[.ptr 15 0]) (xs:=[.rp [.sl 1 (y1.map A5)] 0]) (os:=[]) (S1:=[(3,.ptr 2100 0),(6,.ptr 2101 0),(7,.ptr 2102 0)]) (ob0:=[(13,.buf 0 192 1 (l1.map A5)),(2100,.box 192 [.w d1]),(2101,.box 80 [.suf 13 0 0]),(2102,.box 32 [.n 0])]) [] [3,6,7] [13,2100,2101,2102] [.rp [.sl 1 (y1.map A5)] 0] (ysAll:=ys1.map V0) [2100,2101,2102] G_ GX_ rfl (by kernel_rfl) rfl (by kernel_rfl) rfl (by kernel_rfl) (M8.refl _) Ge4 (Dm2 e3) (by kernel_rfl) (by kernel_rfl) (by kernel_rfl) ?_ ?_ ?_ ⟨by kernel_rfl,by kernel_rfl⟩ ?_ ?_ ?_
 ·rw[hG_];exact⟨ys1,0,l1,rfl,by kernel_rfl,hF⟩
 ·intro yv_ ob_ h_;rw[hG_]at h_;obtain⟨_,_,_,_,rfl,_⟩:=h_;kernel_rfl
 ·intro j_ ob_ h_;rw[hGX_]at h_;exact h_.elim
 ·intro x_ hxa_ hxb_ hxp_ yv_ ysv_ ob_ h_;rw[hG_]at h_;obtain⟨yl_,v2,l5,hy_,rfl,hF⟩:=h_;cases yl_ with
  |nil=>cases hy_
  |cons y6 ys_F225_L1=>
   cases hy_;rw[Ad0]at hF;refine Cm9 (by kernel_rfl) ?_;refine Ci5 (S0:=[(3,.ptr 2100 0),(6,.ptr 2101 0),(7,.ptr 2102 0),(16,.i y6.1),(17,.w y6.2)]) (O0:=[(3000,.raw x_.D (.deferred (some []))),(3001,.raw x_.L (.loop (F4 x_ .ready none))),(13,.buf 0 192 1 (l5.map A5)),(2100,.box 192 [.w d1]),(2101,.box 80 [.suf 13 0 0]),(2102,.box 32 [.n v2])]) (T0:=[kC Di0 [1,1,1,0,1,0,0],.begR x_.L,kC Di0 [1,1,1,0,1,0,1]]) [3,6,7,16,17] [3000,3001,13,2100,2101,2102] (by kernel_rfl) rfl ?_;refine ja 7 (S0:=[(3,.ptr 2100 0),(6,.ptr 2101 0),(7,.ptr 2102 0),(8,.i y6.1),(9,.w y6.2),(16,.i y6.1),(17,.w y6.2)]) (O0:=[(3000,.raw x_.D (.deferred (some []))),(3001,.raw x_.L (.loop (F4 x_ .ready none))),(13,.buf 0 192 1 (l5.map A5)),(2100,.box 192 [.w d1]),(2101,.box 80 [.suf 13 0 0]),(2102,.box 32 [.n v2])]) (T0:=[.begR x_.L,kC Di0 [1,1,1,0,1,0,1]]) ?_;refine Bb5 (l:=x_.L) (q:=3001) (k:=[kC Di0 [1,1,1,0,1,0,1]]) (rec:=F4 x_ .ready none) rfl rfl rfl ?_;refine jd 10 ?_;obtain⟨hb5,hF⟩:=K8 hF;refine do1 5 (ck hb5) ?_;obtain⟨hb6,hF⟩:=K8 hF;refine do1 4 (ck hb6) ?_;obtain⟨y7,e8,hF⟩:=bnd hF;refine do1 0 (gm (f:=A5) e8) ?_;obtain⟨l6,e9,hF⟩:=bnd hF;have hst:=stm (f:=A5) (z:=u32.wrap (u64.wrap (Int.tdiv (u64.wrap ((u64.wrap (v2*1000000000))+(u64.wrap y6.2))) (u64.wrap d1)))) (k:=0) (xs:=[.int .u32 (u32.wrap (u64.wrap (Int.tdiv (u64.wrap ((u64.wrap (v2*1000000000))+(u64.wrap y6.2))) (u64.wrap d1))))]) (gj e8) rfl;refine R4 0 (Bo6 (o:=(match(l5.map A5)[0+Int.toNat y6.1]? with|some old=>some ((l5.map A5).set (0+Int.toNat y6.1) (Ah3 old 0 [.int .u32 (u32.wrap (u64.wrap (Int.tdiv (u64.wrap ((u64.wrap (v2*1000000000))+(u64.wrap y6.2))) (u64.wrap d1))))]))|none=>none)) (l6.map A5) (by kernel_rfl) (by kernel_rfl) (by cases e9;exact hst) ?_);refine je 1 ?_;refine ja 1 (S0:=[]) (O0:=rob x_ .busy none [(13,.buf 0 192 1 (l6.map A5)),(2100,.box 192 [.w d1]),(2101,.box 80 [.suf 13 0 0]),(2102,.box 32 [.n (Int.tmod (u64.wrap ((u64.wrap (v2*1000000000))+(u64.wrap y6.2))) (u64.wrap d1))])]) (T0:=[]) ?_;exact Bb7 rfl [(13,.buf 0 192 1 (l6.map A5)),(2100,.box 192 [.w d1]),(2101,.box 80 [.suf 13 0 0]),(2102,.box 32 [.n (Int.tmod (u64.wrap ((u64.wrap (v2*1000000000))+(u64.wrap y6.2))) (u64.wrap d1))])] rfl rfl (by kernel_rfl) (by rw[hG_];exact⟨ys_F225_L1,Int.tmod (u64.wrap ((u64.wrap (v2*1000000000))+(u64.wrap y6.2))) (u64.wrap d1),l6,rfl,rfl,hF⟩)
 ·intro D_ ob_ h_;rw[hG_]at h_;obtain⟨yl_,v2,l5,hy_,rfl,hF⟩:=h_;cases yl_ with
  |cons _ _=>cases hy_
  |nil=>
   clear hy_;rw[Ad0]at hF;refine Bw7 [(2100,3),(2101,6),(2102,7),(13,13)] (by kernel_rfl) (by kernel_rfl) (by kernel_rfl) ?_;refine ja 0 (S0:=[(6,.ptr 6 0),(7,.ptr 7 0)]) (O0:=[(6,.box 80 [.suf 13 0 0]),(7,.box 32 [.n v2]),(13,.buf 0 192 1 (l5.map A5))]) (T0:=[.inBlock 0,kC Di0 [1,1,1,1]]) ?_;refine jd 2 ?_;refine je 5 ?_;have hF:=oi hF;subst hF;exact C4 0 (Ai1 (xs:=[.l 1 l5 A5,.w (u32.wrap v2)]) [.l 1 l5 A5,.w (u32.wrap v2)] rfl rfl (by kernel_rfl) (M8.refl _) rfl (by kernel_rfl))
 ·intro D_ ob_ j_ h_;rw[hGX_]at h_;exact h_.elim
def Z8(d0:List Int)(d1:Int):Nat->Int->Int->(List Int)->Option (List Int)
 |0,_,_,_=>none
 |nL1+1,v3,v4,l5=>
  bif decide (v4<((d0.map A5).length:Int)) then
   (Option.bind (C6 d0 v4) fun y3=>
   Option.bind (app l5 [u32.wrap (Int.tmod (u64.wrap ((u64.wrap ((u64.wrap y3)*(u64.wrap d1)))+v3)) 1000000000)]) fun l6=>
   (Z8 d0 d1 nL1) (u64.wrap (Int.tdiv (u64.wrap ((u64.wrap ((u64.wrap y3)*(u64.wrap d1)))+v3)) 1000000000)) (i64.wrap (v4+1)) l6)
  else
   (Option.bind (app l5 [u32.wrap v3]) fun l7=>
   some l7)
def Fc6(fuel:Nat)(d0:List Int)(d1:Int):Option (List Int):=
 Option.bind (mkL 0 (i64.wrap (((d0.map A5).length:Int)+1)) 0) fun l1=>
 Z8 d0 d1 fuel 0 0 l1
noncomputable abbrev Ga4:=C2 Tryz.f226
abbrev Hi9(r:List Int):=J none Tryz.prog 41 [] (Cf8 Tryz.prog Tryz.f226 [(2000,.buf 0 192 1 (r.map A5))] (.suf 2000 0 0))
theorem Fc7{fuel:Nat}{d0:List Int}{d1:Int}{r:List Int}(hF:Fc6 fuel d0 d1=some r):
 I0 Tryz.prog 226 [] [.l 1 d0 A5,.w d1] [(2000,.buf 0 192 1 (r.map A5))] (.suf 2000 0 0):=by
 unfold Fc6 at hF;refine cr 41 Tryz.func226 ?_;obtain⟨l1,e1,hF⟩:=bnd hF;refine jo2 9 (mm (f:=A5) e1) ?_;have hL1:∀(nL1:Nat) (v3:Int) (v4:Int) (l5:List Int),Z8 d0 d1 nL1 v3 v4 l5=some r->Hi9 r ⟨mkT [(1,.w d1),(5,.suf 13 0 0),(6,.n v3),(14,.l 1 d0 A5),(15,.i ((d0.map A5).length:Int)),(16,.i v4)],[(13,.buf 0 192 1 (l5.map A5))],[kL Ga4 [1,1,1,0,1,0,0],.inBlock 0,kC Ga4 [1,1,1,1]]⟩:=by
  clear hF;intro nL1
  induction nL1 with
  |zero=>intro v3 v4 l5 hF;cases hF
  |succ nL1 iL1=>
   intro v3 v4 l5 hF;rw[Z8]at hF;refine jI 6 17 hF ?_ ?_<;>intro hF
   ·obtain⟨y3,e6,hF⟩:=bnd hF;refine jo1 6 (gm (f:=A5) e6) ?_;obtain⟨l6,e7,hF⟩:=bnd hF;refine jo2 20 (am (f:=A5) e7) ?_;exact ja 10 (iL1 _ _ _ hF)
   ·obtain⟨l7,e8,hF⟩:=bnd hF;refine jo2 8 (am (f:=A5) e8) ?_;refine ja 2 (S0:=[(4,.suf 13 0 0)]) (O0:=[(13,.buf 0 192 1 (l7.map A5))]) (T0:=[kC Ga4 [1,1,1,1,1]]) ?_;refine C4 0 (Ax2 [(13,2000)] (by kernel_rfl) (by kernel_rfl) (by kernel_rfl) (by kernel_rfl) ?_);have hF:=oi hF;subst hF;exact C4 0 (Ci6 (xs:=[.suf 2000 0 0]) [.suf 2000 0 0] rfl (by kernel_rfl) (by kernel_rfl) (M8.refl _) rfl)
 exact ja 15 (hL1 _ _ _ _ hF)
def Af9(d0:List Int)(d1:Int):Nat->Int->Int->(List Int)->Option (List Int)
 |0,_,_,_=>none
 |nL1+1,v3,v4,l5=>
  bif decide (v4<((d0.map A5).length:Int)) then
   (Option.bind (C6 d0 v4) fun y3=>
   Option.bind (app l5 [u32.wrap (Int.tmod (u64.wrap ((u64.wrap ((u64.wrap y3)*(u64.wrap d1)))+v3)) 1000000000)]) fun l6=>
   (Af9 d0 d1 nL1) (u64.wrap (Int.tdiv (u64.wrap ((u64.wrap ((u64.wrap y3)*(u64.wrap d1)))+v3)) 1000000000)) (i64.wrap (v4+1)) l6)
  else
   (Option.bind (app l5 [u32.wrap v3]) fun l7=>
   some l7)
def Dl5(fuel:Nat)(d0:List Int)(d1:Int):Option (List Int):=
 Option.bind (mkL 0 (i64.wrap (((d0.map A5).length:Int)+1)) 0) fun l1=>
 Af9 d0 d1 fuel 0 0 l1
abbrev Gp6(r:List Int):=J none Tryz.prog 41 [] (L5 Tryz.prog Tryz.f226 (.l 1 r A5))
theorem Eg1{fuel:Nat}{d0:List Int}{d1:Int}{r:List Int}(hF:Dl5 fuel d0 d1=some r):
 C3 Tryz.prog 226 [.l 1 d0 A5,.w d1] (.l 1 r A5):=by
 unfold Dl5 at hF;refine cf 41 Tryz.func226 ?_;obtain⟨l1,e1,hF⟩:=bnd hF;refine jo2 9 (mm (f:=A5) e1) ?_;have hL1:∀(nL1:Nat) (v3:Int) (v4:Int) (l5:List Int),Af9 d0 d1 nL1 v3 v4 l5=some r->Gp6 r ⟨mkT [(1,.w d1),(5,.suf 13 0 0),(6,.n v3),(14,.l 1 d0 A5),(15,.i ((d0.map A5).length:Int)),(16,.i v4)],[(13,.buf 0 192 1 (l5.map A5))],[kL Ga4 [1,1,1,0,1,0,0],.inBlock 0,kC Ga4 [1,1,1,1]]⟩:=by
  clear hF;intro nL1
  induction nL1 with
  |zero=>intro v3 v4 l5 hF;cases hF
  |succ nL1 iL1=>
   intro v3 v4 l5 hF;rw[Af9]at hF;refine jI 6 17 hF ?_ ?_<;>intro hF
   ·obtain⟨y3,e6,hF⟩:=bnd hF;refine jo1 6 (gm (f:=A5) e6) ?_;obtain⟨l6,e7,hF⟩:=bnd hF;refine jo2 20 (am (f:=A5) e7) ?_;exact ja 10 (iL1 _ _ _ hF)
   ·obtain⟨l7,e8,hF⟩:=bnd hF;refine jo2 8 (am (f:=A5) e8) ?_;cases hF;exact jr 2
 exact ja 15 (hL1 _ _ _ _ hF)
def O9(d0:Nat)(d1:List Int)(d2:Int):Nat->Int->Int->Int->(List Int)->Option (Bool×List Int)
 |0,_,_,_,_=>none
 |nL1+1,v4,v5,v6,l10=>
  bif decide (v6<(i64.wrap (((d1.map A5).length:Int)+1))) then
   (bif decide (v6<((d1.map A5).length:Int)) then
    (Option.bind (C6 d1 v6) fun y15=>
    Option.bind (C6 (l10.drop d0) v6) fun y16=>
    bif decide ((i64.wrap ((i64.wrap ((i64.wrap y16)-(i64.wrap (Int.tmod (u64.wrap (v4+(u64.wrap (d2*(u64.wrap y15))))) 1000000000))))-v5))<0) then
     (Option.bind (C6 (l10.drop d0) v6) fun y17=>
     Option.bind (some (l10.set (d0+Int.toNat v6) (u32.wrap (i64.wrap ((i64.wrap ((i64.wrap ((i64.wrap y16)-(i64.wrap (Int.tmod (u64.wrap (v4+(u64.wrap (d2*(u64.wrap y15))))) 1000000000))))-v5))+1000000000))))) fun l11=>
     (O9 d0 d1 d2 nL1) (u64.wrap (Int.tdiv (u64.wrap (v4+(u64.wrap (d2*(u64.wrap y15))))) 1000000000)) 1 (i64.wrap (v6+1)) l11)
    else
     (Option.bind (C6 (l10.drop d0) v6) fun y18=>
     Option.bind (some (l10.set (d0+Int.toNat v6) (u32.wrap (i64.wrap ((i64.wrap ((i64.wrap y16)-(i64.wrap (Int.tmod (u64.wrap (v4+(u64.wrap (d2*(u64.wrap y15))))) 1000000000))))-v5))))) fun l12=>
     (O9 d0 d1 d2 nL1) (u64.wrap (Int.tdiv (u64.wrap (v4+(u64.wrap (d2*(u64.wrap y15))))) 1000000000)) 0 (i64.wrap (v6+1)) l12))
   else
    (Option.bind (C6 (l10.drop d0) v6) fun y19=>
    bif decide ((i64.wrap ((i64.wrap ((i64.wrap y19)-(i64.wrap (Int.tmod v4 1000000000))))-v5))<0) then
     (Option.bind (C6 (l10.drop d0) v6) fun y20=>
     Option.bind (some (l10.set (d0+Int.toNat v6) (u32.wrap (i64.wrap ((i64.wrap ((i64.wrap ((i64.wrap y19)-(i64.wrap (Int.tmod v4 1000000000))))-v5))+1000000000))))) fun l13=>
     (O9 d0 d1 d2 nL1) (u64.wrap (Int.tdiv v4 1000000000)) 1 (i64.wrap (v6+1)) l13)
    else
     (Option.bind (C6 (l10.drop d0) v6) fun y21=>
     Option.bind (some (l10.set (d0+Int.toNat v6) (u32.wrap (i64.wrap ((i64.wrap ((i64.wrap y19)-(i64.wrap (Int.tmod v4 1000000000))))-v5))))) fun l14=>
     (O9 d0 d1 d2 nL1) (u64.wrap (Int.tdiv v4 1000000000)) 0 (i64.wrap (v6+1)) l14)))
  else
   (some (decide (v5>0),l10))
def Fr4(fuel:Nat)(d0:Nat)(d1:List Int)(d2:Int)(d3:List Int):Option (Bool×List Int):=
 O9 d0 d1 d2 fuel 0 0 0 d3
noncomputable abbrev Hd0:=C2 Tryz.f227
abbrev Hj0(r:Bool×List Int):=J none Tryz.prog 57 [] (Cf8 Tryz.prog Tryz.f227 [(2000,.buf 0 192 1 (r.2.map A5))] (.b r.1))
theorem Fc8{fuel:Nat}{d0:Nat}{d1:List Int}{d2:Int}{d3:List Int}{r:Bool×List Int}(hF:Fr4 fuel d0 d1 d2 d3=some r):
 I0 Tryz.prog 227 [(2000,.buf 0 192 1 (d3.map A5))] [.suf 2000 0 d0,.l 1 d1 A5,.n d2] [(2000,.buf 0 192 1 (r.2.map A5))] (.b r.1):=by
 unfold Fr4 at hF;refine cr 57 Tryz.func227 ?_;have hL1:∀(nL1:Nat) (v4:Int) (v5:Int) (v6:Int) (l10:List Int),O9 d0 d1 d2 nL1 v4 v5 v6 l10=some r->Hj0 r ⟨mkT [(0,.suf 2000 0 d0),(1,.l 1 d1 A5),(2,.n d2),(7,.n v4),(8,.i v5),(14,.i (i64.wrap (((d1.map A5).length:Int)+1))),(15,.i v6)],[(2000,.buf 0 192 1 (l10.map A5))],[kL Hd0 [1,1,0,1,0,0],.inBlock 0,kC Hd0 [1,1,1]]⟩:=by
  clear hF;intro nL1
  induction nL1 with
  |zero=>intro v4 v5 v6 l10 hF;cases hF
  |succ nL1 iL1=>
   intro v4 v5 v6 l10 hF;rw[O9]at hF;refine jI 6 16 hF ?_ ?_<;>intro hF
   ·refine jI 22 22 hF ?_ ?_<;>intro hF
    ·obtain⟨y15,e23,hF⟩:=bnd hF;refine jo1 6 (gm (f:=A5) e23) ?_;obtain⟨y16,e24,hF⟩:=bnd hF;refine jo1 16 (gmd (f:=A5) e24) ?_;refine jo1 0 (gjm (f:=A5) (gjd e24)) ?_;refine jI 19 46 hF ?_ ?_<;>intro hF
     ·obtain⟨y17,e25,hF⟩:=bnd hF;refine jo1 12 (gmd (f:=A5) e25) ?_;obtain⟨l11,e26,hF⟩:=bnd hF;have hst:=stm (f:=A5) (z:=u32.wrap (i64.wrap ((i64.wrap ((i64.wrap ((i64.wrap y16)-(i64.wrap (Int.tmod (u64.wrap (v4+(u64.wrap (d2*(u64.wrap y15))))) 1000000000))))-v5))+1000000000))) (k:=0) (xs:=[.int .u32 (u32.wrap (i64.wrap ((i64.wrap ((i64.wrap ((i64.wrap y16)-(i64.wrap (Int.tmod (u64.wrap (v4+(u64.wrap (d2*(u64.wrap y15))))) 1000000000))))-v5))+1000000000)))]) (gjd e25) rfl;refine C4 0 (H5 (o:=(match(l10.map A5)[d0+Int.toNat v6]? with|some old=>some ((l10.map A5).set (d0+Int.toNat v6) (Ah3 old 0 [.int .u32 (u32.wrap (i64.wrap ((i64.wrap ((i64.wrap ((i64.wrap y16)-(i64.wrap (Int.tmod (u64.wrap (v4+(u64.wrap (d2*(u64.wrap y15))))) 1000000000))))-v5))+1000000000)))]))|none=>none)) (l11.map A5) (by kernel_rfl) (by cases e26;exact hst) ?_);exact ja 6 (iL1 _ _ _ _ hF)
     ·obtain⟨y18,e27,hF⟩:=bnd hF;refine jo1 7 (gmd (f:=A5) e27) ?_;obtain⟨l12,e28,hF⟩:=bnd hF;have hst:=stm (f:=A5) (z:=u32.wrap (i64.wrap ((i64.wrap ((i64.wrap y16)-(i64.wrap (Int.tmod (u64.wrap (v4+(u64.wrap (d2*(u64.wrap y15))))) 1000000000))))-v5))) (k:=0) (xs:=[.int .u32 (u32.wrap (i64.wrap ((i64.wrap ((i64.wrap y16)-(i64.wrap (Int.tmod (u64.wrap (v4+(u64.wrap (d2*(u64.wrap y15))))) 1000000000))))-v5)))]) (gjd e27) rfl;refine C4 0 (H5 (o:=(match(l10.map A5)[d0+Int.toNat v6]? with|some old=>some ((l10.map A5).set (d0+Int.toNat v6) (Ah3 old 0 [.int .u32 (u32.wrap (i64.wrap ((i64.wrap ((i64.wrap y16)-(i64.wrap (Int.tmod (u64.wrap (v4+(u64.wrap (d2*(u64.wrap y15))))) 1000000000))))-v5)))]))|none=>none)) (l12.map A5) (by kernel_rfl) (by cases e28;exact hst) ?_);exact ja 6 (iL1 _ _ _ _ hF)
    ·obtain⟨y19,e29,hF⟩:=bnd hF;refine jo1 12 (gmd (f:=A5) e29) ?_;refine jo1 0 (gjm (f:=A5) (gjd e29)) ?_;refine jI 19 46 hF ?_ ?_<;>intro hF
     ·obtain⟨y20,e30,hF⟩:=bnd hF;refine jo1 12 (gmd (f:=A5) e30) ?_;obtain⟨l13,e31,hF⟩:=bnd hF;have hst:=stm (f:=A5) (z:=u32.wrap (i64.wrap ((i64.wrap ((i64.wrap ((i64.wrap y19)-(i64.wrap (Int.tmod v4 1000000000))))-v5))+1000000000))) (k:=0) (xs:=[.int .u32 (u32.wrap (i64.wrap ((i64.wrap ((i64.wrap ((i64.wrap y19)-(i64.wrap (Int.tmod v4 1000000000))))-v5))+1000000000)))]) (gjd e30) rfl;refine C4 0 (H5 (o:=(match(l10.map A5)[d0+Int.toNat v6]? with|some old=>some ((l10.map A5).set (d0+Int.toNat v6) (Ah3 old 0 [.int .u32 (u32.wrap (i64.wrap ((i64.wrap ((i64.wrap ((i64.wrap y19)-(i64.wrap (Int.tmod v4 1000000000))))-v5))+1000000000)))]))|none=>none)) (l13.map A5) (by kernel_rfl) (by cases e31;exact hst) ?_);exact ja 6 (iL1 _ _ _ _ hF)
     ·obtain⟨y21,e32,hF⟩:=bnd hF;refine jo1 7 (gmd (f:=A5) e32) ?_;obtain⟨l14,e33,hF⟩:=bnd hF;have hst:=stm (f:=A5) (z:=u32.wrap (i64.wrap ((i64.wrap ((i64.wrap y19)-(i64.wrap (Int.tmod v4 1000000000))))-v5))) (k:=0) (xs:=[.int .u32 (u32.wrap (i64.wrap ((i64.wrap ((i64.wrap y19)-(i64.wrap (Int.tmod v4 1000000000))))-v5)))]) (gjd e32) rfl;refine C4 0 (H5 (o:=(match(l10.map A5)[d0+Int.toNat v6]? with|some old=>some ((l10.map A5).set (d0+Int.toNat v6) (Ah3 old 0 [.int .u32 (u32.wrap (i64.wrap ((i64.wrap ((i64.wrap y19)-(i64.wrap (Int.tmod v4 1000000000))))-v5)))]))|none=>none)) (l14.map A5) (by kernel_rfl) (by cases e33;exact hst) ?_);exact ja 6 (iL1 _ _ _ _ hF)
   ·cases hF;exact jrr 8
 exact ja 19 (hL1 _ _ _ _ _ hF)
def Z9(d0:Nat)(d1:List Int):Nat->Int->Int->(List Int)->Option (List Int)
 |0,_,_,_=>none
 |nL1+1,v3,v4,l6=>
  bif decide (v4<(i64.wrap (((d1.map A5).length:Int)+1))) then
   (Option.bind (C6 (l6.drop d0) v4) fun y9=>
   bif decide (v4<((d1.map A5).length:Int)) then
    (Option.bind (C6 d1 v4) fun y10=>
    Option.bind (C6 (l6.drop d0) v4) fun y11=>
    Option.bind (some (l6.set (d0+Int.toNat v4) (Int.tmod (u32.wrap ((u32.wrap (y9+v3))+y10)) 1000000000))) fun l7=>
    (Z9 d0 d1 nL1) (u32.wrap (Int.tdiv (u32.wrap ((u32.wrap (y9+v3))+y10)) 1000000000)) (i64.wrap (v4+1)) l7)
   else
    (Option.bind (C6 (l6.drop d0) v4) fun y12=>
    Option.bind (some (l6.set (d0+Int.toNat v4) (Int.tmod (u32.wrap (y9+v3)) 1000000000))) fun l8=>
    (Z9 d0 d1 nL1) (u32.wrap (Int.tdiv (u32.wrap (y9+v3)) 1000000000)) (i64.wrap (v4+1)) l8))
  else
   (some l6)
def Fw1(fuel:Nat)(d0:Nat)(d1:List Int)(d2:List Int):Option (List Int):=
 Z9 d0 d1 fuel 0 0 d2
noncomputable abbrev Hk7:=C2 Tryz.f228
abbrev Hj1(r:List Int):=J none Tryz.prog 37 [] (Cf8 Tryz.prog Tryz.f228 [(2000,.buf 0 192 1 (r.map A5))] (.tup []))
theorem Fc9{fuel:Nat}{d0:Nat}{d1:List Int}{d2:List Int}{r:List Int}(hF:Fw1 fuel d0 d1 d2=some r):
 I0 Tryz.prog 228 [(2000,.buf 0 192 1 (d2.map A5))] [.suf 2000 0 d0,.l 1 d1 A5] [(2000,.buf 0 192 1 (r.map A5))] (.tup []):=by
 unfold Fw1 at hF;refine cr 37 Tryz.func228 ?_;have hL1:∀(nL1:Nat) (v3:Int) (v4:Int) (l6:List Int),Z9 d0 d1 nL1 v3 v4 l6=some r->Hj1 r ⟨mkT [(0,.suf 2000 0 d0),(1,.l 1 d1 A5),(4,.w v3),(9,.i (i64.wrap (((d1.map A5).length:Int)+1))),(10,.i v4)],[(2000,.buf 0 192 1 (l6.map A5))],[kL Hk7 [1,1,0,0],.inBlock 0]⟩:=by
  clear hF;intro nL1
  induction nL1 with
  |zero=>intro v3 v4 l6 hF;cases hF
  |succ nL1 iL1=>
   intro v3 v4 l6 hF;rw[Z9]at hF;refine jI 6 11 hF ?_ ?_<;>intro hF
   ·obtain⟨y9,e13,hF⟩:=bnd hF;refine jo1 13 (gmd (f:=A5) e13) ?_;refine jo1 0 (gjm (f:=A5) (gjd e13)) ?_;refine jI 12 22 hF ?_ ?_<;>intro hF
    ·obtain⟨y10,e14,hF⟩:=bnd hF;refine jo1 5 (gm (f:=A5) e14) ?_;obtain⟨y11,e15,hF⟩:=bnd hF;refine jo1 11 (gmd (f:=A5) e15) ?_;obtain⟨l7,e16,hF⟩:=bnd hF;have hst:=stm (f:=A5) (z:=Int.tmod (u32.wrap ((u32.wrap (y9+v3))+y10)) 1000000000) (k:=0) (xs:=[.int .u32 (Int.tmod (u32.wrap ((u32.wrap (y9+v3))+y10)) 1000000000)]) (gjd e15) rfl;refine C4 0 (H5 (o:=(match(l6.map A5)[d0+Int.toNat v4]? with|some old=>some ((l6.map A5).set (d0+Int.toNat v4) (Ah3 old 0 [.int .u32 (Int.tmod (u32.wrap ((u32.wrap (y9+v3))+y10)) 1000000000)]))|none=>none)) (l7.map A5) (by kernel_rfl) (by cases e16;exact hst) ?_);exact ja 7 (iL1 _ _ _ hF)
    ·obtain⟨y12,e17,hF⟩:=bnd hF;refine jo1 9 (gmd (f:=A5) e17) ?_;obtain⟨l8,e18,hF⟩:=bnd hF;have hst:=stm (f:=A5) (z:=Int.tmod (u32.wrap (y9+v3)) 1000000000) (k:=0) (xs:=[.int .u32 (Int.tmod (u32.wrap (y9+v3)) 1000000000)]) (gjd e17) rfl;refine C4 0 (H5 (o:=(match(l6.map A5)[d0+Int.toNat v4]? with|some old=>some ((l6.map A5).set (d0+Int.toNat v4) (Ah3 old 0 [.int .u32 (Int.tmod (u32.wrap (y9+v3)) 1000000000)]))|none=>none)) (l8.map A5) (by kernel_rfl) (by cases e18;exact hst) ?_);exact ja 7 (iL1 _ _ _ hF)
   ·cases hF;exact jrr 2
 exact ja 13 (hL1 _ _ _ _ hF)
def As0(d0:Bool):Nat->(List Int)->Option A3
 |0,_=>none
 |nL1+1,l4=>
  Option.bind (
   bif decide (((l4.map A5).length:Int)>0) then
    (Option.bind (C6 l4 (i64.wrap (((l4.map A5).length:Int)-1))) fun y9=>
    some (y9==0))
   else
    (some false)) fun o3=>
  bif o3 then
   (Option.bind (slc l4 0 (i64.wrap (((l4.map A5).length:Int)-1))) fun l5=>
   (As0 d0 nL1) l5)
  else
   (Option.bind (
    bif d0 then
     (some (decide (((l4.map A5).length:Int)>0)))
    else
     (some false)) fun o4=>
   some (⟨o4,l4⟩:A3))
def Bi0(fuel:Nat)(d0:Bool)(d1:List Int):Option A3:=
 As0 d0 fuel d1
noncomputable abbrev Eh4:=C2 Tryz.f130
abbrev Gp2(r:A3):=J none Tryz.prog 30 [] (L5 Tryz.prog Tryz.f130 (.agg [.b r.neg,.l 1 r.mag A5]))
theorem Q8{fuel:Nat}{d0:Bool}{d1:List Int}{r:A3}(hF:Bi0 fuel d0 d1=some r):
 C3 Tryz.prog 130 [.b d0,.l 1 d1 A5] (.agg [.b r.neg,.l 1 r.mag A5]):=by
 unfold Bi0 at hF;refine cf 30 Tryz.func130 ?_;have hL1:∀(nL1:Nat) (l4:List Int),As0 d0 nL1 l4=some r->Gp2 r ⟨mkT [(0,.b d0),(1,.l 1 l4 A5),(4,.ptr 4 0)],[(4,.box 82 [.b false,.esl 1])],[kL Eh4 [1,0,0,0],.inBlock 0,kC Eh4 [1,1]]⟩:=by
  clear hF;intro nL1
  induction nL1 with
  |zero=>intro l4 hF;cases hF
  |succ nL1 iL1=>
   intro l4 hF;rw[As0]at hF;obtain⟨o3,hO,hF⟩:=bnd hF;have hR3:Gp2 r ⟨mkT [(0,.b d0),(1,.l 1 l4 A5),(4,.ptr 4 0),(16,.b o3)],[(4,.box 82 [.b false,.esl 1])],[kO Eh4 [1,0,0,0,0,0],kC Eh4 [1,0,0,0,0,1],kC Eh4 [1,0,0,0,1],kL Eh4 [1,0,0,0],.inBlock 0,kC Eh4 [1,1]]⟩:=by
    clear hO;refine jI 1 16 hF ?_ ?_<;>intro hF
    ·obtain⟨l5,e11,hF⟩:=bnd hF;refine jo2 8 (sm (f:=A5) e11) ?_;exact ja 3 (iL1 _ hF)
    ·obtain⟨o4,hO,hF⟩:=bnd hF;have hR4:Gp2 r ⟨mkT [(4,.ptr 4 0)],[(4,.box 82 [.b o4,.l 1 l4 A5])],[kO Eh4 [1,1,0],kC Eh4 [1,1,1]]⟩:=by
      clear hO;cases hF;exact jr 1
     clear hF;rename _=some o4=>hF
     refine jI 6 23 hF ?_ ?_<;>intro hF
     ·cases hF;exact ja 7 hR4
     ·cases hF;exact ja 7 hR4
   clear hF;rename _=some o3=>hF
   refine jI 8 8 hF ?_ ?_<;>intro hF
   ·obtain⟨y9,e12,hF⟩:=bnd hF;refine jo1 4 (gm (f:=A5) e12) ?_;cases hF;exact ja 3 hR3
   ·cases hF;exact ja 8 hR3
 exact ja 7 (hL1 _ _ hF)
def As6(fuel:Nat)(l1:List Int)(l9:List Int)(l10:List Int)(v6:Int)(y93:Int)(y94:Int)(cL1:Int->(List Int)->(List Int)->Option (List Int×List Int)):Nat->Int->Option (List Int×List Int)
 |0,_=>none
 |nL2+1,v8=>
  Option.bind (
   Option.bind (C6 l1 (i64.wrap (((l1.map A5).length:Int)-2))) fun y132=>
   Option.bind (C6 l1 (i64.wrap (((l1.map A5).length:Int)-1))) fun y133=>
   Option.bind (C6 l10 (i64.wrap ((i64.wrap (v6+((l1.map A5).length:Int)))-2))) fun y134=>
   bif decide ((u64.wrap (v8*(u64.wrap y132)))>(u64.wrap ((u64.wrap ((u64.wrap ((u64.wrap ((u64.wrap ((u64.wrap y93)*1000000000))+(u64.wrap y94)))-(u64.wrap (v8*(u64.wrap y133)))))*1000000000))+(u64.wrap y134)))) then
    (Option.bind (C6 l1 (i64.wrap (((l1.map A5).length:Int)-1))) fun y135=>
    some (decide ((u64.wrap ((u64.wrap ((u64.wrap ((u64.wrap y93)*1000000000))+(u64.wrap y94)))-(u64.wrap (v8*(u64.wrap y135)))))<1000000000)))
   else
    (some false)) fun o9=>
  bif o9 then
   ((As6 fuel l1 l9 l10 v6 y93 y94 cL1 nL2) (u64.wrap (v8-1)))
  else
   (ass (decide ((0:Int)<=v6)&&decide (v6<=(((l10.map A5).drop 0).length:Int)))<|
   Option.bind (Fr4 fuel (0+Int.toNat v6) l1 v8 l10) fun y128=>
   bif y128.1 then
    (ass (decide ((0:Int)<=v6)&&decide (v6<=(((y128.2.map A5).drop 0).length:Int)))<|
    Option.bind (Fw1 fuel (0+Int.toNat v6) l1 y128.2) fun y129=>
    Option.bind (C6 l9 v6) fun y130=>
    Option.bind (some (l9.set (0+Int.toNat v6) (u32.wrap (u64.wrap (v8-1))))) fun l11=>
    cL1 (i64.wrap (v6-1)) l11 y129)
   else
    (Option.bind (C6 l9 v6) fun y131=>
    Option.bind (some (l9.set (0+Int.toNat v6) (u32.wrap v8))) fun l12=>
    cL1 (i64.wrap (v6-1)) l12 y128.2))
def Z6(fuel:Nat)(l1:List Int)(y4:Int):Nat->Int->(List Int)->(List Int)->Option (List Int×List Int)
 |0,_,_,_=>none
 |nL1+1,v6,l9,l10=>
  bif decide (v6>=0) then
   (Option.bind (C6 l10 (i64.wrap (v6+((l1.map A5).length:Int)))) fun y93=>
   Option.bind (C6 l10 (i64.wrap ((i64.wrap (v6+((l1.map A5).length:Int)))-1))) fun y94=>
   Option.bind (C6 l1 (i64.wrap (((l1.map A5).length:Int)-1))) fun y95=>
   ass (decide ((u64.wrap y95)≠0))<|
   As6 fuel l1 l9 l10 v6 y93 y94 (Z6 fuel l1 y4 nL1) fuel (bif decide (999999999<(u64.wrap (Int.tdiv (u64.wrap ((u64.wrap ((u64.wrap y93)*1000000000))+(u64.wrap y94))) (u64.wrap y95)))) then 999999999 else(u64.wrap (Int.tdiv (u64.wrap ((u64.wrap ((u64.wrap y93)*1000000000))+(u64.wrap y94))) (u64.wrap y95)))))
  else
   (Option.bind (slc l10 0 ((l1.map A5).length:Int)) fun l13=>
   Option.bind (Bi0 fuel false l13) fun y136=>
   Option.bind (Fr3 fuel y136.mag (u32.wrap (u64.wrap (Int.tdiv 1000000000 (u64.wrap ((u64.wrap y4)+1)))))) fun y137=>
   some (l9,y137.1))
def Ep1(fuel:Nat)(d0:List Int)(d1:List Int):Option (List Int×List Int):=
 Option.bind (Dk6 fuel d0 d1) fun y1=>
 bif decide (y1<0) then
  (some ([],d0))
 else
  (bif ((d1.map A5).length:Int)==1 then
   (Option.bind (C6 d1 0) fun y2=>
   Option.bind (Fr3 fuel d0 y2) fun y3=>
   some (y3.1,[y3.2]))
  else
   (Option.bind (C6 d1 (i64.wrap (((d1.map A5).length:Int)-1))) fun y4=>
   ass (decide ((u64.wrap ((u64.wrap y4)+1))≠0))<|
   Option.bind (Fc6 fuel d0 (u32.wrap (u64.wrap (Int.tdiv 1000000000 (u64.wrap ((u64.wrap y4)+1)))))) fun y5=>
   Option.bind (Dl5 fuel d1 (u32.wrap (u64.wrap (Int.tdiv 1000000000 (u64.wrap ((u64.wrap y4)+1)))))) fun y6=>
   Option.bind (slc y6 0 ((d1.map A5).length:Int)) fun l1=>
   Option.bind (mkL (i64.wrap (((y5.map A5).length:Int)-((l1.map A5).length:Int))) (i64.wrap (((y5.map A5).length:Int)-((l1.map A5).length:Int))) 0) fun l2=>
   Z6 fuel l1 y4 fuel (i64.wrap ((i64.wrap (((y5.map A5).length:Int)-((l1.map A5).length:Int)))-1)) l2 y5))
noncomputable abbrev Cs6:=C2 Tryz.f177
abbrev Gp5(r:List Int×List Int):=J none Tryz.prog 172 [] (L5 Tryz.prog Tryz.f177 (.tup [.l 1 r.1 A5,.l 1 r.2 A5]))
theorem Ch0{fuel:Nat}{d0:List Int}{d1:List Int}{r:List Int×List Int}(hF:Ep1 fuel d0 d1=some r):
 C3 Tryz.prog 177 [.l 1 d0 A5,.l 1 d1 A5] (.tup [.l 1 r.1 A5,.l 1 r.2 A5]):=by
 unfold Ep1 at hF;refine cf 172 Tryz.func177 ?_;refine jB 10 hF Ek3 Bo4 fun y1 hF=> ?_
 refine jI 2 21 hF ?_ ?_<;>intro hF
 ·cases hF;exact jr 7
 ·refine jI 9 25 hF ?_ ?_<;>intro hF
  ·obtain⟨y2,e2,hF⟩:=bnd hF;refine jo1 5 (gm (f:=A5) e2) ?_;refine jB 1 hF Gd8 Dl4 fun y3 hF=> ?_
   cases hF;exact jr 14
  ·obtain⟨y4,e4,hF⟩:=bnd hF;refine jo1 8 (gm (f:=A5) e4) ?_;obtain⟨hb3,hF⟩:=K8 hF;refine jo1 3 (ck hb3) ?_;refine jd 4 ?_;obtain⟨y5,e5,hF⟩:=bnd hF;refine dcr 2 [(49,2000)] Gd9 (Fc7 e5) ?_;refine dB 2 hF Gd9 Eg1 fun y6 hF=> ?_
   obtain⟨l1,e7,hF⟩:=bnd hF;refine do2 2 (sm (f:=A5) e7) ?_;refine je 2 ?_;obtain⟨l2,e8,hF⟩:=bnd hF;refine jo2 12 (mm (f:=A5) e8) ?_;have hL1:∀(nL1:Nat) (v6:Int) (l9:List Int) (l10:List Int),Z6 fuel l1 y4 nL1 v6 l9 l10=some r->Gp5 r ⟨mkT [(8,.w (u32.wrap (u64.wrap (Int.tdiv 1000000000 (u64.wrap ((u64.wrap y4)+1)))))),(9,.suf 49 0 0),(10,.l 1 l1 A5),(11,.i ((l1.map A5).length:Int)),(12,.suf 62 0 0),(13,.i v6)],[(49,.buf 0 192 1 (l10.map A5)),(62,.buf 0 192 1 (l9.map A5))],[kL Cs6 [1,1,1,1,1,1,1,0,1,0,0],.inBlock 0,kC Cs6 [1,1,1,1,1,1,1,1]]⟩:=by
    clear hF;intro nL1
    induction nL1 with
    |zero=>intro v6 l9 l10 hF;cases hF
    |succ nL1 iL1=>
     intro v6 l9 l10 hF;rw[Z6]at hF;refine jI 7 69 hF ?_ ?_<;>intro hF
     ·refine jd 5 ?_;obtain⟨y93,e99,hF⟩:=bnd hF;refine do1 4 (gm (f:=A5) e99) ?_;refine do1 0 (gjm (f:=A5) (gj e99)) ?_;obtain⟨y94,e100,hF⟩:=bnd hF;refine do1 7 (gm (f:=A5) e100) ?_;refine do1 0 (gjm (f:=A5) (gj e100)) ?_;refine je 3 ?_;obtain⟨y95,e101,hF⟩:=bnd hF;refine jo1 6 (gm (f:=A5) e101) ?_;obtain⟨hb39,hF⟩:=K8 hF;refine jo1 2 (ck hb39) ?_;have hL2:∀(nL2:Nat) (v8:Int),As6 fuel l1 l9 l10 v6 y93 y94 (Z6 fuel l1 y4 nL1) nL2 v8=some r->Gp5 r ⟨mkT [(8,.w (u32.wrap (u64.wrap (Int.tdiv 1000000000 (u64.wrap ((u64.wrap y4)+1)))))),(9,.suf 49 0 0),(10,.l 1 l1 A5),(11,.i ((l1.map A5).length:Int)),(12,.suf 62 0 0),(13,.i v6),(14,.n (u64.wrap ((u64.wrap ((u64.wrap y93)*1000000000))+(u64.wrap y94)))),(15,.n v8)],[(49,.buf 0 192 1 (l10.map A5)),(62,.buf 0 192 1 (l9.map A5))],[kL Cs6 [1,1,1,1,1,1,1,0,1,0,0,1,0,0,1,1,0,0,0],.inBlock 2,kC Cs6 [1,1,1,1,1,1,1,0,1,0,0,1,0,0,1,1,1],.inBlock 1,kC Cs6 [1,1,1,1,1,1,1,0,1,0,0,1,1],kL Cs6 [1,1,1,1,1,1,1,0,1,0,0],.inBlock 0,kC Cs6 [1,1,1,1,1,1,1,1]]⟩:=by
       clear hF;intro nL2
       induction nL2 with
       |zero=>intro v8 hF;cases hF
       |succ nL2 iL2=>
        intro v8 hF;rw[As6]at hF;obtain⟨o9,hO,hF⟩:=bnd hF;have hR9:Gp5 r ⟨mkT [(8,.w (u32.wrap (u64.wrap (Int.tdiv 1000000000 (u64.wrap ((u64.wrap y4)+1)))))),(9,.suf 49 0 0),(10,.l 1 l1 A5),(11,.i ((l1.map A5).length:Int)),(12,.suf 62 0 0),(13,.i v6),(14,.n (u64.wrap ((u64.wrap ((u64.wrap y93)*1000000000))+(u64.wrap y94)))),(15,.n v8),(139,.b o9)],[(49,.buf 0 192 1 (l10.map A5)),(62,.buf 0 192 1 (l9.map A5))],[kC Cs6 [1,1,1,1,1,1,1,0,1,0,0,1,0,0,1,1,0,0,0,0,1],kC Cs6 [1,1,1,1,1,1,1,0,1,0,0,1,0,0,1,1,0,0,0,1],kL Cs6 [1,1,1,1,1,1,1,0,1,0,0,1,0,0,1,1,0,0,0],.inBlock 2,kC Cs6 [1,1,1,1,1,1,1,0,1,0,0,1,0,0,1,1,1],.inBlock 1,kC Cs6 [1,1,1,1,1,1,1,0,1,0,0,1,1],kL Cs6 [1,1,1,1,1,1,1,0,1,0,0],.inBlock 0,kC Cs6 [1,1,1,1,1,1,1,1]]⟩:=by
         clear hO;refine jI 0 139 hF ?_ ?_<;>intro hF
         ·exact ja 9 (iL2 _ hF)
         ·obtain⟨hb51,hF⟩:=K8 hF;refine jo1 7 (ck hb51) ?_;obtain⟨y128,e134,hF⟩:=bnd hF;refine jcr 2 [(49,2000)] Gw2 (Fc8 e134) ?_;refine jI 1 147 hF ?_ ?_<;>intro hF
          ·obtain⟨hb53,hF⟩:=K8 hF;refine jo1 10 (ck hb53) ?_;obtain⟨y129,e135,hF⟩:=bnd hF;refine jcr 1 [(49,2000)] Gw3 (Fc9 e135) ?_;obtain⟨y130,e136,hF⟩:=bnd hF;refine jo1 6 (gm (f:=A5) e136) ?_;obtain⟨l11,e137,hF⟩:=bnd hF;have hst:=stm (f:=A5) (z:=u32.wrap (u64.wrap (v8-1))) (k:=0) (xs:=[.int .u32 (u32.wrap (u64.wrap (v8-1)))]) (gj e136) rfl;refine C4 0 (H5 (o:=(match(l9.map A5)[0+Int.toNat v6]? with|some old=>some ((l9.map A5).set (0+Int.toNat v6) (Ah3 old 0 [.int .u32 (u32.wrap (u64.wrap (v8-1)))]))|none=>none)) (l11.map A5) (by kernel_rfl) (by cases e137;exact hst) ?_);exact ja 7 (iL1 _ _ _ hF)
          ·obtain⟨y131,e138,hF⟩:=bnd hF;refine jo1 7 (gm (f:=A5) e138) ?_;obtain⟨l12,e139,hF⟩:=bnd hF;have hst:=stm (f:=A5) (z:=u32.wrap v8) (k:=0) (xs:=[.int .u32 (u32.wrap v8)]) (gj e138) rfl;refine C4 0 (H5 (o:=(match(l9.map A5)[0+Int.toNat v6]? with|some old=>some ((l9.map A5).set (0+Int.toNat v6) (Ah3 old 0 [.int .u32 (u32.wrap v8)]))|none=>none)) (l12.map A5) (by kernel_rfl) (by cases e139;exact hst) ?_);exact ja 7 (iL1 _ _ _ hF)
        clear hF;rename _=some o9=>hF
        refine jd 3 ?_;obtain⟨y132,e140,hF⟩:=bnd hF;refine do1 4 (gm (f:=A5) e140) ?_;obtain⟨y133,e141,hF⟩:=bnd hF;refine do1 8 (gm (f:=A5) e141) ?_;obtain⟨y134,e142,hF⟩:=bnd hF;refine do1 10 (gm (f:=A5) e142) ?_;refine do1 0 (gjm (f:=A5) (gj e142)) ?_;refine dI 4 127 hF ?_ ?_<;>intro hF
        ·obtain⟨y135,e143,hF⟩:=bnd hF;refine do1 5 (gm (f:=A5) e143) ?_;refine je 6 ?_;cases hF;exact ja 0 hR9
        ·refine je 12 ?_;cases hF;exact ja 0 hR9
      exact ja 6 (hL2 _ _ hF)
     ·refine C4 3 (Cr4 9 (by kernel_rfl) (by kernel_rfl) ?_);obtain⟨l13,e144,hF⟩:=bnd hF;refine jo2 3 (sm (f:=A5) e144) ?_;refine jB 0 hF Ax4 Q8 fun y136 hF=> ?_
      refine jB 2 hF Gd8 Dl4 fun y137 hF=> ?_
      cases hF;exact jr 13
   exact ja 14 (hL1 _ _ _ _ hF)
def Ac9:List (Int×Int)->Int->Option Int
 |[],v2=>
  some v2
 |y4::ys_F178_L1,v2=>
  (Ac9 ys_F178_L1) (u64.wrap ((u64.wrap (v2*1000000000))+(u64.wrap y4.2)))
def Fr2(fuel:Nat)(d0:List Int):Option Int:=
 Option.bind (Fr5 d0) fun y1=>
 Option.bind (Fr9 fuel y1) fun ys1=>
 Ac9 ys1 0
noncomputable abbrev Dh9:=C2 Tryz.f178
theorem Dk7{fuel:Nat}{d0:List Int}{r:Int}(hF:Fr2 fuel d0=some r):
 C3 Tryz.prog 178 [.l 1 d0 A5] (.n r):=by
 unfold Fr2 at hF;refine Ay2 (N:=16) (b:=C2 Tryz.f178) Tryz.func178 (by kernel_rfl) rfl rfl (fun w00_ M00_=> ?_);obtain⟨y1,e1,hF⟩:=bnd hF;refine jcr 13 [(7,2000)] Ge0 (Dl6 e1) ?_;refine ja 2 (S0:=[(3,.ptr 3 0),(7,.fn 268 [] [.ptr 7 0])]) (O0:=[(3,.box 32 [.n 0]),(7,.box 80 [.l 1 y1 A5])]) (T0:=[kC Dh9 [1,1,0,1,0],.inBlock 0,kC Dh9 [1,1,1]]) ?_;refine Ax2 [(7,7),(3,2100)] (by kernel_rfl) (by kernel_rfl) (by kernel_rfl) (by kernel_rfl) ?_;refine Ci5 (S0:=[(3,.ptr 2100 0),(7,.fn 268 [] [.ptr 7 0])]) (O0:=[(7,.box 80 [.l 1 y1 A5]),(2100,.box 32 [.n 0])]) (T0:=[kC Dh9 [1,1,0,1,0],.inBlock 0,kC Dh9 [1,1,1]]) [3,7] [7,2100] (by kernel_rfl) rfl ?_;obtain⟨ys1,e2,hF⟩:=bnd hF;obtain⟨G_,hG_⟩:∃G:List (List Kx.V)->List (Nat×B9)->Prop,G=(fun yv ob=>∃(yl_:List (Int×Int)) (v2:Int),yv=yl_.map V0/\ob=[(2100,.box 32 [.n v2])]/\Ac9 yl_ v2=some r):=⟨_,rfl⟩
 obtain⟨GX_,hGX_⟩:∃G:Code->List (Nat×B9)->Prop,G=(fun j ob=>False):=⟨_,rfl⟩
 refine Bb8 (P:=Tryz.prog) (g:=(.tmp 7)) (ps:= #[8,9]) (asg:=(cAt Dh9 [1,1,0,1,0,0])) (bo:=(cAt Dh9 [1,1,0,1,0,1])) (k:=[.inBlock 0,kC Dh9 [1,1,1]]) (gf:=268) (first:=[]) (cap:=[.ptr 7 0]) (xs:=[.rp [.sl 1 (y1.map A5)] 0]) (os:=[]) (S1:=[(3,.ptr 2100 0)]) (ob0:=[(2100,.box 32 [.n 0])]) [] [3] [2100] [.rp [.sl 1 (y1.map A5)] 0] (ysAll:=ys1.map V0) [2100] G_ GX_ rfl (by kernel_rfl) rfl (by kernel_rfl) rfl (by kernel_rfl) (M8.refl _) Ge4 (Dm2 e2) (by kernel_rfl) (by kernel_rfl) (by kernel_rfl) ?_ ?_ ?_ ⟨by kernel_rfl,by kernel_rfl⟩ ?_ ?_ ?_
 ·rw[hG_];exact⟨ys1,0,rfl,by kernel_rfl,hF⟩
 ·intro yv_ ob_ h_;rw[hG_]at h_;obtain⟨_,_,_,rfl,_⟩:=h_;kernel_rfl
 ·intro j_ ob_ h_;rw[hGX_]at h_;exact h_.elim
 ·intro x_ hxa_ hxb_ hxp_ yv_ ysv_ ob_ h_;rw[hG_]at h_;obtain⟨yl_,v2,hy_,rfl,hF⟩:=h_;cases yl_ with
  |nil=>cases hy_
  |cons y4 ys_F178_L1=>
   cases hy_;rw[Ac9]at hF;refine Cm9 (by kernel_rfl) ?_;refine Ci5 (S0:=[(3,.ptr 2100 0),(8,.i y4.1),(9,.w y4.2)]) (O0:=[(3000,.raw x_.D (.deferred (some []))),(3001,.raw x_.L (.loop (F4 x_ .ready none))),(2100,.box 32 [.n v2])]) (T0:=[kC Dh9 [1,1,0,1,0,0],.begR x_.L,kC Dh9 [1,1,0,1,0,1]]) [3,8,9] [3000,3001,2100] (by kernel_rfl) rfl ?_;refine ja 3 (S0:=[(3,.ptr 2100 0),(5,.w y4.2),(8,.i y4.1),(9,.w y4.2)]) (O0:=[(3000,.raw x_.D (.deferred (some []))),(3001,.raw x_.L (.loop (F4 x_ .ready none))),(2100,.box 32 [.n v2])]) (T0:=[.begR x_.L,kC Dh9 [1,1,0,1,0,1]]) ?_;refine Bb5 (l:=x_.L) (q:=3001) (k:=[kC Dh9 [1,1,0,1,0,1]]) (rec:=F4 x_ .ready none) rfl rfl rfl ?_;refine ja 10 (S0:=[]) (O0:=rob x_ .busy none [(2100,.box 32 [.n (u64.wrap ((u64.wrap (v2*1000000000))+(u64.wrap y4.2)))])]) (T0:=[]) ?_;exact Bb7 rfl [(2100,.box 32 [.n (u64.wrap ((u64.wrap (v2*1000000000))+(u64.wrap y4.2)))])] rfl rfl (by kernel_rfl) (by rw[hG_];exact⟨ys_F178_L1,u64.wrap ((u64.wrap (v2*1000000000))+(u64.wrap y4.2)),rfl,rfl,hF⟩)
 ·intro D_ ob_ h_;rw[hG_]at h_;obtain⟨yl_,v2,hy_,rfl,hF⟩:=h_;cases yl_ with
  |cons _ _=>cases hy_
  |nil=>
   clear hy_;rw[Ac9]at hF;refine Bw7 [(2100,3)] (by kernel_rfl) (by kernel_rfl) (by kernel_rfl) ?_;refine ja 0 (S0:=[(3,.ptr 3 0)]) (O0:=[(3,.box 32 [.n v2])]) (T0:=[.inBlock 0,kC Dh9 [1,1,1]]) ?_;have hF:=oi hF;subst hF;exact C4 6 (Ai1 (xs:=[.n v2]) [.n v2] rfl rfl (by kernel_rfl) (M8.refl _) rfl (by kernel_rfl))
 ·intro D_ ob_ j_ h_;rw[hGX_]at h_;exact h_.elim
def Ac6:Nat->Int->(List Int)->Option A3
 |0,_,_=>none
 |nL3+1,v6,l8=>
  bif decide (v6>0) then
   (Option.bind (app l8 [u32.wrap (Int.tmod v6 1000000000)]) fun l9=>
   (Ac6 nL3) (u64.wrap (Int.tdiv v6 1000000000)) l9)
  else
   (some (⟨false,l8⟩:A3))
def Ar9(fuel:Nat):Nat->Int->Int->Option A3
 |0,_,_=>none
 |nL2+1,v3,v4=>
  bif decide (v4>0) then
   (ass (decide (v4≠0))<|
   (Ar9 fuel nL2) v4 (Int.tmod v3 v4))
  else
   (Ac6 fuel v3 [])
def Aj5(fuel:Nat):Nat->(List Int)->(List Int)->Option A3
 |0,_,_=>none
 |nL1+1,l3,l4=>
  bif decide (((l4.map A5).length:Int)>2) then
   (Option.bind (Ep1 fuel l3 l4) fun y5=>
   Option.bind (Bi0 fuel false y5.2) fun y6=>
   (Aj5 fuel nL1) l4 y6.mag)
  else
   (bif ((l4.map A5).length:Int)==0 then
    (Option.bind (Bi0 fuel false l3) fun y7=>
    some y7)
   else
    (Option.bind (Ep1 fuel l3 l4) fun y8=>
    Option.bind (Fr2 fuel l4) fun y9=>
    Option.bind (Bi0 fuel false y8.2) fun y10=>
    Option.bind (Fr2 fuel y10.mag) fun y11=>
    Ar9 fuel fuel y9 y11))
def Ez3(fuel:Nat)(d0:A3)(d1:A3):Option A3:=
 Aj5 fuel fuel d0.mag d1.mag
noncomputable abbrev Fs7:=C2 Tryz.f126
abbrev Gp1(r:A3):=J none Tryz.prog 68 [] (L5 Tryz.prog Tryz.f126 (.agg [.b r.neg,.l 1 r.mag A5]))
theorem Cg4{fuel:Nat}{d0:A3}{d1:A3}{r:A3}(hF:Ez3 fuel d0 d1=some r):
 C3 Tryz.prog 126 [.agg [.b d0.neg,.l 1 d0.mag A5],.agg [.b d1.neg,.l 1 d1.mag A5]] (.agg [.b r.neg,.l 1 r.mag A5]):=by
 unfold Ez3 at hF;refine cf 68 Tryz.func126 ?_;refine jd 7 ?_;refine je 6 ?_;have hL1:∀(nL1:Nat) (l3:List Int) (l4:List Int),Aj5 fuel nL1 l3 l4=some r->Gp1 r ⟨mkT [(4,.ptr 4 0),(5,.l 1 l3 A5),(6,.l 1 l4 A5)],[(4,.box 82 [.b false,.esl 1])],[kL Fs7 [1,1,0,0,0],.inBlock 0,kC Fs7 [1,1,1]]⟩:=by
  clear hF;intro nL1
  induction nL1 with
  |zero=>intro l3 l4 hF;cases hF
  |succ nL1 iL1=>
   intro l3 l4 hF;rw[Aj5]at hF;refine jI 8 20 hF ?_ ?_<;>intro hF
   ·refine jB 7 hF Fj7 Ch0 fun y5 hF=> ?_
    refine jB 9 hF Ax4 Q8 fun y6 hF=> ?_
    exact ja 5 (iL1 _ _ hF)
   ·refine jI 9 33 hF ?_ ?_<;>intro hF
    ·refine jB 4 hF Ax4 Q8 fun y7 hF=> ?_
     cases hF;exact jr 2
    ·refine jB 6 hF Fj7 Ch0 fun y8 hF=> ?_
     refine jB 9 hF Gd4 Dk7 fun y9 hF=> ?_
     refine jB 1 hF Ax4 Q8 fun y10 hF=> ?_
     refine jB 1 hF Gd4 Dk7 fun y11 hF=> ?_
     have hL2:∀(nL2:Nat) (v3:Int) (v4:Int),Ar9 fuel nL2 v3 v4=some r->Gp1 r ⟨mkT [(4,.ptr 4 0),(11,.n v3),(12,.n v4)],[(4,.box 82 [.b false,.esl 1])],[kL Fs7 [1,1,1,1,1,1,0,0,0],.inBlock 2,kC Fs7 [1,1,1,1,1,1,1]]⟩:=by
      clear hF;intro nL2
      induction nL2 with
      |zero=>intro v3 v4 hF;cases hF
      |succ nL2 iL2=>
       intro v3 v4 hF;rw[Ar9]at hF;refine jI 7 49 hF ?_ ?_<;>intro hF
       ·refine jd 3 ?_;obtain⟨hb10,hF⟩:=K8 hF;refine do1 3 (ck hb10) ?_;refine je 2 ?_;exact ja 1 (iL2 _ _ hF)
       ·have hL3:∀(nL3:Nat) (v6:Int) (l8:List Int),Ac6 nL3 v6 l8=some r->Gp1 r ⟨mkT [(4,.ptr 4 0),(11,.n v6),(13,.ptr 13 0)],[(4,.box 82 [.b false,.esl 1]),(13,.box 82 [.b false,.suf 65 0 0]),(65,.buf 0 192 1 (l8.map A5))],[kL Fs7 [1,1,1,1,1,1,1,1,0,0,0],.inBlock 4,kC Fs7 [1,1,1,1,1,1,1,1,1]]⟩:=by
         clear hF;intro nL3
         induction nL3 with
         |zero=>intro v6 l8 hF;cases hF
         |succ nL3 iL3=>
          intro v6 l8 hF;rw[Ac6]at hF;refine jI 7 56 hF ?_ ?_<;>intro hF
          ·obtain⟨l9,e14,hF⟩:=bnd hF;refine jo2 11 (am (f:=A5) e14) ?_;exact ja 9 (iL3 _ _ hF)
          ·cases hF;exact jr 7
        refine C4 11 (Bw6 (n:=1) 13 1 65 192 1 (by kernel_rfl) (by kernel_rfl) ?_);exact ja 0 (hL3 _ _ _ hF)
     exact ja 6 (hL2 _ _ _ hF)
 exact ja 3 (hL1 _ _ _ hF)
def Fb4(fuel:Nat)(d0:A3):Option A3:=
 Option.bind (Bi0 fuel (!d0.neg) d0.mag) fun y1=>
 some y1
theorem Ch2{fuel:Nat}{d0:A3}{r:A3}(hF:Fb4 fuel d0=some r):
 C3 Tryz.prog 184 [.agg [.b d0.neg,.l 1 d0.mag A5]] (.agg [.b r.neg,.l 1 r.mag A5]):=by
 unfold Fb4 at hF;refine cf 9 Tryz.func184 ?_;refine jB 12 hF Ax4 Q8 fun y1 hF=> ?_
 cases hF;exact jr 2
def F74(d0:A3):Option Int:=
 bif ((d0.mag.map A5).length:Int)==0 then
  (some 0)
 else
  (bif d0.neg then
   (some (-1))
  else
   (some 1))
theorem Cq8{d0:A3}{r:Int}(hF:F74 d0=some r):
 C3 Tryz.prog 74 [.agg [.b d0.neg,.l 1 d0.mag A5]] (.i r):=by
 unfold F74 at hF;refine cf 11 Tryz.func74 ?_;refine jI 15 3 hF ?_ ?_<;>intro hF
 ·cases hF;exact jr 5
 ·refine jI 7 8 hF ?_ ?_<;>intro hF
  ·cases hF;exact jr 5
  ·cases hF;exact jr 7
def Ak4(d0:List Int)(d1:List Int):Nat->Int->Int->(List Int)->Option (List Int)
 |0,_,_,_=>none
 |nL1+1,v3,v4,l7=>
  bif decide (v4<((d1.map A5).length:Int)) then
   (Option.bind (C6 d1 v4) fun y5=>
   bif decide (v4<((d0.map A5).length:Int)) then
    (Option.bind (C6 d0 v4) fun y6=>
    Option.bind (app l7 [Int.tmod (u32.wrap ((u32.wrap (y5+v3))+y6)) 1000000000]) fun l8=>
    (Ak4 d0 d1 nL1) (u32.wrap (Int.tdiv (u32.wrap ((u32.wrap (y5+v3))+y6)) 1000000000)) (i64.wrap (v4+1)) l8)
   else
    (Option.bind (app l7 [Int.tmod (u32.wrap (y5+v3)) 1000000000]) fun l9=>
    (Ak4 d0 d1 nL1) (u32.wrap (Int.tdiv (u32.wrap (y5+v3)) 1000000000)) (i64.wrap (v4+1)) l9))
  else
   (bif decide (v3>0) then
    (Option.bind (app l7 [v3]) fun l10=>
    some l10)
   else
    (some l7))
def W9(d0:List Int)(d1:List Int):Nat->Int->Int->(List Int)->Option (List Int)
 |0,_,_,_=>none
 |nL2+1,v7,v8,l17=>
  bif decide (v8<((d0.map A5).length:Int)) then
   (Option.bind (C6 d0 v8) fun y11=>
   bif decide (v8<((d1.map A5).length:Int)) then
    (Option.bind (C6 d1 v8) fun y12=>
    Option.bind (app l17 [Int.tmod (u32.wrap ((u32.wrap (y11+v7))+y12)) 1000000000]) fun l18=>
    (W9 d0 d1 nL2) (u32.wrap (Int.tdiv (u32.wrap ((u32.wrap (y11+v7))+y12)) 1000000000)) (i64.wrap (v8+1)) l18)
   else
    (Option.bind (app l17 [Int.tmod (u32.wrap (y11+v7)) 1000000000]) fun l19=>
    (W9 d0 d1 nL2) (u32.wrap (Int.tdiv (u32.wrap (y11+v7)) 1000000000)) (i64.wrap (v8+1)) l19))
  else
   (bif decide (v7>0) then
    (Option.bind (app l17 [v7]) fun l20=>
    some l20)
   else
    (some l17))
def Fr6(fuel:Nat)(d0:List Int)(d1:List Int):Option (List Int):=
 bif decide (((d0.map A5).length:Int)<((d1.map A5).length:Int)) then
  (Option.bind (mkL 0 (i64.wrap (((d1.map A5).length:Int)+1)) 0) fun l1=>
  Ak4 d0 d1 fuel 0 0 l1)
 else
  (Option.bind (mkL 0 (i64.wrap (((d0.map A5).length:Int)+1)) 0) fun l11=>
  W9 d0 d1 fuel 0 0 l11)
noncomputable abbrev Gl7:=C2 Tryz.f242
abbrev Hb3(r:List Int):=J none Tryz.prog 56 [] (L5 Tryz.prog Tryz.f242 (.l 1 r A5))
theorem Fd2{fuel:Nat}{d0:List Int}{d1:List Int}{r:List Int}(hF:Fr6 fuel d0 d1=some r):
 C3 Tryz.prog 242 [.l 1 d0 A5,.l 1 d1 A5] (.l 1 r A5):=by
 unfold Fr6 at hF;refine cf 56 Tryz.func242 ?_;refine jI 13 14 hF ?_ ?_<;>intro hF
 ·obtain⟨l1,e1,hF⟩:=bnd hF;refine jo2 12 (mm (f:=A5) e1) ?_;have hL1:∀(nL1:Nat) (v3:Int) (v4:Int) (l7:List Int),Ak4 d0 d1 nL1 v3 v4 l7=some r->Hb3 r ⟨mkT [(1,.l 1 d0 A5),(5,.suf 20 0 0),(6,.w v3),(21,.l 1 d1 A5),(22,.i ((d1.map A5).length:Int)),(23,.i v4)],[(20,.buf 0 192 1 (l7.map A5))],[kL Gl7 [1,1,1,1,0,1,0,0],.inBlock 0,kC Gl7 [1,1,1,1,1]]⟩:=by
   clear hF;intro nL1
   induction nL1 with
   |zero=>intro v3 v4 l7 hF;cases hF
   |succ nL1 iL1=>
    intro v3 v4 l7 hF;rw[Ak4]at hF;refine jI 6 24 hF ?_ ?_<;>intro hF
    ·obtain⟨y5,e10,hF⟩:=bnd hF;refine jo1 7 (gm (f:=A5) e10) ?_;refine jI 19 34 hF ?_ ?_<;>intro hF
     ·obtain⟨y6,e11,hF⟩:=bnd hF;refine jo1 5 (gm (f:=A5) e11) ?_;obtain⟨l8,e12,hF⟩:=bnd hF;refine jo2 15 (am (f:=A5) e12) ?_;exact ja 7 (iL1 _ _ _ hF)
     ·obtain⟨l9,e13,hF⟩:=bnd hF;refine jo2 13 (am (f:=A5) e13) ?_;exact ja 7 (iL1 _ _ _ hF)
    ·refine jI 8 50 hF ?_ ?_<;>intro hF
     ·obtain⟨l10,e14,hF⟩:=bnd hF;refine jo2 5 (am (f:=A5) e14) ?_;cases hF;exact jr 7
     ·cases hF;exact jr 7
  exact ja 15 (hL1 _ _ _ _ hF)
 ·obtain⟨l11,e15,hF⟩:=bnd hF;refine jo2 7 (mm (f:=A5) e15) ?_;have hL2:∀(nL2:Nat) (v7:Int) (v8:Int) (l17:List Int),W9 d0 d1 nL2 v7 v8 l17=some r->Hb3 r ⟨mkT [(1,.l 1 d1 A5),(5,.suf 20 0 0),(6,.w v7),(21,.l 1 d0 A5),(22,.i ((d0.map A5).length:Int)),(23,.i v8)],[(20,.buf 0 192 1 (l17.map A5))],[kL Gl7 [1,1,1,1,0,1,0,0],.inBlock 0,kC Gl7 [1,1,1,1,1]]⟩:=by
   clear hF;intro nL2
   induction nL2 with
   |zero=>intro v7 v8 l17 hF;cases hF
   |succ nL2 iL2=>
    intro v7 v8 l17 hF;rw[W9]at hF;refine jI 6 24 hF ?_ ?_<;>intro hF
    ·obtain⟨y11,e24,hF⟩:=bnd hF;refine jo1 7 (gm (f:=A5) e24) ?_;refine jI 19 34 hF ?_ ?_<;>intro hF
     ·obtain⟨y12,e25,hF⟩:=bnd hF;refine jo1 5 (gm (f:=A5) e25) ?_;obtain⟨l18,e26,hF⟩:=bnd hF;refine jo2 15 (am (f:=A5) e26) ?_;exact ja 7 (iL2 _ _ _ hF)
     ·obtain⟨l19,e27,hF⟩:=bnd hF;refine jo2 13 (am (f:=A5) e27) ?_;exact ja 7 (iL2 _ _ _ hF)
    ·refine jI 8 50 hF ?_ ?_<;>intro hF
     ·obtain⟨l20,e28,hF⟩:=bnd hF;refine jo2 5 (am (f:=A5) e28) ?_;cases hF;exact jr 7
     ·cases hF;exact jr 7
  exact ja 15 (hL2 _ _ _ _ hF)
def S8(d0:List Int)(d1:List Int):Nat->Int->Int->(List Int)->Option (List Int)
 |0,_,_,_=>none
 |nL1+1,v3,v4,l11=>
  bif decide (v4<((d0.map A5).length:Int)) then
   (Option.bind (C6 d0 v4) fun y5=>
   bif decide (v4<((d1.map A5).length:Int)) then
    (Option.bind (C6 d1 v4) fun y6=>
    bif decide ((i64.wrap ((i64.wrap ((i64.wrap y5)-v3))-(i64.wrap y6)))<0) then
     (Option.bind (app l11 [u32.wrap (i64.wrap ((i64.wrap ((i64.wrap ((i64.wrap y5)-v3))-(i64.wrap y6)))+1000000000))]) fun l12=>
     (S8 d0 d1 nL1) 1 (i64.wrap (v4+1)) l12)
    else
     (Option.bind (app l11 [u32.wrap (i64.wrap ((i64.wrap ((i64.wrap y5)-v3))-(i64.wrap y6)))]) fun l13=>
     (S8 d0 d1 nL1) 0 (i64.wrap (v4+1)) l13))
   else
    (bif decide ((i64.wrap ((i64.wrap y5)-v3))<0) then
     (Option.bind (app l11 [u32.wrap (i64.wrap ((i64.wrap ((i64.wrap y5)-v3))+1000000000))]) fun l14=>
     (S8 d0 d1 nL1) 1 (i64.wrap (v4+1)) l14)
    else
     (Option.bind (app l11 [u32.wrap (i64.wrap ((i64.wrap y5)-v3))]) fun l15=>
     (S8 d0 d1 nL1) 0 (i64.wrap (v4+1)) l15)))
  else
   (some l11)
def Ep6(fuel:Nat)(d0:List Int)(d1:List Int):Option (List Int):=
 Option.bind (mkL 0 ((d0.map A5).length:Int) 0) fun l1=>
 S8 d0 d1 fuel 0 0 l1
noncomputable abbrev Hd2:=C2 Tryz.f243
abbrev Hj3(r:List Int):=J none Tryz.prog 46 [] (L5 Tryz.prog Tryz.f243 (.l 1 r A5))
theorem Dl7{fuel:Nat}{d0:List Int}{d1:List Int}{r:List Int}(hF:Ep6 fuel d0 d1=some r):
 C3 Tryz.prog 243 [.l 1 d0 A5,.l 1 d1 A5] (.l 1 r A5):=by
 unfold Ep6 at hF;refine cf 46 Tryz.func243 ?_;obtain⟨l1,e1,hF⟩:=bnd hF;refine jo2 8 (mm (f:=A5) e1) ?_;have hL1:∀(nL1:Nat) (v3:Int) (v4:Int) (l11:List Int),S8 d0 d1 nL1 v3 v4 l11=some r->Hj3 r ⟨mkT [(1,.l 1 d1 A5),(5,.suf 12 0 0),(6,.i v3),(13,.l 1 d0 A5),(14,.i ((d0.map A5).length:Int)),(15,.i v4)],[(12,.buf 0 192 1 (l11.map A5))],[kL Hd2 [1,1,1,0,1,0,0],.inBlock 0,kC Hd2 [1,1,1,1]]⟩:=by
  clear hF;intro nL1
  induction nL1 with
  |zero=>intro v3 v4 l11 hF;cases hF
  |succ nL1 iL1=>
   intro v3 v4 l11 hF;rw[S8]at hF;refine jI 6 16 hF ?_ ?_<;>intro hF
   ·obtain⟨y5,e14,hF⟩:=bnd hF;refine jo1 7 (gm (f:=A5) e14) ?_;refine jI 20 27 hF ?_ ?_<;>intro hF
    ·obtain⟨y6,e15,hF⟩:=bnd hF;refine jo1 5 (gm (f:=A5) e15) ?_;refine jI 15 36 hF ?_ ?_<;>intro hF
     ·obtain⟨l12,e16,hF⟩:=bnd hF;refine jo2 12 (am (f:=A5) e16) ?_;exact ja 7 (iL1 _ _ _ hF)
     ·obtain⟨l13,e17,hF⟩:=bnd hF;refine jo2 7 (am (f:=A5) e17) ?_;exact ja 7 (iL1 _ _ _ hF)
    ·refine jI 12 36 hF ?_ ?_<;>intro hF
     ·obtain⟨l14,e18,hF⟩:=bnd hF;refine jo2 12 (am (f:=A5) e18) ?_;exact ja 7 (iL1 _ _ _ hF)
     ·obtain⟨l15,e19,hF⟩:=bnd hF;refine jo2 7 (am (f:=A5) e19) ?_;exact ja 7 (iL1 _ _ _ hF)
   ·cases hF;exact jr 7
 exact ja 15 (hL1 _ _ _ _ hF)
def Ep5(fuel:Nat)(d0:A3)(d1:A3):Option A3:=
 bif d0.neg==d1.neg then
  (Option.bind (Fr6 fuel d0.mag d1.mag) fun y3=>
  Option.bind (Bi0 fuel d0.neg y3) fun y4=>
  some y4)
 else
  (Option.bind (Dk6 fuel d0.mag d1.mag) fun y5=>
  bif decide (y5<0) then
   (Option.bind (Ep6 fuel d1.mag d0.mag) fun y8=>
   Option.bind (Bi0 fuel d1.neg y8) fun y9=>
   some y9)
  else
   (Option.bind (Ep6 fuel d0.mag d1.mag) fun y12=>
   Option.bind (Bi0 fuel d0.neg y12) fun y13=>
   some y13))
theorem Ch4{fuel:Nat}{d0:A3}{d1:A3}{r:A3}(hF:Ep5 fuel d0 d1=some r):
 C3 Tryz.prog 189 [.agg [.b d0.neg,.l 1 d0.mag A5],.agg [.b d1.neg,.l 1 d1.mag A5]] (.agg [.b r.neg,.l 1 r.mag A5]):=by
 unfold Ep5 at hF;refine cf 42 Tryz.func189 ?_;refine jI 17 5 hF ?_ ?_<;>intro hF
 ·refine jd 2 ?_;refine dB 6 hF Gw6 Fd2 fun y3 hF=> ?_
  refine dB 0 hF Ax4 Q8 fun y4 hF=> ?_
  refine je 1 ?_;cases hF;exact jr 0
 ·refine jB 7 hF Ek3 Bo4 fun y5 hF=> ?_
  refine jI 3 19 hF ?_ ?_<;>intro hF
  ·refine jd 2 ?_;refine dB 6 hF Ge1 Dl7 fun y8 hF=> ?_
   refine dB 0 hF Ax4 Q8 fun y9 hF=> ?_
   refine je 1 ?_;cases hF;exact jr 0
  ·refine jd 4 ?_;refine dB 6 hF Ge1 Dl7 fun y12 hF=> ?_
   refine dB 0 hF Ax4 Q8 fun y13 hF=> ?_
   refine je 1 ?_;cases hF;exact jr 0
def Go9(fuel:Nat)(d0:A3)(d1:A3):Option A3:=
 Option.bind (Fb4 fuel d1) fun y3=>
 Option.bind (Ep5 fuel d0 y3) fun y4=>
 some y4
theorem Fd1{fuel:Nat}{d0:A3}{d1:A3}{r:A3}(hF:Go9 fuel d0 d1=some r):
 C3 Tryz.prog 241 [.agg [.b d0.neg,.l 1 d0.mag A5],.agg [.b d1.neg,.l 1 d1.mag A5]] (.agg [.b r.neg,.l 1 r.mag A5]):=by
 unfold Go9 at hF;refine cf 9 Tryz.func241 ?_;refine jd 7 ?_;refine dB 2 hF Fj9 Ch2 fun y3 hF=> ?_
 refine dB 0 hF Fk1 Ch4 fun y4 hF=> ?_
 refine je 1 ?_;cases hF;exact jr 0
def Ep3(fuel:Nat)(d0:A3)(d1:A3):Option (A3×A3):=
 Option.bind (Ep1 fuel d0.mag d1.mag) fun y1=>
 Option.bind (Bi0 fuel (!(d0.neg==d1.neg)) y1.1) fun y4=>
 Option.bind (Bi0 fuel d0.neg y1.2) fun y5=>
 Option.bind (
  Option.bind (F74 y5) fun y14=>
  bif y14 !=0 then
   (some (!(d0.neg==d1.neg)))
  else
   (some false)) fun o1=>
 bif o1 then
  (Option.bind (F73 fuel 1) fun y11=>
  Option.bind (Go9 fuel y4 y11) fun y12=>
  Option.bind (Ep5 fuel y5 d1) fun y13=>
  some (y12,y13))
 else
  (some (y4,y5))
noncomputable abbrev Gr0:=C2 Tryz.f185
abbrev Hi4(r:A3×A3):=J none Tryz.prog 47 [] (L5 Tryz.prog Tryz.f185 (.tup [.agg [.b r.1.neg,.l 1 r.1.mag A5],.agg [.b r.2.neg,.l 1 r.2.mag A5]]))
theorem Bo5{fuel:Nat}{d0:A3}{d1:A3}{r:A3×A3}(hF:Ep3 fuel d0 d1=some r):
 C3 Tryz.prog 185 [.agg [.b d0.neg,.l 1 d0.mag A5],.agg [.b d1.neg,.l 1 d1.mag A5]] (.tup [.agg [.b r.1.neg,.l 1 r.1.mag A5],.agg [.b r.2.neg,.l 1 r.2.mag A5]]):=by
 unfold Ep3 at hF;refine cf 47 Tryz.func185 ?_;refine jB 13 hF Fj7 Ch0 fun y1 hF=> ?_
 refine jd 7 ?_;refine dB 6 hF Ax4 Q8 fun y4 hF=> ?_
 refine dB 3 hF Ax4 Q8 fun y5 hF=> ?_
 refine je 4 ?_;obtain⟨o1,hO,hF⟩:=bnd hF;have hR1:Hi4 r ⟨mkT [(3,.ptr 3 0),(4,.ptr 4 0),(5,.ptr 5 0),(8,.ptr 8 0),(9,.ptr 9 0),(38,.b o1)],[(3,.box 82 [.b d1.neg,.l 1 d1.mag A5]),(4,.box 82 [.b false,.esl 1]),(5,.box 82 [.b false,.esl 1]),(8,.box 82 [.b y4.neg,.l 1 y4.mag A5]),(9,.box 82 [.b y5.neg,.l 1 y5.mag A5])],[kO Gr0 [1,1,1,0,0],kC Gr0 [1,1,1,0,1],kC Gr0 [1,1,1,1]]⟩:=by
  clear hO;refine jI 1 38 hF ?_ ?_<;>intro hF
  ·refine jd 1 ?_;refine dB 1 hF Ft4 Bk3 fun y11 hF=> ?_
   refine dB 0 hF Gw5 Fd1 fun y12 hF=> ?_
   refine dB 2 hF Fk1 Ch4 fun y13 hF=> ?_
   refine je 2 ?_;refine jd 1 ?_;refine je 4 ?_;cases hF;exact jr 0
  ·refine jd 3 ?_;refine je 4 ?_;cases hF;exact jr 0
 clear hF;rename _=some o1=>hF
 refine jB 4 hF Gm9 Cq8 fun y14 hF=> ?_
 refine jI 2 32 hF ?_ ?_<;>intro hF
 ·cases hF;exact ja 6 hR1
 ·cases hF;exact ja 6 hR1
def Ef0(fuel:Nat)(d0:A3)(d1:A3):Option A1:=
 Option.bind (Ez3 fuel d0 d1) fun y1=>
 bif d1.neg then
  (Option.bind (Fb4 fuel y1) fun y2=>
  Option.bind (
   bif decide (((y2.mag.map A5).length:Int)>1) then
    (some true)
   else
    (bif y2.neg then
     (some true)
    else
     (Option.bind (C6 y2.mag 0) fun y7=>
     some (y7 !=1)))) fun o1=>
  bif o1 then
   (Option.bind (Ep3 fuel d0 y2) fun y5=>
   Option.bind (Ep3 fuel d1 y2) fun y6=>
   some (⟨y5.1,y6.1⟩:A1))
  else
   (some (⟨d0,d1⟩:A1)))
 else
  (Option.bind (
   bif decide (((y1.mag.map A5).length:Int)>1) then
    (some true)
   else
    (bif y1.neg then
     (some true)
    else
     (Option.bind (C6 y1.mag 0) fun y12=>
     some (y12 !=1)))) fun o2=>
  bif o2 then
   (Option.bind (Ep3 fuel d0 y1) fun y10=>
   Option.bind (Ep3 fuel d1 y1) fun y11=>
   some (⟨y10.1,y11.1⟩:A1))
  else
   (some (⟨d0,d1⟩:A1)))
noncomputable abbrev Fs8:=C2 Tryz.f136
abbrev Ha9(r:A1):=J none Tryz.prog 43 [] (L5 Tryz.prog Tryz.f136 (.agg [.b r.n_.neg,.l 1 r.n_.mag A5,.b r.d.neg,.l 1 r.d.mag A5]))
theorem Cg6{fuel:Nat}{d0:A3}{d1:A3}{r:A1}(hF:Ef0 fuel d0 d1=some r):
 C3 Tryz.prog 136 [.agg [.b d0.neg,.l 1 d0.mag A5],.agg [.b d1.neg,.l 1 d1.mag A5]] (.agg [.b r.n_.neg,.l 1 r.n_.mag A5,.b r.d.neg,.l 1 r.d.mag A5]):=by
 unfold Ef0 at hF;refine cf 43 Tryz.func136 ?_;refine jB 10 hF Fj2 Cg4 fun y1 hF=> ?_
 refine jI 9 10 hF ?_ ?_<;>intro hF
 ·refine jB 3 hF Fj9 Ch2 fun y2 hF=> ?_
  obtain⟨o1,hO,hF⟩:=bnd hF;have hR1:Ha9 r ⟨mkT [(2,.ptr 2 0),(3,.ptr 3 0),(4,.ptr 4 0),(5,.ptr 5 0),(27,.b o1)],[(2,.box 82 [.b d0.neg,.l 1 d0.mag A5]),(3,.box 82 [.b d1.neg,.l 1 d1.mag A5]),(4,.box 84 [.b false,.esl 1,.b false,.esl 1]),(5,.box 82 [.b y2.neg,.l 1 y2.mag A5])],[kO Fs8 [1,1,1,0,0],kC Fs8 [1,1,1,0,1],kC Fs8 [1,1,1,1]]⟩:=by
   clear hO;refine jI 1 27 hF ?_ ?_<;>intro hF
   ·refine jB 5 hF Ek4 Bo5 fun y5 hF=> ?_
    refine jB 8 hF Ek4 Bo5 fun y6 hF=> ?_
    cases hF;exact jr 12
   ·cases hF;exact jr 9
  clear hF;rename _=some o1=>hF
  refine jI 10 17 hF ?_ ?_<;>intro hF
  ·cases hF;exact ja 10 hR1
  ·refine jI 4 21 hF ?_ ?_<;>intro hF
   ·cases hF;exact ja 6 hR1
   ·obtain⟨y7,e7,hF⟩:=bnd hF;refine jo1 2 (gm (f:=A5) e7) ?_;cases hF;exact ja 3 hR1
 ·obtain⟨o2,hO,hF⟩:=bnd hF;have hR2:Ha9 r ⟨mkT [(2,.ptr 2 0),(3,.ptr 3 0),(4,.ptr 4 0),(5,.ptr 5 0),(27,.b o2)],[(2,.box 82 [.b d0.neg,.l 1 d0.mag A5]),(3,.box 82 [.b d1.neg,.l 1 d1.mag A5]),(4,.box 84 [.b false,.esl 1,.b false,.esl 1]),(5,.box 82 [.b y1.neg,.l 1 y1.mag A5])],[kO Fs8 [1,1,1,0,0],kC Fs8 [1,1,1,0,1],kC Fs8 [1,1,1,1]]⟩:=by
   clear hO;refine jI 1 27 hF ?_ ?_<;>intro hF
   ·refine jB 5 hF Ek4 Bo5 fun y10 hF=> ?_
    refine jB 8 hF Ek4 Bo5 fun y11 hF=> ?_
    cases hF;exact jr 12
   ·cases hF;exact jr 9
  clear hF;rename _=some o2=>hF
  refine jI 10 17 hF ?_ ?_<;>intro hF
  ·cases hF;exact ja 10 hR2
  ·refine jI 4 21 hF ?_ ?_<;>intro hF
   ·cases hF;exact ja 6 hR2
   ·obtain⟨y12,e12,hF⟩:=bnd hF;refine jo1 2 (gm (f:=A5) e12) ?_;cases hF;exact ja 3 hR2
def F78(fuel:Nat)(d0:Int)(d1:Int):Option A1:=
 Option.bind (F73 fuel d0) fun y1=>
 Option.bind (F73 fuel d1) fun y2=>
 Option.bind (Ef0 fuel y1 y2) fun y3=>
 some y3
theorem Bk5{fuel:Nat}{d0:Int}{d1:Int}{r:A1}(hF:F78 fuel d0 d1=some r):
 C3 Tryz.prog 78 [.i d0,.i d1] (.agg [.b r.n_.neg,.l 1 r.n_.mag A5,.b r.d.neg,.l 1 r.d.mag A5]):=by
 unfold F78 at hF;refine cf 10 Tryz.func78 ?_;refine jB 7 hF Ft4 Bk3 fun y1 hF=> ?_
 refine jB 1 hF Ft4 Bk3 fun y2 hF=> ?_
 refine jB 0 hF Fj4 Cg6 fun y3 hF=> ?_
 cases hF;exact jr 2
def F71(d0:List UInt8)(d1:List UInt8):Option (List UInt8×List UInt8×Bool):=Ft0 d0 d1
theorem Eq8{d0:List UInt8}{d1:List UInt8}{r:List UInt8×List UInt8×Bool}(hF:F71 d0 d1=some r):C3 Tryz.prog 71 [.d (.str d0),.d (.str d1)] (.tup [.d (.str r.1),.d (.str r.2.1),.d (.bool r.2.2)]):=Dp6 (List.Mem.head _) Tryz.strings_Cut hF
def Fw2(d0:List UInt8)(d1:List UInt8):Option Bool:=
 Option.bind (
  bif decide ((d0.length:Int)>=(d1.length:Int)) then
   (ass (decide (0<=0)&&decide (0<=(d1.length:Int))&&decide ((d1.length:Int)<=d0.length))<|
   some (((d0.drop (Int.toNat 0)).take (Int.toNat ((d1.length:Int)-0)))==d1))
  else
   (some false)) fun o1=>
 some o1
noncomputable abbrev Hd1:=C2 Tryz.f234
abbrev Hj2(r:Bool):=J none Tryz.prog 18 [] (L5 Tryz.prog Tryz.f234 (.b r))
theorem Fd0{d0:List UInt8}{d1:List UInt8}{r:Bool}(hF:Fw2 d0 d1=some r):
 C3 Tryz.prog 234 [.s d0,.s d1] (.b r):=by
 unfold Fw2 at hF;refine cf 18 Tryz.func234 ?_;obtain⟨o1,hO,hF⟩:=bnd hF;have hR1:Hj2 r ⟨mkT [(4,.b o1)],[],[kO Hd1 [1,0],kC Hd1 [1,1]]⟩:=by
  clear hO;cases hF;exact jr 1
 clear hF;rename _=some o1=>hF
 refine jI 12 10 hF ?_ ?_<;>intro hF
 ·obtain⟨hb6,hF⟩:=K8 hF;refine jo1 3 (ck hb6) ?_;cases hF;exact ja 4 hR1
 ·cases hF;exact ja 8 hR1
def Gk1(d0:List UInt8)(d1:List UInt8):Option (List UInt8):=
 Option.bind (Fw2 d0 d1) fun y1=>
 bif y1 then
  (ass (decide (0<=(d1.length:Int))&&decide ((d1.length:Int)<=(d0.length:Int))&&decide ((d0.length:Int)<=d0.length))<|
  some ((d0.drop (Int.toNat (d1.length:Int))).take (Int.toNat ((d0.length:Int)-(d1.length:Int)))))
 else
  (some d0)
theorem Fb2{d0:List UInt8}{d1:List UInt8}{r:List UInt8}(hF:Gk1 d0 d1=some r):
 C3 Tryz.prog 180 [.s d0,.s d1] (.s r):=by
 unfold Gk1 at hF;refine cf 13 Tryz.func180 ?_;refine jB 9 hF Gw4 Fd0 fun y1 hF=> ?_
 refine jI 1 7 hF ?_ ?_<;>intro hF
 ·obtain⟨hb2,hF⟩:=K8 hF;refine jo1 6 (ck hb2) ?_;cases hF;exact jr 2
 ·cases hF;exact jr 7
def Ez4(d0:List UInt8)(d1:List UInt8):Option (List UInt8):=
 Option.bind (Gk1 d0 d1) fun y1=>
 some y1
theorem Di7{d0:List UInt8}{d1:List UInt8}{r:List UInt8}(hF:Ez4 d0 d1=some r):
 C3 Tryz.prog 128 [.s d0,.s d1] (.s r):=by
 unfold Ez4 at hF;refine cf 8 Tryz.func128 ?_;refine jB 8 hF Gv0 Fb2 fun y1 hF=> ?_
 cases hF;exact jr 2
def L4(x:Int):List Dat:=[.int .u8 x]
def Fw3(d0:Int):Option Int:=
 some (IntKind.u8.wrap (BitVec.ofInt IntKind.u8.bits d0|||BitVec.ofInt IntKind.u8.bits 32).toNat)
theorem Ci0{d0:Int}{r:Int}(hF:Fw3 d0=some r):
 C3 Tryz.prog 235 [.y d0] (.y r):=by
 unfold Fw3 at hF;refine cf 5 Tryz.func235 ?_;cases hF;exact jr 10
def Ba2(v7:Int)(v8:Int)(cL1:Int->Int->Option (Int×Bool))(v10:Int):Option (Int×Bool):=
 bif decide (v10>=(IntKind.u8.wrap 10)) then
  (some (0,true))
 else
  (bif decide (v7>=1844674407370955162) then
   (some (u64.wrap ((u64.wrap (1*2^(min (Int.toNat (u64.wrap 32)) u64.bits)))-1),true))
  else
   (Option.bind (
    bif decide ((u64.wrap ((u64.wrap (v7*(u64.wrap 10)))+(u64.wrap v10)))<(u64.wrap (v7*(u64.wrap 10)))) then
     (some true)
    else
     (some (decide ((u64.wrap ((u64.wrap (v7*(u64.wrap 10)))+(u64.wrap v10)))>(u64.wrap ((u64.wrap (1*2^(min (Int.toNat (u64.wrap 32)) u64.bits)))-1)))))) fun o39=>
   bif o39 then
    (some (u64.wrap ((u64.wrap (1*2^(min (Int.toNat (u64.wrap 32)) u64.bits)))-1),true))
   else
    (cL1 (u64.wrap ((u64.wrap (v7*(u64.wrap 10)))+(u64.wrap v10))) (i64.wrap (v8+1)))))
def Z7(d0:List UInt8):Nat->Int->Int->Option (Int×Bool)
 |0,_,_=>none
 |nL1+1,v7,v8=>
  bif decide (v8<(((d0.map toI).map L4).length:Int)) then
   (Option.bind (C6 (d0.map toI) v8) fun y76=>
   Option.bind (
    bif y76==95 then
     (some ())
    else
     (some ())) fun o40=>
   Option.bind (
    bif decide (48<=y76) then
     (some (decide (y76<=57)))
    else
     (some false)) fun o41=>
   bif o41 then
    (Ba2 v7 v8 (Z7 d0 nL1) (IntKind.u8.wrap (y76-48)))
   else
    (Option.bind (
     Option.bind (Fw3 y76) fun y89=>
     bif decide (97<=y89) then
      (Option.bind (Fw3 y76) fun y90=>
      some (decide (y90<=122)))
     else
      (some false)) fun o42=>
    bif o42 then
     (Option.bind (Fw3 y76) fun y88=>
     Ba2 v7 v8 (Z7 d0 nL1) (IntKind.u8.wrap ((IntKind.u8.wrap (y88-97))+10)))
    else
     (some (0,true))))
  else
   (some (v7,false))
def Gk2(fuel:Nat)(d0:List UInt8):Option (Int×Bool):=
 bif d0==[] then
  (some (0,true))
 else
  (ass (decide (0<=(u64.wrap 32)))<|
  Z7 d0 fuel 0 0)
noncomputable abbrev Am6:=C2 Tryz.f181
abbrev Fs3(r:Int×Bool):=J none Tryz.prog 172 [] (L5 Tryz.prog Tryz.f181 (.tup [.n r.1,.d (.ife r.2)]))
theorem Fb3{fuel:Nat}{d0:List UInt8}{r:Int×Bool}(hF:Gk2 fuel d0=some r):
 C3 Tryz.prog 181 [.s d0,.i 10,.i 32] (.tup [.n r.1,.d (.ife r.2)]):=by
 unfold Gk2 at hF;refine cf 172 Tryz.func181 ?_;refine jI 11 19 hF ?_ ?_<;>intro hF
 ·cases hF;exact jr 7
 ·obtain⟨hb2,hF⟩:=K8 hF;refine jo1 70 (ck hb2) ?_;refine C4 15 (H5 (o:=some (d0.map Ao0)) ((d0.map toI).map L4) (by kernel_rfl) (bym (f:=L4) (fun _=>rfl)) ?_);have hL1:∀(nL1:Nat) (v7:Int) (v8:Int),Z7 d0 nL1 v7 v8=some r->Fs3 r ⟨mkT [(1,.i 10),(8,.b false),(9,.s d0),(10,.n 1844674407370955162),(11,.n (u64.wrap ((u64.wrap (1*2^(min (Int.toNat (u64.wrap 32)) u64.bits)))-1))),(12,.b false),(13,.n v7),(99,.l 1 (d0.map toI) L4),(100,.i (((d0.map toI).map L4).length:Int)),(101,.i v8)],[],[kL Am6 [1,1,1,1,1,1,1,1,1,1,1,0,1,0,0],.inBlock 3,kC Am6 [1,1,1,1,1,1,1,1,1,1,1,1]]⟩:=by
   clear hF;intro nL1
   induction nL1 with
   |zero=>intro v7 v8 hF;cases hF
   |succ nL1 iL1=>
    intro v7 v8 hF;rw[Z7]at hF;refine jI 6 102 hF ?_ ?_<;>intro hF
    ·obtain⟨y76,e76,hF⟩:=bnd hF;refine jo1 6 (gm (f:=L4) e76) ?_;have hA2:∀(v10:Int),Ba2 v7 v8 (Z7 d0 nL1) v10=some r->Fs3 r ⟨mkT [(1,.i 10),(8,.b false),(9,.s d0),(10,.n 1844674407370955162),(11,.n (u64.wrap ((u64.wrap (1*2^(min (Int.toNat (u64.wrap 32)) u64.bits)))-1))),(12,.b false),(13,.n v7),(16,.y v10),(99,.l 1 (d0.map toI) L4),(100,.i (((d0.map toI).map L4).length:Int)),(101,.i v8)],[],[kC Am6 [1,1,1,1,1,1,1,1,1,1,1,0,1,0,0,1,1,0,0,1,1,1],.inBlock 4,kC Am6 [1,1,1,1,1,1,1,1,1,1,1,0,1,0,0,1,1,1],kL Am6 [1,1,1,1,1,1,1,1,1,1,1,0,1,0,0],.inBlock 3,kC Am6 [1,1,1,1,1,1,1,1,1,1,1,1]]⟩:=by
      intro v10 hF;unfold Ba2 at hF;refine jI 8 137 hF ?_ ?_<;>intro hF
      ·cases hF;exact jr 7
      ·refine jI 9 141 hF ?_ ?_<;>intro hF
       ·cases hF;exact jr 8
       ·obtain⟨o39,hO,hF⟩:=bnd hF;have hR39:Fs3 r ⟨mkT [(1,.i 10),(8,.b false),(9,.s d0),(10,.n 1844674407370955162),(11,.n (u64.wrap ((u64.wrap (1*2^(min (Int.toNat (u64.wrap 32)) u64.bits)))-1))),(12,.b false),(17,.n (u64.wrap ((u64.wrap (v7*(u64.wrap 10)))+(u64.wrap v10)))),(99,.l 1 (d0.map toI) L4),(100,.i (((d0.map toI).map L4).length:Int)),(101,.i v8),(159,.b o39)],[],[kO Am6 [1,1,1,1,1,1,1,1,1,1,1,0,1,0,0,1,1,0,0,1,1,1,1,1,1,1,0,0],kC Am6 [1,1,1,1,1,1,1,1,1,1,1,0,1,0,0,1,1,0,0,1,1,1,1,1,1,1,0,1],kC Am6 [1,1,1,1,1,1,1,1,1,1,1,0,1,0,0,1,1,0,0,1,1,1,1,1,1,1,1],.inBlock 4,kC Am6 [1,1,1,1,1,1,1,1,1,1,1,0,1,0,0,1,1,1],kL Am6 [1,1,1,1,1,1,1,1,1,1,1,0,1,0,0],.inBlock 3,kC Am6 [1,1,1,1,1,1,1,1,1,1,1,1]]⟩:=by
         clear hO;refine jI 1 159 hF ?_ ?_<;>intro hF
         ·cases hF;exact jr 8
         ·exact ja 11 (iL1 _ _ hF)
        clear hF;rename _=some o39=>hF
        refine jI 25 155 hF ?_ ?_<;>intro hF
        ·cases hF;exact ja 4 hR39
        ·cases hF;exact ja 4 hR39
     obtain⟨o40,hO,hF⟩:=bnd hF;have hR40:Fs3 r ⟨mkT [(1,.i 10),(8,.b false),(9,.s d0),(10,.n 1844674407370955162),(11,.n (u64.wrap ((u64.wrap (1*2^(min (Int.toNat (u64.wrap 32)) u64.bits)))-1))),(12,.b false),(13,.n v7),(15,.y y76),(99,.l 1 (d0.map toI) L4),(100,.i (((d0.map toI).map L4).length:Int)),(101,.i v8),(106,.b false)],[],[kO Am6 [1,1,1,1,1,1,1,1,1,1,1,0,1,0,0,1,1,0,0,1,1,0,0,0],kC Am6 [1,1,1,1,1,1,1,1,1,1,1,0,1,0,0,1,1,0,0,1,1,0,0,1],.inBlock 5,kC Am6 [1,1,1,1,1,1,1,1,1,1,1,0,1,0,0,1,1,0,0,1,1,1],.inBlock 4,kC Am6 [1,1,1,1,1,1,1,1,1,1,1,0,1,0,0,1,1,1],kL Am6 [1,1,1,1,1,1,1,1,1,1,1,0,1,0,0],.inBlock 3,kC Am6 [1,1,1,1,1,1,1,1,1,1,1,1]]⟩:=by
      clear hO;obtain⟨o41,hO,hF⟩:=bnd hF;have hR41:Fs3 r ⟨mkT [(1,.i 10),(8,.b false),(9,.s d0),(10,.n 1844674407370955162),(11,.n (u64.wrap ((u64.wrap (1*2^(min (Int.toNat (u64.wrap 32)) u64.bits)))-1))),(12,.b false),(13,.n v7),(15,.y y76),(99,.l 1 (d0.map toI) L4),(100,.i (((d0.map toI).map L4).length:Int)),(101,.i v8),(112,.b o41)],[],[kO Am6 [1,1,1,1,1,1,1,1,1,1,1,0,1,0,0,1,1,0,0,1,1,0,0,1,1,0],kC Am6 [1,1,1,1,1,1,1,1,1,1,1,0,1,0,0,1,1,0,0,1,1,0,0,1,1,1],.inBlock 5,kC Am6 [1,1,1,1,1,1,1,1,1,1,1,0,1,0,0,1,1,0,0,1,1,1],.inBlock 4,kC Am6 [1,1,1,1,1,1,1,1,1,1,1,0,1,0,0,1,1,1],kL Am6 [1,1,1,1,1,1,1,1,1,1,1,0,1,0,0],.inBlock 3,kC Am6 [1,1,1,1,1,1,1,1,1,1,1,1]]⟩:=by
       clear hO;refine jI 1 112 hF ?_ ?_<;>intro hF
       ·exact ja 7 (hA2 _ hF)
       ·obtain⟨o42,hO,hF⟩:=bnd hF;have hR42:Fs3 r ⟨mkT [(1,.i 10),(8,.b false),(9,.s d0),(10,.n 1844674407370955162),(11,.n (u64.wrap ((u64.wrap (1*2^(min (Int.toNat (u64.wrap 32)) u64.bits)))-1))),(12,.b false),(13,.n v7),(15,.y y76),(99,.l 1 (d0.map toI) L4),(100,.i (((d0.map toI).map L4).length:Int)),(101,.i v8),(121,.b o42)],[],[kO Am6 [1,1,1,1,1,1,1,1,1,1,1,0,1,0,0,1,1,0,0,1,1,0,0,1,1,1,1,0],kC Am6 [1,1,1,1,1,1,1,1,1,1,1,0,1,0,0,1,1,0,0,1,1,0,0,1,1,1,1,1],.inBlock 5,kC Am6 [1,1,1,1,1,1,1,1,1,1,1,0,1,0,0,1,1,0,0,1,1,1],.inBlock 4,kC Am6 [1,1,1,1,1,1,1,1,1,1,1,0,1,0,0,1,1,1],kL Am6 [1,1,1,1,1,1,1,1,1,1,1,0,1,0,0],.inBlock 3,kC Am6 [1,1,1,1,1,1,1,1,1,1,1,1]]⟩:=by
         clear hO;refine jI 1 121 hF ?_ ?_<;>intro hF
         ·refine jB 3 hF Fk5 Ci0 fun y88 hF=> ?_
          exact ja 5 (hA2 _ hF)
         ·cases hF;exact jr 7
        clear hF;rename _=some o42=>hF
        refine jB 4 hF Fk5 Ci0 fun y89 hF=> ?_
        refine jI 2 125 hF ?_ ?_<;>intro hF
        ·refine jB 1 hF Fk5 Ci0 fun y90 hF=> ?_
         cases hF;exact ja 3 hR42
        ·cases hF;exact ja 5 hR42
      clear hF;rename _=some o41=>hF
      refine jI 7 115 hF ?_ ?_<;>intro hF
      ·cases hF;exact ja 4 hR41
      ·cases hF;exact ja 4 hR41
     clear hF;rename _=some o40=>hF
     refine jI 14 109 hF ?_ ?_<;>intro hF
     ·cases hF;exact ja 3 hR40
     ·cases hF;exact ja 3 hR40
    ·cases hF;exact jr 20
  exact ja 5 (hL1 _ _ _ hF)
def Fu3(fuel:Nat)(d0:List UInt8):Option (Int×Bool):=
 Option.bind (Gk2 fuel d0) fun y1=>
 bif !!y1.2 then
  (none)
 else
  (some (y1.1,false))
theorem Ez5{fuel:Nat}{d0:List UInt8}{r:Int×Bool}(hF:Fu3 fuel d0=some r):
 C3 Tryz.prog 129 [.s d0,.i 10,.i 32] (.tup [.n r.1,.d (.ife r.2)]):=by
 unfold Fu3 at hF;refine cf 26 Tryz.func129 ?_;refine jB 10 hF Gv1 Fb3 fun y1 hF=> ?_
 refine jI 12 18 hF ?_ ?_<;>intro hF
 ·cases hF
 ·cases hF;exact jr 8
def Av7(fuel:Nat)(d0:List UInt8)(y1:List UInt8):Nat->Int->(List Int)->Option A3
 |0,_,_=>none
 |nL1+1,v2,l4=>
  bif decide (v2>0) then
   (ass (decide (0<=(bif decide ((i64.wrap (v2-9))>0) then(i64.wrap (v2-9)) else 0))&&decide ((bif decide ((i64.wrap (v2-9))>0) then(i64.wrap (v2-9)) else 0)<=v2)&&decide (v2<=y1.length))<|
   Option.bind (Fu3 fuel ((y1.drop (Int.toNat (bif decide ((i64.wrap (v2-9))>0) then(i64.wrap (v2-9)) else 0))).take (Int.toNat (v2-(bif decide ((i64.wrap (v2-9))>0) then(i64.wrap (v2-9)) else 0))))) fun y4=>
   Option.bind (app l4 [u32.wrap y4.1]) fun l5=>
   (Av7 fuel d0 y1 nL1) (i64.wrap (v2-9)) l5)
  else
   (Option.bind (Bi0 fuel (decide ((y1.length:Int)<(d0.length:Int))) l4) fun y5=>
   some y5)
def F72(fuel:Nat)(d0:List UInt8):Option A3:=
 Option.bind (Ez4 d0 [45]) fun y1=>
 Av7 fuel d0 y1 fuel (y1.length:Int) []
noncomputable abbrev b72:=C2 Tryz.f72
abbrev G72(r:A3):=J none Tryz.prog 44 [] (L5 Tryz.prog Tryz.f72 (.agg [.b r.neg,.l 1 r.mag A5]))
theorem Dm6{fuel:Nat}{d0:List UInt8}{r:A3}(hF:F72 fuel d0=some r):
 C3 Tryz.prog 72 [.s d0] (.agg [.b r.neg,.l 1 r.mag A5]):=by
 unfold F72 at hF;refine cf 44 Tryz.func72 ?_;refine jB 7 hF Gc3 Di7 fun y1 hF=> ?_
 have hL1:∀(nL1:Nat) (v2:Int) (l4:List Int),Av7 fuel d0 y1 nL1 v2 l4=some r->G72 r ⟨mkT [(2,.ptr 2 0),(3,.s y1),(4,.ptr 4 0),(5,.i v2)],[(2,.box 82 [.b false,.esl 1]),(4,.box 82 [.b (decide ((y1.length:Int)<(d0.length:Int))),.suf 37 0 0]),(37,.buf 0 192 1 (l4.map A5))],[kL b72 [1,1,1,0,1,0,0],.inBlock 0,kC b72 [1,1,1,1]]⟩:=by
  clear hF;intro nL1
  induction nL1 with
  |zero=>intro v2 l4 hF;cases hF
  |succ nL1 iL1=>
   intro v2 l4 hF;rw[Av7]at hF;refine jI 7 19 hF ?_ ?_<;>intro hF
   ·obtain⟨hb6,hF⟩:=K8 hF;refine jo1 11 (ck hb6) ?_;refine jB 0 hF Gt4 Ez5 fun y4 hF=> ?_
    obtain⟨l5,e7,hF⟩:=bnd hF;refine jo2 12 (am (f:=A5) e7) ?_;exact ja 9 (iL1 _ _ hF)
   ·refine jB 8 hF Ax4 Q8 fun y5 hF=> ?_
    cases hF;exact jr 2
 refine C4 22 (Bw6 (n:=1) 4 1 37 192 1 (by kernel_rfl) (by kernel_rfl) ?_);exact ja 0 (hL1 _ _ _ hF)
def F36(fuel:Nat)(d0:List UInt8):Option A1:=
 Option.bind (F71 d0 [47]) fun y1=>
 bif !y1.2.2 then
  (Option.bind (F72 fuel y1.1) fun y2=>
  Option.bind (F73 fuel 1) fun y3=>
  some (⟨y2,y3⟩:A1))
 else
  (Option.bind (F72 fuel y1.1) fun y4=>
  Option.bind (F72 fuel y1.2.1) fun y5=>
  some (⟨y4,y5⟩:A1))
theorem Cq6{fuel:Nat}{d0:List UInt8}{r:A1}(hF:F36 fuel d0=some r):
 C3 Tryz.prog 36 [.s d0] (.agg [.b r.n_.neg,.l 1 r.n_.mag A5,.b r.d.neg,.l 1 r.d.mag A5]):=by
 unfold F36 at hF;refine cf 23 Tryz.func36 ?_;refine jB 7 hF Hf7 Eq8 fun y1 hF=> ?_
 refine jI 14 13 hF ?_ ?_<;>intro hF
 ·refine jB 4 hF Gx5 Dm6 fun y2 hF=> ?_
  refine jB 0 hF Ft4 Bk3 fun y3 hF=> ?_
  cases hF;exact jr 3
 ·refine jB 5 hF Gx5 Dm6 fun y4 hF=> ?_
  refine jB 1 hF Gx5 Dm6 fun y5 hF=> ?_
  cases hF;exact jr 3
def Aj1(d1:A3)(v10:Int)(y23:Int)(cL1:Int->(List Int)->Option A3):Nat->Int->Int->(List Int)->Option A3
 |0,_,_,_=>none
 |nL2+1,v13,v14,l19=>
  bif decide (v14<((d1.mag.map A5).length:Int)) then
   (Option.bind (C6 d1.mag v14) fun y30=>
   Option.bind (C6 l19 (i64.wrap (v10+v14))) fun y31=>
   Option.bind (C6 l19 (i64.wrap (v10+v14))) fun y32=>
   Option.bind (some (l19.set (0+Int.toNat (i64.wrap (v10+v14))) (u32.wrap (Int.tmod (u64.wrap ((u64.wrap ((u64.wrap ((u64.wrap y23)*(u64.wrap y30)))+(u64.wrap y31)))+v13)) 1000000000)))) fun l20=>
   (Aj1 d1 v10 y23 cL1 nL2) (u64.wrap (Int.tdiv (u64.wrap ((u64.wrap ((u64.wrap ((u64.wrap y23)*(u64.wrap y30)))+(u64.wrap y31)))+v13)) 1000000000)) (i64.wrap (v14+1)) l20)
  else
   (Option.bind (C6 l19 (i64.wrap (v10+((d1.mag.map A5).length:Int)))) fun y33=>
   Option.bind (some (l19.set (0+Int.toNat (i64.wrap (v10+((d1.mag.map A5).length:Int)))) (u32.wrap v13))) fun l21=>
   cL1 (i64.wrap (v10+1)) l21)
def Z1(fuel:Nat)(d0:A3)(d1:A3):Nat->Int->(List Int)->Option A3
 |0,_,_=>none
 |nL1+1,v10,l15=>
  bif decide (v10<((d0.mag.map A5).length:Int)) then
   (Option.bind (C6 d0.mag v10) fun y23=>
   Aj1 d1 v10 y23 (Z1 fuel d0 d1 nL1) fuel 0 0 l15)
  else
   (Option.bind (Bi0 fuel (!(d0.neg==d1.neg)) l15) fun y34=>
   some y34)
def Bv4(fuel:Nat)(d0:A3)(d1:A3):Option A3:=
 Option.bind (mkL (i64.wrap (((d0.mag.map A5).length:Int)+((d1.mag.map A5).length:Int))) (i64.wrap (((d0.mag.map A5).length:Int)+((d1.mag.map A5).length:Int))) 0) fun l1=>
 Z1 fuel d0 d1 fuel 0 l1
noncomputable abbrev Fg4:=C2 Tryz.f114
abbrev Ha8(r:A3):=J none Tryz.prog 79 [] (L5 Tryz.prog Tryz.f114 (.agg [.b r.neg,.l 1 r.mag A5]))
theorem Aj2{fuel:Nat}{d0:A3}{d1:A3}{r:A3}(hF:Bv4 fuel d0 d1=some r):
 C3 Tryz.prog 114 [.agg [.b d0.neg,.l 1 d0.mag A5],.agg [.b d1.neg,.l 1 d1.mag A5]] (.agg [.b r.neg,.l 1 r.mag A5]):=by
 unfold Bv4 at hF;refine cf 79 Tryz.func114 ?_;obtain⟨l1,e1,hF⟩:=bnd hF;refine jo2 15 (mm (f:=A5) e1) ?_;have hL1:∀(nL1:Nat) (v10:Int) (l15:List Int),Z1 fuel d0 d1 nL1 v10 l15=some r->Ha8 r ⟨mkT [(2,.ptr 2 0),(3,.ptr 3 0),(4,.ptr 4 0),(5,.suf 19 0 0),(21,.l 1 d0.mag A5),(22,.i ((d0.mag.map A5).length:Int)),(23,.i v10)],[(2,.box 82 [.b d0.neg,.l 1 d0.mag A5]),(3,.box 82 [.b d1.neg,.l 1 d1.mag A5]),(4,.box 82 [.b false,.esl 1]),(19,.buf 0 192 1 (l15.map A5))],[kL Fg4 [1,1,0,1,0,0],.inBlock 0,kC Fg4 [1,1,1]]⟩:=by
  clear hF;intro nL1
  induction nL1 with
  |zero=>intro v10 l15 hF;cases hF
  |succ nL1 iL1=>
   intro v10 l15 hF;rw[Z1]at hF;refine jI 6 24 hF ?_ ?_<;>intro hF
   ·obtain⟨y23,e32,hF⟩:=bnd hF;refine jo1 7 (gm (f:=A5) e32) ?_;have hL2:∀(nL2:Nat) (v13:Int) (v14:Int) (l19:List Int),Aj1 d1 v10 y23 (Z1 fuel d0 d1 nL1) nL2 v13 v14 l19=some r->Ha8 r ⟨mkT [(2,.ptr 2 0),(3,.ptr 3 0),(4,.ptr 4 0),(5,.suf 19 0 0),(6,.i v10),(7,.w y23),(8,.n v13),(21,.l 1 d0.mag A5),(22,.i ((d0.mag.map A5).length:Int)),(23,.i v10),(29,.l 1 d1.mag A5),(30,.i ((d1.mag.map A5).length:Int)),(31,.i v14)],[(2,.box 82 [.b d0.neg,.l 1 d0.mag A5]),(3,.box 82 [.b d1.neg,.l 1 d1.mag A5]),(4,.box 82 [.b false,.esl 1]),(19,.buf 0 192 1 (l19.map A5))],[kL Fg4 [1,1,0,1,0,0,1,1,0,0,1,1,0,1,0,0],.inBlock 2,kC Fg4 [1,1,0,1,0,0,1,1,0,0,1,1,1],.inBlock 1,kC Fg4 [1,1,0,1,0,0,1,1,1],kL Fg4 [1,1,0,1,0,0],.inBlock 0,kC Fg4 [1,1,1]]⟩:=by
     clear hF;intro nL2
     induction nL2 with
     |zero=>intro v13 v14 l19 hF;cases hF
     |succ nL2 iL2=>
      intro v13 v14 l19 hF;rw[Aj1]at hF;refine jI 6 32 hF ?_ ?_<;>intro hF
      ·obtain⟨y30,e41,hF⟩:=bnd hF;refine jo1 7 (gm (f:=A5) e41) ?_;obtain⟨y31,e42,hF⟩:=bnd hF;refine jo1 15 (gm (f:=A5) e42) ?_;refine jo1 0 (gjm (f:=A5) (gj e42)) ?_;obtain⟨y32,e43,hF⟩:=bnd hF;refine jo1 16 (gm (f:=A5) e43) ?_;obtain⟨l20,e44,hF⟩:=bnd hF;have hst:=stm (f:=A5) (z:=u32.wrap (Int.tmod (u64.wrap ((u64.wrap ((u64.wrap ((u64.wrap y23)*(u64.wrap y30)))+(u64.wrap y31)))+v13)) 1000000000)) (k:=0) (xs:=[.int .u32 (u32.wrap (Int.tmod (u64.wrap ((u64.wrap ((u64.wrap ((u64.wrap y23)*(u64.wrap y30)))+(u64.wrap y31)))+v13)) 1000000000))]) (gj e43) rfl;refine C4 0 (H5 (o:=(match(l19.map A5)[0+Int.toNat (i64.wrap (v10+v14))]? with|some old=>some ((l19.map A5).set (0+Int.toNat (i64.wrap (v10+v14))) (Ah3 old 0 [.int .u32 (u32.wrap (Int.tmod (u64.wrap ((u64.wrap ((u64.wrap ((u64.wrap y23)*(u64.wrap y30)))+(u64.wrap y31)))+v13)) 1000000000))]))|none=>none)) (l20.map A5) (by kernel_rfl) (by cases e44;exact hst) ?_);exact ja 7 (iL2 _ _ _ hF)
      ·obtain⟨y33,e45,hF⟩:=bnd hF;refine jo1 11 (gm (f:=A5) e45) ?_;obtain⟨l21,e46,hF⟩:=bnd hF;have hst:=stm (f:=A5) (z:=u32.wrap v13) (k:=0) (xs:=[.int .u32 (u32.wrap v13)]) (gj e45) rfl;refine C4 0 (H5 (o:=(match(l19.map A5)[0+Int.toNat (i64.wrap (v10+((d1.mag.map A5).length:Int)))]? with|some old=>some ((l19.map A5).set (0+Int.toNat (i64.wrap (v10+((d1.mag.map A5).length:Int)))) (Ah3 old 0 [.int .u32 (u32.wrap v13)]))|none=>none)) (l21.map A5) (by kernel_rfl) (by cases e46;exact hst) ?_);exact ja 6 (iL1 _ _ hF)
    exact ja 18 (hL2 _ _ _ _ hF)
   ·refine jB 10 hF Ax4 Q8 fun y34 hF=> ?_
    cases hF;exact jr 2
 exact ja 12 (hL1 _ _ _ hF)
def Ed3(fuel:Nat)(d0:A3)(d1:A3):Option Int:=
 Option.bind (F74 d0) fun y4=>
 Option.bind (F74 d1) fun y5=>
 Option.bind (Fr1 y4 y5) fun y6=>
 Option.bind (
  bif y6 !=0 then
   (some true)
  else
   (some (((d0.mag.map A5).length:Int)==0))) fun o1=>
 bif o1 then
  (some y6)
 else
  (bif d0.neg then
   (Option.bind (Dk6 fuel d1.mag d0.mag) fun y7=>
   some y7)
  else
   (Option.bind (Dk6 fuel d0.mag d1.mag) fun y8=>
   some y8))
noncomputable abbrev Gq9:=C2 Tryz.f115
abbrev Hh8(r:Int):=J none Tryz.prog 32 [] (L5 Tryz.prog Tryz.f115 (.i r))
theorem Az9{fuel:Nat}{d0:A3}{d1:A3}{r:Int}(hF:Ed3 fuel d0 d1=some r):
 C3 Tryz.prog 115 [.agg [.b d0.neg,.l 1 d0.mag A5],.agg [.b d1.neg,.l 1 d1.mag A5]] (.i r):=by
 unfold Ed3 at hF;refine cf 32 Tryz.func115 ?_;refine jd 8 ?_;refine dB 1 hF Gm9 Cq8 fun y4 hF=> ?_
 refine dB 1 hF Gm9 Cq8 fun y5 hF=> ?_
 refine dB 0 hF Gd3 Dk5 fun y6 hF=> ?_
 refine je 1 ?_;obtain⟨o1,hO,hF⟩:=bnd hF;have hR1:Hh8 r ⟨mkT [(2,.ptr 2 0),(3,.ptr 3 0),(5,.i y6),(18,.b o1)],[(2,.box 82 [.b d0.neg,.l 1 d0.mag A5]),(3,.box 82 [.b d1.neg,.l 1 d1.mag A5])],[kO Gq9 [1,0,1,0],kC Gq9 [1,0,1,1],kC Gq9 [1,1]]⟩:=by
  clear hO;refine jI 1 18 hF ?_ ?_<;>intro hF
  ·cases hF;exact jr 6
  ·refine jI 8 21 hF ?_ ?_<;>intro hF
   ·refine jB 7 hF Ek3 Bo4 fun y7 hF=> ?_
    cases hF;exact jr 2
   ·refine jB 8 hF Ek3 Bo4 fun y8 hF=> ?_
    cases hF;exact jr 2
 clear hF;rename _=some o1=>hF
 refine jI 5 13 hF ?_ ?_<;>intro hF
 ·cases hF;exact ja 5 hR1
 ·cases hF;exact ja 5 hR1
def F65(fuel:Nat)(d0:A1)(d1:A1):Option Int:=
 Option.bind (Bv4 fuel d0.n_ d1.d) fun y4=>
 Option.bind (Bv4 fuel d1.n_ d0.d) fun y5=>
 Option.bind (Ed3 fuel y4 y5) fun y6=>
 some y6
theorem Eq7{fuel:Nat}{d0:A1}{d1:A1}{r:Int}(hF:F65 fuel d0 d1=some r):
 C3 Tryz.prog 65 [.agg [.b d0.n_.neg,.l 1 d0.n_.mag A5,.b d0.d.neg,.l 1 d0.d.mag A5],.agg [.b d1.n_.neg,.l 1 d1.n_.mag A5,.b d1.d.neg,.l 1 d1.d.mag A5]] (.i r):=by
 unfold F65 at hF;refine cf 16 Tryz.func65 ?_;refine jd 7 ?_;refine dB 4 hF Cl8 Aj2 fun y4 hF=> ?_
 refine dB 4 hF Cl8 Aj2 fun y5 hF=> ?_
 refine dB 0 hF Ds1 Az9 fun y6 hF=> ?_
 refine je 1 ?_;cases hF;exact jr 0
def Eo9(fuel:Nat)(d0:A1)(d1:A1):Option A1:=
 Option.bind (Bv4 fuel d0.n_ d1.d) fun y6=>
 Option.bind (Bv4 fuel d1.n_ d0.d) fun y7=>
 Option.bind (Ep5 fuel y6 y7) fun y8=>
 Option.bind (Bv4 fuel d0.d d1.d) fun y9=>
 Option.bind (Ef0 fuel y8 y9) fun y10=>
 some y10
theorem Dj7{fuel:Nat}{d0:A1}{d1:A1}{r:A1}(hF:Eo9 fuel d0 d1=some r):
 C3 Tryz.prog 140 [.agg [.b d0.n_.neg,.l 1 d0.n_.mag A5,.b d0.d.neg,.l 1 d0.d.mag A5],.agg [.b d1.n_.neg,.l 1 d1.n_.mag A5,.b d1.d.neg,.l 1 d1.d.mag A5]] (.agg [.b r.n_.neg,.l 1 r.n_.mag A5,.b r.d.neg,.l 1 r.d.mag A5]):=by
 unfold Eo9 at hF;refine cf 22 Tryz.func140 ?_;refine jd 7 ?_;refine dB 4 hF Cl8 Aj2 fun y6 hF=> ?_
 refine dB 4 hF Cl8 Aj2 fun y7 hF=> ?_
 refine dB 0 hF Fk1 Ch4 fun y8 hF=> ?_
 refine dB 4 hF Cl8 Aj2 fun y9 hF=> ?_
 refine dB 0 hF Fj4 Cg6 fun y10 hF=> ?_
 refine je 1 ?_;cases hF;exact jr 0
def Fa5(fuel:Nat)(d0:A1)(d1:A1):Option A1:=
 Option.bind (Bv4 fuel d0.n_ d1.n_) fun y4=>
 Option.bind (Bv4 fuel d0.d d1.d) fun y5=>
 Option.bind (Ef0 fuel y4 y5) fun y6=>
 some y6
theorem Fa6{fuel:Nat}{d0:A1}{d1:A1}{r:A1}(hF:Fa5 fuel d0 d1=some r):
 C3 Tryz.prog 159 [.agg [.b d0.n_.neg,.l 1 d0.n_.mag A5,.b d0.d.neg,.l 1 d0.d.mag A5],.agg [.b d1.n_.neg,.l 1 d1.n_.mag A5,.b d1.d.neg,.l 1 d1.d.mag A5]] (.agg [.b r.n_.neg,.l 1 r.n_.mag A5,.b r.d.neg,.l 1 r.d.mag A5]):=by
 unfold Fa5 at hF;refine cf 16 Tryz.func159 ?_;refine jd 7 ?_;refine dB 4 hF Cl8 Aj2 fun y4 hF=> ?_
 refine dB 4 hF Cl8 Aj2 fun y5 hF=> ?_
 refine dB 0 hF Fj4 Cg6 fun y6 hF=> ?_
 refine je 1 ?_;cases hF;exact jr 0
def Gj9(fuel:Nat)(d0:A1):Option A1:=
 Option.bind (Fb4 fuel d0.n_) fun y1=>
 some (⟨y1,d0.d⟩:A1)
theorem Fa0{fuel:Nat}{d0:A1}{r:A1}(hF:Gj9 fuel d0=some r):
 C3 Tryz.prog 141 [.agg [.b d0.n_.neg,.l 1 d0.n_.mag A5,.b d0.d.neg,.l 1 d0.d.mag A5]] (.agg [.b r.n_.neg,.l 1 r.n_.mag A5,.b r.d.neg,.l 1 r.d.mag A5]):=by
 unfold Gj9 at hF;refine cf 9 Tryz.func141 ?_;refine jd 6 ?_;refine dB 2 hF Fj9 Ch2 fun y1 hF=> ?_
 refine je 4 ?_;cases hF;exact jr 0
def F80(fuel:Nat)(d0:A1)(d1:A1):Option A1:=
 Option.bind (Gj9 fuel d1) fun y3=>
 Option.bind (Eo9 fuel d0 y3) fun y4=>
 some y4
theorem Fx6{fuel:Nat}{d0:A1}{d1:A1}{r:A1}(hF:F80 fuel d0 d1=some r):
 C3 Tryz.prog 80 [.agg [.b d0.n_.neg,.l 1 d0.n_.mag A5,.b d0.d.neg,.l 1 d0.d.mag A5],.agg [.b d1.n_.neg,.l 1 d1.n_.mag A5,.b d1.d.neg,.l 1 d1.d.mag A5]] (.agg [.b r.n_.neg,.l 1 r.n_.mag A5,.b r.d.neg,.l 1 r.d.mag A5]):=by
 unfold F80 at hF;refine cf 9 Tryz.func80 ?_;refine jd 7 ?_;refine dB 2 hF Gu0 Fa0 fun y3 hF=> ?_
 refine dB 0 hF Gc7 Dj7 fun y4 hF=> ?_
 refine je 1 ?_;cases hF;exact jr 0
def F37(d0:A1):Option Int:=
 Option.bind (F74 d0.n_) fun y1=>
 some y1
theorem Fw6{d0:A1}{r:Int}(hF:F37 d0=some r):
 C3 Tryz.prog 37 [.agg [.b d0.n_.neg,.l 1 d0.n_.mag A5,.b d0.d.neg,.l 1 d0.d.mag A5]] (.i r):=by
 unfold F37 at hF;refine cf 6 Tryz.func37 ?_;refine jB 9 hF Gm9 Cq8 fun y1 hF=> ?_
 cases hF;exact jr 2
def e_s(x:List UInt8):List Dat:=[.str x]
def A4(x:A1):List Dat:=[.bool x.n_.neg,.sl 1 (x.n_.mag.map A5),.bool x.d.neg,.sl 1 (x.d.mag.map A5)]
def Eo7(d0:Int):Option (List UInt8):=Cn1 d0
theorem Ar8{d0:Int}{r:List UInt8}(hF:Eo7 d0=some r):C3 Tryz.prog 103 [.d (.int .i64 d0)] (.d (.str r)):=Df7 (gn:=3) (by kernel_rfl) (by kernel_rfl) Tryz.strconv_Itoa hF
def Fq7(d0:A3):Option Int:=
 bif ((d0.mag.map A5).length:Int)==0 then
  (some 1)
 else
  (Option.bind (C6 d0.mag (i64.wrap (((d0.mag.map A5).length:Int)-1))) fun y1=>
  Option.bind (Eo7 (i64.wrap y1)) fun y2=>
  some (i64.wrap ((i64.wrap (9*(i64.wrap (((d0.mag.map A5).length:Int)-1))))+(y2.length:Int))))
theorem Dj8{d0:A3}{r:Int}(hF:Fq7 d0=some r):
 C3 Tryz.prog 142 [.agg [.b d0.neg,.l 1 d0.mag A5]] (.i r):=by
 unfold Fq7 at hF;refine cf 22 Tryz.func142 ?_;refine jI 18 8 hF ?_ ?_<;>intro hF
 ·cases hF;exact jr 5
 ·obtain⟨y1,e1,hF⟩:=bnd hF;refine jo1 11 (gm (f:=A5) e1) ?_;refine jB 2 hF Df0 Ar8 fun y2 hF=> ?_
  cases hF;exact jr 4
def F81(d0:A1)(d1:Int):Option Bool:=
 Option.bind (
  Option.bind (Fq7 d0.n_) fun y5=>
  bif decide (y5<=d1) then
   (Option.bind (Fq7 d0.d) fun y6=>
   some (decide (y6<=d1)))
  else
   (some false)) fun o1=>
 some o1
noncomputable abbrev b81:=C2 Tryz.f81
abbrev G81(r:Bool):=J none Tryz.prog 17 [] (L5 Tryz.prog Tryz.f81 (.b r))
theorem Cq9{d0:A1}{d1:Int}{r:Bool}(hF:F81 d0 d1=some r):
 C3 Tryz.prog 81 [.agg [.b d0.n_.neg,.l 1 d0.n_.mag A5,.b d0.d.neg,.l 1 d0.d.mag A5],.i d1] (.b r):=by
 unfold F81 at hF;refine cf 17 Tryz.func81 ?_;obtain⟨o1,hO,hF⟩:=bnd hF;have hR1:G81 r ⟨mkT [(4,.b o1)],[],[kO b81 [1,0],kC b81 [1,1]]⟩:=by
  clear hO;cases hF;exact jr 1
 clear hF;rename _=some o1=>hF
 refine jB 9 hF Gc8 Dj8 fun y5 hF=> ?_
 refine jI 3 10 hF ?_ ?_<;>intro hF
 ·refine jB 2 hF Gc8 Dj8 fun y6 hF=> ?_
  cases hF;exact ja 4 hR1
 ·cases hF;exact ja 7 hR1
def Fu9(d0:A1):Option Bool:=
 Option.bind (
  bif ((d0.d.mag.map A5).length:Int)==1 then
   (Option.bind (C6 d0.d.mag 0) fun y3=>
   some (y3==1))
  else
   (some false)) fun o1=>
 some o1
noncomputable abbrev Hc1:=C2 Tryz.f143
abbrev Hh9(r:Bool):=J none Tryz.prog 16 [] (L5 Tryz.prog Tryz.f143 (.b r))
theorem Fa1{d0:A1}{r:Bool}(hF:Fu9 d0=some r):
 C3 Tryz.prog 143 [.agg [.b d0.n_.neg,.l 1 d0.n_.mag A5,.b d0.d.neg,.l 1 d0.d.mag A5]] (.b r):=by
 unfold Fu9 at hF;refine cf 16 Tryz.func143 ?_;obtain⟨o1,hO,hF⟩:=bnd hF;have hR1:Hh9 r ⟨mkT [(2,.b o1)],[],[kO Hc1 [1,0],kC Hc1 [1,1]]⟩:=by
  clear hO;cases hF;exact jr 1
 clear hF;rename _=some o1=>hF
 refine jI 13 8 hF ?_ ?_<;>intro hF
 ·obtain⟨y3,e3,hF⟩:=bnd hF;refine jo1 3 (gm (f:=A5) e3) ?_;cases hF;exact ja 4 hR1
 ·cases hF;exact ja 8 hR1
def Fr7:Option Unit:=
 some ()
theorem Dl8{r:Unit}(hF:Fr7=some r):
 I0 Tryz.prog 244 [(2000,.box 237 [.d .nilp,.esl 1])] [.ptr 2000 0] [(2000,.box 237 [.ptr 2000 0,.esl 1])] (.tup []):=by
 unfold Fr7 at hF;refine cr 20 Tryz.func244 ?_;refine C4 13 (Fe9 (xs:=[.ptr 2000 0]) (.ptr 2000 0) (by kernel_rfl) (Bi7 Tryz.func273 (by kernel_rfl) (by kernel_rfl) (by kernel_rfl) rfl _) ?_);cases hF;exact jrr 5
def Gk4(d0:Int):Option (Bool×List Int):=
 Option.bind (Fr7) fun y1=>
 Option.bind (app [] [d0]) fun l1=>
 some (false,l1)
noncomputable abbrev Hk4:=C2 Tryz.f190
theorem Fb6{d0:Int}{r:Bool×List Int}(hF:Gk4 d0=some r):
 I0 Tryz.prog 190 [(2000,.box 237 [.d .nilp,.esl 1])] [.ptr 2000 0,.y d0] [(2000,.box 237 [.ptr 2000 0,.suf 2001 0 0]),(2001,.buf 0 5 1 (r.2.map L4))] (.d (.ife r.1)):=by
 unfold Gk4 at hF;refine cr 17 Tryz.func190 ?_;obtain⟨y1,e1,hF⟩:=bnd hF;refine jcr 7 [(2000,2000)] Fk6 (Dl8 e1) ?_;obtain⟨l1,e2,hF⟩:=bnd hF;refine jo2 10 (am (f:=L4) e2) ?_;refine ja 8 (S0:=[(4,.d (.ife false))]) (O0:=[(14,.buf 0 5 1 (l1.map L4)),(2000,.box 237 [.ptr 2000 0,.suf 14 0 0])]) (T0:=[kC Hk4 [1,1,1,1]]) ?_;refine C4 0 (Ax2 [(2000,2000),(14,2001)] (by kernel_rfl) (by kernel_rfl) (by kernel_rfl) (by kernel_rfl) ?_);cases hF;exact jrr 0
def Eg2(d0:List Int):Option Unit:=
 some ()
theorem Eg3{d0:List Int}{r:Unit}(hF:Eg2 d0=some r):
 I0 Tryz.prog 244 [(2000,.box 237 [.ptr 2000 0,.suf 2001 0 0]),(2001,.buf 0 5 1 (d0.map L4))] [.ptr 2000 0] [(2000,.box 237 [.ptr 2000 0,.suf 2001 0 0]),(2001,.buf 0 5 1 (d0.map L4))] (.tup []):=by
 unfold Eg2 at hF;refine cr 20 Tryz.func244 ?_;cases hF;exact jrr 20
def Cq1(d0:List UInt8)(d1:List Int):Option (Int×Bool×List Int):=
 Option.bind (Eg2 d1) fun y1=>
 Option.bind (app d1 (d0.map toI)) fun l1=>
 some ((d0.length:Int),false,l1)
theorem W8{d0:List UInt8}{d1:List Int}{r:Int×Bool×List Int}(hF:Cq1 d0 d1=some r):
 I0 Tryz.prog 191 [(2000,.box 237 [.ptr 2000 0,.suf 2001 0 0]),(2001,.buf 0 5 1 (d1.map L4))] [.ptr 2000 0,.s d0] [(2000,.box 237 [.ptr 2000 0,.suf 2001 1 0]),(2001,.buf 1 5 1 (r.2.2.map L4))] (.tup [.i r.1,.d (.ife r.2.1)]):=by
 unfold Cq1 at hF;refine cr 19 Tryz.func191 ?_;obtain⟨y1,e1,hF⟩:=bnd hF;refine jcr 8 [(2000,2000),(2001,2001)] Fk6 (Eg3 e1) ?_;obtain⟨l1,e2,hF⟩:=bnd hF;refine C4 9 (H5 (o:=Gl6 ((d1.map L4).drop 0) (d0.map Ao0)) (l1.map L4) (by kernel_rfl) (ams (f:=L4) (fun _=>rfl) e2) ?_);cases hF;exact jrr 11
def Fb7(d0:List Int):Option (List UInt8):=
 ass (decide (0<(d0.map L4).length))<|
 Option.bind (Gj1 d0 0 ((d0.map L4).length:Int)) fun x2=>
 some x2
theorem Ch5{d0:List Int}{r:List UInt8}(hF:Fb7 d0=some r):
 I0 Tryz.prog 192 [(2000,.box 237 [.ptr 2000 0,.suf 2001 0 0]),(2001,.buf 0 5 1 (d0.map L4))] [.ptr 2000 0] [(2000,.box 237 [.ptr 2000 0,.suf 2001 0 0]),(2001,.fzs 0 1 (d0.map L4))] (.s r):=by
 unfold Fb7 at hF;refine cr 14 Tryz.func192 ?_;refine jd 5 ?_;obtain⟨hb2,hF⟩:=K8 hF;refine do1 4 (ck hb2) ?_;obtain⟨x2,e2,hF⟩:=bnd hF;refine R4 5 (As9 (o:=usd (d0.map L4) 0 ((d0.map L4).length:Int)) [.str x2] (by kernel_rfl) (by kernel_rfl) (usm (f:=L4) (fun _=>rfl) e2) ?_);refine je 1 ?_;cases hF;exact jrr 0
def Dk9(d0:List UInt8):Option (Int×Bool×List Int):=
 Option.bind (Fr7) fun y1=>
 Option.bind (app [] (d0.map toI)) fun l1=>
 some ((d0.length:Int),false,l1)
noncomputable abbrev Hk5:=C2 Tryz.f191
theorem Cq2{d0:List UInt8}{r:Int×Bool×List Int}(hF:Dk9 d0=some r):
 I0 Tryz.prog 191 [(2000,.box 237 [.d .nilp,.esl 1])] [.ptr 2000 0,.s d0] [(2000,.box 237 [.ptr 2000 0,.suf 2001 0 0]),(2001,.buf 0 5 1 (r.2.2.map L4))] (.tup [.i r.1,.d (.ife r.2.1)]):=by
 unfold Dk9 at hF;refine cr 19 Tryz.func191 ?_;obtain⟨y1,e1,hF⟩:=bnd hF;refine jcr 8 [(2000,2000)] Fk6 (Dl8 e1) ?_;obtain⟨l1,e2,hF⟩:=bnd hF;refine C4 9 (H5 (o:=Gl6 [] (d0.map Ao0)) (l1.map L4) (by kernel_rfl) (ams (f:=L4) (fun _=>rfl) e2) ?_);refine ja 11 (S0:=[(4,.i (d0.length:Int)),(5,.d (.ife false))]) (O0:=[(14,.buf 0 5 1 (l1.map L4)),(2000,.box 237 [.ptr 2000 0,.suf 14 0 0])]) (T0:=[kC Hk5 [1,1,1,1]]) ?_;refine C4 0 (Ax2 [(2000,2000),(14,2001)] (by kernel_rfl) (by kernel_rfl) (by kernel_rfl) (by kernel_rfl) ?_);cases hF;exact jrr 0
def O8(d0:A3):Nat->Int->(List Int)->Option (List UInt8)
 |0,_,_=>none
 |nL1+1,v2,l2=>
  bif decide (v2>=0) then
   (Option.bind (C6 d0.mag v2) fun y12=>
   Option.bind (Eo7 (i64.wrap y12)) fun y13=>
   bif decide (v2<(i64.wrap (((d0.mag.map A5).length:Int)-1))) then
    (ass (decide (0<=(y13.length:Int))&&decide ((y13.length:Int)<=([48,48,48,48,48,48,48,48,48].length:Int))&&decide (([48,48,48,48,48,48,48,48,48].length:Int)<=[48,48,48,48,48,48,48,48,48].length))<|
    Option.bind (Cq1 (([48,48,48,48,48,48,48,48,48].drop (Int.toNat (y13.length:Int))).take (Int.toNat (([48,48,48,48,48,48,48,48,48].length:Int)-(y13.length:Int)))) l2) fun y14=>
    Option.bind (Cq1 y13 y14.2.2) fun y15=>
    (O8 d0 nL1) (i64.wrap (v2-1)) y15.2.2)
   else
    (Option.bind (Cq1 y13 l2) fun y16=>
    (O8 d0 nL1) (i64.wrap (v2-1)) y16.2.2))
  else
   (Option.bind (Fb7 l2) fun y17=>
   some y17)
def Aj6(d0:A3):Nat->Int->(List Int)->Option (List UInt8)
 |0,_,_=>none
 |nL2+1,v5,l5=>
  bif decide (v5>=0) then
   (Option.bind (C6 d0.mag v5) fun y39=>
   Option.bind (Eo7 (i64.wrap y39)) fun y40=>
   bif decide (v5<(i64.wrap (((d0.mag.map A5).length:Int)-1))) then
    (ass (decide (0<=(y40.length:Int))&&decide ((y40.length:Int)<=([48,48,48,48,48,48,48,48,48].length:Int))&&decide (([48,48,48,48,48,48,48,48,48].length:Int)<=[48,48,48,48,48,48,48,48,48].length))<|
    Option.bind (Cq1 (([48,48,48,48,48,48,48,48,48].drop (Int.toNat (y40.length:Int))).take (Int.toNat (([48,48,48,48,48,48,48,48,48].length:Int)-(y40.length:Int)))) l5) fun y41=>
    Option.bind (Cq1 y40 y41.2.2) fun y42=>
    (Aj6 d0 nL2) (i64.wrap (v5-1)) y42.2.2)
   else
    (Option.bind (Cq1 y40 l5) fun y43=>
    (Aj6 d0 nL2) (i64.wrap (v5-1)) y43.2.2))
  else
   (Option.bind (Fb7 l5) fun y44=>
   some y44)
def Aj7(d0:A3):Nat->Int->(List Int)->Option (List UInt8)
 |0,_,_=>none
 |nL3+1,v7,l7=>
  bif decide (v7>=0) then
   (Option.bind (C6 d0.mag v7) fun y56=>
   Option.bind (Eo7 (i64.wrap y56)) fun y57=>
   bif decide (v7<(i64.wrap (((d0.mag.map A5).length:Int)-1))) then
    (ass (decide (0<=(y57.length:Int))&&decide ((y57.length:Int)<=([48,48,48,48,48,48,48,48,48].length:Int))&&decide (([48,48,48,48,48,48,48,48,48].length:Int)<=[48,48,48,48,48,48,48,48,48].length))<|
    Option.bind (Cq1 (([48,48,48,48,48,48,48,48,48].drop (Int.toNat (y57.length:Int))).take (Int.toNat (([48,48,48,48,48,48,48,48,48].length:Int)-(y57.length:Int)))) l7) fun y58=>
    Option.bind (Cq1 y57 y58.2.2) fun y59=>
    (Aj7 d0 nL3) (i64.wrap (v7-1)) y59.2.2)
   else
    (Option.bind (Cq1 y57 l7) fun y60=>
    (Aj7 d0 nL3) (i64.wrap (v7-1)) y60.2.2))
  else
   (Option.bind (Fb7 l7) fun y61=>
   some y61)
def Ef2(fuel:Nat)(d0:A3):Option (List UInt8):=
 bif ((d0.mag.map A5).length:Int)==0 then
  (some [48])
 else
  (bif d0.neg then
   (Option.bind (Gk4 45) fun y1=>
   O8 d0 fuel (i64.wrap (((d0.mag.map A5).length:Int)-1)) y1.2)
  else
   (bif decide ((i64.wrap (((d0.mag.map A5).length:Int)-1))>=0) then
    (Option.bind (C6 d0.mag (i64.wrap (((d0.mag.map A5).length:Int)-1))) fun y25=>
    Option.bind (Eo7 (i64.wrap y25)) fun y26=>
    bif decide ((i64.wrap (((d0.mag.map A5).length:Int)-1))<(i64.wrap (((d0.mag.map A5).length:Int)-1))) then
     (ass (decide (0<=(y26.length:Int))&&decide ((y26.length:Int)<=([48,48,48,48,48,48,48,48,48].length:Int))&&decide (([48,48,48,48,48,48,48,48,48].length:Int)<=[48,48,48,48,48,48,48,48,48].length))<|
     Option.bind (Dk9 (([48,48,48,48,48,48,48,48,48].drop (Int.toNat (y26.length:Int))).take (Int.toNat (([48,48,48,48,48,48,48,48,48].length:Int)-(y26.length:Int))))) fun y27=>
     Option.bind (Cq1 y26 y27.2.2) fun y28=>
     Aj6 d0 fuel (i64.wrap ((i64.wrap (((d0.mag.map A5).length:Int)-1))-1)) y28.2.2)
    else
     (Option.bind (Dk9 y26) fun y45=>
     Aj7 d0 fuel (i64.wrap ((i64.wrap (((d0.mag.map A5).length:Int)-1))-1)) y45.2.2))
   else
    (none)))
noncomputable abbrev Bv7:=C2 Tryz.f144
abbrev Gp3(r:List UInt8):=J none Tryz.prog 41 [] (L5 Tryz.prog Tryz.f144 (.s r))
theorem Ba0{fuel:Nat}{d0:A3}{r:List UInt8}(hF:Ef2 fuel d0=some r):
 C3 Tryz.prog 144 [.agg [.b d0.neg,.l 1 d0.mag A5]] (.s r):=by
 unfold Ef2 at hF;refine cf 41 Tryz.func144 ?_;refine jI 13 9 hF ?_ ?_<;>intro hF
 ·cases hF;exact jr 5
 ·refine jI 12 11 hF ?_ ?_<;>intro hF
  ·obtain⟨y1,e1,hF⟩:=bnd hF;refine jcr 2 [(3,2000),(12,2001)] Gv3 (Fb6 e1) ?_;have hL1:∀(nL1:Nat) (v2:Int) (l2:List Int),O8 d0 nL1 v2 l2=some r->Gp3 r ⟨mkT [(1,.ptr 1 0),(3,.ptr 3 0),(4,.i v2)],[(1,.box 82 [.b d0.neg,.l 1 d0.mag A5]),(3,.box 237 [.ptr 3 0,.suf 12 0 0]),(12,.buf 0 5 1 (l2.map L4))],[kL Bv7 [1,1,1,1,0,1,0,0],.inBlock 0,kC Bv7 [1,1,1,1,1]]⟩:=by
    clear hF;intro nL1
    induction nL1 with
    |zero=>intro v2 l2 hF;cases hF
    |succ nL1 iL1=>
     intro v2 l2 hF;rw[O8]at hF;refine jI 7 18 hF ?_ ?_<;>intro hF
     ·obtain⟨y12,e12,hF⟩:=bnd hF;refine jo1 9 (gm (f:=A5) e12) ?_;refine jB 2 hF Df0 Ar8 fun y13 hF=> ?_
      refine jI 12 33 hF ?_ ?_<;>intro hF
      ·obtain⟨hb11,hF⟩:=K8 hF;refine jo1 4 (ck hb11) ?_;obtain⟨y14,e14,hF⟩:=bnd hF;refine jcr 0 [(3,2000),(12,2001)] Ax5 (W8 e14) ?_;refine ja 1 (S0:=[(1,.ptr 1 0),(3,.ptr 3 0),(4,.i v2),(5,.s y13)]) (O0:=[(1,.box 82 [.b d0.neg,.l 1 d0.mag A5]),(3,.box 237 [.ptr 3 0,.suf 12 0 0]),(12,.buf 0 5 1 (y14.2.2.map L4))]) (T0:=[kC Bv7 [1,1,1,1,0,1,0,0,1,0,0,1,1],.inBlock 1,kC Bv7 [1,1,1,1,0,1,0,0,1,1],kL Bv7 [1,1,1,1,0,1,0,0],.inBlock 0,kC Bv7 [1,1,1,1,1]]) ?_;obtain⟨y15,e15,hF⟩:=bnd hF;refine jcr 2 [(3,2000),(12,2001)] Ax5 (W8 e15) ?_;exact ja 7 (iL1 _ _ hF)
      ·obtain⟨y16,e16,hF⟩:=bnd hF;refine jcr 4 [(3,2000),(12,2001)] Ax5 (W8 e16) ?_;exact ja 7 (iL1 _ _ hF)
     ·obtain⟨y17,e17,hF⟩:=bnd hF;refine jcr 4 [(3,2000),(12,2001)] Fk2 (Ch5 e17) ?_;cases hF;exact jr 2
   exact ja 12 (hL1 _ _ _ hF)
  ·refine jI 20 18 hF ?_ ?_<;>intro hF
   ·obtain⟨y25,e25,hF⟩:=bnd hF;refine jo1 9 (gm (f:=A5) e25) ?_;refine jB 2 hF Df0 Ar8 fun y26 hF=> ?_
    refine jI 12 33 hF ?_ ?_<;>intro hF
    ·obtain⟨hb20,hF⟩:=K8 hF;refine jo1 4 (ck hb20) ?_;obtain⟨y27,e27,hF⟩:=bnd hF;refine jcr 0 [(3,2000),(37,2001)] Ax5 (Cq2 e27) ?_;obtain⟨y28,e28,hF⟩:=bnd hF;refine jcr 3 [(3,2000),(37,2001)] Ax5 (W8 e28) ?_;have hL2:∀(nL2:Nat) (v5:Int) (l5:List Int),Aj6 d0 nL2 v5 l5=some r->Gp3 r ⟨mkT [(1,.ptr 1 0),(3,.ptr 3 0),(4,.i v5)],[(1,.box 82 [.b d0.neg,.l 1 d0.mag A5]),(3,.box 237 [.ptr 3 0,.suf 37 0 0]),(37,.buf 0 5 1 (l5.map L4))],[kL Bv7 [1,1,1,1,0,1,0,0],.inBlock 0,kC Bv7 [1,1,1,1,1]]⟩:=by
      clear hF;intro nL2
      induction nL2 with
      |zero=>intro v5 l5 hF;cases hF
      |succ nL2 iL2=>
       intro v5 l5 hF;rw[Aj6]at hF;refine jI 7 18 hF ?_ ?_<;>intro hF
       ·obtain⟨y39,e39,hF⟩:=bnd hF;refine jo1 9 (gm (f:=A5) e39) ?_;refine jB 2 hF Df0 Ar8 fun y40 hF=> ?_
        refine jI 12 33 hF ?_ ?_<;>intro hF
        ·obtain⟨hb29,hF⟩:=K8 hF;refine jo1 4 (ck hb29) ?_;obtain⟨y41,e41,hF⟩:=bnd hF;refine jcr 0 [(3,2000),(37,2001)] Ax5 (W8 e41) ?_;refine ja 1 (S0:=[(1,.ptr 1 0),(3,.ptr 3 0),(4,.i v5),(5,.s y40)]) (O0:=[(1,.box 82 [.b d0.neg,.l 1 d0.mag A5]),(3,.box 237 [.ptr 3 0,.suf 37 0 0]),(37,.buf 0 5 1 (y41.2.2.map L4))]) (T0:=[kC Bv7 [1,1,1,1,0,1,0,0,1,0,0,1,1],.inBlock 1,kC Bv7 [1,1,1,1,0,1,0,0,1,1],kL Bv7 [1,1,1,1,0,1,0,0],.inBlock 0,kC Bv7 [1,1,1,1,1]]) ?_;obtain⟨y42,e42,hF⟩:=bnd hF;refine jcr 2 [(3,2000),(37,2001)] Ax5 (W8 e42) ?_;exact ja 7 (iL2 _ _ hF)
        ·obtain⟨y43,e43,hF⟩:=bnd hF;refine jcr 4 [(3,2000),(37,2001)] Ax5 (W8 e43) ?_;exact ja 7 (iL2 _ _ hF)
       ·obtain⟨y44,e44,hF⟩:=bnd hF;refine jcr 4 [(3,2000),(37,2001)] Fk2 (Ch5 e44) ?_;cases hF;exact jr 2
     exact ja 7 (hL2 _ _ _ hF)
    ·obtain⟨y45,e45,hF⟩:=bnd hF;refine jcr 4 [(3,2000),(39,2001)] Ax5 (Cq2 e45) ?_;have hL3:∀(nL3:Nat) (v7:Int) (l7:List Int),Aj7 d0 nL3 v7 l7=some r->Gp3 r ⟨mkT [(1,.ptr 1 0),(3,.ptr 3 0),(4,.i v7)],[(1,.box 82 [.b d0.neg,.l 1 d0.mag A5]),(3,.box 237 [.ptr 3 0,.suf 39 0 0]),(39,.buf 0 5 1 (l7.map L4))],[kL Bv7 [1,1,1,1,0,1,0,0],.inBlock 0,kC Bv7 [1,1,1,1,1]]⟩:=by
      clear hF;intro nL3
      induction nL3 with
      |zero=>intro v7 l7 hF;cases hF
      |succ nL3 iL3=>
       intro v7 l7 hF;rw[Aj7]at hF;refine jI 7 18 hF ?_ ?_<;>intro hF
       ·obtain⟨y56,e56,hF⟩:=bnd hF;refine jo1 9 (gm (f:=A5) e56) ?_;refine jB 2 hF Df0 Ar8 fun y57 hF=> ?_
        refine jI 12 33 hF ?_ ?_<;>intro hF
        ·obtain⟨hb38,hF⟩:=K8 hF;refine jo1 4 (ck hb38) ?_;obtain⟨y58,e58,hF⟩:=bnd hF;refine jcr 0 [(3,2000),(39,2001)] Ax5 (W8 e58) ?_;refine ja 1 (S0:=[(1,.ptr 1 0),(3,.ptr 3 0),(4,.i v7),(5,.s y57)]) (O0:=[(1,.box 82 [.b d0.neg,.l 1 d0.mag A5]),(3,.box 237 [.ptr 3 0,.suf 39 0 0]),(39,.buf 0 5 1 (y58.2.2.map L4))]) (T0:=[kC Bv7 [1,1,1,1,0,1,0,0,1,0,0,1,1],.inBlock 1,kC Bv7 [1,1,1,1,0,1,0,0,1,1],kL Bv7 [1,1,1,1,0,1,0,0],.inBlock 0,kC Bv7 [1,1,1,1,1]]) ?_;obtain⟨y59,e59,hF⟩:=bnd hF;refine jcr 2 [(3,2000),(39,2001)] Ax5 (W8 e59) ?_;exact ja 7 (iL3 _ _ hF)
        ·obtain⟨y60,e60,hF⟩:=bnd hF;refine jcr 4 [(3,2000),(39,2001)] Ax5 (W8 e60) ?_;exact ja 7 (iL3 _ _ hF)
       ·obtain⟨y61,e61,hF⟩:=bnd hF;refine jcr 4 [(3,2000),(39,2001)] Fk2 (Ch5 e61) ?_;cases hF;exact jr 2
     exact ja 7 (hL3 _ _ _ hF)
   ·cases hF
def F82(fuel:Nat)(d0:A1):Option (List UInt8):=
 Option.bind (Fu9 d0) fun y1=>
 bif y1 then
  (Option.bind (Ef2 fuel d0.n_) fun y2=>
  some y2)
 else
  (Option.bind (Ef2 fuel d0.n_) fun y5=>
  ass (decide (y5.length+[47].length<=4611686018427387904))<|
  Option.bind (Ef2 fuel d0.d) fun y6=>
  ass (decide ((y5++[47]).length+y6.length<=4611686018427387904))<|
  some ((y5++[47])++y6))
theorem Fx7{fuel:Nat}{d0:A1}{r:List UInt8}(hF:F82 fuel d0=some r):
 C3 Tryz.prog 82 [.agg [.b d0.n_.neg,.l 1 d0.n_.mag A5,.b d0.d.neg,.l 1 d0.d.mag A5]] (.s r):=by
 unfold F82 at hF;refine cf 16 Tryz.func82 ?_;refine jB 9 hF Gu1 Fa1 fun y1 hF=> ?_
 refine jI 1 4 hF ?_ ?_<;>intro hF
 ·refine jB 5 hF Ds2 Ba0 fun y2 hF=> ?_
  cases hF;exact jr 2
 ·refine jd 3 ?_;refine dB 2 hF Ds2 Ba0 fun y5 hF=> ?_
  obtain⟨hb4,hF⟩:=K8 hF;refine do1 0 (ck hb4) ?_;refine dB 2 hF Ds2 Ba0 fun y6 hF=> ?_
  obtain⟨hb5,hF⟩:=K8 hF;refine do1 0 (ck hb5) ?_;refine je 1 ?_;cases hF;exact jr 0
def Ba6(fuel:Nat)(d0:List A1):Nat->Int->(List (List UInt8))->Option (List (List UInt8)×Bool)
 |0,_,_=>none
 |nL1+1,v2,l5=>
  bif decide (v2<((d0.map A4).length:Int)) then
   (Option.bind (C6 d0 v2) fun y7=>
   Option.bind (F81 y7 2000) fun y8=>
   bif !y8 then
    (some ([],false))
   else
    (Option.bind (F82 fuel y7) fun y9=>
    Option.bind (app l5 [y9]) fun l6=>
    (Ba6 fuel d0 nL1) (i64.wrap (v2+1)) l6))
  else
   (some (l5,true))
def F41(fuel:Nat)(d0:List A1):Option (List (List UInt8)×Bool):=
 Option.bind (mkL 0 ((d0.map A4).length:Int) []) fun l1=>
 Ba6 fuel d0 fuel 0 l1
noncomputable abbrev b41:=C2 Tryz.f41
abbrev G41(r:List (List UInt8)×Bool):=J none Tryz.prog 26 [] (L5 Tryz.prog Tryz.f41 (.tup [.l 1 r.1 e_s,.b r.2]))
theorem Cq7{fuel:Nat}{d0:List A1}{r:List (List UInt8)×Bool}(hF:F41 fuel d0=some r):
 C3 Tryz.prog 41 [.l 4 d0 A4] (.tup [.l 1 r.1 e_s,.b r.2]):=by
 unfold F41 at hF;refine cf 26 Tryz.func41 ?_;obtain⟨l1,e1,hF⟩:=bnd hF;refine jo2 9 (mm (f:=e_s) e1) ?_;have hL1:∀(nL1:Nat) (v2:Int) (l5:List (List UInt8)),Ba6 fuel d0 nL1 v2 l5=some r->G41 r ⟨mkT [(4,.suf 9 0 0),(10,.l 4 d0 A4),(11,.i ((d0.map A4).length:Int)),(12,.i v2)],[(9,.buf 0 34 1 (l5.map e_s))],[kL b41 [1,1,0,1,0,0],.inBlock 0,kC b41 [1,1,1]]⟩:=by
  clear hF;intro nL1
  induction nL1 with
  |zero=>intro v2 l5 hF;cases hF
  |succ nL1 iL1=>
   intro v2 l5 hF;rw[Ba6]at hF;refine jI 6 13 hF ?_ ?_<;>intro hF
   ·obtain⟨y7,e10,hF⟩:=bnd hF;refine jo1 6 (gm (f:=A4) e10) ?_;refine jB 8 hF Gn0 Cq9 fun y8 hF=> ?_
    refine jI 2 18 hF ?_ ?_<;>intro hF
    ·cases hF;exact jr 6
    ·refine jB 5 hF Hn6 Fx7 fun y9 hF=> ?_
     obtain⟨l6,e13,hF⟩:=bnd hF;refine jo2 1 (am (f:=e_s) e13) ?_;exact ja 7 (iL1 _ _ hF)
   ·cases hF;exact jr 8
 exact ja 11 (hL1 _ _ _ hF)
structure D2 where
 Num:A1
 e:Int
 deriving DecidableEq
def Aj3(v3:Int):Option Int:=
 some v3
def Aj4(y1:List UInt8):Nat->Int->Option Int
 |0,_=>none
 |nL2+1,v5=>
  bif decide (v5<(((y1.map toI).map L4).length:Int)) then
   (Option.bind (C6 (y1.map toI) v5) fun y12=>
   Option.bind (
    bif decide (y12<48) then
     (some true)
    else
     (some (decide (y12>57)))) fun o8=>
   bif o8 then
    (Aj3 5)
   else
    ((Aj4 y1 nL2) (i64.wrap (v5+1))))
  else
   (bif decide ((y1.length:Int)>2000) then
    (Aj3 6)
   else
    (Aj3 0))
def Ee6(fuel:Nat)(d0:List UInt8):Option Int:=
 Option.bind (Ez4 d0 [45]) fun y1=>
 bif d0==[48] then
  (Aj3 0)
 else
  (Option.bind (
   bif y1==[] then
    (some true)
   else
    (Option.bind (C6 y1 0) fun y13=>
    some ((y13.toNat:Int)==48))) fun o5=>
  bif o5 then
   (Aj3 5)
  else
   (Aj4 y1 fuel 0))
noncomputable abbrev Bx6:=C2 Tryz.f124
abbrev Gl3(r:Int):=J none Tryz.prog 38 [] (L5 Tryz.prog Tryz.f124 (.i r))
theorem Bn9{fuel:Nat}{d0:List UInt8}{r:Int}(hF:Ee6 fuel d0=some r):
 C3 Tryz.prog 124 [.s d0] (.i r):=by
 unfold Ee6 at hF;refine cf 38 Tryz.func124 ?_;refine jB 8 hF Gc3 Di7 fun y1 hF=> ?_
 have hA1:∀(v3:Int),Aj3 v3=some r->Gl3 r ⟨mkT [(4,.i v3)],[],[kC Bx6 [1,0,1,1,1,1],.inScope (cAt Bx6 [1,0])]⟩:=by
  intro v3 hF;unfold Aj3 at hF;cases hF;exact jr 5
 refine jI 16 26 hF ?_ ?_<;>intro hF
 ·exact ja 3 (hA1 _ hF)
 ·obtain⟨o5,hO,hF⟩:=bnd hF;have hR5:Gl3 r ⟨mkT [(3,.s y1),(4,.i 0),(29,.b o5)],[],[kO Bx6 [1,0,1,1,1,0,0,1,1,0],kC Bx6 [1,0,1,1,1,0,0,1,1,1],.inBlock 0,kC Bx6 [1,0,1,1,1,1],.inScope (cAt Bx6 [1,0])]⟩:=by
   clear hO;refine jI 1 29 hF ?_ ?_<;>intro hF
   ·exact ja 5 (hA1 _ hF)
   ·refine C4 5 (H5 (o:=some (y1.map Ao0)) ((y1.map toI).map L4) (by kernel_rfl) (bym (f:=L4) (fun _=>rfl)) ?_);have hL2:∀(nL2:Nat) (v5:Int),Aj4 y1 nL2 v5=some r->Gl3 r ⟨mkT [(3,.s y1),(4,.i 0),(10,.l 1 (y1.map toI) L4),(11,.i (((y1.map toI).map L4).length:Int)),(12,.i v5)],[],[kL Bx6 [1,0,1,1,1,0,0,1,1,1,1,0,1,0,0],.inBlock 1,kC Bx6 [1,0,1,1,1,0,0,1,1,1,1,1],.inBlock 0,kC Bx6 [1,0,1,1,1,1],.inScope (cAt Bx6 [1,0])]⟩:=by
     clear hF;intro nL2
     induction nL2 with
     |zero=>intro v5 hF;cases hF
     |succ nL2 iL2=>
      intro v5 hF;rw[Aj4]at hF;refine jI 6 13 hF ?_ ?_<;>intro hF
      ·obtain⟨y12,e12,hF⟩:=bnd hF;refine jo1 6 (gm (f:=L4) e12) ?_;obtain⟨o8,hO,hF⟩:=bnd hF;have hR8:Gl3 r ⟨mkT [(3,.s y1),(4,.i 0),(10,.l 1 (y1.map toI) L4),(11,.i (((y1.map toI).map L4).length:Int)),(12,.i v5),(21,.b o8)],[],[kO Bx6 [1,0,1,1,1,0,0,1,1,1,1,0,1,0,0,1,1,0,0,1,0],kC Bx6 [1,0,1,1,1,0,0,1,1,1,1,0,1,0,0,1,1,0,0,1,1],.inBlock 2,kC Bx6 [1,0,1,1,1,0,0,1,1,1,1,0,1,0,0,1,1,1],kL Bx6 [1,0,1,1,1,0,0,1,1,1,1,0,1,0,0],.inBlock 1,kC Bx6 [1,0,1,1,1,0,0,1,1,1,1,1],.inBlock 0,kC Bx6 [1,0,1,1,1,1],.inScope (cAt Bx6 [1,0])]⟩:=by
        clear hO;refine jI 1 21 hF ?_ ?_<;>intro hF
        ·exact ja 6 (hA1 _ hF)
        ·exact ja 7 (iL2 _ hF)
       clear hF;rename _=some o8=>hF
       refine jI 8 18 hF ?_ ?_<;>intro hF
       ·cases hF;exact ja 3 hR8
       ·cases hF;exact ja 3 hR8
      ·refine jI 8 25 hF ?_ ?_<;>intro hF
       ·exact ja 5 (hA1 _ hF)
       ·exact ja 3 (hA1 _ hF)
    exact ja 5 (hL2 _ _ hF)
  clear hF;rename _=some o5=>hF
  refine jI 6 32 hF ?_ ?_<;>intro hF
  ·cases hF;exact ja 5 hR5
  ·obtain⟨y13,e13,hF⟩:=bnd hF;refine C4 1 (G5 (o:=(match C6 y1 0 with|some c=>some [.int .u8 c.toNat]|none=>none)) [.int .u8 y13.toNat] (by kernel_rfl) (by rw[e13]) ?_);cases hF;exact ja 3 hR5
def Eo8(d0:A1):Option (A3×A3):=
 some (d0.n_,d0.d)
theorem Cg3{d0:A1}{r:A3×A3}(hF:Eo8 d0=some r):
 C3 Tryz.prog 125 [.agg [.b d0.n_.neg,.l 1 d0.n_.mag A5,.b d0.d.neg,.l 1 d0.d.mag A5]] (.tup [.agg [.b r.1.neg,.l 1 r.1.mag A5],.agg [.b r.2.neg,.l 1 r.2.mag A5]]):=by
 unfold Eo8 at hF;refine cf 8 Tryz.func125 ?_;refine jd 7 ?_;refine je 6 ?_;cases hF;exact jr 0
def F70(fuel:Nat)(d0:List UInt8):Option D2:=
 Option.bind (F71 d0 [47]) fun y1=>
 bif !y1.2.2 then
  (Option.bind (
   Option.bind (Ee6 fuel y1.1) fun y19=>
   bif y19==5 then
    (some true)
   else
    (Option.bind (Ee6 fuel [49]) fun y20=>
    some (y20==5))) fun o1=>
  bif o1 then
   (some (⟨(⟨(⟨false,[]⟩:A3),(⟨false,[]⟩:A3)⟩:A1),5⟩:D2))
  else
   (Option.bind (F36 fuel d0) fun y6=>
   Option.bind (Eo8 y6) fun y7=>
   Option.bind (F73 fuel 1) fun y8=>
   Option.bind (
    bif y1.2.2 then
     (Option.bind (Ed3 fuel y7.2 y8) fun y16=>
     bif decide (y16<=0) then
      (some true)
     else
      (Option.bind (Ez3 fuel y7.1 y7.2) fun y17=>
      Option.bind (Ed3 fuel y17 y8) fun y18=>
      some (y18 !=0)))
    else
     (some false)) fun o2=>
   bif o2 then
    (some (⟨(⟨(⟨false,[]⟩:A3),(⟨false,[]⟩:A3)⟩:A1),5⟩:D2))
   else
    (Option.bind (F81 y6 2000) fun y15=>
    bif !y15 then
     (some (⟨(⟨(⟨false,[]⟩:A3),(⟨false,[]⟩:A3)⟩:A1),6⟩:D2))
    else
     (some (⟨y6,0⟩:D2)))))
 else
  (Option.bind (
   Option.bind (Ee6 fuel y1.1) fun y38=>
   bif y38==5 then
    (some true)
   else
    (Option.bind (Ee6 fuel y1.2.1) fun y39=>
    some (y39==5))) fun o3=>
  bif o3 then
   (some (⟨(⟨(⟨false,[]⟩:A3),(⟨false,[]⟩:A3)⟩:A1),5⟩:D2))
  else
   (Option.bind (F36 fuel d0) fun y25=>
   Option.bind (Eo8 y25) fun y26=>
   Option.bind (F73 fuel 1) fun y27=>
   Option.bind (
    bif y1.2.2 then
     (Option.bind (Ed3 fuel y26.2 y27) fun y35=>
     bif decide (y35<=0) then
      (some true)
     else
      (Option.bind (Ez3 fuel y26.1 y26.2) fun y36=>
      Option.bind (Ed3 fuel y36 y27) fun y37=>
      some (y37 !=0)))
    else
     (some false)) fun o4=>
   bif o4 then
    (some (⟨(⟨(⟨false,[]⟩:A3),(⟨false,[]⟩:A3)⟩:A1),5⟩:D2))
   else
    (Option.bind (F81 y25 2000) fun y34=>
    bif !y34 then
     (some (⟨(⟨(⟨false,[]⟩:A3),(⟨false,[]⟩:A3)⟩:A1),6⟩:D2))
    else
     (some (⟨y25,0⟩:D2)))))
noncomputable abbrev b70:=C2 Tryz.f70
abbrev G70(r:D2):=J none Tryz.prog 61 [] (L5 Tryz.prog Tryz.f70 (.agg [.b r.Num.n_.neg,.l 1 r.Num.n_.mag A5,.b r.Num.d.neg,.l 1 r.Num.d.mag A5,.i r.e]))
theorem Dm5{fuel:Nat}{d0:List UInt8}{r:D2}(hF:F70 fuel d0=some r):
 C3 Tryz.prog 70 [.s d0] (.agg [.b r.Num.n_.neg,.l 1 r.Num.n_.mag A5,.b r.Num.d.neg,.l 1 r.Num.d.mag A5,.i r.e]):=by
 unfold F70 at hF;refine cf 61 Tryz.func70 ?_;refine jB 7 hF Hf7 Eq8 fun y1 hF=> ?_
 refine jI 14 17 hF ?_ ?_<;>intro hF
 ·obtain⟨o1,hO,hF⟩:=bnd hF;have hR1:G70 r ⟨mkT [(0,.s d0),(2,.ptr 2 0),(5,.b y1.2.2),(25,.b o1)],[(2,.box 131 [.b false,.esl 1,.b false,.esl 1,.i 0])],[kO b70 [1,1,1,0,0],kC b70 [1,1,1,0,1],kC b70 [1,1,1,1]]⟩:=by
   clear hO;refine jI 1 25 hF ?_ ?_<;>intro hF
   ·cases hF;exact jr 6
   ·refine jB 5 hF Gm7 Cq6 fun y6 hF=> ?_
    refine jB 8 hF Fj1 Cg3 fun y7 hF=> ?_
    refine jB 10 hF Ft4 Bk3 fun y8 hF=> ?_
    obtain⟨o2,hO,hF⟩:=bnd hF;have hR2:G70 r ⟨mkT [(2,.ptr 2 0),(6,.ptr 6 0),(37,.b o2)],[(2,.box 131 [.b false,.esl 1,.b false,.esl 1,.i 0]),(6,.box 131 [.b y6.n_.neg,.l 1 y6.n_.mag A5,.b y6.d.neg,.l 1 y6.d.mag A5,.i 0])],[kC b70 [1,1,1,1,1,1,1,0,0,1],.inBlock 0,kC b70 [1,1,1,1,1,1,1,1]]⟩:=by
     clear hO;refine jI 0 37 hF ?_ ?_<;>intro hF
     ·cases hF;exact jr 6
     ·refine jB 5 hF Gn0 Cq9 fun y15 hF=> ?_
      refine jI 3 54 hF ?_ ?_<;>intro hF
      ·cases hF;exact jr 6
      ·cases hF;exact jr 8
    clear hF;rename _=some o2=>hF
    refine jd 6 ?_;refine dI 2 39 hF ?_ ?_<;>intro hF
    ·refine dB 2 hF Ds1 Az9 fun y16 hF=> ?_
     refine dI 2 44 hF ?_ ?_<;>intro hF
     ·refine je 9 ?_;cases hF;exact ja 0 hR2
     ·refine dB 2 hF Fj2 Cg4 fun y17 hF=> ?_
      refine dB 1 hF Ds1 Az9 fun y18 hF=> ?_
      refine je 4 ?_;cases hF;exact ja 0 hR2
    ·refine je 14 ?_;cases hF;exact ja 0 hR2
  clear hF;rename _=some o1=>hF
  refine jB 8 hF Ek2 Bn9 fun y19 hF=> ?_
  refine jI 2 21 hF ?_ ?_<;>intro hF
  ·cases hF;exact ja 4 hR1
  ·refine jB 1 hF Ek2 Bn9 fun y20 hF=> ?_
   cases hF;exact ja 2 hR1
 ·obtain⟨o3,hO,hF⟩:=bnd hF;have hR3:G70 r ⟨mkT [(0,.s d0),(2,.ptr 2 0),(5,.b y1.2.2),(25,.b o3)],[(2,.box 131 [.b false,.esl 1,.b false,.esl 1,.i 0])],[kO b70 [1,1,1,0,0],kC b70 [1,1,1,0,1],kC b70 [1,1,1,1]]⟩:=by
   clear hO;refine jI 1 25 hF ?_ ?_<;>intro hF
   ·cases hF;exact jr 6
   ·refine jB 5 hF Gm7 Cq6 fun y25 hF=> ?_
    refine jB 8 hF Fj1 Cg3 fun y26 hF=> ?_
    refine jB 10 hF Ft4 Bk3 fun y27 hF=> ?_
    obtain⟨o4,hO,hF⟩:=bnd hF;have hR4:G70 r ⟨mkT [(2,.ptr 2 0),(6,.ptr 6 0),(37,.b o4)],[(2,.box 131 [.b false,.esl 1,.b false,.esl 1,.i 0]),(6,.box 131 [.b y25.n_.neg,.l 1 y25.n_.mag A5,.b y25.d.neg,.l 1 y25.d.mag A5,.i 0])],[kC b70 [1,1,1,1,1,1,1,0,0,1],.inBlock 0,kC b70 [1,1,1,1,1,1,1,1]]⟩:=by
     clear hO;refine jI 0 37 hF ?_ ?_<;>intro hF
     ·cases hF;exact jr 6
     ·refine jB 5 hF Gn0 Cq9 fun y34 hF=> ?_
      refine jI 3 54 hF ?_ ?_<;>intro hF
      ·cases hF;exact jr 6
      ·cases hF;exact jr 8
    clear hF;rename _=some o4=>hF
    refine jd 6 ?_;refine dI 2 39 hF ?_ ?_<;>intro hF
    ·refine dB 2 hF Ds1 Az9 fun y35 hF=> ?_
     refine dI 2 44 hF ?_ ?_<;>intro hF
     ·refine je 9 ?_;cases hF;exact ja 0 hR4
     ·refine dB 2 hF Fj2 Cg4 fun y36 hF=> ?_
      refine dB 1 hF Ds1 Az9 fun y37 hF=> ?_
      refine je 4 ?_;cases hF;exact ja 0 hR4
    ·refine je 14 ?_;cases hF;exact ja 0 hR4
  clear hF;rename _=some o3=>hF
  refine jB 6 hF Ek2 Bn9 fun y38 hF=> ?_
  refine jI 2 21 hF ?_ ?_<;>intro hF
  ·cases hF;exact ja 4 hR3
  ·refine jB 1 hF Ek2 Bn9 fun y39 hF=> ?_
   cases hF;exact ja 2 hR3
def F35(fuel:Nat)(d0:List UInt8):Option Int:=
 Option.bind (F70 fuel d0) fun y1=>
 some y1.e
theorem Fw5{fuel:Nat}{d0:List UInt8}{r:Int}(hF:F35 fuel d0=some r):
 C3 Tryz.prog 35 [.s d0] (.i r):=by
 unfold F35 at hF;refine cf 6 Tryz.func35 ?_;refine jB 7 hF Gx4 Dm5 fun y1 hF=> ?_
 cases hF;exact jr 3
def Fr8(fuel:Nat)(d0:List UInt8):Option Bool:=
 Option.bind (F70 fuel d0) fun y1=>
 Option.bind (
  bif y1.e==0 then
   (Option.bind (F81 y1.Num 4) fun y4=>
   some y4)
  else
   (some false)) fun o1=>
 some o1
noncomputable abbrev Hd6:=C2 Tryz.f255
abbrev Hj7(r:Bool):=J none Tryz.prog 14 [] (L5 Tryz.prog Tryz.f255 (.b r))
theorem Fd7{fuel:Nat}{d0:List UInt8}{r:Bool}(hF:Fr8 fuel d0=some r):
 C3 Tryz.prog 255 [.s d0] (.b r):=by
 unfold Fr8 at hF;refine cf 14 Tryz.func255 ?_;refine jB 7 hF Gx4 Dm5 fun y1 hF=> ?_
 obtain⟨o1,hO,hF⟩:=bnd hF;have hR1:Hj7 r ⟨mkT [(2,.b o1)],[],[kO Hd6 [1,1,0],kC Hd6 [1,1,1]]⟩:=by
  clear hO;cases hF;exact jr 1
 clear hF;rename _=some o1=>hF
 refine jI 9 9 hF ?_ ?_<;>intro hF
 ·refine jB 2 hF Gn0 Cq9 fun y4 hF=> ?_
  cases hF;exact ja 2 hR1
 ·cases hF;exact ja 5 hR1
def Gl0(fuel:Nat)(d0:List UInt8):Option (List UInt8×List UInt8×Int):=
 Option.bind (F70 fuel d0) fun y1=>
 bif y1.e !=0 then
  (some ([],[],y1.e))
 else
  (Option.bind (Eo8 y1.Num) fun y2=>
  Option.bind (Ef2 fuel y2.1) fun y5=>
  Option.bind (Ef2 fuel y2.2) fun y6=>
  some (y5,y6,0))
theorem Fd8{fuel:Nat}{d0:List UInt8}{r:List UInt8×List UInt8×Int}(hF:Gl0 fuel d0=some r):
 C3 Tryz.prog 256 [.s d0] (.tup [.s r.1,.s r.2.1,.i r.2.2]):=by
 unfold Gl0 at hF;refine cf 25 Tryz.func256 ?_;refine jB 9 hF Gx4 Dm5 fun y1 hF=> ?_
 refine jI 10 12 hF ?_ ?_<;>intro hF
 ·refine jd 2 ?_;refine je 5 ?_;cases hF;exact jr 0
 ·refine jB 6 hF Fj1 Cg3 fun y2 hF=> ?_
  refine jd 9 ?_;refine dB 1 hF Ds2 Ba0 fun y5 hF=> ?_
  refine dB 1 hF Ds2 Ba0 fun y6 hF=> ?_
  refine je 3 ?_;cases hF;exact jr 0
end
section
theorem Ek5:A8 Tryz.prog 54:=Kx.A7 Tryz.func54 (by kernel_rfl) (by kernel_rfl)
theorem Gd1:A8 Tryz.prog 153:=Kx.A7 Tryz.func153 (by kernel_rfl) (by kernel_rfl)
theorem Gn2:A8 Tryz.prog 97:=Kx.A7 Tryz.func97 (by kernel_rfl) (by kernel_rfl)
theorem Df1:A8 Tryz.prog 152:=Kx.A7 Tryz.func152 (by kernel_rfl) (by kernel_rfl)
theorem Df2:A8 Tryz.prog 96:=Kx.A7 Tryz.func96 (by kernel_rfl) (by kernel_rfl)
theorem Gx6:A8 Tryz.prog 99:=Kx.A7 Tryz.func99 (by kernel_rfl) (by kernel_rfl)
theorem Gn1:A8 Tryz.prog 95:=Kx.A7 Tryz.func95 (by kernel_rfl) (by kernel_rfl)
theorem Fj6:A8 Tryz.prog 158:=Kx.A7 Tryz.func158 (by kernel_rfl) (by kernel_rfl)
theorem Gd2:A8 Tryz.prog 154:=Kx.A7 Tryz.func154 (by kernel_rfl) (by kernel_rfl)
theorem Fl0:A8 Tryz.prog 98:=Kx.A7 Tryz.func98 (by kernel_rfl) (by kernel_rfl)
theorem Gc2:A8 Tryz.prog 100:=Kx.A7 Tryz.func100 (by kernel_rfl) (by kernel_rfl)
theorem Cu4:A8 Tryz.prog 94:=Kx.A7 Tryz.func94 (by kernel_rfl) (by kernel_rfl)
theorem Ge5:A8 Tryz.prog 50:=Kx.A7 Tryz.func50 (by kernel_rfl) (by kernel_rfl)
theorem Fi9:A8 Tryz.prog 101:=Kx.A7 Tryz.func101 (by kernel_rfl) (by kernel_rfl)
theorem Gu2:A8 Tryz.prog 157:=Kx.A7 Tryz.func157 (by kernel_rfl) (by kernel_rfl)
theorem Fj0:A8 Tryz.prog 104:=Kx.A7 Tryz.func104 (by kernel_rfl) (by kernel_rfl)
theorem Fj5:A8 Tryz.prog 155:=Kx.A7 Tryz.func155 (by kernel_rfl) (by kernel_rfl)
theorem Fk9:A8 Tryz.prog 52:=Kx.A7 Tryz.func52 (by kernel_rfl) (by kernel_rfl)
theorem Ek1:A8 Tryz.prog 102:=Kx.A7 Tryz.func102 (by kernel_rfl) (by kernel_rfl)
theorem Gx3:A8 Tryz.prog 53:=Kx.A7 Tryz.func53 (by kernel_rfl) (by kernel_rfl)
theorem Hg1:A8 Tryz.prog 93:=Kx.A7 Tryz.func93 (by kernel_rfl) (by kernel_rfl)
theorem Ft3:A8 Tryz.prog 49:=Kx.A7 Tryz.func49 (by kernel_rfl) (by kernel_rfl)
theorem Hf4:A8 Tryz.prog 51:=Kx.A7 Tryz.func51 (by kernel_rfl) (by kernel_rfl)
theorem He6:A8 Tryz.prog 25:=Kx.A7 Tryz.func25 (by kernel_rfl) (by kernel_rfl)
theorem Hn2:A8 Tryz.prog 56:=Kx.A7 Tryz.func56 (by kernel_rfl) (by kernel_rfl)
theorem Hn1:A8 Tryz.prog 55:=Kx.A7 Tryz.func55 (by kernel_rfl) (by kernel_rfl)
def Ba3(d0:List (List UInt8))(d1:List (List UInt8)):Nat->Int->Option Bool
 |0,_=>none
 |nL1+1,v2=>
  bif decide (v2<((d0.map e_s).length:Int)) then
   (Option.bind (C6 d0 v2) fun y5=>
   Option.bind (C6 d1 v2) fun y6=>
   bif !(y5==y6) then
    (some false)
   else
    ((Ba3 d0 d1 nL1) (i64.wrap (v2+1))))
  else
   (some true)
def F30(fuel:Nat)(d0:List (List UInt8))(d1:List (List UInt8)):Option Bool:=
 bif ((d0.map e_s).length:Int) !=((d1.map e_s).length:Int) then
  (some false)
 else
  (Ba3 d0 d1 fuel 0)
noncomputable abbrev b30:=C2 Tryz.f30
abbrev G30(r:Bool):=J none Tryz.prog 26 [] (L5 Tryz.prog Tryz.f30 (.b r))
theorem Cq5{fuel:Nat}{d0:List (List UInt8)}{d1:List (List UInt8)}{r:Bool}(hF:F30 fuel d0 d1=some r):
 C3 Tryz.prog 30 [.l 1 d0 e_s,.l 1 d1 e_s] (.b r):=by
 unfold F30 at hF;refine cf 26 Tryz.func30 ?_;refine jI 13 10 hF ?_ ?_<;>intro hF
 ·cases hF;exact jr 5
 ·have hL1:∀(nL1:Nat) (v2:Int),Ba3 d0 d1 nL1 v2=some r->G30 r ⟨mkT [(0,.l 1 d0 e_s),(1,.l 1 d1 e_s),(5,.i v2)],[],[kL b30 [1,1,0,1,0,0],.inBlock 0,kC b30 [1,1,1]]⟩:=by
   clear hF;intro nL1
   induction nL1 with
   |zero=>intro v2 hF;cases hF
   |succ nL1 iL1=>
    intro v2 hF;rw[Ba3]at hF;refine jI 9 14 hF ?_ ?_<;>intro hF
    ·refine jd 5 ?_;obtain⟨y5,e5,hF⟩:=bnd hF;refine do1 2 (gm (f:=e_s) e5) ?_;obtain⟨y6,e6,hF⟩:=bnd hF;refine do1 3 (gm (f:=e_s) e6) ?_;refine je 2 ?_;refine jI 0 25 hF ?_ ?_<;>intro hF
     ·cases hF;exact jr 5
     ·exact ja 8 (iL1 _ hF)
    ·cases hF;exact jr 6
  exact ja 9 (hL1 _ _ hF)
def F54(d0:Int):Option (List UInt8):=
 Option.bind (Eo7 d0) fun y1=>
 some y1
theorem An0{d0:Int}{r:List UInt8}(hF:F54 d0=some r):
 C3 Tryz.prog 54 [.i d0] (.s r):=by
 unfold F54 at hF;refine cf 5 Tryz.func54 ?_;refine jB 7 hF Df0 Ar8 fun y1 hF=> ?_
 cases hF;exact jr 2
def Fv0(d0:List UInt8):Option (Int×Bool):=Eh3 d0
theorem Dk3{d0:List UInt8}{r:Int×Bool}(hF:Fv0 d0=some r):C3 Tryz.prog 153 [.d (.str d0)] (.tup [.d (.int .i64 r.1),.d (.ife r.2)]):=Dd2 (gs:=1) (gr:=2) (by kernel_rfl) (by kernel_rfl) Tryz.strconv_Atoi_ok Tryz.strconv_Atoi_bad Tryz.strconv_Atoi_range hF
def F97(d0:List UInt8)(d1:List UInt8):Option (Int×Int×Bool):=
 Option.bind (
  bif decide ((d0.length:Int)>9) then
   (some true)
  else
   (some (decide ((d1.length:Int)>9)))) fun o1=>
 bif o1 then
  (some (0,0,false))
 else
  (Option.bind (Fv0 d0) fun y1=>
  Option.bind (Fv0 d1) fun y2=>
  some (y1.1,y2.1,true))
noncomputable abbrev b97:=C2 Tryz.f97
abbrev G97(r:Int×Int×Bool):=J none Tryz.prog 31 [] (L5 Tryz.prog Tryz.f97 (.tup [.i r.1,.i r.2.1,.b r.2.2]))
theorem Cr1{d0:List UInt8}{d1:List UInt8}{r:Int×Int×Bool}(hF:F97 d0 d1=some r):
 C3 Tryz.prog 97 [.s d0,.s d1] (.tup [.i r.1,.i r.2.1,.b r.2.2]):=by
 unfold F97 at hF;refine cf 31 Tryz.func97 ?_;obtain⟨o1,hO,hF⟩:=bnd hF;have hR1:G97 r ⟨mkT [(0,.s d0),(1,.s d1),(18,.b o1)],[],[kO b97 [1,0,0],kC b97 [1,0,1],kC b97 [1,1]]⟩:=by
  clear hO;refine jI 1 18 hF ?_ ?_<;>intro hF
  ·cases hF;exact jr 7
  ·refine jB 5 hF Gd1 Dk3 fun y1 hF=> ?_
   refine jB 9 hF Gd1 Dk3 fun y2 hF=> ?_
   cases hF;exact jr 14
 clear hF;rename _=some o1=>hF
 refine jI 13 14 hF ?_ ?_<;>intro hF
 ·cases hF;exact ja 4 hR1
 ·cases hF;exact ja 4 hR1
def A6(x:Int):List Dat:=[.int .i64 x]
def As4:Nat->(List Int)->Option (List Int)
 |0,_=>none
 |nL1+1,l4=>
  Option.bind (
   bif decide (((l4.map A6).length:Int)>0) then
    (Option.bind (C6 l4 (i64.wrap (((l4.map A6).length:Int)-1))) fun y9=>
    some (y9==0))
   else
    (some false)) fun o3=>
  bif o3 then
   (Option.bind (slc l4 0 (i64.wrap (((l4.map A6).length:Int)-1))) fun l5=>
   (As4 nL1) l5)
  else
   (some l4)
def Ed4(fuel:Nat)(d0:List Int):Option (List Int):=
 As4 fuel d0
noncomputable abbrev Fg5:=C2 Tryz.f152
abbrev Hb1(r:List Int):=J none Tryz.prog 21 [] (L5 Tryz.prog Tryz.f152 (.l 1 r A6))
theorem As5{fuel:Nat}{d0:List Int}{r:List Int}(hF:Ed4 fuel d0=some r):
 C3 Tryz.prog 152 [.l 1 d0 A6] (.l 1 r A6):=by
 unfold Ed4 at hF;refine cf 21 Tryz.func152 ?_;have hL1:∀(nL1:Nat) (l4:List Int),As4 nL1 l4=some r->Hb1 r ⟨mkT [(0,.l 1 l4 A6)],[],[kL Fg5 [1,0,0,0],.inBlock 0,kC Fg5 [1,1]]⟩:=by
  clear hF;intro nL1
  induction nL1 with
  |zero=>intro l4 hF;cases hF
  |succ nL1 iL1=>
   intro l4 hF;rw[As4]at hF;obtain⟨o3,hO,hF⟩:=bnd hF;have hR3:Hb1 r ⟨mkT [(0,.l 1 l4 A6),(14,.b o3)],[],[kO Fg5 [1,0,0,0,0,0],kC Fg5 [1,0,0,0,0,1],kC Fg5 [1,0,0,0,1],kL Fg5 [1,0,0,0],.inBlock 0,kC Fg5 [1,1]]⟩:=by
    clear hO;refine jI 1 14 hF ?_ ?_<;>intro hF
    ·obtain⟨l5,e11,hF⟩:=bnd hF;refine jo2 8 (sm (f:=A6) e11) ?_;exact ja 3 (iL1 _ hF)
    ·cases hF;exact jr 7
   clear hF;rename _=some o3=>hF
   refine jI 8 6 hF ?_ ?_<;>intro hF
   ·obtain⟨y9,e12,hF⟩:=bnd hF;refine jo1 4 (gm (f:=A6) e12) ?_;cases hF;exact ja 3 hR3
   ·cases hF;exact ja 8 hR3
 exact ja 7 (hL1 _ _ hF)
def Bk6(d0:List UInt8)(l4:List Int)(v10:Int)(cL1:Int->(List Int)->Option (List Int)):Nat->Int->Int->Option (List Int)
 |0,_,_=>none
 |nL2+1,v13,v14=>
  bif decide (v14<v10) then
   (Option.bind (C6 ((d0.drop (Int.toNat 1)).take (Int.toNat ((d0.length:Int)-1))) v14) fun y10=>
   (Bk6 d0 l4 v10 cL1 nL2) (i64.wrap ((i64.wrap (10*v13))+(i64.wrap (IntKind.u8.wrap ((y10.toNat:Int)-48))))) (i64.wrap (v14+1)))
  else
   (Option.bind (app l4 [v13]) fun l5=>
   cL1 (i64.wrap (v10-4)) l5)
def Bb2(fuel:Nat)(d0:List UInt8):Nat->Int->(List Int)->Option (List Int)
 |0,_,_=>none
 |nL1+1,v10,l4=>
  bif decide (v10>0) then
   (Bk6 d0 l4 v10 (Bb2 fuel d0 nL1) fuel 0 (bif decide ((i64.wrap (v10-4))>0) then(i64.wrap (v10-4)) else 0))
  else
   (Option.bind (Ed4 fuel l4) fun y11=>
   some y11)
def An3(d0:List UInt8)(l9:List Int)(v24:Int)(cL3:Int->(List Int)->Option (List Int)):Nat->Int->Int->Option (List Int)
 |0,_,_=>none
 |nL4+1,v27,v28=>
  bif decide (v28<v24) then
   (Option.bind (C6 d0 v28) fun y20=>
   (An3 d0 l9 v24 cL3 nL4) (i64.wrap ((i64.wrap (10*v27))+(i64.wrap (IntKind.u8.wrap ((y20.toNat:Int)-48))))) (i64.wrap (v28+1)))
  else
   (Option.bind (app l9 [v27]) fun l10=>
   cL3 (i64.wrap (v24-4)) l10)
def Ad5(fuel:Nat)(d0:List UInt8):Nat->Int->(List Int)->Option (List Int)
 |0,_,_=>none
 |nL3+1,v24,l9=>
  bif decide (v24>0) then
   (An3 d0 l9 v24 (Ad5 fuel d0 nL3) fuel 0 (bif decide ((i64.wrap (v24-4))>0) then(i64.wrap (v24-4)) else 0))
  else
   (Option.bind (Ed4 fuel l9) fun y21=>
   some y21)
def F96(fuel:Nat)(d0:List UInt8):Option (List Int):=
 Option.bind (C6 d0 0) fun y1=>
 bif (y1.toNat:Int)==45 then
  (ass (decide (0<=1)&&decide (1<=(d0.length:Int))&&decide ((d0.length:Int)<=d0.length))<|
  Bb2 fuel d0 fuel (((d0.drop (Int.toNat 1)).take (Int.toNat ((d0.length:Int)-1))).length:Int) [])
 else
  (Ad5 fuel d0 fuel (d0.length:Int) [])
noncomputable abbrev b96:=C2 Tryz.f96
abbrev G96(r:List Int):=J none Tryz.prog 40 [] (L5 Tryz.prog Tryz.f96 (.l 1 r A6))
theorem X7{fuel:Nat}{d0:List UInt8}{r:List Int}(hF:F96 fuel d0=some r):
 C3 Tryz.prog 96 [.s d0] (.l 1 r A6):=by
 unfold F96 at hF;refine cf 40 Tryz.func96 ?_;obtain⟨y1,e1,hF⟩:=bnd hF;refine C4 8 (G5 (o:=(match C6 d0 0 with|some c=>some [.int .u8 c.toNat]|none=>none)) [.int .u8 y1.toNat] (by kernel_rfl) (by rw[e1]) ?_);refine jI 2 9 hF ?_ ?_<;>intro hF
 ·obtain⟨hb2,hF⟩:=K8 hF;refine jo1 3 (ck hb2) ?_;have hL1:∀(nL1:Nat) (v10:Int) (l4:List Int),Bb2 fuel d0 nL1 v10 l4=some r->G96 r ⟨mkT [(0,.s ((d0.drop (Int.toNat 1)).take (Int.toNat ((d0.length:Int)-1)))),(3,.suf 37 0 0),(4,.i v10)],[(37,.buf 0 3 1 (l4.map A6))],[kL b96 [1,1,1,0,1,0,0],.inBlock 0,kC b96 [1,1,1,1]]⟩:=by
   clear hF;intro nL1
   induction nL1 with
   |zero=>intro v10 l4 hF;cases hF
   |succ nL1 iL1=>
    intro v10 l4 hF;rw[Bb2]at hF;refine jI 7 15 hF ?_ ?_<;>intro hF
    ·have hL2:∀(nL2:Nat) (v13:Int) (v14:Int),Bk6 d0 l4 v10 (Bb2 fuel d0 nL1) nL2 v13 v14=some r->G96 r ⟨mkT [(0,.s ((d0.drop (Int.toNat 1)).take (Int.toNat ((d0.length:Int)-1)))),(3,.suf 37 0 0),(4,.i v10),(5,.i v13),(6,.i v14)],[(37,.buf 0 3 1 (l4.map A6))],[kL b96 [1,1,1,0,1,0,0,1,0,0,1,0,1,0,0],.inBlock 2,kC b96 [1,1,1,0,1,0,0,1,0,0,1,1],.inBlock 1,kC b96 [1,1,1,0,1,0,0,1,1],kL b96 [1,1,1,0,1,0,0],.inBlock 0,kC b96 [1,1,1,1]]⟩:=by
      clear hF;intro nL2
      induction nL2 with
      |zero=>intro v13 v14 hF;cases hF
      |succ nL2 iL2=>
       intro v13 v14 hF;rw[Bk6]at hF;refine jI 8 23 hF ?_ ?_<;>intro hF
       ·obtain⟨y10,e12,hF⟩:=bnd hF;refine C4 9 (G5 (o:=(match C6 ((d0.drop (Int.toNat 1)).take (Int.toNat ((d0.length:Int)-1))) v14 with|some c=>some [.int .u8 c.toNat]|none=>none)) [.int .u8 y10.toNat] (by kernel_rfl) (by rw[e12]) ?_);exact ja 11 (iL2 _ _ hF)
       ·obtain⟨l5,e13,hF⟩:=bnd hF;refine jo2 6 (am (f:=A6) e13) ?_;exact ja 8 (iL1 _ _ hF)
     exact ja 18 (hL2 _ _ _ hF)
    ·refine jB 5 hF Df1 As5 fun y11 hF=> ?_
     cases hF;exact jr 2
  refine C4 15 (Dc6 (n:=1) 3 37 3 1 (by kernel_rfl) (by kernel_rfl) ?_);exact ja 0 (hL1 _ _ _ hF)
 ·have hL3:∀(nL3:Nat) (v24:Int) (l9:List Int),Ad5 fuel d0 nL3 v24 l9=some r->G96 r ⟨mkT [(0,.s d0),(3,.suf 37 0 0),(4,.i v24)],[(37,.buf 0 3 1 (l9.map A6))],[kL b96 [1,1,1,0,1,0,0],.inBlock 0,kC b96 [1,1,1,1]]⟩:=by
   clear hF;intro nL3
   induction nL3 with
   |zero=>intro v24 l9 hF;cases hF
   |succ nL3 iL3=>
    intro v24 l9 hF;rw[Ad5]at hF;refine jI 7 15 hF ?_ ?_<;>intro hF
    ·have hL4:∀(nL4:Nat) (v27:Int) (v28:Int),An3 d0 l9 v24 (Ad5 fuel d0 nL3) nL4 v27 v28=some r->G96 r ⟨mkT [(0,.s d0),(3,.suf 37 0 0),(4,.i v24),(5,.i v27),(6,.i v28)],[(37,.buf 0 3 1 (l9.map A6))],[kL b96 [1,1,1,0,1,0,0,1,0,0,1,0,1,0,0],.inBlock 2,kC b96 [1,1,1,0,1,0,0,1,0,0,1,1],.inBlock 1,kC b96 [1,1,1,0,1,0,0,1,1],kL b96 [1,1,1,0,1,0,0],.inBlock 0,kC b96 [1,1,1,1]]⟩:=by
      clear hF;intro nL4
      induction nL4 with
      |zero=>intro v27 v28 hF;cases hF
      |succ nL4 iL4=>
       intro v27 v28 hF;rw[An3]at hF;refine jI 8 23 hF ?_ ?_<;>intro hF
       ·obtain⟨y20,e25,hF⟩:=bnd hF;refine C4 9 (G5 (o:=(match C6 d0 v28 with|some c=>some [.int .u8 c.toNat]|none=>none)) [.int .u8 y20.toNat] (by kernel_rfl) (by rw[e25]) ?_);exact ja 11 (iL4 _ _ hF)
       ·obtain⟨l10,e26,hF⟩:=bnd hF;refine jo2 6 (am (f:=A6) e26) ?_;exact ja 8 (iL3 _ _ hF)
     exact ja 18 (hL4 _ _ _ hF)
    ·refine jB 5 hF Df1 As5 fun y21 hF=> ?_
     cases hF;exact jr 2
  refine C4 15 (Dc6 (n:=1) 3 37 3 1 (by kernel_rfl) (by kernel_rfl) ?_);exact ja 0 (hL3 _ _ _ hF)
def An5(d0:List Int)(d1:List Int)(v10:Int)(cL1:Int->(List Int)->Option (List Int)):Nat->Int->Int->(List Int)->Option (List Int)
 |0,_,_,_=>none
 |nL2+1,v13,v14,l25=>
  Option.bind (
   bif decide (v14<((d1.map A6).length:Int)) then
    (some true)
   else
    (some (decide (v13>0)))) fun o9=>
  bif o9 then
   (Option.bind (C6 l25 (i64.wrap (v10+v14))) fun y41=>
   bif decide (v14<((d1.map A6).length:Int)) then
    (Option.bind (C6 d0 v10) fun y42=>
    Option.bind (C6 d1 v14) fun y43=>
    Option.bind (C6 l25 (i64.wrap (v10+v14))) fun y44=>
    Option.bind (some (l25.set (0+Int.toNat (i64.wrap (v10+v14))) (Int.tmod (i64.wrap ((i64.wrap (y41+v13))+(i64.wrap (y42*y43)))) 10000))) fun l26=>
    (An5 d0 d1 v10 cL1 nL2) (i64.wrap (Int.tdiv (i64.wrap ((i64.wrap (y41+v13))+(i64.wrap (y42*y43)))) 10000)) (i64.wrap (v14+1)) l26)
   else
    (Option.bind (C6 l25 (i64.wrap (v10+v14))) fun y45=>
    Option.bind (some (l25.set (0+Int.toNat (i64.wrap (v10+v14))) (Int.tmod (i64.wrap (y41+v13)) 10000))) fun l27=>
    (An5 d0 d1 v10 cL1 nL2) (i64.wrap (Int.tdiv (i64.wrap (y41+v13)) 10000)) (i64.wrap (v14+1)) l27))
  else
   (cL1 (i64.wrap (v10+1)) l25)
def An4(fuel:Nat)(d0:List Int)(d1:List Int):Nat->Int->(List Int)->Option (List Int)
 |0,_,_=>none
 |nL1+1,v10,l19=>
  bif decide (v10<((d0.map A6).length:Int)) then
   (An5 d0 d1 v10 (An4 fuel d0 d1 nL1) fuel 0 0 l19)
  else
   (Option.bind (Ed4 fuel l19) fun y46=>
   some y46)
def F99(fuel:Nat)(d0:List Int)(d1:List Int):Option (List Int):=
 Option.bind (mkL (i64.wrap (((d0.map A6).length:Int)+((d1.map A6).length:Int))) (i64.wrap (((d0.map A6).length:Int)+((d1.map A6).length:Int))) 0) fun l1=>
 An4 fuel d0 d1 fuel 0 l1
noncomputable abbrev b99:=C2 Tryz.f99
abbrev G99(r:List Int):=J none Tryz.prog 66 [] (L5 Tryz.prog Tryz.f99 (.l 1 r A6))
theorem Dm8{fuel:Nat}{d0:List Int}{d1:List Int}{r:List Int}(hF:F99 fuel d0 d1=some r):
 C3 Tryz.prog 99 [.l 1 d0 A6,.l 1 d1 A6] (.l 1 r A6):=by
 unfold F99 at hF;refine cf 66 Tryz.func99 ?_;obtain⟨l1,e1,hF⟩:=bnd hF;refine jo2 11 (mm (f:=A6) e1) ?_;have hL1:∀(nL1:Nat) (v10:Int) (l19:List Int),An4 fuel d0 d1 nL1 v10 l19=some r->G99 r ⟨mkT [(0,.l 1 d0 A6),(1,.l 1 d1 A6),(5,.suf 15 0 0),(6,.i v10)],[(15,.buf 0 3 1 (l19.map A6))],[kL b99 [1,1,0,1,0,0],.inBlock 0,kC b99 [1,1,1]]⟩:=by
  clear hF;intro nL1
  induction nL1 with
  |zero=>intro v10 l19 hF;cases hF
  |succ nL1 iL1=>
   intro v10 l19 hF;rw[An4]at hF;refine jI 9 19 hF ?_ ?_<;>intro hF
   ·have hL2:∀(nL2:Nat) (v13:Int) (v14:Int) (l25:List Int),An5 d0 d1 v10 (An4 fuel d0 d1 nL1) nL2 v13 v14 l25=some r->G99 r ⟨mkT [(0,.l 1 d0 A6),(1,.l 1 d1 A6),(5,.suf 15 0 0),(6,.i v10),(7,.i v13),(8,.i v14)],[(15,.buf 0 3 1 (l25.map A6))],[kL b99 [1,1,0,1,0,0,1,0,0,1,1,0,0],.inBlock 2,.inBlock 1,kC b99 [1,1,0,1,0,0,1,1],kL b99 [1,1,0,1,0,0],.inBlock 0,kC b99 [1,1,1]]⟩:=by
     clear hF;intro nL2
     induction nL2 with
     |zero=>intro v13 v14 l25 hF;cases hF
     |succ nL2 iL2=>
      intro v13 v14 l25 hF;rw[An5]at hF;obtain⟨o9,hO,hF⟩:=bnd hF;have hR9:G99 r ⟨mkT [(0,.l 1 d0 A6),(1,.l 1 d1 A6),(5,.suf 15 0 0),(6,.i v10),(7,.i v13),(8,.i v14),(29,.b o9)],[(15,.buf 0 3 1 (l25.map A6))],[kO b99 [1,1,0,1,0,0,1,0,0,1,1,0,0,0,0],kC b99 [1,1,0,1,0,0,1,0,0,1,1,0,0,0,1],kC b99 [1,1,0,1,0,0,1,0,0,1,1,0,0,1],kL b99 [1,1,0,1,0,0,1,0,0,1,1,0,0],.inBlock 2,.inBlock 1,kC b99 [1,1,0,1,0,0,1,1],kL b99 [1,1,0,1,0,0],.inBlock 0,kC b99 [1,1,1]]⟩:=by
       clear hO;refine jI 1 29 hF ?_ ?_<;>intro hF
       ·obtain⟨y41,e58,hF⟩:=bnd hF;refine jo1 10 (gm (f:=A6) e58) ?_;refine jo1 0 (gjm (f:=A6) (gj e58)) ?_;refine jI 12 43 hF ?_ ?_<;>intro hF
        ·refine jd 1 ?_;obtain⟨y42,e59,hF⟩:=bnd hF;refine do1 3 (gm (f:=A6) e59) ?_;obtain⟨y43,e60,hF⟩:=bnd hF;refine do1 3 (gm (f:=A6) e60) ?_;refine je 4 ?_;obtain⟨y44,e61,hF⟩:=bnd hF;refine jo1 8 (gm (f:=A6) e61) ?_;obtain⟨l26,e62,hF⟩:=bnd hF;have hst:=stm (f:=A6) (z:=Int.tmod (i64.wrap ((i64.wrap (y41+v13))+(i64.wrap (y42*y43)))) 10000) (k:=0) (xs:=[.int .i64 (Int.tmod (i64.wrap ((i64.wrap (y41+v13))+(i64.wrap (y42*y43)))) 10000)]) (gj e61) rfl;refine C4 0 (H5 (o:=(match(l25.map A6)[0+Int.toNat (i64.wrap (v10+v14))]? with|some old=>some ((l25.map A6).set (0+Int.toNat (i64.wrap (v10+v14))) (Ah3 old 0 [.int .i64 (Int.tmod (i64.wrap ((i64.wrap (y41+v13))+(i64.wrap (y42*y43)))) 10000)]))|none=>none)) (l26.map A6) (by kernel_rfl) (by cases e62;exact hst) ?_);exact ja 12 (iL2 _ _ _ hF)
        ·obtain⟨y45,e63,hF⟩:=bnd hF;refine jo1 10 (gm (f:=A6) e63) ?_;obtain⟨l27,e64,hF⟩:=bnd hF;have hst:=stm (f:=A6) (z:=Int.tmod (i64.wrap (y41+v13)) 10000) (k:=0) (xs:=[.int .i64 (Int.tmod (i64.wrap (y41+v13)) 10000)]) (gj e63) rfl;refine C4 0 (H5 (o:=(match(l25.map A6)[0+Int.toNat (i64.wrap (v10+v14))]? with|some old=>some ((l25.map A6).set (0+Int.toNat (i64.wrap (v10+v14))) (Ah3 old 0 [.int .i64 (Int.tmod (i64.wrap (y41+v13)) 10000)]))|none=>none)) (l27.map A6) (by kernel_rfl) (by cases e64;exact hst) ?_);exact ja 12 (iL2 _ _ _ hF)
       ·exact ja 8 (iL1 _ _ hF)
      clear hF;rename _=some o9=>hF
      refine jI 9 26 hF ?_ ?_<;>intro hF
      ·cases hF;exact ja 3 hR9
      ·cases hF;exact ja 3 hR9
    exact ja 14 (hL2 _ _ _ _ hF)
   ·refine jB 5 hF Df1 As5 fun y46 hF=> ?_
    cases hF;exact jr 2
 exact ja 9 (hL1 _ _ _ hF)
def Bb1(d0:List Int)(d1:List Int):Nat->Int->Option Int
 |0,_=>none
 |nL1+1,v2=>
  bif decide (v2>=0) then
   (Option.bind (C6 d0 v2) fun y9=>
   Option.bind (C6 d1 v2) fun y10=>
   bif y9 !=y10 then
    (Option.bind (C6 d0 v2) fun y11=>
    Option.bind (C6 d1 v2) fun y12=>
    bif decide (y11<y12) then
     (some (-1))
    else
     (some 1))
   else
    ((Bb1 d0 d1 nL1) (i64.wrap (v2-1))))
  else
   (some 0)
def F95(fuel:Nat)(d0:List Int)(d1:List Int):Option Int:=
 bif ((d0.map A6).length:Int) !=((d1.map A6).length:Int) then
  (bif decide (((d0.map A6).length:Int)<((d1.map A6).length:Int)) then
   (some (-1))
  else
   (some 1))
 else
  (Bb1 d0 d1 fuel (i64.wrap (((d0.map A6).length:Int)-1)))
noncomputable abbrev b95:=C2 Tryz.f95
abbrev G95(r:Int):=J none Tryz.prog 41 [] (L5 Tryz.prog Tryz.f95 (.i r))
theorem Cr0{fuel:Nat}{d0:List Int}{d1:List Int}{r:Int}(hF:F95 fuel d0 d1=some r):
 C3 Tryz.prog 95 [.l 1 d0 A6,.l 1 d1 A6] (.i r):=by
 unfold F95 at hF;refine cf 41 Tryz.func95 ?_;refine jI 13 10 hF ?_ ?_<;>intro hF
 ·refine jI 10 15 hF ?_ ?_<;>intro hF
  ·cases hF;exact jr 5
  ·cases hF;exact jr 6
 ·have hL1:∀(nL1:Nat) (v2:Int),Bb1 d0 d1 nL1 v2=some r->G95 r ⟨mkT [(0,.l 1 d0 A6),(1,.l 1 d1 A6),(5,.i v2)],[],[kL b95 [1,1,0,1,0,0],.inBlock 0,kC b95 [1,1,1]]⟩:=by
   clear hF;intro nL1
   induction nL1 with
   |zero=>intro v2 hF;cases hF
   |succ nL1 iL1=>
    intro v2 hF;rw[Bb1]at hF;refine jI 7 20 hF ?_ ?_<;>intro hF
    ·refine jd 5 ?_;obtain⟨y9,e9,hF⟩:=bnd hF;refine do1 2 (gm (f:=A6) e9) ?_;obtain⟨y10,e10,hF⟩:=bnd hF;refine do1 3 (gm (f:=A6) e10) ?_;refine je 2 ?_;refine jI 0 31 hF ?_ ?_<;>intro hF
     ·refine jd 3 ?_;obtain⟨y11,e11,hF⟩:=bnd hF;refine do1 2 (gm (f:=A6) e11) ?_;obtain⟨y12,e12,hF⟩:=bnd hF;refine do1 3 (gm (f:=A6) e12) ?_;refine je 2 ?_;refine jI 0 40 hF ?_ ?_<;>intro hF
      ·cases hF;exact jr 5
      ·cases hF;exact jr 6
     ·exact ja 8 (iL1 _ hF)
    ·cases hF;exact jr 6
  exact ja 12 (hL1 _ _ hF)
def S7(fuel:Nat)(d0:List Int)(d1:List Int):Nat->Int->Int->(List Int)->Option (List Int)
 |0,_,_,_=>none
 |nL1+1,v3,v4,l10=>
  bif decide (v4<((d0.map A6).length:Int)) then
   (Option.bind (C6 d0 v4) fun y5=>
   bif decide (v4<((d1.map A6).length:Int)) then
    (Option.bind (C6 d1 v4) fun y6=>
    bif decide ((i64.wrap ((i64.wrap (y5-v3))-y6))<0) then
     (Option.bind (app l10 [i64.wrap ((i64.wrap ((i64.wrap (y5-v3))-y6))+10000)]) fun l11=>
     (S7 fuel d0 d1 nL1) 1 (i64.wrap (v4+1)) l11)
    else
     (Option.bind (app l10 [i64.wrap ((i64.wrap (y5-v3))-y6)]) fun l12=>
     (S7 fuel d0 d1 nL1) 0 (i64.wrap (v4+1)) l12))
   else
    (bif decide ((i64.wrap (y5-v3))<0) then
     (Option.bind (app l10 [i64.wrap ((i64.wrap (y5-v3))+10000)]) fun l13=>
     (S7 fuel d0 d1 nL1) 1 (i64.wrap (v4+1)) l13)
    else
     (Option.bind (app l10 [i64.wrap (y5-v3)]) fun l14=>
     (S7 fuel d0 d1 nL1) 0 (i64.wrap (v4+1)) l14)))
  else
   (Option.bind (Ed4 fuel l10) fun y7=>
   some y7)
def Fa4(fuel:Nat)(d0:List Int)(d1:List Int):Option (List Int):=
 S7 fuel d0 d1 fuel 0 0 []
noncomputable abbrev Hc2:=C2 Tryz.f158
abbrev Hi0(r:List Int):=J none Tryz.prog 41 [] (L5 Tryz.prog Tryz.f158 (.l 1 r A6))
theorem Cg8{fuel:Nat}{d0:List Int}{d1:List Int}{r:List Int}(hF:Fa4 fuel d0 d1=some r):
 C3 Tryz.prog 158 [.l 1 d0 A6,.l 1 d1 A6] (.l 1 r A6):=by
 unfold Fa4 at hF;refine cf 41 Tryz.func158 ?_;have hL1:∀(nL1:Nat) (v3:Int) (v4:Int) (l10:List Int),S7 fuel d0 d1 nL1 v3 v4 l10=some r->Hi0 r ⟨mkT [(0,.l 1 d0 A6),(1,.l 1 d1 A6),(5,.suf 38 0 0),(6,.i v3),(7,.i v4)],[(38,.buf 0 3 1 (l10.map A6))],[kL Hc2 [1,1,1,0,1,0,0],.inBlock 0,kC Hc2 [1,1,1,1]]⟩:=by
  clear hF;intro nL1
  induction nL1 with
  |zero=>intro v3 v4 l10 hF;cases hF
  |succ nL1 iL1=>
   intro v3 v4 l10 hF;rw[S7]at hF;refine jI 9 12 hF ?_ ?_<;>intro hF
   ·obtain⟨y5,e13,hF⟩:=bnd hF;refine jo1 8 (gm (f:=A6) e13) ?_;refine jI 13 24 hF ?_ ?_<;>intro hF
    ·obtain⟨y6,e14,hF⟩:=bnd hF;refine jo1 5 (gm (f:=A6) e14) ?_;refine jI 14 32 hF ?_ ?_<;>intro hF
     ·obtain⟨l11,e15,hF⟩:=bnd hF;refine jo2 14 (am (f:=A6) e15) ?_;exact ja 8 (iL1 _ _ _ hF)
     ·obtain⟨l12,e16,hF⟩:=bnd hF;refine jo2 6 (am (f:=A6) e16) ?_;exact ja 8 (iL1 _ _ _ hF)
    ·refine jI 12 32 hF ?_ ?_<;>intro hF
     ·obtain⟨l13,e17,hF⟩:=bnd hF;refine jo2 14 (am (f:=A6) e17) ?_;exact ja 8 (iL1 _ _ _ hF)
     ·obtain⟨l14,e18,hF⟩:=bnd hF;refine jo2 6 (am (f:=A6) e18) ?_;exact ja 8 (iL1 _ _ _ hF)
   ·refine jB 5 hF Df1 As5 fun y7 hF=> ?_
    cases hF;exact jr 2
 refine C4 19 (Dc6 (n:=1) 5 38 3 1 (by kernel_rfl) (by kernel_rfl) ?_);exact ja 0 (hL1 _ _ _ _ hF)
def Ak0(v92:Int)(cL3:Int->Int->Int->Option (List Int×List Int))(v93:Int)(v94:Int):Option (List Int×List Int):=
 cL3 v93 v94 (i64.wrap (v92-1))
def Ba1(v66:Int)(cL1:(List Int)->Int->(List Int)->Option (List Int×List Int))(l23:List Int)(l24:List Int):Option (List Int×List Int):=
 cL1 l23 (i64.wrap (v66-1)) l24
def Ac8(fuel:Nat)(d1:List Int)(l20:List Int)(v66:Int)(y147:List Int)(cL1:(List Int)->Int->(List Int)->Option (List Int×List Int)):Nat->Int->Int->Option (List Int×List Int)
 |0,_,_=>none
 |nL5+1,v97,v98=>
  bif decide (v97<v98) then
   (Option.bind (F99 fuel d1 [i64.wrap (Int.tdiv (i64.wrap ((i64.wrap (v97+v98))+1)) 2)]) fun y170=>
   Option.bind (F95 fuel y170 y147) fun y171=>
   bif decide (y171<=0) then
    ((Ac8 fuel d1 l20 v66 y147 cL1 nL5) (i64.wrap (Int.tdiv (i64.wrap ((i64.wrap (v97+v98))+1)) 2)) v98)
   else
    ((Ac8 fuel d1 l20 v66 y147 cL1 nL5) v97 (i64.wrap ((i64.wrap (Int.tdiv (i64.wrap ((i64.wrap (v97+v98))+1)) 2))-1))))
  else
   (Option.bind (C6 l20 v66) fun y172=>
   Option.bind (some (l20.set (0+Int.toNat v66) v97)) fun l26=>
   bif decide (v97>0) then
    (Option.bind (F99 fuel d1 [v97]) fun y173=>
    Option.bind (Fa4 fuel y147 y173) fun y174=>
    Ba1 v66 cL1 y174 l26)
   else
    (Ba1 v66 cL1 y147 l26))
def L9(fuel:Nat)(d1:List Int)(l20:List Int)(v66:Int)(y147:List Int)(cL1:(List Int)->Int->(List Int)->Option (List Int×List Int)):Nat->Int->Int->Int->Option (List Int×List Int)
 |0,_,_,_=>none
 |nL3+1,v90,v91,v92=>
  bif decide (v92>=(bif decide ((i64.wrap ((i64.wrap (((d1.map A6).length:Int)-1))-1))>0) then(i64.wrap ((i64.wrap (((d1.map A6).length:Int)-1))-1)) else 0)) then
   (bif decide (v92<((y147.map A6).length:Int)) then
    (Option.bind (C6 y147 v92) fun y163=>
    bif decide (v92<=(i64.wrap (((d1.map A6).length:Int)-1))) then
     (Option.bind (C6 d1 v92) fun y164=>
     Ak0 v92 (L9 fuel d1 l20 v66 y147 cL1 nL3) (i64.wrap ((i64.wrap (v90*10000))+y164)) (i64.wrap ((i64.wrap (v91*10000))+y163)))
    else
     (Ak0 v92 (L9 fuel d1 l20 v66 y147 cL1 nL3) v90 (i64.wrap ((i64.wrap (v91*10000))+y163))))
   else
    (bif decide (v92<=(i64.wrap (((d1.map A6).length:Int)-1))) then
     (Option.bind (C6 d1 v92) fun y165=>
     Ak0 v92 (L9 fuel d1 l20 v66 y147 cL1 nL3) (i64.wrap ((i64.wrap (v90*10000))+y165)) (i64.wrap (v91*10000)))
    else
     (Ak0 v92 (L9 fuel d1 l20 v66 y147 cL1 nL3) v90 (i64.wrap (v91*10000)))))
  else
   (ass (decide ((i64.wrap (v90+1))≠0))<|
   ass (decide (v90≠0))<|
   Ac8 fuel d1 l20 v66 y147 cL1 fuel (i64.wrap (Int.tdiv v91 (i64.wrap (v90+1)))) (i64.wrap (Int.tdiv v91 v90)))
def S6(fuel:Nat)(d0:List Int)(d1:List Int):Nat->(List Int)->Int->(List Int)->Option (List Int×List Int)
 |0,_,_,_=>none
 |nL1+1,l19,v66,l20=>
  bif decide (v66>=0) then
   (Option.bind (C6 d0 v66) fun y146=>
   Option.bind (app [y146] l19) fun l25=>
   Option.bind (Ed4 fuel l25) fun y147=>
   L9 fuel d1 l20 v66 y147 (S6 fuel d0 d1 nL1) fuel 0 0 (i64.wrap ((i64.wrap (((d1.map A6).length:Int)-1))+1)))
  else
   (Option.bind (Ed4 fuel l20) fun y175=>
   some (y175,l19))
def Fr0(fuel:Nat)(d0:List Int)(d1:List Int):Option (List Int×List Int):=
 bif decide (((d0.map A6).length:Int)<=(i64.wrap (((d1.map A6).length:Int)-1))) then
  (Option.bind (app [] d0) fun l1=>
  some ([],l1))
 else
  (Option.bind (mkL (i64.wrap (((d0.map A6).length:Int)-(i64.wrap (((d1.map A6).length:Int)-1)))) (i64.wrap (((d0.map A6).length:Int)-(i64.wrap (((d1.map A6).length:Int)-1)))) 0) fun l2=>
  Option.bind (slc d0 (i64.wrap (((d0.map A6).length:Int)-(i64.wrap (((d1.map A6).length:Int)-1)))) (d0.length:Int)) fun l3=>
  Option.bind (app [] l3) fun l4=>
  S6 fuel d0 d1 fuel l4 (i64.wrap (((l2.map A6).length:Int)-1)) l2)
noncomputable abbrev Bi6:=C2 Tryz.f154
abbrev Fy4(r:List Int×List Int):=J none Tryz.prog 125 [] (L5 Tryz.prog Tryz.f154 (.tup [.l 1 r.1 A6,.l 1 r.2 A6]))
theorem Dk4{fuel:Nat}{d0:List Int}{d1:List Int}{r:List Int×List Int}(hF:Fr0 fuel d0 d1=some r):
 C3 Tryz.prog 154 [.l 1 d0 A6,.l 1 d1 A6] (.tup [.l 1 r.1 A6,.l 1 r.2 A6]):=by
 unfold Fr0 at hF;refine cf 125 Tryz.func154 ?_;refine jI 20 22 hF ?_ ?_<;>intro hF
 ·obtain⟨l1,e1,hF⟩:=bnd hF;refine jo2 5 (am (f:=A6) e1) ?_;cases hF;exact jr 3
 ·obtain⟨l2,e2,hF⟩:=bnd hF;refine jo2 8 (mm (f:=A6) e2) ?_;obtain⟨l3,e3,hF⟩:=bnd hF;refine jo2 10 (smh (f:=A6) e3) ?_;obtain⟨l4,e4,hF⟩:=bnd hF;refine jo2 0 (am (f:=A6) e4) ?_;have hL1:∀(nL1:Nat) (l19:List Int) (v66:Int) (l20:List Int),S6 fuel d0 d1 nL1 l19 v66 l20=some r->Fy4 r ⟨mkT [(0,.l 1 d0 A6),(1,.l 1 d1 A6),(6,.i (i64.wrap (((d1.map A6).length:Int)-1))),(7,.suf 30 0 0),(8,.l 1 l19 A6),(9,.i v66)],[(30,.buf 0 3 1 (l20.map A6))],[kL Bi6 [1,1,1,1,1,0,1,0,0],.inBlock 0,kC Bi6 [1,1,1,1,1,1]]⟩:=by
   clear hF;intro nL1
   induction nL1 with
   |zero=>intro l19 v66 l20 hF;cases hF
   |succ nL1 iL1=>
    intro l19 v66 l20 hF;rw[S6]at hF;refine jI 7 43 hF ?_ ?_<;>intro hF
    ·have hA2:∀(l23:List Int) (l24:List Int),Ba1 v66 (S6 fuel d0 d1 nL1) l23 l24=some r->Fy4 r ⟨mkT [(0,.l 1 d0 A6),(1,.l 1 d1 A6),(6,.i (i64.wrap (((d1.map A6).length:Int)-1))),(7,.suf 30 0 0),(8,.l 1 l23 A6),(9,.i v66)],[(30,.buf 0 3 1 (l24.map A6))],[kC Bi6 [1,1,1,1,1,0,1,0,0,1,1],kL Bi6 [1,1,1,1,1,0,1,0,0],.inBlock 0,kC Bi6 [1,1,1,1,1,1]]⟩:=by
      intro l23 l24 hF;unfold Ba1 at hF;exact ja 5 (iL1 _ _ _ hF)
     obtain⟨y146,e160,hF⟩:=bnd hF;refine jo1 8 (gm (f:=A6) e160) ?_;obtain⟨l25,e161,hF⟩:=bnd hF;refine jo2 3 (am (f:=A6) e161) ?_;refine jB 0 hF Df1 As5 fun y147 hF=> ?_
     have hL3:∀(nL3:Nat) (v90:Int) (v91:Int) (v92:Int),L9 fuel d1 l20 v66 y147 (S6 fuel d0 d1 nL1) nL3 v90 v91 v92=some r->Fy4 r ⟨mkT [(0,.l 1 d0 A6),(1,.l 1 d1 A6),(6,.i (i64.wrap (((d1.map A6).length:Int)-1))),(7,.suf 30 0 0),(8,.l 1 y147 A6),(9,.i v66),(10,.i v90),(11,.i v91),(12,.i v92)],[(30,.buf 0 3 1 (l20.map A6))],[kL Bi6 [1,1,1,1,1,0,1,0,0,1,0,0,1,1,0,1,0,0],.inBlock 2,kC Bi6 [1,1,1,1,1,0,1,0,0,1,0,0,1,1,1],.inBlock 1,kC Bi6 [1,1,1,1,1,0,1,0,0,1,1],kL Bi6 [1,1,1,1,1,0,1,0,0],.inBlock 0,kC Bi6 [1,1,1,1,1,1]]⟩:=by
      clear hF;intro nL3
      induction nL3 with
      |zero=>intro v90 v91 v92 hF;cases hF
      |succ nL3 iL3=>
       intro v90 v91 v92 hF;rw[L9]at hF;refine jI 10 60 hF ?_ ?_<;>intro hF
       ·have hA4:∀(v93:Int) (v94:Int),Ak0 v92 (L9 fuel d1 l20 v66 y147 (S6 fuel d0 d1 nL1) nL3) v93 v94=some r->Fy4 r ⟨mkT [(0,.l 1 d0 A6),(1,.l 1 d1 A6),(6,.i (i64.wrap (((d1.map A6).length:Int)-1))),(7,.suf 30 0 0),(8,.l 1 y147 A6),(9,.i v66),(10,.i v93),(11,.i v94),(12,.i v92)],[(30,.buf 0 3 1 (l20.map A6))],[kC Bi6 [1,1,1,1,1,0,1,0,0,1,0,0,1,1,0,1,0,0,1,1],kL Bi6 [1,1,1,1,1,0,1,0,0,1,0,0,1,1,0,1,0,0],.inBlock 2,kC Bi6 [1,1,1,1,1,0,1,0,0,1,0,0,1,1,1],.inBlock 1,kC Bi6 [1,1,1,1,1,0,1,0,0,1,1],kL Bi6 [1,1,1,1,1,0,1,0,0],.inBlock 0,kC Bi6 [1,1,1,1,1,1]]⟩:=by
         intro v93 v94 hF;unfold Ak0 at hF;exact ja 5 (iL3 _ _ _ hF)
        refine jI 18 68 hF ?_ ?_<;>intro hF
        ·obtain⟨y163,e178,hF⟩:=bnd hF;refine jo1 5 (gm (f:=A6) e178) ?_;refine jI 10 77 hF ?_ ?_<;>intro hF
         ·obtain⟨y164,e179,hF⟩:=bnd hF;refine jo1 6 (gm (f:=A6) e179) ?_;exact ja 5 (hA4 _ _ hF)
         ·exact ja 3 (hA4 _ _ hF)
        ·refine jI 8 77 hF ?_ ?_<;>intro hF
         ·obtain⟨y165,e180,hF⟩:=bnd hF;refine jo1 6 (gm (f:=A6) e180) ?_;exact ja 5 (hA4 _ _ hF)
         ·exact ja 3 (hA4 _ _ hF)
       ·refine jd 3 ?_;obtain⟨hb176,hF⟩:=K8 hF;refine do1 3 (ck hb176) ?_;obtain⟨hb177,hF⟩:=K8 hF;refine do1 2 (ck hb177) ?_;refine je 2 ?_;have hL5:∀(nL5:Nat) (v97:Int) (v98:Int),Ac8 fuel d1 l20 v66 y147 (S6 fuel d0 d1 nL1) nL5 v97 v98=some r->Fy4 r ⟨mkT [(0,.l 1 d0 A6),(1,.l 1 d1 A6),(6,.i (i64.wrap (((d1.map A6).length:Int)-1))),(7,.suf 30 0 0),(8,.l 1 y147 A6),(9,.i v66),(13,.i v97),(14,.i v98)],[(30,.buf 0 3 1 (l20.map A6))],[kL Bi6 [1,1,1,1,1,0,1,0,0,1,0,0,1,1,1,1,0,0,0],.inBlock 4,kC Bi6 [1,1,1,1,1,0,1,0,0,1,0,0,1,1,1,1,1],.inBlock 1,kC Bi6 [1,1,1,1,1,0,1,0,0,1,1],kL Bi6 [1,1,1,1,1,0,1,0,0],.inBlock 0,kC Bi6 [1,1,1,1,1,1]]⟩:=by
         clear hF;intro nL5
         induction nL5 with
         |zero=>intro v97 v98 hF;cases hF
         |succ nL5 iL5=>
          intro v97 v98 hF;rw[Ac8]at hF;refine jI 8 94 hF ?_ ?_<;>intro hF
          ·refine jB 17 hF Gx6 Dm8 fun y170 hF=> ?_
           refine jB 1 hF Gn1 Cr0 fun y171 hF=> ?_
           refine jI 2 106 hF ?_ ?_<;>intro hF
           ·exact ja 6 (iL5 _ _ hF)
           ·exact ja 7 (iL5 _ _ hF)
          ·obtain⟨y172,e187,hF⟩:=bnd hF;refine jo1 7 (gm (f:=A6) e187) ?_;obtain⟨l26,e188,hF⟩:=bnd hF;have hst:=stm (f:=A6) (z:=v97) (k:=0) (xs:=[.int .i64 v97]) (gj e187) rfl;refine C4 0 (H5 (o:=(match(l20.map A6)[0+Int.toNat v66]? with|some old=>some ((l20.map A6).set (0+Int.toNat v66) (Ah3 old 0 [.int .i64 v97]))|none=>none)) (l26.map A6) (by kernel_rfl) (by cases e188;exact hst) ?_);refine jI 6 115 hF ?_ ?_<;>intro hF
           ·refine jB 6 hF Gx6 Dm8 fun y173 hF=> ?_
            refine jB 0 hF Fj6 Cg8 fun y174 hF=> ?_
            exact ja 3 (hA2 _ _ hF)
           ·exact ja 3 (hA2 _ _ hF)
        exact ja 3 (hL5 _ _ _ hF)
     exact ja 16 (hL3 _ _ _ _ hF)
    ·refine jB 5 hF Df1 As5 fun y175 hF=> ?_
     cases hF;exact jr 4
  refine C4 12 (Cr4 8 (by kernel_rfl) (by kernel_rfl) ?_);exact ja 0 (hL1 _ _ _ _ hF)
def Bw4(v9:Int)(cL2:Int->(List Int)->Option (List UInt8))(l34:List Int):Option (List UInt8):=
 cL2 (i64.wrap (Int.tdiv v9 10)) l34
def X8(d1:List Int)(v7:Int)(cL1:Int->(List Int)->Option (List UInt8)):Nat->Int->(List Int)->Option (List UInt8)
 |0,_,_=>none
 |nL2+1,v9,l32=>
  bif decide (v9>0) then
   (Option.bind (C6 d1 v7) fun y18=>
   ass (decide (v9≠0))<|
   Option.bind (
    bif decide (((l32.map L4).length:Int)>0) then
     (some true)
    else
     (some ((IntKind.u8.wrap (i64.wrap (48+(Int.tmod (i64.wrap (Int.tdiv y18 v9)) 10)))) !=48))) fun o16=>
   bif o16 then
    (Option.bind (app l32 [IntKind.u8.wrap (i64.wrap (48+(Int.tmod (i64.wrap (Int.tdiv y18 v9)) 10)))]) fun l35=>
    Bw4 v9 (X8 d1 v7 cL1 nL2) l35)
   else
    (Bw4 v9 (X8 d1 v7 cL1 nL2) l32))
  else
   (cL1 (i64.wrap (v7-1)) l32)
def Ai0(fuel:Nat)(d0:Bool)(d1:List Int):Nat->Int->(List Int)->Option (List UInt8)
 |0,_,_=>none
 |nL1+1,v7,l24=>
  bif decide (v7>=0) then
   (X8 d1 v7 (Ai0 fuel d0 d1 nL1) fuel 1000 l24)
  else
   (bif d0 then
    (ass (decide ([45].length+(l24.map toB).length<=4611686018427387904))<|
    some ([45]++(l24.map toB)))
   else
    (some (l24.map toB)))
def F98(fuel:Nat)(d0:Bool)(d1:List Int):Option (List UInt8):=
 bif ((d1.map A6).length:Int)==0 then
  (some [48])
 else
  (Ai0 fuel d0 d1 fuel (i64.wrap (((d1.map A6).length:Int)-1)) [])
noncomputable abbrev b98:=C2 Tryz.f98
abbrev G98(r:List UInt8):=J none Tryz.prog 49 [] (L5 Tryz.prog Tryz.f98 (.s r))
theorem Bb3{fuel:Nat}{d0:Bool}{d1:List Int}{r:List UInt8}(hF:F98 fuel d0 d1=some r):
 C3 Tryz.prog 98 [.b d0,.l 1 d1 A6] (.s r):=by
 unfold F98 at hF;refine cf 49 Tryz.func98 ?_;refine jI 11 11 hF ?_ ?_<;>intro hF
 ·cases hF;exact jr 5
 ·have hL1:∀(nL1:Nat) (v7:Int) (l24:List Int),Ai0 fuel d0 d1 nL1 v7 l24=some r->G98 r ⟨mkT [(0,.b d0),(1,.l 1 d1 A6),(5,.suf 42 0 0),(6,.i v7)],[(42,.buf 0 5 1 (l24.map L4))],[kL b98 [1,1,1,0,1,0,0],.inBlock 0,kC b98 [1,1,1,1]]⟩:=by
   clear hF;intro nL1
   induction nL1 with
   |zero=>intro v7 l24 hF;cases hF
   |succ nL1 iL1=>
    intro v7 l24 hF;rw[Ai0]at hF;refine jI 7 16 hF ?_ ?_<;>intro hF
    ·have hL2:∀(nL2:Nat) (v9:Int) (l32:List Int),X8 d1 v7 (Ai0 fuel d0 d1 nL1) nL2 v9 l32=some r->G98 r ⟨mkT [(0,.b d0),(1,.l 1 d1 A6),(5,.suf 42 0 0),(6,.i v7),(7,.i v9)],[(42,.buf 0 5 1 (l32.map L4))],[kL b98 [1,1,1,0,1,0,0,1,0,0,1,0,0],.inBlock 2,.inBlock 1,kC b98 [1,1,1,0,1,0,0,1,1],kL b98 [1,1,1,0,1,0,0],.inBlock 0,kC b98 [1,1,1,1]]⟩:=by
      clear hF;intro nL2
      induction nL2 with
      |zero=>intro v9 l32 hF;cases hF
      |succ nL2 iL2=>
       intro v9 l32 hF;rw[X8]at hF;refine jI 7 20 hF ?_ ?_<;>intro hF
       ·have hA3:∀(l34:List Int),Bw4 v9 (X8 d1 v7 (Ai0 fuel d0 d1 nL1) nL2) l34=some r->G98 r ⟨mkT [(0,.b d0),(1,.l 1 d1 A6),(5,.suf 42 0 0),(6,.i v7),(7,.i v9)],[(42,.buf 0 5 1 (l34.map L4))],[kC b98 [1,1,1,0,1,0,0,1,0,0,1,0,0,1,1],kL b98 [1,1,1,0,1,0,0,1,0,0,1,0,0],.inBlock 2,.inBlock 1,kC b98 [1,1,1,0,1,0,0,1,1],kL b98 [1,1,1,0,1,0,0],.inBlock 0,kC b98 [1,1,1,1]]⟩:=by
         intro l34 hF;unfold Bw4 at hF;exact ja 5 (iL2 _ _ hF)
        obtain⟨y18,e35,hF⟩:=bnd hF;refine jo1 8 (gm (f:=A6) e35) ?_;obtain⟨hb90,hF⟩:=K8 hF;refine jo1 2 (ck hb90) ?_;obtain⟨o16,hO,hF⟩:=bnd hF;have hR16:G98 r ⟨mkT [(0,.b d0),(1,.l 1 d1 A6),(5,.suf 42 0 0),(6,.i v7),(7,.i v9),(8,.y (IntKind.u8.wrap (i64.wrap (48+(Int.tmod (i64.wrap (Int.tdiv y18 v9)) 10))))),(38,.b o16)],[(42,.buf 0 5 1 (l32.map L4))],[kO b98 [1,1,1,0,1,0,0,1,0,0,1,0,0,1,0,0,1,0],kC b98 [1,1,1,0,1,0,0,1,0,0,1,0,0,1,0,0,1,1],.inBlock 3,kC b98 [1,1,1,0,1,0,0,1,0,0,1,0,0,1,1],kL b98 [1,1,1,0,1,0,0,1,0,0,1,0,0],.inBlock 2,.inBlock 1,kC b98 [1,1,1,0,1,0,0,1,1],kL b98 [1,1,1,0,1,0,0],.inBlock 0,kC b98 [1,1,1,1]]⟩:=by
         clear hO;refine jI 1 38 hF ?_ ?_<;>intro hF
         ·obtain⟨l35,e36,hF⟩:=bnd hF;refine jo2 5 (am (f:=L4) e36) ?_;exact ja 3 (hA3 _ hF)
         ·exact ja 3 (hA3 _ hF)
        clear hF;rename _=some o16=>hF
        refine jI 11 35 hF ?_ ?_<;>intro hF
        ·cases hF;exact ja 3 hR16
        ·cases hF;exact ja 3 hR16
       ·exact ja 8 (iL1 _ _ hF)
     exact ja 10 (hL2 _ _ _ hF)
    ·refine jI 7 43 hF ?_ ?_<;>intro hF
     ·refine C4 4 (G5 (o:=Ft9 (l24.map L4)) [.str (l24.map toB)] (by kernel_rfl) (Hh1 (fun _=>rfl) l24) ?_);obtain⟨hb96,hF⟩:=K8 hF;refine jo1 0 (ck hb96) ?_;cases hF;exact jr 2
     ·refine C4 5 (G5 (o:=Ft9 (l24.map L4)) [.str (l24.map toB)] (by kernel_rfl) (Hh1 (fun _=>rfl) l24) ?_);cases hF;exact jr 2
  refine C4 16 (Dc6 (n:=1) 5 42 5 1 (by kernel_rfl) (by kernel_rfl) ?_);exact ja 0 (hL1 _ _ _ hF)
def Ar6:Nat->Int->Int->Option (List UInt8)
 |0,_,_=>none
 |nL1+1,v3,v4=>
  bif v4 !=0 then
   (ass (decide (v4≠0))<|
   (Ar6 nL1) v4 (Int.tmod v3 v4))
  else
   (Option.bind (F54 (bif decide ((i64.wrap (0-v3))>v3) then(i64.wrap (0-v3)) else v3)) fun y2=>
   some y2)
def Ar7(fuel:Nat):Nat->(List Int)->(List Int)->Option (List UInt8)
 |0,_,_=>none
 |nL2+1,l3,l4=>
  bif decide (((l4.map A6).length:Int)>0) then
   (Option.bind (Fr0 fuel l3 l4) fun y7=>
   (Ar7 fuel nL2) l4 y7.2)
  else
   (Option.bind (F98 fuel false l3) fun y8=>
   some y8)
def Fq5(fuel:Nat)(d0:List UInt8)(d1:List UInt8):Option (List UInt8):=
 Option.bind (F97 d0 d1) fun y1=>
 bif y1.2.2 then
  (Ar6 fuel y1.1 y1.2.1)
 else
  (Option.bind (F96 fuel d0) fun y3=>
  Option.bind (F96 fuel d1) fun y4=>
  Ar7 fuel fuel y3 y4)
noncomputable abbrev Ga2:=C2 Tryz.f100
abbrev Ha6(r:List UInt8):=J none Tryz.prog 50 [] (L5 Tryz.prog Tryz.f100 (.s r))
theorem Di5{fuel:Nat}{d0:List UInt8}{d1:List UInt8}{r:List UInt8}(hF:Fq5 fuel d0 d1=some r):
 C3 Tryz.prog 100 [.s d0,.s d1] (.s r):=by
 unfold Fq5 at hF;refine cf 50 Tryz.func100 ?_;refine jB 9 hF Gn2 Cr1 fun y1 hF=> ?_
 refine jI 12 20 hF ?_ ?_<;>intro hF
 ·have hL1:∀(nL1:Nat) (v3:Int) (v4:Int),Ar6 nL1 v3 v4=some r->Ha6 r ⟨mkT [(5,.i v3),(6,.i v4)],[],[kL Ga2 [1,0,1,1,0,0,0,0],.inBlock 0,kC Ga2 [1,0,1,1,0,1],kC Ga2 [1,1]]⟩:=by
   clear hF;intro nL1
   induction nL1 with
   |zero=>intro v3 v4 hF;cases hF
   |succ nL1 iL1=>
    intro v3 v4 hF;rw[Ar6]at hF;refine jI 7 22 hF ?_ ?_<;>intro hF
    ·obtain⟨hb7,hF⟩:=K8 hF;refine jo1 7 (ck hb7) ?_;exact ja 12 (iL1 _ _ hF)
    ·refine jB 8 hF Ek5 An0 fun y2 hF=> ?_
     cases hF;exact jr 2
  exact ja 4 (hL1 _ _ _ hF)
 ·refine jB 5 hF Df2 X7 fun y3 hF=> ?_
  refine jB 1 hF Df2 X7 fun y4 hF=> ?_
  have hL2:∀(nL2:Nat) (l3:List Int) (l4:List Int),Ar7 fuel nL2 l3 l4=some r->Ha6 r ⟨mkT [(9,.l 1 l3 A6),(10,.l 1 l4 A6)],[],[kL Ga2 [1,1,1,0,0,0],.inBlock 2,kC Ga2 [1,1,1,1]]⟩:=by
   clear hF;intro nL2
   induction nL2 with
   |zero=>intro l3 l4 hF;cases hF
   |succ nL2 iL2=>
    intro l3 l4 hF;rw[Ar7]at hF;refine jI 8 39 hF ?_ ?_<;>intro hF
    ·refine jB 7 hF Gd2 Dk4 fun y7 hF=> ?_
     exact ja 16 (iL2 _ _ hF)
    ·refine jB 5 hF Fl0 Bb3 fun y8 hF=> ?_
     cases hF;exact jr 2
  exact ja 6 (hL2 _ _ _ hF)
def F94(d0:List UInt8):Option Bool:=
 Option.bind (C6 d0 0) fun y1=>
 some ((y1.toNat:Int)==45)
theorem V6{d0:List UInt8}{r:Bool}(hF:F94 d0=some r):
 C3 Tryz.prog 94 [.s d0] (.b r):=by
 unfold F94 at hF;refine cf 6 Tryz.func94 ?_;obtain⟨y1,e1,hF⟩:=bnd hF;refine C4 7 (G5 (o:=(match C6 d0 0 with|some c=>some [.int .u8 c.toNat]|none=>none)) [.int .u8 y1.toNat] (by kernel_rfl) (by rw[e1]) ?_);cases hF;exact jr 3
def F50(d0:List UInt8):Option Int:=
 bif d0==[48] then
  (some 0)
 else
  (Option.bind (F94 d0) fun y1=>
  bif y1 then
   (some (-1))
  else
   (some 1))
theorem Bw1{d0:List UInt8}{r:Int}(hF:F50 d0=some r):
 C3 Tryz.prog 50 [.s d0] (.i r):=by
 unfold F50 at hF;refine cf 7 Tryz.func50 ?_;refine jI 10 4 hF ?_ ?_<;>intro hF
 ·cases hF;exact jr 5
 ·refine jB 6 hF Cu4 V6 fun y1 hF=> ?_
  refine jI 1 6 hF ?_ ?_<;>intro hF
  ·cases hF;exact jr 5
  ·cases hF;exact jr 6
def Ey9(fuel:Nat)(d0:List UInt8):Option (List UInt8):=
 Option.bind (F94 d0) fun y1=>
 Option.bind (F96 fuel d0) fun y2=>
 Option.bind (F98 fuel (!y1) y2) fun y3=>
 some y3
theorem Cg1{fuel:Nat}{d0:List UInt8}{r:List UInt8}(hF:Ey9 fuel d0=some r):
 C3 Tryz.prog 101 [.s d0] (.s r):=by
 unfold Ey9 at hF;refine cf 9 Tryz.func101 ?_;refine jB 7 hF Cu4 V6 fun y1 hF=> ?_
 refine jB 2 hF Df2 X7 fun y2 hF=> ?_
 refine jB 0 hF Fl0 Bb3 fun y3 hF=> ?_
 cases hF;exact jr 2
def R1(d0:List Int)(d1:List Int):Nat->Int->Int->(List Int)->Option (List Int)
 |0,_,_,_=>none
 |nL1+1,v3,v4,l10=>
  Option.bind (
   bif decide (v4<((d0.map A6).length:Int)) then
    (some true)
   else
    (bif decide (v4<((d1.map A6).length:Int)) then
     (some true)
    else
     (some (decide (v3>0))))) fun o3=>
  bif o3 then
   (bif decide (v4<((d0.map A6).length:Int)) then
    (Option.bind (C6 d0 v4) fun y7=>
    bif decide (v4<((d1.map A6).length:Int)) then
     (Option.bind (C6 d1 v4) fun y8=>
     Option.bind (app l10 [Int.tmod (i64.wrap ((i64.wrap (v3+y7))+y8)) 10000]) fun l11=>
     (R1 d0 d1 nL1) (i64.wrap (Int.tdiv (i64.wrap ((i64.wrap (v3+y7))+y8)) 10000)) (i64.wrap (v4+1)) l11)
    else
     (Option.bind (app l10 [Int.tmod (i64.wrap (v3+y7)) 10000]) fun l12=>
     (R1 d0 d1 nL1) (i64.wrap (Int.tdiv (i64.wrap (v3+y7)) 10000)) (i64.wrap (v4+1)) l12))
   else
    (bif decide (v4<((d1.map A6).length:Int)) then
     (Option.bind (C6 d1 v4) fun y9=>
     Option.bind (app l10 [Int.tmod (i64.wrap (v3+y9)) 10000]) fun l13=>
     (R1 d0 d1 nL1) (i64.wrap (Int.tdiv (i64.wrap (v3+y9)) 10000)) (i64.wrap (v4+1)) l13)
    else
     (Option.bind (app l10 [Int.tmod v3 10000]) fun l14=>
     (R1 d0 d1 nL1) (i64.wrap (Int.tdiv v3 10000)) (i64.wrap (v4+1)) l14)))
  else
   (some l10)
def Fv1(fuel:Nat)(d0:List Int)(d1:List Int):Option (List Int):=
 R1 d0 d1 fuel 0 0 []
noncomputable abbrev Fg6:=C2 Tryz.f157
abbrev Hb2(r:List Int):=J none Tryz.prog 54 [] (L5 Tryz.prog Tryz.f157 (.l 1 r A6))
theorem Fa3{fuel:Nat}{d0:List Int}{d1:List Int}{r:List Int}(hF:Fv1 fuel d0 d1=some r):
 C3 Tryz.prog 157 [.l 1 d0 A6,.l 1 d1 A6] (.l 1 r A6):=by
 unfold Fv1 at hF;refine cf 54 Tryz.func157 ?_;have hL1:∀(nL1:Nat) (v3:Int) (v4:Int) (l10:List Int),R1 d0 d1 nL1 v3 v4 l10=some r->Hb2 r ⟨mkT [(0,.l 1 d0 A6),(1,.l 1 d1 A6),(5,.suf 50 0 0),(6,.i v3),(7,.i v4)],[(50,.buf 0 3 1 (l10.map A6))],[kL Fg6 [1,1,1,0,1,0,0],.inBlock 0,kC Fg6 [1,1,1,1]]⟩:=by
  clear hF;intro nL1
  induction nL1 with
  |zero=>intro v3 v4 l10 hF;cases hF
  |succ nL1 iL1=>
   intro v3 v4 l10 hF;rw[R1]at hF;obtain⟨o3,hO,hF⟩:=bnd hF;have hR3:Hb2 r ⟨mkT [(0,.l 1 d0 A6),(1,.l 1 d1 A6),(5,.suf 50 0 0),(6,.i v3),(7,.i v4),(22,.b o3)],[(50,.buf 0 3 1 (l10.map A6))],[kO Fg6 [1,1,1,0,1,0,0,0,0],kC Fg6 [1,1,1,0,1,0,0,0,1],kC Fg6 [1,1,1,0,1,0,0,1],kL Fg6 [1,1,1,0,1,0,0],.inBlock 0,kC Fg6 [1,1,1,1]]⟩:=by
    clear hO;refine jI 1 22 hF ?_ ?_<;>intro hF
    ·refine jI 17 29 hF ?_ ?_<;>intro hF
     ·obtain⟨y7,e15,hF⟩:=bnd hF;refine jo1 5 (gm (f:=A6) e15) ?_;refine jI 12 39 hF ?_ ?_<;>intro hF
      ·obtain⟨y8,e16,hF⟩:=bnd hF;refine jo1 5 (gm (f:=A6) e16) ?_;obtain⟨l11,e17,hF⟩:=bnd hF;refine jo2 10 (am (f:=A6) e17) ?_;exact ja 13 (iL1 _ _ _ hF)
      ·obtain⟨l12,e18,hF⟩:=bnd hF;refine jo2 8 (am (f:=A6) e18) ?_;exact ja 13 (iL1 _ _ _ hF)
     ·refine jI 10 39 hF ?_ ?_<;>intro hF
      ·obtain⟨y9,e19,hF⟩:=bnd hF;refine jo1 5 (gm (f:=A6) e19) ?_;obtain⟨l13,e20,hF⟩:=bnd hF;refine jo2 10 (am (f:=A6) e20) ?_;exact ja 13 (iL1 _ _ _ hF)
      ·obtain⟨l14,e21,hF⟩:=bnd hF;refine jo2 8 (am (f:=A6) e21) ?_;exact ja 13 (iL1 _ _ _ hF)
    ·cases hF;exact jr 7
   clear hF;rename _=some o3=>hF
   refine jI 9 13 hF ?_ ?_<;>intro hF
   ·cases hF;exact ja 9 hR3
   ·refine jI 6 19 hF ?_ ?_<;>intro hF
    ·cases hF;exact ja 3 hR3
    ·cases hF;exact ja 3 hR3
 refine C4 19 (Dc6 (n:=1) 5 50 3 1 (by kernel_rfl) (by kernel_rfl) ?_);exact ja 0 (hL1 _ _ _ _ hF)
def Ez0(fuel:Nat)(d0:List UInt8)(d1:List UInt8):Option (List UInt8):=
 Option.bind (F97 d0 d1) fun y1=>
 bif y1.2.2 then
  (Option.bind (F54 (i64.wrap (y1.1+y1.2.1))) fun y2=>
  some y2)
 else
  (Option.bind (F96 fuel d0) fun y3=>
  Option.bind (F96 fuel d1) fun y4=>
  Option.bind (F94 d0) fun y5=>
  Option.bind (F94 d1) fun y6=>
  bif y5==y6 then
   (Option.bind (F94 d0) fun y7=>
   Option.bind (Fv1 fuel y3 y4) fun y8=>
   Option.bind (F98 fuel y7 y8) fun y9=>
   some y9)
  else
   (Option.bind (F95 fuel y3 y4) fun y10=>
   bif decide (y10>=0) then
    (Option.bind (F94 d0) fun y11=>
    Option.bind (Fa4 fuel y3 y4) fun y12=>
    Option.bind (F98 fuel y11 y12) fun y13=>
    some y13)
   else
    (Option.bind (F94 d1) fun y14=>
    Option.bind (Fa4 fuel y4 y3) fun y15=>
    Option.bind (F98 fuel y14 y15) fun y16=>
    some y16)))
theorem Cg2{fuel:Nat}{d0:List UInt8}{d1:List UInt8}{r:List UInt8}(hF:Ez0 fuel d0 d1=some r):
 C3 Tryz.prog 104 [.s d0,.s d1] (.s r):=by
 unfold Ez0 at hF;refine cf 53 Tryz.func104 ?_;refine jB 9 hF Gn2 Cr1 fun y1 hF=> ?_
 refine jI 12 17 hF ?_ ?_<;>intro hF
 ·refine jB 6 hF Ek5 An0 fun y2 hF=> ?_
  cases hF;exact jr 2
 ·refine jB 5 hF Df2 X7 fun y3 hF=> ?_
  refine jB 1 hF Df2 X7 fun y4 hF=> ?_
  refine jB 7 hF Cu4 V6 fun y5 hF=> ?_
  refine jB 1 hF Cu4 V6 fun y6 hF=> ?_
  refine jI 2 30 hF ?_ ?_<;>intro hF
  ·refine jB 4 hF Cu4 V6 fun y7 hF=> ?_
   refine jB 2 hF Gu2 Fa3 fun y8 hF=> ?_
   refine jB 0 hF Fl0 Bb3 fun y9 hF=> ?_
   cases hF;exact jr 2
  ·refine jB 7 hF Gn1 Cr0 fun y10 hF=> ?_
   refine jI 2 40 hF ?_ ?_<;>intro hF
   ·refine jB 4 hF Cu4 V6 fun y11 hF=> ?_
    refine jB 2 hF Fj6 Cg8 fun y12 hF=> ?_
    refine jB 0 hF Fl0 Bb3 fun y13 hF=> ?_
    cases hF;exact jr 2
   ·refine jB 5 hF Cu4 V6 fun y14 hF=> ?_
    refine jB 2 hF Fj6 Cg8 fun y15 hF=> ?_
    refine jB 0 hF Fl0 Bb3 fun y16 hF=> ?_
    cases hF;exact jr 2
def Fa2(fuel:Nat)(d0:List UInt8)(d1:List UInt8):Option (List UInt8):=
 Option.bind (Ey9 fuel d1) fun y1=>
 Option.bind (Ez0 fuel d0 y1) fun y2=>
 some y2
theorem Cg7{fuel:Nat}{d0:List UInt8}{d1:List UInt8}{r:List UInt8}(hF:Fa2 fuel d0 d1=some r):
 C3 Tryz.prog 155 [.s d0,.s d1] (.s r):=by
 unfold Fa2 at hF;refine cf 9 Tryz.func155 ?_;refine jB 8 hF Fi9 Cg1 fun y1 hF=> ?_
 refine jB 0 hF Fj0 Cg2 fun y2 hF=> ?_
 cases hF;exact jr 2
def F52(fuel:Nat)(d0:List UInt8)(d1:List UInt8):Option (List UInt8):=
 Option.bind (F97 d0 d1) fun y1=>
 bif y1.2.2 then
  (Option.bind (F54 (i64.wrap (y1.1*y1.2.1))) fun y2=>
  some y2)
 else
  (Option.bind (F94 d0) fun y3=>
  Option.bind (F94 d1) fun y4=>
  Option.bind (F96 fuel d0) fun y5=>
  Option.bind (F96 fuel d1) fun y6=>
  Option.bind (F99 fuel y5 y6) fun y7=>
  Option.bind (F98 fuel (!(y3==y4)) y7) fun y8=>
  some y8)
theorem Ba7{fuel:Nat}{d0:List UInt8}{d1:List UInt8}{r:List UInt8}(hF:F52 fuel d0 d1=some r):
 C3 Tryz.prog 52 [.s d0,.s d1] (.s r):=by
 unfold F52 at hF;refine cf 31 Tryz.func52 ?_;refine jB 9 hF Gn2 Cr1 fun y1 hF=> ?_
 refine jI 12 15 hF ?_ ?_<;>intro hF
 ·refine jB 6 hF Ek5 An0 fun y2 hF=> ?_
  cases hF;exact jr 2
 ·refine jB 5 hF Cu4 V6 fun y3 hF=> ?_
  refine jB 1 hF Cu4 V6 fun y4 hF=> ?_
  refine jB 2 hF Df2 X7 fun y5 hF=> ?_
  refine jB 1 hF Df2 X7 fun y6 hF=> ?_
  refine jB 0 hF Gx6 Dm8 fun y7 hF=> ?_
  refine jB 0 hF Fl0 Bb3 fun y8 hF=> ?_
  cases hF;exact jr 2
def Eo6(fuel:Nat)(d0:List UInt8)(d1:List UInt8):Option (List UInt8×List UInt8):=
 Option.bind (F97 d0 d1) fun y1=>
 bif y1.2.2 then
  (ass (decide (y1.2.1≠0))<|
  Option.bind (
   ass (decide (y1.2.1≠0))<|
   bif (Int.tmod y1.1 y1.2.1) !=0 then
    (some (!((decide (y1.1<0))==(decide (y1.2.1<0)))))
   else
    (some false)) fun o1=>
  bif o1 then
   (Option.bind (F54 (i64.wrap ((i64.wrap (Int.tdiv y1.1 y1.2.1))-1))) fun y2=>
   Option.bind (F54 (i64.wrap (y1.1-(i64.wrap (y1.2.1*(i64.wrap ((i64.wrap (Int.tdiv y1.1 y1.2.1))-1))))))) fun y3=>
   some (y2,y3))
  else
   (Option.bind (F54 (i64.wrap (Int.tdiv y1.1 y1.2.1))) fun y4=>
   Option.bind (F54 (i64.wrap (y1.1-(i64.wrap (y1.2.1*(i64.wrap (Int.tdiv y1.1 y1.2.1))))))) fun y5=>
   some (y4,y5)))
 else
  (Option.bind (F96 fuel d0) fun y6=>
  Option.bind (F96 fuel d1) fun y7=>
  Option.bind (Fr0 fuel y6 y7) fun y8=>
  Option.bind (F94 d0) fun y9=>
  Option.bind (F94 d1) fun y10=>
  Option.bind (F98 fuel (!(y9==y10)) y8.1) fun y11=>
  Option.bind (
   bif decide (((y8.2.map A6).length:Int)>0) then
    (Option.bind (F94 d0) fun y21=>
    Option.bind (F94 d1) fun y22=>
    some (!(y21==y22)))
   else
    (some false)) fun o2=>
  bif o2 then
   (Option.bind (Fa2 fuel y11 [49]) fun y16=>
   Option.bind (F52 fuel y16 d1) fun y17=>
   Option.bind (Fa2 fuel d0 y17) fun y18=>
   some (y16,y18))
  else
   (Option.bind (F52 fuel y11 d1) fun y19=>
   Option.bind (Fa2 fuel d0 y19) fun y20=>
   some (y11,y20)))
noncomputable abbrev Fg3:=C2 Tryz.f102
abbrev Ha7(r:List UInt8×List UInt8):=J none Tryz.prog 78 [] (L5 Tryz.prog Tryz.f102 (.tup [.s r.1,.s r.2]))
theorem Bn8{fuel:Nat}{d0:List UInt8}{d1:List UInt8}{r:List UInt8×List UInt8}(hF:Eo6 fuel d0 d1=some r):
 C3 Tryz.prog 102 [.s d0,.s d1] (.tup [.s r.1,.s r.2]):=by
 unfold Eo6 at hF;refine cf 78 Tryz.func102 ?_;refine jB 10 hF Gn2 Cr1 fun y1 hF=> ?_
 refine jI 12 20 hF ?_ ?_<;>intro hF
 ·obtain⟨hb2,hF⟩:=K8 hF;refine jo1 5 (ck hb2) ?_;obtain⟨o1,hO,hF⟩:=bnd hF;have hR1:Ha7 r ⟨mkT [(6,.i y1.1),(7,.i y1.2.1),(9,.i (i64.wrap (Int.tdiv y1.1 y1.2.1))),(34,.b o1)],[],[kO Fg3 [1,0,1,1,0,1,0,0],kC Fg3 [1,0,1,1,0,1,0,1],kC Fg3 [1,0,1,1,0,1,1],kC Fg3 [1,1]]⟩:=by
   clear hO;refine jI 1 34 hF ?_ ?_<;>intro hF
   ·refine jB 9 hF Ek5 An0 fun y2 hF=> ?_
    refine jB 5 hF Ek5 An0 fun y3 hF=> ?_
    cases hF;exact jr 3
   ·refine jB 5 hF Ek5 An0 fun y4 hF=> ?_
    refine jB 5 hF Ek5 An0 fun y5 hF=> ?_
    cases hF;exact jr 3
  clear hF;rename _=some o1=>hF
  obtain⟨hb8,hF⟩:=K8 hF;refine jo1 7 (ck hb8) ?_;refine jI 2 28 hF ?_ ?_<;>intro hF
  ·cases hF;exact ja 6 hR1
  ·cases hF;exact ja 6 hR1
 ·refine jB 5 hF Df2 X7 fun y6 hF=> ?_
  refine jB 1 hF Df2 X7 fun y7 hF=> ?_
  refine jB 0 hF Gd2 Dk4 fun y8 hF=> ?_
  refine jB 9 hF Cu4 V6 fun y9 hF=> ?_
  refine jB 1 hF Cu4 V6 fun y10 hF=> ?_
  refine jB 2 hF Fl0 Bb3 fun y11 hF=> ?_
  obtain⟨o2,hO,hF⟩:=bnd hF;have hR2:Ha7 r ⟨mkT [(0,.s d0),(1,.s d1),(12,.s y11),(69,.b o2)],[],[kO Fg3 [1,1,1,1,0,0],kC Fg3 [1,1,1,1,0,1],kC Fg3 [1,1,1,1,1]]⟩:=by
   clear hO;refine jI 1 69 hF ?_ ?_<;>intro hF
   ·refine jB 3 hF Fj5 Cg7 fun y16 hF=> ?_
    refine jB 8 hF Fk9 Ba7 fun y17 hF=> ?_
    refine jB 0 hF Fj5 Cg7 fun y18 hF=> ?_
    cases hF;exact jr 3
   ·refine jB 8 hF Fk9 Ba7 fun y19 hF=> ?_
    refine jB 0 hF Fj5 Cg7 fun y20 hF=> ?_
    cases hF;exact jr 3
  clear hF;rename _=some o2=>hF
  refine jI 9 63 hF ?_ ?_<;>intro hF
  ·refine jB 1 hF Cu4 V6 fun y21 hF=> ?_
   refine jB 1 hF Cu4 V6 fun y22 hF=> ?_
   cases hF;exact ja 2 hR2
  ·cases hF;exact ja 6 hR2
def F53(fuel:Nat)(d0:List UInt8)(d1:List UInt8):Option (List UInt8):=
 Option.bind (Fq5 fuel d0 d1) fun y1=>
 Option.bind (F50 d1) fun y2=>
 bif decide (y2<0) then
  (Option.bind (Ey9 fuel y1) fun y3=>
  Option.bind (Eo6 fuel d0 y3) fun y4=>
  Option.bind (Eo6 fuel d1 y3) fun y5=>
  bif y5.1==[49] then
   (some y4.1)
  else
   (ass (decide (y4.1.length+[47].length<=4611686018427387904))<|
   ass (decide ((y4.1++[47]).length+y5.1.length<=4611686018427387904))<|
   some ((y4.1++[47])++y5.1)))
 else
  (Option.bind (Eo6 fuel d0 y1) fun y6=>
  Option.bind (Eo6 fuel d1 y1) fun y7=>
  bif y7.1==[49] then
   (some y6.1)
  else
   (ass (decide (y6.1.length+[47].length<=4611686018427387904))<|
   ass (decide ((y6.1++[47]).length+y7.1.length<=4611686018427387904))<|
   some ((y6.1++[47])++y7.1)))
theorem Dm4{fuel:Nat}{d0:List UInt8}{d1:List UInt8}{r:List UInt8}(hF:F53 fuel d0 d1=some r):
 C3 Tryz.prog 53 [.s d0,.s d1] (.s r):=by
 unfold F53 at hF;refine cf 33 Tryz.func53 ?_;refine jB 8 hF Gc2 Di5 fun y1 hF=> ?_
 refine jB 6 hF Ge5 Bw1 fun y2 hF=> ?_
 refine jI 2 11 hF ?_ ?_<;>intro hF
 ·refine jB 3 hF Fi9 Cg1 fun y3 hF=> ?_
  refine jB 6 hF Ek1 Bn8 fun y4 hF=> ?_
  refine jB 9 hF Ek1 Bn8 fun y5 hF=> ?_
  refine jI 11 27 hF ?_ ?_<;>intro hF
  ·cases hF;exact jr 6
  ·obtain⟨hb3,hF⟩:=K8 hF;refine jo1 5 (ck hb3) ?_;obtain⟨hb4,hF⟩:=K8 hF;refine jo1 1 (ck hb4) ?_;cases hF;exact jr 2
 ·refine jB 6 hF Ek1 Bn8 fun y6 hF=> ?_
  refine jB 9 hF Ek1 Bn8 fun y7 hF=> ?_
  refine jI 11 27 hF ?_ ?_<;>intro hF
  ·cases hF;exact jr 6
  ·obtain⟨hb6,hF⟩:=K8 hF;refine jo1 5 (ck hb6) ?_;obtain⟨hb7,hF⟩:=K8 hF;refine jo1 1 (ck hb7) ?_;cases hF;exact jr 2
def F26(fuel:Nat)(d0:Int)(d1:Int):Option (List UInt8):=
 Option.bind (F54 d0) fun y1=>
 Option.bind (F54 d1) fun y2=>
 Option.bind (F53 fuel y1 y2) fun y3=>
 some y3
theorem Dm3{fuel:Nat}{d0:Int}{d1:Int}{r:List UInt8}(hF:F26 fuel d0 d1=some r):
 C3 Tryz.prog 26 [.i d0,.i d1] (.s r):=by
 unfold F26 at hF;refine cf 10 Tryz.func26 ?_;refine jB 7 hF Ek5 An0 fun y1 hF=> ?_
 refine jB 1 hF Ek5 An0 fun y2 hF=> ?_
 refine jB 0 hF Gx3 Dm4 fun y3 hF=> ?_
 cases hF;exact jr 2
def Ah9(d0:List UInt8):Nat->Int->Option (List UInt8×List UInt8×Bool)
 |0,_=>none
 |nL1+1,v2=>
  bif decide (v2<(d0.length:Int)) then
   (Option.bind (C6 d0 v2) fun y3=>
   bif (y3.toNat:Int)==47 then
    (ass (decide (0<=0)&&decide (0<=v2)&&decide (v2<=d0.length))<|
    ass (decide (0<=(i64.wrap (v2+1)))&&decide ((i64.wrap (v2+1))<=(d0.length:Int))&&decide ((d0.length:Int)<=d0.length))<|
    some ((d0.drop (Int.toNat 0)).take (Int.toNat (v2-0)),(d0.drop (Int.toNat (i64.wrap (v2+1)))).take (Int.toNat ((d0.length:Int)-(i64.wrap (v2+1)))),true))
   else
    ((Ah9 d0 nL1) (i64.wrap (v2+1))))
  else
   (some (d0,[49],false))
def F93(fuel:Nat)(d0:List UInt8):Option (List UInt8×List UInt8×Bool):=
 Ah9 d0 fuel 0
noncomputable abbrev b93:=C2 Tryz.f93
abbrev G93(r:List UInt8×List UInt8×Bool):=J none Tryz.prog 24 [] (L5 Tryz.prog Tryz.f93 (.tup [.s r.1,.s r.2.1,.b r.2.2]))
theorem Er0{fuel:Nat}{d0:List UInt8}{r:List UInt8×List UInt8×Bool}(hF:F93 fuel d0=some r):
 C3 Tryz.prog 93 [.s d0] (.tup [.s r.1,.s r.2.1,.b r.2.2]):=by
 unfold F93 at hF;refine cf 24 Tryz.func93 ?_;have hL1:∀(nL1:Nat) (v2:Int),Ah9 d0 nL1 v2=some r->G93 r ⟨mkT [(0,.s d0),(5,.i v2)],[],[kL b93 [1,0,1,0,0],.inBlock 0,kC b93 [1,1]]⟩:=by
  clear hF;intro nL1
  induction nL1 with
  |zero=>intro v2 hF;cases hF
  |succ nL1 iL1=>
   intro v2 hF;rw[Ah9]at hF;refine jI 9 9 hF ?_ ?_<;>intro hF
   ·obtain⟨y3,e3,hF⟩:=bnd hF;refine C4 8 (G5 (o:=(match C6 d0 v2 with|some c=>some [.int .u8 c.toNat]|none=>none)) [.int .u8 y3.toNat] (by kernel_rfl) (by rw[e3]) ?_);refine jI 2 15 hF ?_ ?_<;>intro hF
    ·refine jd 2 ?_;obtain⟨hb11,hF⟩:=K8 hF;refine do1 2 (ck hb11) ?_;obtain⟨hb12,hF⟩:=K8 hF;refine do1 3 (ck hb12) ?_;refine je 3 ?_;cases hF;exact jr 0
    ·exact ja 8 (iL1 _ hF)
   ·cases hF;exact jr 9
 exact ja 13 (hL1 _ _ hF)
def F49(fuel:Nat)(d0:List UInt8):Option (List UInt8×List UInt8):=
 Option.bind (F93 fuel d0) fun y1=>
 some (y1.1,y1.2.1)
theorem Bk2{fuel:Nat}{d0:List UInt8}{r:List UInt8×List UInt8}(hF:F49 fuel d0=some r):
 C3 Tryz.prog 49 [.s d0] (.tup [.s r.1,.s r.2]):=by
 unfold F49 at hF;refine cf 15 Tryz.func49 ?_;refine jB 8 hF Hg1 Er0 fun y1 hF=> ?_
 cases hF;exact jr 15
def F51(fuel:Nat)(d0:List UInt8)(d1:List UInt8):Option Int:=
 Option.bind (F50 d0) fun y1=>
 Option.bind (F50 d1) fun y2=>
 bif y1 !=y2 then
  (Option.bind (F50 d0) fun y3=>
  Option.bind (F50 d1) fun y4=>
  bif decide (y3<y4) then
   (some (-1))
  else
   (some 1))
 else
  (Option.bind (F94 d0) fun y5=>
  bif y5 then
   (Option.bind (F96 fuel d1) fun y6=>
   Option.bind (F96 fuel d0) fun y7=>
   Option.bind (F95 fuel y6 y7) fun y8=>
   some y8)
  else
   (Option.bind (F96 fuel d0) fun y9=>
   Option.bind (F96 fuel d1) fun y10=>
   Option.bind (F95 fuel y9 y10) fun y11=>
   some y11))
theorem Eq5{fuel:Nat}{d0:List UInt8}{d1:List UInt8}{r:Int}(hF:F51 fuel d0 d1=some r):
 C3 Tryz.prog 51 [.s d0,.s d1] (.i r):=by
 unfold F51 at hF;refine cf 27 Tryz.func51 ?_;refine jB 8 hF Ge5 Bw1 fun y1 hF=> ?_
 refine jB 1 hF Ge5 Bw1 fun y2 hF=> ?_
 refine jI 2 9 hF ?_ ?_<;>intro hF
 ·refine jB 5 hF Ge5 Bw1 fun y3 hF=> ?_
  refine jB 1 hF Ge5 Bw1 fun y4 hF=> ?_
  refine jI 2 14 hF ?_ ?_<;>intro hF
  ·cases hF;exact jr 5
  ·cases hF;exact jr 6
 ·refine jB 6 hF Cu4 V6 fun y5 hF=> ?_
  refine jI 1 16 hF ?_ ?_<;>intro hF
  ·refine jB 4 hF Df2 X7 fun y6 hF=> ?_
   refine jB 1 hF Df2 X7 fun y7 hF=> ?_
   refine jB 0 hF Gn1 Cr0 fun y8 hF=> ?_
   cases hF;exact jr 2
  ·refine jB 5 hF Df2 X7 fun y9 hF=> ?_
   refine jB 1 hF Df2 X7 fun y10 hF=> ?_
   refine jB 0 hF Gn1 Cr0 fun y11 hF=> ?_
   cases hF;exact jr 2
def F25(fuel:Nat)(d0:List UInt8)(d1:List UInt8):Option Int:=
 Option.bind (F49 fuel d0) fun y1=>
 Option.bind (F49 fuel d1) fun y2=>
 Option.bind (F52 fuel y1.1 y2.2) fun y3=>
 Option.bind (F52 fuel y2.1 y1.2) fun y4=>
 Option.bind (F51 fuel y3 y4) fun y5=>
 some y5
theorem Ep7{fuel:Nat}{d0:List UInt8}{d1:List UInt8}{r:Int}(hF:F25 fuel d0 d1=some r):
 C3 Tryz.prog 25 [.s d0,.s d1] (.i r):=by
 unfold F25 at hF;refine cf 26 Tryz.func25 ?_;refine jB 7 hF Ft3 Bk2 fun y1 hF=> ?_
 refine jB 9 hF Ft3 Bk2 fun y2 hF=> ?_
 refine jB 10 hF Fk9 Ba7 fun y3 hF=> ?_
 refine jB 2 hF Fk9 Ba7 fun y4 hF=> ?_
 refine jB 0 hF Hf4 Eq5 fun y5 hF=> ?_
 cases hF;exact jr 2
def F55(fuel:Nat)(d0:List UInt8)(d1:List UInt8):Option (List UInt8):=
 Option.bind (F49 fuel d0) fun y1=>
 Option.bind (F49 fuel d1) fun y2=>
 Option.bind (
  bif y1.2==[49] then
   (some (y2.2==[49]))
  else
   (some false)) fun o1=>
 bif o1 then
  (Option.bind (Ez0 fuel y1.1 y2.1) fun y3=>
  some y3)
 else
  (Option.bind (F52 fuel y1.1 y2.2) fun y4=>
  Option.bind (F52 fuel y2.1 y1.2) fun y5=>
  Option.bind (Ez0 fuel y4 y5) fun y6=>
  Option.bind (F52 fuel y1.2 y2.2) fun y7=>
  Option.bind (F53 fuel y6 y7) fun y8=>
  some y8)
noncomputable abbrev b55:=C2 Tryz.f55
abbrev G55(r:List UInt8):=J none Tryz.prog 39 [] (L5 Tryz.prog Tryz.f55 (.s r))
theorem Fx2{fuel:Nat}{d0:List UInt8}{d1:List UInt8}{r:List UInt8}(hF:F55 fuel d0 d1=some r):
 C3 Tryz.prog 55 [.s d0,.s d1] (.s r):=by
 unfold F55 at hF;refine cf 39 Tryz.func55 ?_;refine jB 7 hF Ft3 Bk2 fun y1 hF=> ?_
 refine jB 9 hF Ft3 Bk2 fun y2 hF=> ?_
 obtain⟨o1,hO,hF⟩:=bnd hF;have hR1:G55 r ⟨mkT [(5,.s y1.1),(6,.s y1.2),(7,.s y2.1),(8,.s y2.2),(24,.b o1)],[],[kO b55 [1,1,1,0,0],kC b55 [1,1,1,0,1],kC b55 [1,1,1,1]]⟩:=by
  clear hO;refine jI 1 24 hF ?_ ?_<;>intro hF
  ·refine jB 5 hF Fj0 Cg2 fun y3 hF=> ?_
   cases hF;exact jr 2
  ·refine jB 6 hF Fk9 Ba7 fun y4 hF=> ?_
   refine jB 2 hF Fk9 Ba7 fun y5 hF=> ?_
   refine jB 0 hF Fj0 Cg2 fun y6 hF=> ?_
   refine jB 2 hF Fk9 Ba7 fun y7 hF=> ?_
   refine jB 0 hF Gx3 Dm4 fun y8 hF=> ?_
   cases hF;exact jr 2
 clear hF;rename _=some o1=>hF
 refine jI 12 21 hF ?_ ?_<;>intro hF
 ·cases hF;exact ja 3 hR1
 ·cases hF;exact ja 3 hR1
def F56(fuel:Nat)(d0:List UInt8):Option (List UInt8):=
 Option.bind (F49 fuel d0) fun y1=>
 Option.bind (Ey9 fuel y1.1) fun y2=>
 Option.bind (F53 fuel y2 y1.2) fun y3=>
 some y3
theorem Fx3{fuel:Nat}{d0:List UInt8}{r:List UInt8}(hF:F56 fuel d0=some r):
 C3 Tryz.prog 56 [.s d0] (.s r):=by
 unfold F56 at hF;refine cf 14 Tryz.func56 ?_;refine jB 7 hF Ft3 Bk2 fun y1 hF=> ?_
 refine jB 9 hF Fi9 Cg1 fun y2 hF=> ?_
 refine jB 1 hF Gx3 Dm4 fun y3 hF=> ?_
 cases hF;exact jr 2
def F28(fuel:Nat)(d0:List UInt8)(d1:List UInt8):Option (List UInt8):=
 Option.bind (F56 fuel d1) fun y1=>
 Option.bind (F55 fuel d0 y1) fun y2=>
 some y2
theorem Ep8{fuel:Nat}{d0:List UInt8}{d1:List UInt8}{r:List UInt8}(hF:F28 fuel d0 d1=some r):
 C3 Tryz.prog 28 [.s d0,.s d1] (.s r):=by
 unfold F28 at hF;refine cf 9 Tryz.func28 ?_;refine jB 8 hF Hn2 Fx3 fun y1 hF=> ?_
 refine jB 0 hF Hn1 Fx2 fun y2 hF=> ?_
 cases hF;exact jr 2
end
end Go.Proofs.YtdlnalepibeibaaGreatDoor
end
