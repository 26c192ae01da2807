/- One part of the texts that lead to the theorem; it claims nothing by itself. -/
import Derived.Shelf.Strings.Builder1
import Derived.Shelf.Strings.BuilderF
import Derived.Shelf.Strconv.Atoi
import Derived.Shelf.Strconv.Itoa0
import Derived.Shelf.Strconv.Itoa1
import Derived.Shelf.LaysM
import Derived.Shelf.Strconv.Itoa2
import Derived.Shelf.Strconv.Itoa3
import Derived.Shelf.Strconv.AtoiErrFast
import Derived.Shelf.Strconv.ParseIntEmpty
import Derived.Shelf.Strconv.AtoiFail
import Derived.Shelf.Strconv.Clone
import Derived.Shelf.Strconv.SyntaxError
import Derived.Shelf.LaysC
import Derived.Shelf.Strconv.ToError
import Derived.Shelf.Strconv.Lower
import Derived.Shelf.Strconv.ParseUint10
import Derived.Shelf.Strconv.ParseUint10Empty
import Derived.Shelf.Strconv.ParseUint10Any
import Derived.Shelf.Strconv.ParseInt10
import Derived.Shelf.Strconv.AtoiLong
import Derived.Shelf.Strconv.AtoiInnerAll
import Derived.Shelf.Strconv.RangeError
import Derived.Shelf.Strconv.ToErrorRange
import Derived.Shelf.Strconv.AtoiAll
import Derived.Shelf.Strconv.ErrVarAll
import Derived.Shelf.Strings.Search1
import Derived.Shelf.Strings.Search2
import Derived.Shelf.Strings.Cut
import Derived.Shelf.Strings.Shaped
import Derived.Shelf.Strings.Prefix
import Derived.Shelf.Bits.Mul64
import Derived.Shelf.Slices.Turned
import Derived.Ground.Names2Prog
import Derived.Shelf.Slices.Clone
import Derived.Shelf.Slices.SearchI
import Derived.Ground.SlgnProg
import Derived.Shelf.SlicesE.Clone
import Derived.Test.YtfgbhfphjmmiaaaGreatDoorChecked
import Derived.Lib.ItoaNum
import Derived.Lib.AtoiAll
import Derived.Lib.AtoiErrMem
import Derived.Lib.Repeat
import Derived.Lib.LaidTab
import Derived.Lib.AppendIntMem
import Derived.Lib.Split
import Derived.Lib.SplitLaws
import Derived.Lib.CutLaws
import Derived.Lib.SlicesS
import Derived.Deep.Draws
import Derived.Test.YtfgbhfphjmmiaaaGreatDoorProg
import Derived.Test.YtfgbhfphjmmiaaaGreatDoorSuc
section
namespace Go.Proofs
open Go.Shelf
section
def Tryz.laysM171_ren:Go.Shelf.Ren:=⟨fun|171=>110|243=>150|246=>188|283=>234|284=>235|285=>236|286=>237|129=>260|317=>259|318=>261|319=>262|320=>263|337=>275|338=>276|n=>n,fun|3=>3|9=>9|2=>2|4=>4|171=>286|0=>0|53=>39|37=>215|5=>5|173=>289|212=>310|51=>167|20=>20|213=>311|46=>110|232=>338|233=>339|n=>n,fun|17=>3|18=>4|19=>5|n=>n⟩
theorem Tryz.laysM171:Go.Proofs.LaysM.n171 Tryz.prog Tryz.laysM171_ren:={
 mixed:=by kernel_rfl
 f129:=Tryz.func260.trans (congrArg some (by kernel_rfl))
 f171:=Tryz.func110.trans (congrArg some (by kernel_rfl))
 f243:=Tryz.func150.trans (congrArg some (by kernel_rfl))
 f246:=Tryz.func188.trans (congrArg some (by kernel_rfl))
 f283:=Tryz.func234.trans (congrArg some (by kernel_rfl))
 f284:=Tryz.func235.trans (congrArg some (by kernel_rfl))
 f285:=Tryz.func236.trans (congrArg some (by kernel_rfl))
 f286:=Tryz.func237.trans (congrArg some (by kernel_rfl))
 f317:=Tryz.func259.trans (congrArg some (by kernel_rfl))
 f318:=Tryz.func261.trans (congrArg some (by kernel_rfl))
 f319:=Tryz.func262.trans (congrArg some (by kernel_rfl))
 f320:=Tryz.func263.trans (congrArg some (by kernel_rfl))
 f337:=Tryz.func275.trans (congrArg some (by kernel_rfl))
 f338:=Tryz.func276.trans (congrArg some (by kernel_rfl))
 t0:=Tryz.underlying0
 a0:=Tryz.isAgg0
 z0:=Tryz.sizeOf0
 v0:=Tryz.zeroValue0
 t2:=Tryz.underlying2
 a2:=Tryz.isAgg2
 z2:=Tryz.sizeOf2
 v2:=Tryz.zeroValue2
 t3:=Tryz.underlying3
 a3:=Tryz.isAgg3
 z3:=Tryz.sizeOf3
 v3:=Tryz.zeroValue3
 t4:=Tryz.underlying4
 a4:=Tryz.isAgg4
 z4:=Tryz.sizeOf4
 v4:=Tryz.zeroValue4
 t5:=Tryz.underlying5
 a5:=Tryz.isAgg5
 z5:=Tryz.sizeOf5
 v5:=Tryz.zeroValue5
 t9:=Tryz.underlying9
 a9:=Tryz.isAgg9
 z9:=Tryz.sizeOf9
 v9:=Tryz.zeroValue9
 t20:=Tryz.underlying20
 a20:=Tryz.isAgg20
 z20:=Tryz.sizeOf20
 v20:=Tryz.zeroValue20
 t37:=Tryz.underlying215
 a37:=Tryz.isAgg215
 z37:=Tryz.sizeOf215
 v37:=Tryz.zeroValue215
 t46:=Tryz.underlying110
 a46:=Tryz.isAgg110
 z46:=Tryz.sizeOf110
 v46:=Tryz.zeroValue110
 t51:=Tryz.underlying167
 a51:=Tryz.isAgg167
 z51:=Tryz.sizeOf167
 v51:=Tryz.zeroValue167
 t53:=Tryz.underlying39
 a53:=Tryz.isAgg39
 z53:=Tryz.sizeOf39
 v53:=Tryz.zeroValue39
 t171:=Tryz.underlying286
 a171:=Tryz.isAgg286
 z171:=Tryz.sizeOf286
 v171:=Tryz.zeroValue286
 t173:=Tryz.underlying289
 a173:=Tryz.isAgg289
 z173:=Tryz.sizeOf289
 v173:=Tryz.zeroValue289
 t212:=Tryz.underlying310
 a212:=Tryz.isAgg310
 z212:=Tryz.sizeOf310
 v212:=Tryz.zeroValue310
 t213:=Tryz.underlying311
 a213:=Tryz.isAgg311
 z213:=Tryz.sizeOf311
 t232:=Tryz.underlying338
 a232:=Tryz.isAgg338
 z232:=Tryz.sizeOf338
 v232:=Tryz.zeroValue338
 t233:=Tryz.underlying339
 a233:=Tryz.isAgg339
 z233:=Tryz.sizeOf339
 v233:=Tryz.zeroValue339
 g17:=by kernel_rfl
 g18:=by kernel_rfl
 g19:=by kernel_rfl
 i0:=by kernel_rfl
 i2:=by kernel_rfl
 i3:=by kernel_rfl
 i4:=by kernel_rfl
 i5:=by kernel_rfl
 i9:=by kernel_rfl
 i20:=by kernel_rfl
 i37:=by kernel_rfl
 i46:=by kernel_rfl
 i51:=by kernel_rfl
 i53:=by kernel_rfl
 i171:=by kernel_rfl
 i173:=by kernel_rfl
 i212:=by kernel_rfl
 i232:=by kernel_rfl
 i233:=by kernel_rfl
 m17:=by kernel_rfl
 m18:=by kernel_rfl
 m19:=by kernel_rfl}
open Go.RowKit Go.Sort Go.Lib in
theorem Tryz.strconv_Itoa(n:Int)(h0: -9223372036854775808≤n)(h1:n≤9223372036854775807)(w:World)(htab:Lib.TabIs Tryz.prog w "internal/strconv.uint64pow10" .u64 Lib.pow10Tab):
 Calls Tryz.prog 110 #[.int .i64 n] w fun e w'=>e= .returned (.string ⟨(Lib.itoa n).toArray⟩)∧∃k os,w'=grow (w.drewN k) os:=Any.strconv_Itoa Tryz.laysM171 n h0 h1 w htab
def Tryz.laysC172_ren:Go.Shelf.Ren:=⟨fun|172=>151|244=>189|245=>184|247=>238|279=>229|280=>230|281=>231|282=>232|287=>183|316=>257|171=>110|205=>258|321=>227|322=>228|243=>150|246=>188|283=>234|284=>235|285=>236|286=>237|129=>260|317=>259|318=>261|319=>262|320=>263|337=>275|338=>276|n=>n,fun|9=>9|3=>3|75=>203|76=>213|4=>4|5=>5|167=>280|37=>215|0=>0|85=>291|2=>2|168=>282|53=>39|175=>204|46=>110|210=>307|127=>250|145=>326|143=>324|21=>21|171=>286|173=>289|212=>310|51=>167|20=>20|213=>311|232=>338|233=>339|80=>189|n=>n,fun|15=>1|16=>2|17=>3|18=>4|19=>5|n=>n⟩
theorem Tryz.laysC172:Go.Proofs.LaysC.n172 Tryz.prog Tryz.laysC172_ren:={
 mixed:=by kernel_rfl
 f129:=Tryz.func260.trans (congrArg some (by kernel_rfl))
 f171:=Tryz.func110.trans (congrArg some (by kernel_rfl))
 f172:=Tryz.func151.trans (congrArg some (by kernel_rfl))
 f205:=Tryz.func258.trans (congrArg some (by kernel_rfl))
 f243:=Tryz.func150.trans (congrArg some (by kernel_rfl))
 f244:=Tryz.func189.trans (congrArg some (by kernel_rfl))
 f245:=Tryz.func184.trans (congrArg some (by kernel_rfl))
 f246:=Tryz.func188.trans (congrArg some (by kernel_rfl))
 f247:=Tryz.func238.trans (congrArg some (by kernel_rfl))
 f279:=Tryz.func229.trans (congrArg some (by kernel_rfl))
 f280:=Tryz.func230.trans (congrArg some (by kernel_rfl))
 f281:=Tryz.func231.trans (congrArg some (by kernel_rfl))
 f282:=Tryz.func232.trans (congrArg some (by kernel_rfl))
 f283:=Tryz.func234.trans (congrArg some (by kernel_rfl))
 f284:=Tryz.func235.trans (congrArg some (by kernel_rfl))
 f285:=Tryz.func236.trans (congrArg some (by kernel_rfl))
 f286:=Tryz.func237.trans (congrArg some (by kernel_rfl))
 f287:=Tryz.func183.trans (congrArg some (by kernel_rfl))
 f316:=Tryz.func257.trans (congrArg some (by kernel_rfl))
 f317:=Tryz.func259.trans (congrArg some (by kernel_rfl))
 f318:=Tryz.func261.trans (congrArg some (by kernel_rfl))
 f319:=Tryz.func262.trans (congrArg some (by kernel_rfl))
 f320:=Tryz.func263.trans (congrArg some (by kernel_rfl))
 f321:=Tryz.func227.trans (congrArg some (by kernel_rfl))
 f322:=Tryz.func228.trans (congrArg some (by kernel_rfl))
 f337:=Tryz.func275.trans (congrArg some (by kernel_rfl))
 f338:=Tryz.func276.trans (congrArg some (by kernel_rfl))
 t0:=Tryz.underlying0
 a0:=Tryz.isAgg0
 z0:=Tryz.sizeOf0
 v0:=Tryz.zeroValue0
 t2:=Tryz.underlying2
 a2:=Tryz.isAgg2
 z2:=Tryz.sizeOf2
 v2:=Tryz.zeroValue2
 t3:=Tryz.underlying3
 a3:=Tryz.isAgg3
 z3:=Tryz.sizeOf3
 v3:=Tryz.zeroValue3
 t4:=Tryz.underlying4
 a4:=Tryz.isAgg4
 z4:=Tryz.sizeOf4
 v4:=Tryz.zeroValue4
 t5:=Tryz.underlying5
 a5:=Tryz.isAgg5
 z5:=Tryz.sizeOf5
 v5:=Tryz.zeroValue5
 t9:=Tryz.underlying9
 a9:=Tryz.isAgg9
 z9:=Tryz.sizeOf9
 v9:=Tryz.zeroValue9
 t20:=Tryz.underlying20
 a20:=Tryz.isAgg20
 z20:=Tryz.sizeOf20
 v20:=Tryz.zeroValue20
 t21:=Tryz.underlying21
 a21:=Tryz.isAgg21
 z21:=Tryz.sizeOf21
 v21:=Tryz.zeroValue21
 t37:=Tryz.underlying215
 a37:=Tryz.isAgg215
 z37:=Tryz.sizeOf215
 v37:=Tryz.zeroValue215
 t46:=Tryz.underlying110
 a46:=Tryz.isAgg110
 z46:=Tryz.sizeOf110
 v46:=Tryz.zeroValue110
 t51:=Tryz.underlying167
 a51:=Tryz.isAgg167
 z51:=Tryz.sizeOf167
 v51:=Tryz.zeroValue167
 t53:=Tryz.underlying39
 a53:=Tryz.isAgg39
 z53:=Tryz.sizeOf39
 v53:=Tryz.zeroValue39
 t75:=Tryz.underlying203
 a75:=Tryz.isAgg203
 z75:=Tryz.sizeOf203
 v75:=Tryz.zeroValue203
 t76:=Tryz.underlying213
 a76:=Tryz.isAgg213
 z76:=Tryz.sizeOf213
 v76:=Tryz.zeroValue213
 t85:=Tryz.underlying291
 a85:=Tryz.isAgg291
 z85:=Tryz.sizeOf291
 v85:=Tryz.zeroValue291
 t127:=Tryz.underlying250
 a127:=Tryz.isAgg250
 z127:=Tryz.sizeOf250
 v127:=Tryz.zeroValue250
 t143:=Tryz.underlying324
 a143:=Tryz.isAgg324
 z143:=Tryz.sizeOf324
 v143:=Tryz.zeroValue324
 t145:=Tryz.underlying326
 a145:=Tryz.isAgg326
 z145:=Tryz.sizeOf326
 v145:=Tryz.zeroValue326
 t167:=Tryz.underlying280
 a167:=Tryz.isAgg280
 z167:=Tryz.sizeOf280
 v167:=Tryz.zeroValue280
 t168:=Tryz.underlying282
 a168:=Tryz.isAgg282
 z168:=Tryz.sizeOf282
 v168:=Tryz.zeroValue282
 t171:=Tryz.underlying286
 a171:=Tryz.isAgg286
 z171:=Tryz.sizeOf286
 v171:=Tryz.zeroValue286
 t173:=Tryz.underlying289
 a173:=Tryz.isAgg289
 z173:=Tryz.sizeOf289
 v173:=Tryz.zeroValue289
 t175:=Tryz.underlying204
 a175:=Tryz.isAgg204
 z175:=Tryz.sizeOf204
 v175:=Tryz.zeroValue204
 t210:=Tryz.underlying307
 a210:=Tryz.isAgg307
 z210:=Tryz.sizeOf307
 v210:=Tryz.zeroValue307
 t212:=Tryz.underlying310
 a212:=Tryz.isAgg310
 z212:=Tryz.sizeOf310
 v212:=Tryz.zeroValue310
 t213:=Tryz.underlying311
 a213:=Tryz.isAgg311
 z213:=Tryz.sizeOf311
 t232:=Tryz.underlying338
 a232:=Tryz.isAgg338
 z232:=Tryz.sizeOf338
 v232:=Tryz.zeroValue338
 t233:=Tryz.underlying339
 a233:=Tryz.isAgg339
 z233:=Tryz.sizeOf339
 v233:=Tryz.zeroValue339
 g15:=by kernel_rfl
 g16:=by kernel_rfl
 g17:=by kernel_rfl
 g18:=by kernel_rfl
 g19:=by kernel_rfl
 t80:=Tryz.underlying189
 a80:=Tryz.isAgg189
 z80:=Tryz.sizeOf189
 v80:=Tryz.zeroValue189
 i0:=by kernel_rfl
 i2:=by kernel_rfl
 i3:=by kernel_rfl
 i4:=by kernel_rfl
 i5:=by kernel_rfl
 i9:=by kernel_rfl
 i20:=by kernel_rfl
 i21:=by kernel_rfl
 i37:=by kernel_rfl
 i46:=by kernel_rfl
 i51:=by kernel_rfl
 i53:=by kernel_rfl
 i75:=by kernel_rfl
 i76:=by kernel_rfl
 i80:=by kernel_rfl
 i85:=by kernel_rfl
 i127:=by kernel_rfl
 i143:=by kernel_rfl
 i145:=by kernel_rfl
 i167:=by kernel_rfl
 i168:=by kernel_rfl
 i171:=by kernel_rfl
 i173:=by kernel_rfl
 i175:=by kernel_rfl
 i210:=by kernel_rfl
 i212:=by kernel_rfl
 i232:=by kernel_rfl
 i233:=by kernel_rfl
 m15:=by kernel_rfl
 m16:=by kernel_rfl
 m17:=by kernel_rfl
 m18:=by kernel_rfl
 m19:=by kernel_rfl
 c0:=by kernel_rfl
 c2:=by kernel_rfl
 c3:=by kernel_rfl
 c4:=by kernel_rfl
 c5:=by kernel_rfl
 c9:=by kernel_rfl
 c20:=by kernel_rfl
 c21:=by kernel_rfl
 c37:=by kernel_rfl
 c46:=by kernel_rfl
 c51:=by kernel_rfl
 c53:=by kernel_rfl
 c75:=by kernel_rfl
 c76:=by kernel_rfl
 c80:=by kernel_rfl
 c85:=by kernel_rfl
 c127:=by kernel_rfl
 c143:=by kernel_rfl
 c145:=by kernel_rfl
 c167:=by kernel_rfl
 c168:=by kernel_rfl
 c171:=by kernel_rfl
 c173:=by kernel_rfl
 c175:=by kernel_rfl
 c210:=by kernel_rfl
 c212:=by kernel_rfl
 c213:=by kernel_rfl
 c232:=by kernel_rfl
 c233:=by kernel_rfl}
open Go.RowKit in
theorem Tryz.strconv_Atoi_ok(s:ByteArray)(hmax:s.size≤9223372036854775806)(v:Int)(h:Lib.atoiAll s.data.toList= .ok v)(w:World):
 Calls Tryz.prog 151 #[.string s] w fun e w'=>e= .returned (.tuple #[.int .i64 v,.nilIface])∧(w'=w∨∃t,w'=Lib.bytesWorld w 5 t):=Any.strconv_Atoi_ok Tryz.laysC172 s hmax v h w
open Go.RowKit in
theorem Tryz.strconv_Atoi_bad(s:ByteArray)(hlim:s.size≤281474976710656)(h1:∀v,Lib.atoiAll s.data.toList≠ .ok v)(h2:Lib.atoiAll s.data.toList≠ .range)(ev:Value)(w:World)(hv:w.cell? ⟨1,0,none⟩=some ev)(hev:ev= .nilIface∨∃te pe,ev= .iface te pe):
 Calls Tryz.prog 151 #[.string s] w fun e w'=>∃N,e= .returned (.tuple #[.int .i64 (0),.iface 282 (.pointer (some ⟨N,0,none⟩))])∧w.heap.size≤N∧w'.heap[N]? =some (.cells #[.string ⟨#[65,116,111,105]⟩,.string s,ev] 307 (0,0))∧Below w.heap.size w w':=Any.strconv_Atoi_syntax Tryz.laysC172 s hlim (by cases hx:Lib.atoiAll s.data.toList<;>first|rfl|exact absurd hx (h1 _)|exact absurd hx h2) ev w hv hev
open Go.RowKit in
theorem Tryz.strconv_Atoi_range(s:ByteArray)(hlim:s.size≤281474976710656)(h:Lib.atoiAll s.data.toList= .range)(ev:Value)(w:World)(hv:w.cell? ⟨2,0,none⟩=some ev)(hev:ev= .nilIface∨∃te pe,ev= .iface te pe):
 Calls Tryz.prog 151 #[.string s] w fun e w'=>∃N,e= .returned (.tuple #[.int .i64 (Lib.atoiSat s.data.toList),.iface 282 (.pointer (some ⟨N,0,none⟩))])∧w.heap.size≤N∧w'.heap[N]? =some (.cells #[.string ⟨#[65,116,111,105]⟩,.string s,ev] 307 (0,0))∧Below w.heap.size w w':=Any.strconv_Atoi_range Tryz.laysC172 s hlim h ev w hv hev
def Tryz.lays145_ren:Go.Shelf.Ren:=⟨fun|145=>97|220=>137|219=>181|217=>222|225=>223|224=>224|267=>225|266=>255|314=>256|n=>n,fun|9=>9|4=>4|59=>160|3=>3|5=>5|46=>110|146=>168|51=>167|n=>n,fun|1=>0|n=>n⟩
theorem Tryz.lays145:Go.Proofs.Lays.n145 Tryz.prog Tryz.lays145_ren:={
 mixed:=by kernel_rfl
 f145:=Tryz.func97.trans (congrArg some (by kernel_rfl))
 f217:=Tryz.func222.trans (congrArg some (by kernel_rfl))
 f219:=Tryz.func181.trans (congrArg some (by kernel_rfl))
 f220:=Tryz.func137.trans (congrArg some (by kernel_rfl))
 f224:=Tryz.func224.trans (congrArg some (by kernel_rfl))
 f225:=Tryz.func223.trans (congrArg some (by kernel_rfl))
 f266:=Tryz.func255.trans (congrArg some (by kernel_rfl))
 f267:=Tryz.func225.trans (congrArg some (by kernel_rfl))
 f314:=Tryz.func256.trans (congrArg some (by kernel_rfl))
 t3:=Tryz.underlying3
 a3:=Tryz.isAgg3
 z3:=Tryz.sizeOf3
 v3:=Tryz.zeroValue3
 t4:=Tryz.underlying4
 a4:=Tryz.isAgg4
 z4:=Tryz.sizeOf4
 v4:=Tryz.zeroValue4
 t5:=Tryz.underlying5
 a5:=Tryz.isAgg5
 z5:=Tryz.sizeOf5
 v5:=Tryz.zeroValue5
 t9:=Tryz.underlying9
 a9:=Tryz.isAgg9
 z9:=Tryz.sizeOf9
 v9:=Tryz.zeroValue9
 t46:=Tryz.underlying110
 a46:=Tryz.isAgg110
 z46:=Tryz.sizeOf110
 v46:=Tryz.zeroValue110
 t51:=Tryz.underlying167
 a51:=Tryz.isAgg167
 z51:=Tryz.sizeOf167
 v51:=Tryz.zeroValue167
 t59:=Tryz.underlying160
 a59:=Tryz.isAgg160
 z59:=Tryz.sizeOf160
 v59:=Tryz.zeroValue160
 t146:=Tryz.underlying168
 a146:=Tryz.isAgg168
 z146:=Tryz.sizeOf168
 v146:=Tryz.zeroValue168
 g1:=by kernel_rfl}
open Go.RowKit Go.Lib in
theorem Tryz.strings_Cut(s sep:ByteArray)(m:Int)(w:World)(hs:s.size<4294967281)(hm:w.cell? ⟨0,0,none⟩=some (.int .i64 m)):
 Calls Tryz.prog 97 #[.string s,.string sep] w fun e w'=>e= .returned (.tuple #[.string ⟨(Lib.cut s.data.toList sep.data.toList).1.toArray⟩,.string ⟨(Lib.cut s.data.toList sep.data.toList).2.1.toArray⟩,.bool (Lib.cut s.data.toList sep.data.toList).2.2])∧∃n,w'=w.drewN n:=Any.strings_Cut Tryz.lays145 s sep m w hs hm
end
end Go.Proofs
end
section
namespace Go.Proofs.YtfgbhfphjmmiaaaGreatDoor.Kx
open Go Go.RowKit
section
variable {P:Program} {g:FuncId}
theorem Ba7{args:List V}{v:V}(h:∀M w vals,Ag2 M w→GlA M w→B6 M noR args vals→∃u,B9 M noR v u∧Calls P g vals.toArray w (fun e w'=>e= .returned u∧Below w.heap.size w w')):C3 P g args v:=
 fun M w vals hs hg hr=>by
  obtain⟨u,hv,hc⟩:=h M w vals hs hg hr
  exact hc.mono fun e w' ⟨he,hb⟩=>⟨u,M,he,Ext.same hs hb,hv⟩
theorem Gm3{M:Mem}{v:V}{vals:List Value}(h:B6 M noR [v] vals):∃a,vals=[a]∧B9 M noR v a:=by
 simp only[B6]at h
 obtain⟨a,r,rfl,h1,rfl⟩:=h
 exact⟨a,rfl,h1⟩
theorem Gw8{M:Mem}{v u:V}{vals:List Value}(h:B6 M noR [v,u] vals):∃a b,vals=[a,b]∧B9 M noR v a∧B9 M noR u b:=by
 simp only[B6]at h
 obtain⟨a,r,rfl,h1,b,r',rfl,h2,rfl⟩:=h
 exact⟨a,b,rfl,h1,h2⟩
theorem Cf7(w:World)(n:Nat):Below w.heap.size w (w.drewN n):=⟨rfl,rfl,rfl,Nat.le_refl _,fun _ _=>rfl⟩
theorem Ao4(s:List UInt8):(⟨s.toArray⟩:ByteArray).size=s.length:=rfl
def Fy7:Nat→Nat→List UInt8→List UInt8
 |0,_,acc=>acc
 |k+1,n,acc=>bif Nat.blt n 10 then UInt8.ofNat (48+n)::acc else Fy7 k (n/10) (UInt8.ofNat (48+n%10)::acc)
theorem Cg7:∀(k n:Nat) (acc:List UInt8),n<10^k→0<k→Fy7 k n acc=Lib.decDigits n++acc
 |0,_,_,_,h=>by omega
 |k+1,n,acc,h,_=>by
  rw[Fy7,Lib.decDigits]
  by_cases hn:n<10
  ·rw[show Nat.blt n 10=true from Nat.ble_eq_true_of_le hn,cond_true,dif_pos hn];rfl
  ·have hb:Nat.blt n 10=false:=by
    cases hb:Nat.blt n 10 with
    |false=>rfl
    |true=>exact absurd (Nat.le_of_ble_eq_true hb) hn
   have hk:0<k:=by
    rcases Nat.eq_zero_or_pos k with e|e
    ·subst e;simp at h;omega
    ·exact e
   have hd:n/10<10^k:=by rw[Nat.pow_succ]at h;omega
   rw[hb,cond_false,dif_neg hn,Cg7 k (n/10) _ hd hk,List.append_assoc];rfl
def Cj7(n:Int):Option (List UInt8):=
 bif decide (-9223372036854775808≤n)&&decide (n≤9223372036854775807) then some (match n with| .ofNat m=>Fy7 20 m []| .negSucc m=>45::Fy7 20 (m+1) []) else none
theorem Cu5{n:Int}{r:List UInt8}(h:Cj7 n=some r):(-9223372036854775808≤n∧n≤9223372036854775807)∧r=Lib.itoa n:=by
 unfold Cj7 at h
 cases hb:(decide (-9223372036854775808≤n)&&decide (n≤9223372036854775807)) with
 |false=>rw[hb]at h;cases h
 |true=>
  rw[hb,cond_true]at h
  rw[Bool.and_eq_true,decide_eq_true_eq,decide_eq_true_eq]at hb
  refine⟨hb,?_⟩
  unfold Lib.itoa
  cases n with
  |ofNat m=>
   have hm:m<10^20:=by have:=hb.2;have:(m:Int)≤9223372036854775807:=this;omega
   have:=Option.some.inj h
   rw[←this]
   simp only[Cg7 20 m [] hm (by omega),List.append_nil]
   rw[if_neg (show¬Int.ofNat m<0 by simp)];rfl
  |negSucc m=>
   have hm:m+1<10^20:=by have:=hb.1;omega
   have:=Option.some.inj h
   rw[←this]
   simp only[Cg7 20 (m+1) [] hm (by omega),List.append_nil]
   rw[if_pos (Int.negSucc_lt_zero m)];rfl
theorem Bj6{M:Mem}{k:IntKind}:∀{zs:List Int} {us:List Value},D1 M (zs.map (Dat.int k)) us→us=zs.map fun z=>Value.int k z
 |[],us,h=>h
 |z::zs,us,⟨u,us',e,r,rs⟩=>by
  subst e
  cases r
  rw[Bj6 rs];rfl
theorem Gg5{M:Mem}{w:World}{name:String}{gn:Nat}{k:IntKind}{zs:List Int}(hg:P.globalNamed name=some gn)(he:gl gn=some (zs.map (Dat.int k)))(hs:Ag2 M w)(ha:GlA M w):Lib.TabIs P w name k zs:=by
 obtain⟨us,⟨c,hc,hcell⟩,hr⟩:=ha.ok.d gn _ he
 obtain⟨c',e',z',h1,h2⟩:=hs gn c hc
 obtain⟨c2,e2,z2,h3,h4⟩:=ha.sz gn _ he
 rw[h1]at h3
 cases h3
 have hus:=Bj6 hr
 unfold Lib.TabIs World.var?
 rw[hg,Option.bind_some,h1]
 show some c'=_
 congr 1
 refine Array.ext' ?_
 refine List.ext_getElem? fun j=> ?_
 rw[List.length_map]at h4
 rw[←hus]
 have hul:us.length=zs.length:=by rw[hus,List.length_map]
 by_cases hj:j<us.length
 ·have h5:=hcell j hj
  rw[Nat.zero_add]at h5
  have h6:us[j]? =some us[j]:=List.getElem?_eq_getElem hj
  rw[h6]at h5
  rw[Array.getElem?_toList,h2 j _ h5,h6]
 ·rw[List.getElem?_eq_none (by rw[Array.length_toList];omega),List.getElem?_eq_none (by simpa using Nat.le_of_not_lt hj)]
theorem Da8(w:World)(k:Nat)(os:Array Obj):Below w.heap.size w (Go.Sort.grow (w.drewN k) os):=
 ⟨rfl,rfl,rfl,by show w.heap.size≤(w.heap++os).size;rw[Array.size_append];omega,fun g h=>Lib.heap_grow_old w k os g h⟩
theorem Dc8{gn:Nat}(hg:P.globalNamed "internal/strconv.uint64pow10" =some gn)(he:gl gn=some (Lib.pow10Tab.map (Dat.int .u64)))
 (h:∀(n:Int),-9223372036854775808≤n→n≤9223372036854775807→∀w,Lib.TabIs P w "internal/strconv.uint64pow10" .u64 Lib.pow10Tab→Calls P g #[.int .i64 n] w fun e w'=>e= .returned (.string ⟨(Lib.itoa n).toArray⟩)∧∃k os,w'=Go.Sort.grow (w.drewN k) os) {n:Int} {r:List UInt8} (hF:Cj7 n=some r):C3 P g [.d (.int .i64 n)] (.d (.str r)):=by
 obtain⟨hn,rfl⟩:=Cu5 hF
 refine Ba7 fun M w vals hs hgl hr=> ?_
 obtain⟨a,rfl,h1⟩:=Gm3 hr
 obtain rfl:=P0 h1
 exact⟨_,By7 (s:=Lib.itoa n),(h n hn.1 hn.2 w (Gg5 hg he hs hgl)).mono fun e w' ⟨h2,k,os,h3⟩=>⟨h2,by rw[h3];exact Da8 w k os⟩⟩
def Ef6(s:List UInt8):Option (Int×Bool):=bif decide (s.length≤2147483648) then some (match Lib.atoiAll s with| .ok v=>(v,false)| .range=>(Lib.atoiSat s,true)|_=>(0,true)) else none
theorem Cu1{M:Mem}{w:World}{n:Nat}(he:gl n=some [.ife true])(hs:Ag2 M w)(hg:GlA M w):∃t u,w.cell? ⟨n,0,none⟩=some (.iface t u):=by
 obtain⟨us,⟨c,hc,hcell⟩,u,us',rfl,hr,_⟩:=hg.ok.d n _ he
 cases hr with
 |ifc t u=>
  have h0:=hcell 0 (by simp)
  exact⟨t,u,hs.cell hc (by simpa using h0)⟩
theorem Da3{bt te tc:TypeId}{gs gr:Nat}(hes:gl gs=some [.ife true])(her:gl gr=some [.ife true])
 (h:∀(s:ByteArray),s.size≤9223372036854775806→∀v:Int,Lib.atoiAll s.data.toList= .ok v→∀w,Calls P g #[.string s] w fun e w'=>e= .returned (.tuple #[.int .i64 v,.nilIface])∧(w'=w∨∃t,w'=Lib.bytesWorld w bt t))
 (hb:∀(s:ByteArray),s.size≤281474976710656→(∀v,Lib.atoiAll s.data.toList≠ .ok v)→Lib.atoiAll s.data.toList≠ .range→∀(ev:Value) (w:World),w.cell? ⟨gs,0,none⟩=some ev→(ev= .nilIface∨∃te pe,ev= .iface te pe)→
  Calls P g #[.string s] w fun e w'=>∃N,e= .returned (.tuple #[.int .i64 (0),.iface te (.pointer (some ⟨N,0,none⟩))])∧w.heap.size≤N∧w'.heap[N]? =some (.cells #[.string ⟨#[65,116,111,105]⟩,.string s,ev] tc (0,0))∧Below w.heap.size w w')
 (hr0:∀(s:ByteArray),s.size≤281474976710656→Lib.atoiAll s.data.toList= .range→∀(ev:Value) (w:World),w.cell? ⟨gr,0,none⟩=some ev→(ev= .nilIface∨∃te pe,ev= .iface te pe)→
  Calls P g #[.string s] w fun e w'=>∃N,e= .returned (.tuple #[.int .i64 (Lib.atoiSat s.data.toList),.iface te (.pointer (some ⟨N,0,none⟩))])∧w.heap.size≤N∧w'.heap[N]? =some (.cells #[.string ⟨#[65,116,111,105]⟩,.string s,ev] tc (0,0))∧Below w.heap.size w w')
 {s:List UInt8} {r:Int×Bool} (hF:Ef6 s=some r):C3 P g [.d (.str s)] (.tup [.d (.int .i64 r.1),.d (.ife r.2)]):=by
 unfold Ef6 at hF
 cases hb1:decide (s.length≤2147483648) with
 |false=>rw[hb1]at hF;cases hF
 |true=>
  rw[hb1,cond_true]at hF
  have hlen:=of_decide_eq_true hb1
  have hr1:=Option.some.inj hF
  intro M w vals hs hg hr
  obtain⟨a,rfl,h1⟩:=Gm3 hr
  obtain rfl:=P1 h1
  have pair:∀(n:Int) (N:Nat),B9 M noR (.tup [.d (.int .i64 n),.d (.ife true)]) (.tuple #[.int .i64 n,.iface te (.pointer (some ⟨N,0,none⟩))]):=fun n N=>by
   simp only[B9,B6]
   exact⟨[.int .i64 n,.iface te (.pointer (some ⟨N,0,none⟩))],rfl,_,_,rfl,.int _ _,_,_,rfl,.ifc _ _,rfl⟩
  split at hr1
  ·rename_i v hv
   subst hr1
   refine(h ⟨s.toArray⟩ (by rw[Ao4];omega) v (by simpa using hv) w).mono fun e w' ⟨h2,h3⟩=>⟨_,M,h2,Ext.same hs ?_,?_⟩
   ·rcases h3 with rfl|⟨t,rfl⟩
    ·exact Below.refl _ _
    ·exact Lib.bytesWorld_below _ _ _
   ·simp only[B9,B6]
    exact⟨[.int .i64 v,.nilIface],rfl,_,_,rfl,.int _ _,_,_,rfl,.nili,rfl⟩
  ·rename_i hv
   subst hr1
   obtain⟨t,u,hc⟩:=Cu1 her hs hg
   exact(hr0 ⟨s.toArray⟩ (by rw[Ao4];omega) (by simpa using hv) _ w hc (.inr ⟨t,u,rfl⟩)).mono fun e w' ⟨N,h2,_,_,h3⟩=>⟨_,M,h2,Ext.same hs h3,by simpa using pair (Lib.atoiSat s) N⟩
  ·rename_i hv1 hv2
   subst hr1
   obtain⟨t,u,hc⟩:=Cu1 hes hs hg
   exact(hb ⟨s.toArray⟩ (by rw[Ao4];omega) (fun v hv=>hv1 v (by simpa using hv)) (fun hv=>hv2 (by simpa using hv)) _ w hc (.inr ⟨t,u,rfl⟩)).mono fun e w' ⟨N,h2,_,_,h3⟩=>⟨_,M,h2,Ext.same hs h3,pair 0 N⟩
def Bg1(c:UInt8):List UInt8→List UInt8×List UInt8×Bool
 |[]=>([],[],false)
 |b::l=>match b==c with
  |true=>([],l,true)
  |false=>match Bg1 c l with|(x,y,t)=>(b::x,y,t)
theorem Dc5(b c:UInt8)(l:List UInt8):Lib.index (b::l) [c]=if b=c then 0 else if Lib.index l [c]= -1 then-1 else Lib.index l [c]+1:=by
 rw[Lib.index]
 by_cases h:b=c
 ·subst h;simp[List.isPrefixOf]
 ·have hp:([c]:List UInt8).isPrefixOf (b::l)=false:=by simp[List.isPrefixOf,Ne.symm h]
  rw[hp,if_neg h]
  by_cases h2:Lib.index l [c]= -1<;>simp[h2]
theorem Dn9(c:UInt8):∀l,Lib.cut l [c]=Bg1 c l
 |[]=>rfl
 |b::l=>by
  have ih:=Dn9 c l
  have hge:=Lib.index_ge l [c]
  unfold Lib.cut at ih⊢
  rw[Dc5]
  unfold Bg1
  by_cases h:b=c
  ·subst h;simp
  ·rw[if_neg h,show(b==c)=false from by simpa using h]
   dsimp only
   rw[←ih]
   by_cases h2:Lib.index l [c]= -1
   ·simp[h2]
   ·rw[if_neg h2]
    obtain⟨j,hj⟩:∃j:Nat,Lib.index l [c]=j:=⟨(Lib.index l [c]).toNat,by omega⟩
    rw[hj,if_pos (by omega),if_pos (by omega)]
    have e1:((j:Int)+1).toNat=j+1:=by omega
    rw[e1,Int.toNat_natCast]
    simp
def Fq9(s p:List UInt8):Option (List UInt8×List UInt8×Bool):=match p with
 |[c]=>bif decide (s.length≤2147483648) then some (Bg1 c s) else none
 |_=>none
theorem Do1{n:Nat}(hx:(n,IntKind.i64)∈gxT)(h:∀(s sep:ByteArray) (m:Int) (w:World),s.size<4294967281→w.cell? ⟨n,0,none⟩=some (.int .i64 m)→Calls P g #[.string s,.string sep] w fun e w'=>
 e= .returned (.tuple #[.string ⟨(Lib.cut s.data.toList sep.data.toList).1.toArray⟩,.string ⟨(Lib.cut s.data.toList sep.data.toList).2.1.toArray⟩,.bool (Lib.cut s.data.toList sep.data.toList).2.2])∧∃n,w'=w.drewN n)
 {s p:List UInt8} {r:List UInt8×List UInt8×Bool} (hF:Fq9 s p=some r):C3 P g [.d (.str s),.d (.str p)] (.tup [.d (.str r.1),.d (.str r.2.1),.d (.bool r.2.2)]):=by
 unfold Fq9 at hF
 split at hF
 ·rename_i c
  cases hb:decide (s.length≤2147483648) with
  |false=>rw[hb]at hF;cases hF
  |true=>
   rw[hb,cond_true]at hF
   cases hF
   have hb:=of_decide_eq_true hb
   refine Ba7 fun M w vals hs hg hr=> ?_
   obtain⟨a,b,rfl,h1,h2⟩:=Gw8 hr
   obtain rfl:=P1 h1
   obtain rfl:=P1 h2
   obtain⟨m,hm⟩:=hg.ok.x _ _ hx
   have hc:=h ⟨s.toArray⟩ ⟨([c]:List UInt8).toArray⟩ m w (by rw[Ao4];omega) (hm.cell hs (j:=0) rfl)
   have e:Lib.cut (⟨s.toArray⟩:ByteArray).data.toList (⟨([c]:List UInt8).toArray⟩:ByteArray).data.toList=Bg1 c s:=by rw[←Dn9]
   rw[e]at hc
   refine⟨.tuple #[Aa7 (Bg1 c s).1,Aa7 (Bg1 c s).2.1,.bool (Bg1 c s).2.2],?_,hc.mono fun e w' ⟨h3,k,h4⟩=>⟨h3,by rw[h4];exact Cf7 _ _⟩⟩
   simp only[B9,B6]
   exact⟨[Aa7 (Bg1 c s).1,Aa7 (Bg1 c s).2.1,.bool (Bg1 c s).2.2],rfl,_,_,rfl,.str _,_,_,rfl,.str _,_,_,rfl,.bool _,rfl⟩
 ·cases hF
end
end Go.Proofs.YtfgbhfphjmmiaaaGreatDoor.Kx
end
section
set_option linter.unusedVariables false
set_option maxRecDepth 100000
namespace Go.Proofs.YtfgbhfphjmmiaaaGreatDoor
open Go Go.RowKit Kx
section
theorem Ga7:B1 Tryz.prog 185:=Kx.A6 Tryz.func185 (by kernel_rfl) (by kernel_rfl)
theorem Fz9:B1 Tryz.prog 141:=Kx.A6 Tryz.func141 (by kernel_rfl) (by kernel_rfl)
theorem Gb4:B1 Tryz.prog 233:=Kx.A6 Tryz.func233 (by kernel_rfl) (by kernel_rfl)
theorem Gt0:B1 Tryz.prog 186:=Kx.A6 Tryz.func186 (by kernel_rfl) (by kernel_rfl)
theorem Av3:B1 Tryz.prog 140:=Kx.A6 Tryz.func140 (by kernel_rfl) (by kernel_rfl)
theorem Ei4:B1 Tryz.prog 100:=Kx.A6 Tryz.func100 (by kernel_rfl) (by kernel_rfl)
theorem Ei9:B1 Tryz.prog 142:=Kx.A6 Tryz.func142 (by kernel_rfl) (by kernel_rfl)
theorem Gr7:B1 Tryz.prog 145:=Kx.A6 Tryz.func145 (by kernel_rfl) (by kernel_rfl)
theorem Ga1:B1 Tryz.prog 146:=Kx.A6 Tryz.func146 (by kernel_rfl) (by kernel_rfl)
theorem Gb3:B1 Tryz.prog 221:=Kx.A6 Tryz.func221 (by kernel_rfl) (by kernel_rfl)
theorem Gb6:B1 Tryz.prog 254:=Kx.A6 Tryz.func254 (by kernel_rfl) (by kernel_rfl)
theorem Gb1:B1 Tryz.prog 217:=Kx.A6 Tryz.func217 (by kernel_rfl) (by kernel_rfl)
theorem Gb2:B1 Tryz.prog 218:=Kx.A6 Tryz.func218 (by kernel_rfl) (by kernel_rfl)
theorem Gu0:B1 Tryz.prog 219:=Kx.A6 Tryz.func219 (by kernel_rfl) (by kernel_rfl)
theorem Gu1:B1 Tryz.prog 220:=Kx.A6 Tryz.func220 (by kernel_rfl) (by kernel_rfl)
theorem Fh4:B1 Tryz.prog 178:=Kx.A6 Tryz.func178 (by kernel_rfl) (by kernel_rfl)
theorem Fr4:B1 Tryz.prog 99:=Kx.A6 Tryz.func99 (by kernel_rfl) (by kernel_rfl)
theorem Ga0:B1 Tryz.prog 143:=Kx.A6 Tryz.func143 (by kernel_rfl) (by kernel_rfl)
theorem Fg6:B1 Tryz.prog 104:=Kx.A6 Tryz.func104 (by kernel_rfl) (by kernel_rfl)
theorem Gt1:B1 Tryz.prog 187:=Kx.A6 Tryz.func187 (by kernel_rfl) (by kernel_rfl)
theorem Ga5:B1 Tryz.prog 179:=Kx.A6 Tryz.func179 (by kernel_rfl) (by kernel_rfl)
theorem Gu2:B1 Tryz.prog 226:=Kx.A6 Tryz.func226 (by kernel_rfl) (by kernel_rfl)
theorem Gs8:B1 Tryz.prog 182:=Kx.A6 Tryz.func182 (by kernel_rfl) (by kernel_rfl)
theorem Fz8:B1 Tryz.prog 138:=Kx.A6 Tryz.func138 (by kernel_rfl) (by kernel_rfl)
theorem Fh8:B1 Tryz.prog 227:=Kx.A6 Tryz.func227 (by kernel_rfl) (by kernel_rfl)
theorem Gs9:B1 Tryz.prog 183:=Kx.A6 Tryz.func183 (by kernel_rfl) (by kernel_rfl)
theorem Gr5:B1 Tryz.prog 139:=Kx.A6 Tryz.func139 (by kernel_rfl) (by kernel_rfl)
theorem Fh5:B1 Tryz.prog 194:=Kx.A6 Tryz.func194 (by kernel_rfl) (by kernel_rfl)
theorem Gs1:B1 Tryz.prog 159:=Kx.A6 Tryz.func159 (by kernel_rfl) (by kernel_rfl)
theorem Dc0:B1 Tryz.prog 110:=Kx.A6 Tryz.func110 (by kernel_rfl) (by kernel_rfl)
theorem Av4:B1 Tryz.prog 160:=Kx.A6 Tryz.func160 (by kernel_rfl) (by kernel_rfl)
theorem Fh3:B1 Tryz.prog 161:=Kx.A6 Tryz.func161 (by kernel_rfl) (by kernel_rfl)
theorem Hd8:B1 Tryz.prog 97:=Kx.A6 Tryz.func97 (by kernel_rfl) (by kernel_rfl)
theorem Gv6:B1 Tryz.prog 98:=Kx.A6 Tryz.func98 (by kernel_rfl) (by kernel_rfl)
theorem Ch8:B1 Tryz.prog 101:=Kx.A6 Tryz.func101 (by kernel_rfl) (by kernel_rfl)
theorem Dr2:B1 Tryz.prog 102:=Kx.A6 Tryz.func102 (by kernel_rfl) (by kernel_rfl)
theorem Fh0:B1 Tryz.prog 135:=Kx.A6 Tryz.func135 (by kernel_rfl) (by kernel_rfl)
theorem Ej0:B1 Tryz.prog 144:=Kx.A6 Tryz.func144 (by kernel_rfl) (by kernel_rfl)
theorem Fg5:B1 Tryz.prog 103:=Kx.A6 Tryz.func103 (by kernel_rfl) (by kernel_rfl)
theorem Gr3:B1 Tryz.prog 126:=Kx.A6 Tryz.func126 (by kernel_rfl) (by kernel_rfl)
theorem Dr3:B1 Tryz.prog 127:=Kx.A6 Tryz.func127 (by kernel_rfl) (by kernel_rfl)
theorem Ga6:B1 Tryz.prog 180:=Kx.A6 Tryz.func180 (by kernel_rfl) (by kernel_rfl)
theorem Ei8:B1 Tryz.prog 133:=Kx.A6 Tryz.func133 (by kernel_rfl) (by kernel_rfl)
theorem Es1:B1 Tryz.prog 48:=Kx.A6 Tryz.func48 (by kernel_rfl) (by kernel_rfl)
theorem Fg9:B1 Tryz.prog 134:=Kx.A6 Tryz.func134 (by kernel_rfl) (by kernel_rfl)
theorem Fh1:B1 Tryz.prog 136:=Kx.A6 Tryz.func136 (by kernel_rfl) (by kernel_rfl)
theorem Gv5:B1 Tryz.prog 96:=Kx.A6 Tryz.func96 (by kernel_rfl) (by kernel_rfl)
structure A3 where
 neg:Bool
 mag:List Int
 deriving DecidableEq
def A5(x:Int):List Dat:=[.int .u32 x]
def U5(d0:Int):Nat→Int→(List Int)→Option A3
 |0,_,_=>none
 |nL1+1,v2,l4=>
  bif decide (v2>0) then
   (Option.bind (app l4 [IntKind.u32.wrap (Int.tmod v2 1000000000)]) fun l5=>
   (U5 d0 nL1) (IntKind.u64.wrap (Int.tdiv v2 1000000000)) l5)
  else
   (some (⟨decide (d0<0),l4⟩:A3))
def Az8(d0:Int):Nat→Int→(List Int)→Option A3
 |0,_,_=>none
 |nL2+1,v4,l9=>
  bif decide (v4>0) then
   (Option.bind (app l9 [IntKind.u32.wrap (Int.tmod v4 1000000000)]) fun l10=>
   (Az8 d0 nL2) (IntKind.u64.wrap (Int.tdiv v4 1000000000)) l10)
  else
   (some (⟨decide (d0<0),l9⟩:A3))
def F99(fuel:Nat)(d0:Int):Option A3:=
 bif decide (d0<0) then
  (U5 d0 fuel (IntKind.u64.wrap (0-(IntKind.u64.wrap d0))) [])
 else
  (Az8 d0 fuel (IntKind.u64.wrap d0) [])
noncomputable abbrev b99:=C1 Tryz.f99
abbrev G99(r:A3):=J none Tryz.prog 27 [] (H3 Tryz.prog Tryz.f99 (.agg [.b r.neg,.l 1 r.mag A5]))
theorem Bh4{fuel:Nat}{d0:Int}{r:A3}(hF:F99 fuel d0=some r):
 C3 Tryz.prog 99 [.i d0] (.agg [.b r.neg,.l 1 r.mag A5]):=by
 unfold F99 at hF
 refine cf 27 Tryz.func99 ?_
 refine jI 24 11 hF ?_ ?_<;>intro hF
 ·have hL1:∀(nL1:Nat) (v2:Int) (l4:List Int),U5 d0 nL1 v2 l4=some r→G99 r ⟨mkT [(2,.ptr 2 0),(3,.ptr 3 0),(4,.n v2)],[(2,.box 98 [.b false,.esl 1]),(3,.box 98 [.b (decide (d0<0)),.suf 24 0 0]),(24,.buf 0 167 1 (l4.map A5))],[kL b99 [1,1,1,1,0,0,0],.inBlock 0,kC b99 [1,1,1,1,1]]⟩:=by
   clear hF;intro nL1
   induction nL1 with
   |zero=>intro v2 l4 hF;cases hF
   |succ nL1 iL1=>
    intro v2 l4 hF
    rw[U5]at hF
    refine jI 7 15 hF ?_ ?_<;>intro hF
    ·obtain⟨l5,e3,hF⟩:=bnd hF
     refine jo2 11 (am (f:=A5) e3) ?_
     exact ja 9 (iL1 _ _ hF)
    ·cases hF
     exact jr 7
  refine C2 9 (Bh8 (n:=1) 3 1 24 167 1 (by kernel_rfl) (by kernel_rfl) ?_)
  exact ja 0 (hL1 _ _ _ hF)
 ·have hL2:∀(nL2:Nat) (v4:Int) (l9:List Int),Az8 d0 nL2 v4 l9=some r→G99 r ⟨mkT [(2,.ptr 2 0),(3,.ptr 3 0),(4,.n v4)],[(2,.box 98 [.b false,.esl 1]),(3,.box 98 [.b (decide (d0<0)),.suf 24 0 0]),(24,.buf 0 167 1 (l9.map A5))],[kL b99 [1,1,1,1,0,0,0],.inBlock 0,kC b99 [1,1,1,1,1]]⟩:=by
   clear hF;intro nL2
   induction nL2 with
   |zero=>intro v4 l9 hF;cases hF
   |succ nL2 iL2=>
    intro v4 l9 hF
    rw[Az8]at hF
    refine jI 7 15 hF ?_ ?_<;>intro hF
    ·obtain⟨l10,e6,hF⟩:=bnd hF
     refine jo2 11 (am (f:=A5) e6) ?_
     exact ja 9 (iL2 _ _ hF)
    ·cases hF
     exact jr 7
  refine C2 5 (Bh8 (n:=1) 3 1 24 167 1 (by kernel_rfl) (by kernel_rfl) ?_)
  exact ja 0 (hL2 _ _ _ hF)
def Ap9(d0:Bool):Nat→(List Int)→Option A3
 |0,_=>none
 |nL1+1,l4=>
  Option.bind (
   bif decide (((l4.map A5).length:Int)>0) then
    (Option.bind (C4 l4 (IntKind.i64.wrap (((l4.map A5).length:Int)-1))) fun y9=>
    some (y9==0))
   else
    (some false)) fun o3=>
  bif o3 then
   (Option.bind (slc l4 0 (IntKind.i64.wrap (((l4.map A5).length:Int)-1))) fun l5=>
   (Ap9 d0 nL1) l5)
  else
   (Option.bind (
    bif d0 then
     (some (decide (((l4.map A5).length:Int)>0)))
    else
     (some false)) fun o4=>
   some (⟨o4,l4⟩:A3))
def Bf5(fuel:Nat)(d0:Bool)(d1:List Int):Option A3:=
 Ap9 d0 fuel d1
noncomputable abbrev Ef7:=C1 Tryz.f140
abbrev Gn8(r:A3):=J none Tryz.prog 30 [] (H3 Tryz.prog Tryz.f140 (.agg [.b r.neg,.l 1 r.mag A5]))
theorem Q2{fuel:Nat}{d0:Bool}{d1:List Int}{r:A3}(hF:Bf5 fuel d0 d1=some r):
 C3 Tryz.prog 140 [.b d0,.l 1 d1 A5] (.agg [.b r.neg,.l 1 r.mag A5]):=by
 unfold Bf5 at hF
 refine cf 30 Tryz.func140 ?_
 have hL1:∀(nL1:Nat) (l4:List Int),Ap9 d0 nL1 l4=some r→Gn8 r ⟨mkT [(0,.b d0),(1,.l 1 l4 A5),(4,.ptr 4 0)],[(4,.box 98 [.b false,.esl 1])],[kL Ef7 [1,0,0,0],.inBlock 0,kC Ef7 [1,1]]⟩:=by
  clear hF;intro nL1
  induction nL1 with
  |zero=>intro l4 hF;cases hF
  |succ nL1 iL1=>
   intro l4 hF
   rw[Ap9]at hF
   obtain⟨o3,hO,hF⟩:=bnd hF
   have hR3:Gn8 r ⟨mkT [(0,.b d0),(1,.l 1 l4 A5),(4,.ptr 4 0),(16,.b o3)],[(4,.box 98 [.b false,.esl 1])],[kO Ef7 [1,0,0,0,0,0],kC Ef7 [1,0,0,0,0,1],kC Ef7 [1,0,0,0,1],kL Ef7 [1,0,0,0],.inBlock 0,kC Ef7 [1,1]]⟩:=by
    clear hO
    refine jI 1 16 hF ?_ ?_<;>intro hF
    ·obtain⟨l5,e11,hF⟩:=bnd hF
     refine jo2 8 (sm (f:=A5) e11) ?_
     exact ja 3 (iL1 _ hF)
    ·obtain⟨o4,hO,hF⟩:=bnd hF
     have hR4:Gn8 r ⟨mkT [(4,.ptr 4 0)],[(4,.box 98 [.b o4,.l 1 l4 A5])],[kO Ef7 [1,1,0],kC Ef7 [1,1,1]]⟩:=by
      clear hO
      cases hF
      exact jr 1
     clear hF;rename _=some o4=>hF
     refine jI 6 23 hF ?_ ?_<;>intro hF
     ·cases hF
      exact ja 7 hR4
     ·cases hF
      exact ja 7 hR4
   clear hF;rename _=some o3=>hF
   refine jI 8 8 hF ?_ ?_<;>intro hF
   ·obtain⟨y9,e12,hF⟩:=bnd hF
    refine jo1 4 (gm (f:=A5) e12) ?_
    cases hF
    exact ja 3 hR3
   ·cases hF
    exact ja 8 hR3
 exact ja 7 (hL1 _ _ hF)
def Fs5(d0:Int):Option Bool:=
 some (d0 !=d0)
theorem Di0{d0:Int}{r:Bool}(hF:Fs5 d0=some r):
 C3 Tryz.prog 185 [.i d0] (.b r):=by
 unfold Fs5 at hF
 refine cf 6 Tryz.func185 ?_
 cases hF
 exact jr 11
def Fp0(d0:Int)(d1:Int):Option Int:=
 Option.bind (Fs5 d0) fun y1=>
 Option.bind (Fs5 d1) fun y2=>
 bif y1 then
  (bif y2 then
   (some 0)
  else
   (some (-1)))
 else
  (bif y2 then
   (some 1)
  else
   (bif decide (d0<d1) then
    (some (-1))
   else
    (bif decide (d0>d1) then
     (some 1)
    else
     (some 0))))
theorem Dg7{d0:Int}{d1:Int}{r:Int}(hF:Fp0 d0 d1=some r):
 C3 Tryz.prog 141 [.i d0,.i d1] (.i r):=by
 unfold Fp0 at hF
 refine cf 20 Tryz.func141 ?_
 refine jB 7 hF Ga7 Di0 fun y1 hF=> ?_
 refine jB 5 hF Ga7 Di0 fun y2 hF=> ?_
 refine jI 7 11 hF ?_ ?_<;>intro hF
 ·refine jI 6 12 hF ?_ ?_<;>intro hF
  ·cases hF
   exact jr 5
  ·cases hF
   exact jr 6
 ·refine jI 7 13 hF ?_ ?_<;>intro hF
  ·cases hF
   exact jr 5
  ·refine jI 9 16 hF ?_ ?_<;>intro hF
   ·cases hF
    exact jr 5
   ·refine jI 9 19 hF ?_ ?_<;>intro hF
    ·cases hF
     exact jr 5
    ·cases hF
     exact jr 6
def Ft6(d0:Int):Option Bool:=
 some (d0 !=d0)
theorem Dj0{d0:Int}{r:Bool}(hF:Ft6 d0=some r):
 C3 Tryz.prog 233 [.w d0] (.b r):=by
 unfold Ft6 at hF
 refine cf 6 Tryz.func233 ?_
 cases hF
 exact jr 11
def Fs6(d0:Int)(d1:Int):Option Int:=
 Option.bind (Ft6 d0) fun y1=>
 Option.bind (Ft6 d1) fun y2=>
 bif y1 then
  (bif y2 then
   (some 0)
  else
   (some (-1)))
 else
  (bif y2 then
   (some 1)
  else
   (bif decide (d0<d1) then
    (some (-1))
   else
    (bif decide (d0>d1) then
     (some 1)
    else
     (some 0))))
theorem Ez4{d0:Int}{d1:Int}{r:Int}(hF:Fs6 d0 d1=some r):
 C3 Tryz.prog 186 [.w d0,.w d1] (.i r):=by
 unfold Fs6 at hF
 refine cf 20 Tryz.func186 ?_
 refine jB 7 hF Gb4 Dj0 fun y1 hF=> ?_
 refine jB 5 hF Gb4 Dj0 fun y2 hF=> ?_
 refine jI 7 11 hF ?_ ?_<;>intro hF
 ·refine jI 6 12 hF ?_ ?_<;>intro hF
  ·cases hF
   exact jr 5
  ·cases hF
   exact jr 6
 ·refine jI 7 13 hF ?_ ?_<;>intro hF
  ·cases hF
   exact jr 5
  ·refine jI 9 16 hF ?_ ?_<;>intro hF
   ·cases hF
    exact jr 5
   ·refine jI 9 19 hF ?_ ?_<;>intro hF
    ·cases hF
     exact jr 5
    ·cases hF
     exact jr 6
def Ai2(d0:List Int)(d1:List Int):Nat→Int→Option Int
 |0,_=>none
 |nL1+1,v2=>
  bif decide (v2≥0) then
   (Option.bind (C4 d0 v2) fun y8=>
   Option.bind (C4 d1 v2) fun y9=>
   Option.bind (Fs6 y8 y9) fun y10=>
   bif y10 !=0 then
    (some y10)
   else
    ((Ai2 d0 d1 nL1) (IntKind.i64.wrap (v2-1))))
  else
   (some 0)
def Dg8(fuel:Nat)(d0:List Int)(d1:List Int):Option Int:=
 Option.bind (Fp0 ((d0.map A5).length:Int) ((d1.map A5).length:Int)) fun y1=>
 bif y1 !=0 then
  (some y1)
 else
  (Ai2 d0 d1 fuel (IntKind.i64.wrap (((d0.map A5).length:Int)-1)))
noncomputable abbrev Ha7:=C1 Tryz.f142
abbrev Hg4(r:Int):=J none Tryz.prog 35 [] (H3 Tryz.prog Tryz.f142 (.i r))
theorem Bk9{fuel:Nat}{d0:List Int}{d1:List Int}{r:Int}(hF:Dg8 fuel d0 d1=some r):
 C3 Tryz.prog 142 [.l 1 d0 A5,.l 1 d1 A5] (.i r):=by
 unfold Dg8 at hF
 refine cf 35 Tryz.func142 ?_
 refine jB 11 hF Fz9 Dg7 fun y1 hF=> ?_
 refine jI 7 14 hF ?_ ?_<;>intro hF
 ·cases hF
  exact jr 6
 ·have hL1:∀(nL1:Nat) (v2:Int),Ai2 d0 d1 nL1 v2=some r→Hg4 r ⟨mkT [(0,.l 1 d0 A5),(1,.l 1 d1 A5),(6,.i v2)],[],[kL Ha7 [1,1,0,1,0,0],.inBlock 0,kC Ha7 [1,1,1]]⟩:=by
   clear hF;intro nL1
   induction nL1 with
   |zero=>intro v2 hF;cases hF
   |succ nL1 iL1=>
    intro v2 hF
    rw[Ai2]at hF
    refine jI 7 20 hF ?_ ?_<;>intro hF
    ·refine jd 5 ?_
     obtain⟨y8,e8,hF⟩:=bnd hF
     refine do1 2 (gm (f:=A5) e8) ?_
     obtain⟨y9,e9,hF⟩:=bnd hF
     refine do1 3 (gm (f:=A5) e9) ?_
     refine dB 1 hF Gt0 Ez4 fun y10 hF=> ?_
     refine je 1 ?_
     refine jI 5 33 hF ?_ ?_<;>intro hF
     ·cases hF
      exact jr 6
     ·exact ja 8 (iL1 _ hF)
    ·cases hF
     exact jr 6
  exact ja 12 (hL1 _ _ hF)
def Gh6(fuel:Nat)(d0:A3):Option A3:=
 Option.bind (Bf5 fuel (!d0.neg) d0.mag) fun y1=>
 some y1
theorem Dg9{fuel:Nat}{d0:A3}{r:A3}(hF:Gh6 fuel d0=some r):
 C3 Tryz.prog 143 [.agg [.b d0.neg,.l 1 d0.mag A5]] (.agg [.b r.neg,.l 1 r.mag A5]):=by
 unfold Gh6 at hF
 refine cf 9 Tryz.func143 ?_
 refine jB 12 hF Av3 Q2 fun y1 hF=> ?_
 cases hF
 exact jr 2
def Ec9(d0:A3):Option Int:=
 bif ((d0.mag.map A5).length:Int)==0 then
  (some 0)
 else
  (bif d0.neg then
   (some (-1))
  else
   (some 1))
theorem Bk3{d0:A3}{r:Int}(hF:Ec9 d0=some r):
 C3 Tryz.prog 100 [.agg [.b d0.neg,.l 1 d0.mag A5]] (.i r):=by
 unfold Ec9 at hF
 refine cf 11 Tryz.func100 ?_
 refine jI 15 3 hF ?_ ?_<;>intro hF
 ·cases hF
  exact jr 5
 ·refine jI 7 8 hF ?_ ?_<;>intro hF
  ·cases hF
   exact jr 5
  ·cases hF
   exact jr 7
def Ec1(fuel:Nat)(d0:A3)(d1:A3):Option Int:=
 Option.bind (Ec9 d0) fun y1=>
 Option.bind (Ec9 d1) fun y2=>
 Option.bind (Fp0 y1 y2) fun y3=>
 Option.bind (
  bif y3 !=0 then
   (some true)
  else
   (some (((d0.mag.map A5).length:Int)==0))) fun o1=>
 bif o1 then
  (some y3)
 else
  (bif d0.neg then
   (Option.bind (Dg8 fuel d1.mag d0.mag) fun y4=>
   some y4)
  else
   (Option.bind (Dg8 fuel d0.mag d1.mag) fun y5=>
   some y5))
noncomputable abbrev Gp4:=C1 Tryz.f102
abbrev Hf5(r:Int):=J none Tryz.prog 32 [] (H3 Tryz.prog Tryz.f102 (.i r))
theorem Ax4{fuel:Nat}{d0:A3}{d1:A3}{r:Int}(hF:Ec1 fuel d0 d1=some r):
 C3 Tryz.prog 102 [.agg [.b d0.neg,.l 1 d0.mag A5],.agg [.b d1.neg,.l 1 d1.mag A5]] (.i r):=by
 unfold Ec1 at hF
 refine cf 32 Tryz.func102 ?_
 refine jd 8 ?_
 refine dB 1 hF Ei4 Bk3 fun y1 hF=> ?_
 refine dB 1 hF Ei4 Bk3 fun y2 hF=> ?_
 refine dB 0 hF Fz9 Dg7 fun y3 hF=> ?_
 refine je 1 ?_
 obtain⟨o1,hO,hF⟩:=bnd hF
 have hR1:Hf5 r ⟨mkT [(2,.ptr 2 0),(3,.ptr 3 0),(5,.i y3),(18,.b o1)],[(2,.box 98 [.b d0.neg,.l 1 d0.mag A5]),(3,.box 98 [.b d1.neg,.l 1 d1.mag A5])],[kO Gp4 [1,0,1,0],kC Gp4 [1,0,1,1],kC Gp4 [1,1]]⟩:=by
  clear hO
  refine jI 1 18 hF ?_ ?_<;>intro hF
  ·cases hF
   exact jr 6
  ·refine jI 8 21 hF ?_ ?_<;>intro hF
   ·refine jB 7 hF Ei9 Bk9 fun y4 hF=> ?_
    cases hF
    exact jr 2
   ·refine jB 8 hF Ei9 Bk9 fun y5 hF=> ?_
    cases hF
    exact jr 2
 clear hF;rename _=some o1=>hF
 refine jI 5 13 hF ?_ ?_<;>intro hF
 ·cases hF
  exact ja 5 hR1
 ·cases hF
  exact ja 5 hR1
def Ai3(d0:List Int)(d1:List Int):Nat→Int→Int→(List Int)→Option (List Int)
 |0,_,_,_=>none
 |nL1+1,v3,v4,l7=>
  bif decide (v4<((d1.map A5).length:Int)) then
   (Option.bind (C4 d1 v4) fun y5=>
   bif decide (v4<((d0.map A5).length:Int)) then
    (Option.bind (C4 d0 v4) fun y6=>
    Option.bind (app l7 [Int.tmod (IntKind.u32.wrap ((IntKind.u32.wrap (y5+v3))+y6)) 1000000000]) fun l8=>
    (Ai3 d0 d1 nL1) (IntKind.u32.wrap (Int.tdiv (IntKind.u32.wrap ((IntKind.u32.wrap (y5+v3))+y6)) 1000000000)) (IntKind.i64.wrap (v4+1)) l8)
   else
    (Option.bind (app l7 [Int.tmod (IntKind.u32.wrap (y5+v3)) 1000000000]) fun l9=>
    (Ai3 d0 d1 nL1) (IntKind.u32.wrap (Int.tdiv (IntKind.u32.wrap (y5+v3)) 1000000000)) (IntKind.i64.wrap (v4+1)) l9))
  else
   (bif decide (v3>0) then
    (Option.bind (app l7 [v3]) fun l10=>
    some l10)
   else
    (some l7))
def V4(d0:List Int)(d1:List Int):Nat→Int→Int→(List Int)→Option (List Int)
 |0,_,_,_=>none
 |nL2+1,v7,v8,l17=>
  bif decide (v8<((d0.map A5).length:Int)) then
   (Option.bind (C4 d0 v8) fun y11=>
   bif decide (v8<((d1.map A5).length:Int)) then
    (Option.bind (C4 d1 v8) fun y12=>
    Option.bind (app l17 [Int.tmod (IntKind.u32.wrap ((IntKind.u32.wrap (y11+v7))+y12)) 1000000000]) fun l18=>
    (V4 d0 d1 nL2) (IntKind.u32.wrap (Int.tdiv (IntKind.u32.wrap ((IntKind.u32.wrap (y11+v7))+y12)) 1000000000)) (IntKind.i64.wrap (v8+1)) l18)
   else
    (Option.bind (app l17 [Int.tmod (IntKind.u32.wrap (y11+v7)) 1000000000]) fun l19=>
    (V4 d0 d1 nL2) (IntKind.u32.wrap (Int.tdiv (IntKind.u32.wrap (y11+v7)) 1000000000)) (IntKind.i64.wrap (v8+1)) l19))
  else
   (bif decide (v7>0) then
    (Option.bind (app l17 [v7]) fun l20=>
    some l20)
   else
    (some l17))
def Fp1(fuel:Nat)(d0:List Int)(d1:List Int):Option (List Int):=
 bif decide (((d0.map A5).length:Int)<((d1.map A5).length:Int)) then
  (Option.bind (mkL 0 (IntKind.i64.wrap (((d1.map A5).length:Int)+1)) 0) fun l1=>
  Ai3 d0 d1 fuel 0 0 l1)
 else
  (Option.bind (mkL 0 (IntKind.i64.wrap (((d0.map A5).length:Int)+1)) 0) fun l11=>
  V4 d0 d1 fuel 0 0 l11)
noncomputable abbrev Gj8:=C1 Tryz.f145
abbrev Gy8(r:List Int):=J none Tryz.prog 56 [] (H3 Tryz.prog Tryz.f145 (.l 1 r A5))
theorem Ey1{fuel:Nat}{d0:List Int}{d1:List Int}{r:List Int}(hF:Fp1 fuel d0 d1=some r):
 C3 Tryz.prog 145 [.l 1 d0 A5,.l 1 d1 A5] (.l 1 r A5):=by
 unfold Fp1 at hF
 refine cf 56 Tryz.func145 ?_
 refine jI 13 14 hF ?_ ?_<;>intro hF
 ·obtain⟨l1,e1,hF⟩:=bnd hF
  refine jo2 12 (mm (f:=A5) e1) ?_
  have hL1:∀(nL1:Nat) (v3:Int) (v4:Int) (l7:List Int),Ai3 d0 d1 nL1 v3 v4 l7=some r→Gy8 r ⟨mkT [(1,.l 1 d0 A5),(5,.suf 20 0 0),(6,.w v3),(21,.l 1 d1 A5),(22,.i ((d1.map A5).length:Int)),(23,.i v4)],[(20,.buf 0 167 1 (l7.map A5))],[kL Gj8 [1,1,1,1,0,1,0,0],.inBlock 0,kC Gj8 [1,1,1,1,1]]⟩:=by
   clear hF;intro nL1
   induction nL1 with
   |zero=>intro v3 v4 l7 hF;cases hF
   |succ nL1 iL1=>
    intro v3 v4 l7 hF
    rw[Ai3]at hF
    refine jI 6 24 hF ?_ ?_<;>intro hF
    ·obtain⟨y5,e10,hF⟩:=bnd hF
     refine jo1 7 (gm (f:=A5) e10) ?_
     refine jI 19 34 hF ?_ ?_<;>intro hF
     ·obtain⟨y6,e11,hF⟩:=bnd hF
      refine jo1 5 (gm (f:=A5) e11) ?_
      obtain⟨l8,e12,hF⟩:=bnd hF
      refine jo2 15 (am (f:=A5) e12) ?_
      exact ja 7 (iL1 _ _ _ hF)
     ·obtain⟨l9,e13,hF⟩:=bnd hF
      refine jo2 13 (am (f:=A5) e13) ?_
      exact ja 7 (iL1 _ _ _ hF)
    ·refine jI 8 50 hF ?_ ?_<;>intro hF
     ·obtain⟨l10,e14,hF⟩:=bnd hF
      refine jo2 5 (am (f:=A5) e14) ?_
      cases hF
      exact jr 7
     ·cases hF
      exact jr 7
  exact ja 15 (hL1 _ _ _ _ hF)
 ·obtain⟨l11,e15,hF⟩:=bnd hF
  refine jo2 7 (mm (f:=A5) e15) ?_
  have hL2:∀(nL2:Nat) (v7:Int) (v8:Int) (l17:List Int),V4 d0 d1 nL2 v7 v8 l17=some r→Gy8 r ⟨mkT [(1,.l 1 d1 A5),(5,.suf 20 0 0),(6,.w v7),(21,.l 1 d0 A5),(22,.i ((d0.map A5).length:Int)),(23,.i v8)],[(20,.buf 0 167 1 (l17.map A5))],[kL Gj8 [1,1,1,1,0,1,0,0],.inBlock 0,kC Gj8 [1,1,1,1,1]]⟩:=by
   clear hF;intro nL2
   induction nL2 with
   |zero=>intro v7 v8 l17 hF;cases hF
   |succ nL2 iL2=>
    intro v7 v8 l17 hF
    rw[V4]at hF
    refine jI 6 24 hF ?_ ?_<;>intro hF
    ·obtain⟨y11,e24,hF⟩:=bnd hF
     refine jo1 7 (gm (f:=A5) e24) ?_
     refine jI 19 34 hF ?_ ?_<;>intro hF
     ·obtain⟨y12,e25,hF⟩:=bnd hF
      refine jo1 5 (gm (f:=A5) e25) ?_
      obtain⟨l18,e26,hF⟩:=bnd hF
      refine jo2 15 (am (f:=A5) e26) ?_
      exact ja 7 (iL2 _ _ _ hF)
     ·obtain⟨l19,e27,hF⟩:=bnd hF
      refine jo2 13 (am (f:=A5) e27) ?_
      exact ja 7 (iL2 _ _ _ hF)
    ·refine jI 8 50 hF ?_ ?_<;>intro hF
     ·obtain⟨l20,e28,hF⟩:=bnd hF
      refine jo2 5 (am (f:=A5) e28) ?_
      cases hF
      exact jr 7
     ·cases hF
      exact jr 7
  exact ja 15 (hL2 _ _ _ _ hF)
def R5(d0:List Int)(d1:List Int):Nat→Int→Int→(List Int)→Option (List Int)
 |0,_,_,_=>none
 |nL1+1,v3,v4,l11=>
  bif decide (v4<((d0.map A5).length:Int)) then
   (Option.bind (C4 d0 v4) fun y5=>
   bif decide (v4<((d1.map A5).length:Int)) then
    (Option.bind (C4 d1 v4) fun y6=>
    bif decide ((IntKind.i64.wrap ((IntKind.i64.wrap ((IntKind.i64.wrap y5)-v3))-(IntKind.i64.wrap y6)))<0) then
     (Option.bind (app l11 [IntKind.u32.wrap (IntKind.i64.wrap ((IntKind.i64.wrap ((IntKind.i64.wrap ((IntKind.i64.wrap y5)-v3))-(IntKind.i64.wrap y6)))+1000000000))]) fun l12=>
     (R5 d0 d1 nL1) 1 (IntKind.i64.wrap (v4+1)) l12)
    else
     (Option.bind (app l11 [IntKind.u32.wrap (IntKind.i64.wrap ((IntKind.i64.wrap ((IntKind.i64.wrap y5)-v3))-(IntKind.i64.wrap y6)))]) fun l13=>
     (R5 d0 d1 nL1) 0 (IntKind.i64.wrap (v4+1)) l13))
   else
    (bif decide ((IntKind.i64.wrap ((IntKind.i64.wrap y5)-v3))<0) then
     (Option.bind (app l11 [IntKind.u32.wrap (IntKind.i64.wrap ((IntKind.i64.wrap ((IntKind.i64.wrap y5)-v3))+1000000000))]) fun l14=>
     (R5 d0 d1 nL1) 1 (IntKind.i64.wrap (v4+1)) l14)
    else
     (Option.bind (app l11 [IntKind.u32.wrap (IntKind.i64.wrap ((IntKind.i64.wrap y5)-v3))]) fun l15=>
     (R5 d0 d1 nL1) 0 (IntKind.i64.wrap (v4+1)) l15)))
  else
   (some l11)
def Eo1(fuel:Nat)(d0:List Int)(d1:List Int):Option (List Int):=
 Option.bind (mkL 0 ((d0.map A5).length:Int) 0) fun l1=>
 R5 d0 d1 fuel 0 0 l1
noncomputable abbrev Ha8:=C1 Tryz.f146
abbrev Hg6(r:List Int):=J none Tryz.prog 46 [] (H3 Tryz.prog Tryz.f146 (.l 1 r A5))
theorem Dh0{fuel:Nat}{d0:List Int}{d1:List Int}{r:List Int}(hF:Eo1 fuel d0 d1=some r):
 C3 Tryz.prog 146 [.l 1 d0 A5,.l 1 d1 A5] (.l 1 r A5):=by
 unfold Eo1 at hF
 refine cf 46 Tryz.func146 ?_
 obtain⟨l1,e1,hF⟩:=bnd hF
 refine jo2 8 (mm (f:=A5) e1) ?_
 have hL1:∀(nL1:Nat) (v3:Int) (v4:Int) (l11:List Int),R5 d0 d1 nL1 v3 v4 l11=some r→Hg6 r ⟨mkT [(1,.l 1 d1 A5),(5,.suf 12 0 0),(6,.i v3),(13,.l 1 d0 A5),(14,.i ((d0.map A5).length:Int)),(15,.i v4)],[(12,.buf 0 167 1 (l11.map A5))],[kL Ha8 [1,1,1,0,1,0,0],.inBlock 0,kC Ha8 [1,1,1,1]]⟩:=by
  clear hF;intro nL1
  induction nL1 with
  |zero=>intro v3 v4 l11 hF;cases hF
  |succ nL1 iL1=>
   intro v3 v4 l11 hF
   rw[R5]at hF
   refine jI 6 16 hF ?_ ?_<;>intro hF
   ·obtain⟨y5,e14,hF⟩:=bnd hF
    refine jo1 7 (gm (f:=A5) e14) ?_
    refine jI 20 27 hF ?_ ?_<;>intro hF
    ·obtain⟨y6,e15,hF⟩:=bnd hF
     refine jo1 5 (gm (f:=A5) e15) ?_
     refine jI 15 36 hF ?_ ?_<;>intro hF
     ·obtain⟨l12,e16,hF⟩:=bnd hF
      refine jo2 12 (am (f:=A5) e16) ?_
      exact ja 7 (iL1 _ _ _ hF)
     ·obtain⟨l13,e17,hF⟩:=bnd hF
      refine jo2 7 (am (f:=A5) e17) ?_
      exact ja 7 (iL1 _ _ _ hF)
    ·refine jI 12 36 hF ?_ ?_<;>intro hF
     ·obtain⟨l14,e18,hF⟩:=bnd hF
      refine jo2 12 (am (f:=A5) e18) ?_
      exact ja 7 (iL1 _ _ _ hF)
     ·obtain⟨l15,e19,hF⟩:=bnd hF
      refine jo2 7 (am (f:=A5) e19) ?_
      exact ja 7 (iL1 _ _ _ hF)
   ·cases hF
    exact jr 7
 exact ja 15 (hL1 _ _ _ _ hF)
def En3(fuel:Nat)(d0:A3)(d1:A3):Option A3:=
 bif d0.neg==d1.neg then
  (Option.bind (Fp1 fuel d0.mag d1.mag) fun y1=>
  Option.bind (Bf5 fuel d0.neg y1) fun y2=>
  some y2)
 else
  (Option.bind (Dg8 fuel d0.mag d1.mag) fun y3=>
  bif decide (y3<0) then
   (Option.bind (Eo1 fuel d1.mag d0.mag) fun y4=>
   Option.bind (Bf5 fuel d1.neg y4) fun y5=>
   some y5)
  else
   (Option.bind (Eo1 fuel d0.mag d1.mag) fun y6=>
   Option.bind (Bf5 fuel d0.neg y6) fun y7=>
   some y7))
theorem Cc4{fuel:Nat}{d0:A3}{d1:A3}{r:A3}(hF:En3 fuel d0 d1=some r):
 C3 Tryz.prog 104 [.agg [.b d0.neg,.l 1 d0.mag A5],.agg [.b d1.neg,.l 1 d1.mag A5]] (.agg [.b r.neg,.l 1 r.mag A5]):=by
 unfold En3 at hF
 refine cf 42 Tryz.func104 ?_
 refine jI 17 5 hF ?_ ?_<;>intro hF
 ·refine jd 2 ?_
  refine dB 6 hF Gr7 Ey1 fun y1 hF=> ?_
  refine dB 0 hF Av3 Q2 fun y2 hF=> ?_
  refine je 1 ?_
  cases hF
  exact jr 0
 ·refine jB 7 hF Ei9 Bk9 fun y3 hF=> ?_
  refine jI 3 19 hF ?_ ?_<;>intro hF
  ·refine jd 2 ?_
   refine dB 6 hF Ga1 Dh0 fun y4 hF=> ?_
   refine dB 0 hF Av3 Q2 fun y5 hF=> ?_
   refine je 1 ?_
   cases hF
   exact jr 0
  ·refine jd 4 ?_
   refine dB 6 hF Ga1 Dh0 fun y6 hF=> ?_
   refine dB 0 hF Av3 Q2 fun y7 hF=> ?_
   refine je 1 ?_
   cases hF
   exact jr 0
def Ah0(d1:A3)(v10:Int)(y23:Int)(cL1:Int→(List Int)→Option A3):Nat→Int→Int→(List Int)→Option A3
 |0,_,_,_=>none
 |nL2+1,v13,v14,l19=>
  bif decide (v14<((d1.mag.map A5).length:Int)) then
   (Option.bind (C4 d1.mag v14) fun y30=>
   Option.bind (C4 l19 (IntKind.i64.wrap (v10+v14))) fun y31=>
   Option.bind (C4 l19 (IntKind.i64.wrap (v10+v14))) fun y32=>
   Option.bind (some (l19.set (0+Int.toNat (IntKind.i64.wrap (v10+v14))) (IntKind.u32.wrap (Int.tmod (IntKind.u64.wrap ((IntKind.u64.wrap ((IntKind.u64.wrap ((IntKind.u64.wrap y23)*(IntKind.u64.wrap y30)))+(IntKind.u64.wrap y31)))+v13)) 1000000000)))) fun l20=>
   (Ah0 d1 v10 y23 cL1 nL2) (IntKind.u64.wrap (Int.tdiv (IntKind.u64.wrap ((IntKind.u64.wrap ((IntKind.u64.wrap ((IntKind.u64.wrap y23)*(IntKind.u64.wrap y30)))+(IntKind.u64.wrap y31)))+v13)) 1000000000)) (IntKind.i64.wrap (v14+1)) l20)
  else
   (Option.bind (C4 l19 (IntKind.i64.wrap (v10+((d1.mag.map A5).length:Int)))) fun y33=>
   Option.bind (some (l19.set (0+Int.toNat (IntKind.i64.wrap (v10+((d1.mag.map A5).length:Int)))) (IntKind.u32.wrap v13))) fun l21=>
   cL1 (IntKind.i64.wrap (v10+1)) l21)
def X7(fuel:Nat)(d0:A3)(d1:A3):Nat→Int→(List Int)→Option A3
 |0,_,_=>none
 |nL1+1,v10,l15=>
  bif decide (v10<((d0.mag.map A5).length:Int)) then
   (Option.bind (C4 d0.mag v10) fun y23=>
   Ah0 d1 v10 y23 (X7 fuel d0 d1 nL1) fuel 0 0 l15)
  else
   (Option.bind (Bf5 fuel (!(d0.neg==d1.neg)) l15) fun y34=>
   some y34)
def Br6(fuel:Nat)(d0:A3)(d1:A3):Option A3:=
 Option.bind (mkL (IntKind.i64.wrap (((d0.mag.map A5).length:Int)+((d1.mag.map A5).length:Int))) (IntKind.i64.wrap (((d0.mag.map A5).length:Int)+((d1.mag.map A5).length:Int))) 0) fun l1=>
 X7 fuel d0 d1 fuel 0 l1
noncomputable abbrev Fd5:=C1 Tryz.f101
abbrev Gy3(r:A3):=J none Tryz.prog 79 [] (H3 Tryz.prog Tryz.f101 (.agg [.b r.neg,.l 1 r.mag A5]))
theorem Ah1{fuel:Nat}{d0:A3}{d1:A3}{r:A3}(hF:Br6 fuel d0 d1=some r):
 C3 Tryz.prog 101 [.agg [.b d0.neg,.l 1 d0.mag A5],.agg [.b d1.neg,.l 1 d1.mag A5]] (.agg [.b r.neg,.l 1 r.mag A5]):=by
 unfold Br6 at hF
 refine cf 79 Tryz.func101 ?_
 obtain⟨l1,e1,hF⟩:=bnd hF
 refine jo2 15 (mm (f:=A5) e1) ?_
 have hL1:∀(nL1:Nat) (v10:Int) (l15:List Int),X7 fuel d0 d1 nL1 v10 l15=some r→Gy3 r ⟨mkT [(2,.ptr 2 0),(3,.ptr 3 0),(4,.ptr 4 0),(5,.suf 19 0 0),(21,.l 1 d0.mag A5),(22,.i ((d0.mag.map A5).length:Int)),(23,.i v10)],[(2,.box 98 [.b d0.neg,.l 1 d0.mag A5]),(3,.box 98 [.b d1.neg,.l 1 d1.mag A5]),(4,.box 98 [.b false,.esl 1]),(19,.buf 0 167 1 (l15.map A5))],[kL Fd5 [1,1,0,1,0,0],.inBlock 0,kC Fd5 [1,1,1]]⟩:=by
  clear hF;intro nL1
  induction nL1 with
  |zero=>intro v10 l15 hF;cases hF
  |succ nL1 iL1=>
   intro v10 l15 hF
   rw[X7]at hF
   refine jI 6 24 hF ?_ ?_<;>intro hF
   ·obtain⟨y23,e32,hF⟩:=bnd hF
    refine jo1 7 (gm (f:=A5) e32) ?_
    have hL2:∀(nL2:Nat) (v13:Int) (v14:Int) (l19:List Int),Ah0 d1 v10 y23 (X7 fuel d0 d1 nL1) nL2 v13 v14 l19=some r→Gy3 r ⟨mkT [(2,.ptr 2 0),(3,.ptr 3 0),(4,.ptr 4 0),(5,.suf 19 0 0),(6,.i v10),(7,.w y23),(8,.n v13),(21,.l 1 d0.mag A5),(22,.i ((d0.mag.map A5).length:Int)),(23,.i v10),(29,.l 1 d1.mag A5),(30,.i ((d1.mag.map A5).length:Int)),(31,.i v14)],[(2,.box 98 [.b d0.neg,.l 1 d0.mag A5]),(3,.box 98 [.b d1.neg,.l 1 d1.mag A5]),(4,.box 98 [.b false,.esl 1]),(19,.buf 0 167 1 (l19.map A5))],[kL Fd5 [1,1,0,1,0,0,1,1,0,0,1,1,0,1,0,0],.inBlock 2,kC Fd5 [1,1,0,1,0,0,1,1,0,0,1,1,1],.inBlock 1,kC Fd5 [1,1,0,1,0,0,1,1,1],kL Fd5 [1,1,0,1,0,0],.inBlock 0,kC Fd5 [1,1,1]]⟩:=by
     clear hF;intro nL2
     induction nL2 with
     |zero=>intro v13 v14 l19 hF;cases hF
     |succ nL2 iL2=>
      intro v13 v14 l19 hF
      rw[Ah0]at hF
      refine jI 6 32 hF ?_ ?_<;>intro hF
      ·obtain⟨y30,e41,hF⟩:=bnd hF
       refine jo1 7 (gm (f:=A5) e41) ?_
       obtain⟨y31,e42,hF⟩:=bnd hF
       refine jo1 15 (gm (f:=A5) e42) ?_
       refine jo1 0 (gjm (f:=A5) (gj e42)) ?_
       obtain⟨y32,e43,hF⟩:=bnd hF
       refine jo1 16 (gm (f:=A5) e43) ?_
       obtain⟨l20,e44,hF⟩:=bnd hF
       have hst:=stm (f:=A5) (z:=IntKind.u32.wrap (Int.tmod (IntKind.u64.wrap ((IntKind.u64.wrap ((IntKind.u64.wrap ((IntKind.u64.wrap y23)*(IntKind.u64.wrap y30)))+(IntKind.u64.wrap y31)))+v13)) 1000000000)) (k:=0) (xs:=[.int .u32 (IntKind.u32.wrap (Int.tmod (IntKind.u64.wrap ((IntKind.u64.wrap ((IntKind.u64.wrap ((IntKind.u64.wrap y23)*(IntKind.u64.wrap y30)))+(IntKind.u64.wrap y31)))+v13)) 1000000000))]) (gj e43) rfl
       refine C2 0 (E9 (o:=(match(l19.map A5)[0+Int.toNat (IntKind.i64.wrap (v10+v14))]? with|some old=>some ((l19.map A5).set (0+Int.toNat (IntKind.i64.wrap (v10+v14))) (X6 old 0 [.int .u32 (IntKind.u32.wrap (Int.tmod (IntKind.u64.wrap ((IntKind.u64.wrap ((IntKind.u64.wrap ((IntKind.u64.wrap y23)*(IntKind.u64.wrap y30)))+(IntKind.u64.wrap y31)))+v13)) 1000000000))]))|none=>none)) (l20.map A5) (by kernel_rfl) (by cases e44;exact hst) ?_)
       exact ja 7 (iL2 _ _ _ hF)
      ·obtain⟨y33,e45,hF⟩:=bnd hF
       refine jo1 11 (gm (f:=A5) e45) ?_
       obtain⟨l21,e46,hF⟩:=bnd hF
       have hst:=stm (f:=A5) (z:=IntKind.u32.wrap v13) (k:=0) (xs:=[.int .u32 (IntKind.u32.wrap v13)]) (gj e45) rfl
       refine C2 0 (E9 (o:=(match(l19.map A5)[0+Int.toNat (IntKind.i64.wrap (v10+((d1.mag.map A5).length:Int)))]? with|some old=>some ((l19.map A5).set (0+Int.toNat (IntKind.i64.wrap (v10+((d1.mag.map A5).length:Int)))) (X6 old 0 [.int .u32 (IntKind.u32.wrap v13)]))|none=>none)) (l21.map A5) (by kernel_rfl) (by cases e46;exact hst) ?_)
       exact ja 6 (iL1 _ _ hF)
    exact ja 18 (hL2 _ _ _ _ hF)
   ·refine jB 10 hF Av3 Q2 fun y34 hF=> ?_
    cases hF
    exact jr 2
 exact ja 12 (hL1 _ _ _ hF)
def Fp8(d0:List Int):Option (List Int):=
 some d0
noncomputable abbrev Hi9:=C1 Tryz.f221
theorem Di9{d0:List Int}{r:List Int}(hF:Fp8 d0=some r):
 K5 Tryz.prog 221 [] [.l 1 d0 A5] [(2000,.box 96 [.l 1 r A5])] (.fn 254 [] [.ptr 2000 0]):=by
 unfold Fp8 at hF
 refine cr 4 Tryz.func221 ?_
 refine ja 10 (S0:=[(2,.fn 254 [] [.ptr 1 0])]) (O0:=[(1,.box 96 [.l 1 d0 A5])]) (T0:=[kC Hi9 [1,1]]) ?_
 refine C2 0 (Aq8 [(1,2000)] (by kernel_rfl) (by kernel_rfl) (by kernel_rfl) (by kernel_rfl) ?_)
 have hF:=oi hF;subst hF
 exact C2 0 (Aq9 (xs:=[.fn 254 [] [.ptr 2000 0]]) [.fn 254 [] [.ptr 2000 0]] rfl (by kernel_rfl) (by kernel_rfl) (Q6.refl _) rfl)
def U2(x:Int×Int):List Kx.V:=[.d (.int .i64 x.1),.d (.int .u32 x.2)]
def Ai9(d0:List Int):Nat→Int→Option (List (Int×Int))
 |0,_=>none
 |nL1+1,v2=>
  bif decide (v2≥0) then
   (Option.bind (C4 d0 v2) fun y3=>
   Option.bind (
    (Ai9 d0 nL1) (IntKind.i64.wrap (v2-1))) fun l3=>
   some ((v2,y3)::l3))
  else
   (some [])
def Fp9(fuel:Nat)(d0:List Int):Option (List (Int×Int)):=
 Ai9 d0 fuel (IntKind.i64.wrap (((d0.map A5).length:Int)-1))
noncomputable abbrev Hj0:=C1 Tryz.f254
theorem Dj3{fuel:Nat}{d0:List Int}{r:List (Int×Int)}(hF:Fp9 fuel d0=some r):
 Dk9 Tryz.prog 254 [(2000,.frn 2000)] [.yl 2000,.rp [.sl 1 (d0.map A5)] 0] (r.map U2) false:=by
 unfold Fp9 at hF
 refine Cu4 (N:=19) (b:=C1 Tryz.f254) Tryz.func254 (by kernel_rfl) rfl rfl (fun yl_ Inv_ Stop_ Pan_ hR_=> ?_)
 have hL1:∀(nL1:Nat) (r:List (Int×Int)) (v2:Int),Ai9 d0 nL1 v2=some r→J none Tryz.prog 19 [] (Ej5 Tryz.prog Tryz.f254 yl_ Inv_ Stop_ Pan_ false (some (r.map U2))) ⟨mkT [(0,.yl 2000),(1,.rp [.sl 1 (d0.map A5)] 0),(3,.i v2)],[(2000,.frn 2000)],[kL Hj0 [1,0,0],.inBlock 0]⟩:=by
  clear hF;intro nL1
  induction nL1 with
  |zero=>intro r v2 hF;cases hF
  |succ nL1 iL1=>
   intro r v2 hF
   rw[Ai9]at hF
   refine jI 7 8 hF ?_ ?_<;>intro hF
   ·obtain⟨y3,e3,hF⟩:=bnd hF
    refine jo1 10 (gm (f:=A5) e3) ?_
    obtain⟨l3,hY_,hr_⟩:=bnd hF
    clear hF;have hr_:=Option.some.inj hr_;subst hr_;have hF:=hY_;clear hY_
    refine C2 1 (Dl5 hR_ (xs:=[.i v2,.w y3]) [.i v2,.w y3] (ys:=l3.map U2) (by kernel_rfl) (by kernel_rfl) (Q6.refl _) ?_ ?_)
    rotate_left
    ·exact C2 3 (Bl7 hR_ (.inr rfl) rfl rfl (by kernel_rfl))
    ·exact ja 10 (iL1 _ _ hF)
   ·have hF:=oi hF;subst hF
    exact C2 2 (Bl7 hR_ (.inl ⟨rfl,rfl⟩) rfl rfl (by kernel_rfl))
 exact ja 9 (hL1 _ _ _ hF)
def Ab5(d1:Int):List (Int×Int)→Int→(List Int)→Option (List Int×Int)
 |[],v2,l5=>
  some (l5,IntKind.u32.wrap v2)
 |y6::ys_F217_L1,v2,l5=>
  ass (decide ((IntKind.u64.wrap d1)≠0))<|
  ass (decide ((IntKind.u64.wrap d1)≠0))<|
  Option.bind (C4 l5 y6.1) fun y7=>
  Option.bind (some (l5.set (0+Int.toNat y6.1) (IntKind.u32.wrap (IntKind.u64.wrap (Int.tdiv (IntKind.u64.wrap ((IntKind.u64.wrap (v2*1000000000))+(IntKind.u64.wrap y6.2))) (IntKind.u64.wrap d1)))))) fun l6=>
  (Ab5 d1 ys_F217_L1) (Int.tmod (IntKind.u64.wrap ((IntKind.u64.wrap (v2*1000000000))+(IntKind.u64.wrap y6.2))) (IntKind.u64.wrap d1)) l6
def Fp6(fuel:Nat)(d0:List Int)(d1:Int):Option (List Int×Int):=
 Option.bind (mkL ((d0.map A5).length:Int) ((d0.map A5).length:Int) 0) fun l1=>
 Option.bind (Fp8 d0) fun y1=>
 Option.bind (Fp9 fuel y1) fun ys1=>
 Ab5 d1 ys1 0 l1
noncomputable abbrev Df1:=C1 Tryz.f217
theorem Di7{fuel:Nat}{d0:List Int}{d1:Int}{r:List Int×Int}(hF:Fp6 fuel d0 d1=some r):
 C3 Tryz.prog 217 [.l 1 d0 A5,.w d1] (.tup [.l 1 r.1 A5,.w r.2]):=by
 unfold Fp6 at hF
 refine Cq8 (N:=38) (b:=C1 Tryz.f217) Tryz.func217 (by kernel_rfl) rfl rfl (fun w00_ M00_=> ?_)
 obtain⟨l1,e1,hF⟩:=bnd hF
 refine jo2 10 (mm (f:=A5) e1) ?_
 obtain⟨y1,e2,hF⟩:=bnd hF
 refine jcr 12 [(15,2000)] Gb3 (Di9 e2) ?_
 refine ja 2 (S0:=[(3,.ptr 3 0),(6,.ptr 6 0),(7,.ptr 7 0),(15,.fn 254 [] [.ptr 15 0])]) (O0:=[(3,.box 167 [.w d1]),(6,.box 96 [.suf 13 0 0]),(7,.box 39 [.n 0]),(13,.buf 0 167 1 (l1.map A5)),(15,.box 96 [.l 1 y1 A5])]) (T0:=[kC Df1 [1,1,1,0,1,0],.inBlock 0,kC Df1 [1,1,1,1]]) ?_
 refine Aq8 [(13,13),(15,15),(3,2100),(6,2101),(7,2102)] (by kernel_rfl) (by kernel_rfl) (by kernel_rfl) (by kernel_rfl) ?_
 refine Dl1 (S0:=[(3,.ptr 2100 0),(6,.ptr 2101 0),(7,.ptr 2102 0),(15,.fn 254 [] [.ptr 15 0])]) (O0:=[(13,.buf 0 167 1 (l1.map A5)),(15,.box 96 [.l 1 y1 A5]),(2100,.box 167 [.w d1]),(2101,.box 96 [.suf 13 0 0]),(2102,.box 39 [.n 0])]) (T0:=[kC Df1 [1,1,1,0,1,0],.inBlock 0,kC Df1 [1,1,1,1]]) [3,6,7,15] [13,15,2100,2101,2102] (by kernel_rfl) rfl ?_
 obtain⟨ys1,e3,hF⟩:=bnd hF
 obtain⟨G_,hG_⟩:∃G:List (List Kx.V)→List (Nat×C0)→Prop,G=(fun yv ob=>∃(yl_:List (Int×Int)) (v2:Int) (l5:List Int),yv=yl_.map U2∧ob=[(13,.buf 0 167 1 (l5.map A5)),(2100,.box 167 [.w d1]),(2101,.box 96 [.suf 13 0 0]),(2102,.box 39 [.n v2])]∧Ab5 d1 yl_ v2 l5=some r):=⟨_,rfl⟩
 obtain⟨GX_,hGX_⟩:∃G:Code→List (Nat×C0)→Prop,G=(fun j ob=>False):=⟨_,rfl⟩
 refine Az9 (P:=Tryz.prog) (g:=(.tmp 15)) (ps:= #[16,17]) (asg:=(cAt Df1 [1,1,1,0,1,0,0])) (bo:=(cAt Df1 [1,1,1,0,1,0,1])) (k:=[.inBlock 0,kC Df1 [1,1,1,1]]) (gf:=254) (first:=[]) (cap:=[.ptr 15 0]) (xs:=[.rp [.sl 1 (y1.map A5)] 0]) (os:=[]) (S1:=[(3,.ptr 2100 0),(6,.ptr 2101 0),(7,.ptr 2102 0)]) (ob0:=[(13,.buf 0 167 1 (l1.map A5)),(2100,.box 167 [.w d1]),(2101,.box 96 [.suf 13 0 0]),(2102,.box 39 [.n 0])]) [] [3,6,7] [13,2100,2101,2102] [.rp [.sl 1 (y1.map A5)] 0] (ysAll:=ys1.map U2) [2100,2101,2102] G_ GX_ rfl (by kernel_rfl) rfl (by kernel_rfl) rfl (by kernel_rfl) (Q6.refl _) Gb6 (Dj3 e3) (by kernel_rfl) (by kernel_rfl) (by kernel_rfl) ?_ ?_ ?_ ⟨by kernel_rfl,by kernel_rfl⟩ ?_ ?_ ?_
 ·rw[hG_];exact⟨ys1,0,l1,rfl,by kernel_rfl,hF⟩
 ·intro yv_ ob_ h_;rw[hG_]at h_;obtain⟨_,_,_,_,rfl,_⟩:=h_;kernel_rfl
 ·intro j_ ob_ h_;rw[hGX_]at h_;exact h_.elim
 ·intro x_ hxa_ hxb_ hxp_ yv_ ysv_ ob_ h_;rw[hG_]at h_
  obtain⟨yl_,v2,l5,hy_,rfl,hF⟩:=h_
  cases yl_ with
  |nil=>cases hy_
  |cons y6 ys_F217_L1=>
   cases hy_;rw[Ab5]at hF
   refine Ds7 (by kernel_rfl) ?_
   refine Dl1 (S0:=[(3,.ptr 2100 0),(6,.ptr 2101 0),(7,.ptr 2102 0),(16,.i y6.1),(17,.w y6.2)]) (O0:=[(3000,.raw x_.D (.deferred (some []))),(3001,.raw x_.L (.loop (F9 x_ .ready none))),(13,.buf 0 167 1 (l5.map A5)),(2100,.box 167 [.w d1]),(2101,.box 96 [.suf 13 0 0]),(2102,.box 39 [.n v2])]) (T0:=[kC Df1 [1,1,1,0,1,0,0],.begR x_.L,kC Df1 [1,1,1,0,1,0,1]]) [3,6,7,16,17] [3000,3001,13,2100,2101,2102] (by kernel_rfl) rfl ?_
   refine ja 7 (S0:=[(3,.ptr 2100 0),(6,.ptr 2101 0),(7,.ptr 2102 0),(8,.i y6.1),(9,.w y6.2),(16,.i y6.1),(17,.w y6.2)]) (O0:=[(3000,.raw x_.D (.deferred (some []))),(3001,.raw x_.L (.loop (F9 x_ .ready none))),(13,.buf 0 167 1 (l5.map A5)),(2100,.box 167 [.w d1]),(2101,.box 96 [.suf 13 0 0]),(2102,.box 39 [.n v2])]) (T0:=[.begR x_.L,kC Df1 [1,1,1,0,1,0,1]]) ?_
   refine Bt1 (l:=x_.L) (q:=3001) (k:=[kC Df1 [1,1,1,0,1,0,1]]) (rec:=F9 x_ .ready none) rfl rfl rfl ?_
   refine jd 10 ?_
   obtain⟨hb5,hF⟩:=Q0 hF
   refine do1 5 (ck hb5) ?_
   obtain⟨hb6,hF⟩:=Q0 hF
   refine do1 4 (ck hb6) ?_
   obtain⟨y7,e8,hF⟩:=bnd hF
   refine do1 0 (gm (f:=A5) e8) ?_
   obtain⟨l6,e9,hF⟩:=bnd hF
   have hst:=stm (f:=A5) (z:=IntKind.u32.wrap (IntKind.u64.wrap (Int.tdiv (IntKind.u64.wrap ((IntKind.u64.wrap (v2*1000000000))+(IntKind.u64.wrap y6.2))) (IntKind.u64.wrap d1)))) (k:=0) (xs:=[.int .u32 (IntKind.u32.wrap (IntKind.u64.wrap (Int.tdiv (IntKind.u64.wrap ((IntKind.u64.wrap (v2*1000000000))+(IntKind.u64.wrap y6.2))) (IntKind.u64.wrap d1))))]) (gj e8) rfl
   refine P5 0 (Aq7 (o:=(match(l5.map A5)[0+Int.toNat y6.1]? with|some old=>some ((l5.map A5).set (0+Int.toNat y6.1) (X6 old 0 [.int .u32 (IntKind.u32.wrap (IntKind.u64.wrap (Int.tdiv (IntKind.u64.wrap ((IntKind.u64.wrap (v2*1000000000))+(IntKind.u64.wrap y6.2))) (IntKind.u64.wrap d1))))]))|none=>none)) (l6.map A5) (by kernel_rfl) (by kernel_rfl) (by cases e9;exact hst) ?_)
   refine je 1 ?_
   refine ja 1 (S0:=[]) (O0:=rob x_ .busy none [(13,.buf 0 167 1 (l6.map A5)),(2100,.box 167 [.w d1]),(2101,.box 96 [.suf 13 0 0]),(2102,.box 39 [.n (Int.tmod (IntKind.u64.wrap ((IntKind.u64.wrap (v2*1000000000))+(IntKind.u64.wrap y6.2))) (IntKind.u64.wrap d1))])]) (T0:=[]) ?_
   exact Bt2 rfl [(13,.buf 0 167 1 (l6.map A5)),(2100,.box 167 [.w d1]),(2101,.box 96 [.suf 13 0 0]),(2102,.box 39 [.n (Int.tmod (IntKind.u64.wrap ((IntKind.u64.wrap (v2*1000000000))+(IntKind.u64.wrap y6.2))) (IntKind.u64.wrap d1))])] rfl rfl (by kernel_rfl) (by rw[hG_];exact⟨ys_F217_L1,Int.tmod (IntKind.u64.wrap ((IntKind.u64.wrap (v2*1000000000))+(IntKind.u64.wrap y6.2))) (IntKind.u64.wrap d1),l6,rfl,rfl,hF⟩)
 ·intro D_ ob_ h_;rw[hG_]at h_
  obtain⟨yl_,v2,l5,hy_,rfl,hF⟩:=h_
  cases yl_ with
  |cons _ _=>cases hy_
  |nil=>
   clear hy_;rw[Ab5]at hF
   refine Ep5 [(2100,3),(2101,6),(2102,7),(13,13)] (by kernel_rfl) (by kernel_rfl) (by kernel_rfl) ?_
   refine ja 0 (S0:=[(6,.ptr 6 0),(7,.ptr 7 0)]) (O0:=[(6,.box 96 [.suf 13 0 0]),(7,.box 39 [.n v2]),(13,.buf 0 167 1 (l5.map A5))]) (T0:=[.inBlock 0,kC Df1 [1,1,1,1]]) ?_
   refine jd 2 ?_
   refine je 5 ?_
   have hF:=oi hF;subst hF
   exact C2 0 (Ep6 (xs:=[.l 1 l5 A5,.w (IntKind.u32.wrap v2)]) [.l 1 l5 A5,.w (IntKind.u32.wrap v2)] rfl rfl (by kernel_rfl) (Q6.refl _) rfl (by kernel_rfl))
 ·intro D_ ob_ j_ h_;rw[hGX_]at h_
  exact h_.elim
def Y5(d0:List Int)(d1:Int):Nat→Int→Int→(List Int)→Option (List Int)
 |0,_,_,_=>none
 |nL1+1,v3,v4,l5=>
  bif decide (v4<((d0.map A5).length:Int)) then
   (Option.bind (C4 d0 v4) fun y3=>
   Option.bind (app l5 [IntKind.u32.wrap (Int.tmod (IntKind.u64.wrap ((IntKind.u64.wrap ((IntKind.u64.wrap y3)*(IntKind.u64.wrap d1)))+v3)) 1000000000)]) fun l6=>
   (Y5 d0 d1 nL1) (IntKind.u64.wrap (Int.tdiv (IntKind.u64.wrap ((IntKind.u64.wrap ((IntKind.u64.wrap y3)*(IntKind.u64.wrap d1)))+v3)) 1000000000)) (IntKind.i64.wrap (v4+1)) l6)
  else
   (Option.bind (app l5 [IntKind.u32.wrap v3]) fun l7=>
   some l7)
def Fa6(fuel:Nat)(d0:List Int)(d1:Int):Option (List Int):=
 Option.bind (mkL 0 (IntKind.i64.wrap (((d0.map A5).length:Int)+1)) 0) fun l1=>
 Y5 d0 d1 fuel 0 0 l1
noncomputable abbrev Fx4:=C1 Tryz.f218
abbrev Hh3(r:List Int):=J none Tryz.prog 41 [] (Dc2 Tryz.prog Tryz.f218 [(2000,.buf 0 167 1 (r.map A5))] (.suf 2000 0 0))
theorem Fa7{fuel:Nat}{d0:List Int}{d1:Int}{r:List Int}(hF:Fa6 fuel d0 d1=some r):
 K5 Tryz.prog 218 [] [.l 1 d0 A5,.w d1] [(2000,.buf 0 167 1 (r.map A5))] (.suf 2000 0 0):=by
 unfold Fa6 at hF
 refine cr 41 Tryz.func218 ?_
 obtain⟨l1,e1,hF⟩:=bnd hF
 refine jo2 9 (mm (f:=A5) e1) ?_
 have hL1:∀(nL1:Nat) (v3:Int) (v4:Int) (l5:List Int),Y5 d0 d1 nL1 v3 v4 l5=some r→Hh3 r ⟨mkT [(1,.w d1),(5,.suf 13 0 0),(6,.n v3),(14,.l 1 d0 A5),(15,.i ((d0.map A5).length:Int)),(16,.i v4)],[(13,.buf 0 167 1 (l5.map A5))],[kL Fx4 [1,1,1,0,1,0,0],.inBlock 0,kC Fx4 [1,1,1,1]]⟩:=by
  clear hF;intro nL1
  induction nL1 with
  |zero=>intro v3 v4 l5 hF;cases hF
  |succ nL1 iL1=>
   intro v3 v4 l5 hF
   rw[Y5]at hF
   refine jI 6 17 hF ?_ ?_<;>intro hF
   ·obtain⟨y3,e6,hF⟩:=bnd hF
    refine jo1 6 (gm (f:=A5) e6) ?_
    obtain⟨l6,e7,hF⟩:=bnd hF
    refine jo2 20 (am (f:=A5) e7) ?_
    exact ja 10 (iL1 _ _ _ hF)
   ·obtain⟨l7,e8,hF⟩:=bnd hF
    refine jo2 8 (am (f:=A5) e8) ?_
    refine ja 2 (S0:=[(4,.suf 13 0 0)]) (O0:=[(13,.buf 0 167 1 (l7.map A5))]) (T0:=[kC Fx4 [1,1,1,1,1]]) ?_
    refine C2 0 (Aq8 [(13,2000)] (by kernel_rfl) (by kernel_rfl) (by kernel_rfl) (by kernel_rfl) ?_)
    have hF:=oi hF;subst hF
    exact C2 0 (Aq9 (xs:=[.suf 2000 0 0]) [.suf 2000 0 0] rfl (by kernel_rfl) (by kernel_rfl) (Q6.refl _) rfl)
 exact ja 15 (hL1 _ _ _ _ hF)
def Ae3(d0:List Int)(d1:Int):Nat→Int→Int→(List Int)→Option (List Int)
 |0,_,_,_=>none
 |nL1+1,v3,v4,l5=>
  bif decide (v4<((d0.map A5).length:Int)) then
   (Option.bind (C4 d0 v4) fun y3=>
   Option.bind (app l5 [IntKind.u32.wrap (Int.tmod (IntKind.u64.wrap ((IntKind.u64.wrap ((IntKind.u64.wrap y3)*(IntKind.u64.wrap d1)))+v3)) 1000000000)]) fun l6=>
   (Ae3 d0 d1 nL1) (IntKind.u64.wrap (Int.tdiv (IntKind.u64.wrap ((IntKind.u64.wrap ((IntKind.u64.wrap y3)*(IntKind.u64.wrap d1)))+v3)) 1000000000)) (IntKind.i64.wrap (v4+1)) l6)
  else
   (Option.bind (app l5 [IntKind.u32.wrap v3]) fun l7=>
   some l7)
def Di8(fuel:Nat)(d0:List Int)(d1:Int):Option (List Int):=
 Option.bind (mkL 0 (IntKind.i64.wrap (((d0.map A5).length:Int)+1)) 0) fun l1=>
 Ae3 d0 d1 fuel 0 0 l1
abbrev Go2(r:List Int):=J none Tryz.prog 41 [] (H3 Tryz.prog Tryz.f218 (.l 1 r A5))
theorem Ee8{fuel:Nat}{d0:List Int}{d1:Int}{r:List Int}(hF:Di8 fuel d0 d1=some r):
 C3 Tryz.prog 218 [.l 1 d0 A5,.w d1] (.l 1 r A5):=by
 unfold Di8 at hF
 refine cf 41 Tryz.func218 ?_
 obtain⟨l1,e1,hF⟩:=bnd hF
 refine jo2 9 (mm (f:=A5) e1) ?_
 have hL1:∀(nL1:Nat) (v3:Int) (v4:Int) (l5:List Int),Ae3 d0 d1 nL1 v3 v4 l5=some r→Go2 r ⟨mkT [(1,.w d1),(5,.suf 13 0 0),(6,.n v3),(14,.l 1 d0 A5),(15,.i ((d0.map A5).length:Int)),(16,.i v4)],[(13,.buf 0 167 1 (l5.map A5))],[kL Fx4 [1,1,1,0,1,0,0],.inBlock 0,kC Fx4 [1,1,1,1]]⟩:=by
  clear hF;intro nL1
  induction nL1 with
  |zero=>intro v3 v4 l5 hF;cases hF
  |succ nL1 iL1=>
   intro v3 v4 l5 hF
   rw[Ae3]at hF
   refine jI 6 17 hF ?_ ?_<;>intro hF
   ·obtain⟨y3,e6,hF⟩:=bnd hF
    refine jo1 6 (gm (f:=A5) e6) ?_
    obtain⟨l6,e7,hF⟩:=bnd hF
    refine jo2 20 (am (f:=A5) e7) ?_
    exact ja 10 (iL1 _ _ _ hF)
   ·obtain⟨l7,e8,hF⟩:=bnd hF
    refine jo2 8 (am (f:=A5) e8) ?_
    cases hF
    exact jr 2
 exact ja 15 (hL1 _ _ _ _ hF)
def N9(d0:Nat)(d1:List Int)(d2:Int):Nat→Int→Int→Int→(List Int)→Option (Bool×List Int)
 |0,_,_,_,_=>none
 |nL1+1,v4,v5,v6,l10=>
  bif decide (v6<(IntKind.i64.wrap (((d1.map A5).length:Int)+1))) then
   (bif decide (v6<((d1.map A5).length:Int)) then
    (Option.bind (C4 d1 v6) fun y15=>
    Option.bind (C4 (l10.drop d0) v6) fun y16=>
    bif decide ((IntKind.i64.wrap ((IntKind.i64.wrap ((IntKind.i64.wrap y16)-(IntKind.i64.wrap (Int.tmod (IntKind.u64.wrap (v4+(IntKind.u64.wrap (d2*(IntKind.u64.wrap y15))))) 1000000000))))-v5))<0) then
     (Option.bind (C4 (l10.drop d0) v6) fun y17=>
     Option.bind (some (l10.set (d0+Int.toNat v6) (IntKind.u32.wrap (IntKind.i64.wrap ((IntKind.i64.wrap ((IntKind.i64.wrap ((IntKind.i64.wrap y16)-(IntKind.i64.wrap (Int.tmod (IntKind.u64.wrap (v4+(IntKind.u64.wrap (d2*(IntKind.u64.wrap y15))))) 1000000000))))-v5))+1000000000))))) fun l11=>
     (N9 d0 d1 d2 nL1) (IntKind.u64.wrap (Int.tdiv (IntKind.u64.wrap (v4+(IntKind.u64.wrap (d2*(IntKind.u64.wrap y15))))) 1000000000)) 1 (IntKind.i64.wrap (v6+1)) l11)
    else
     (Option.bind (C4 (l10.drop d0) v6) fun y18=>
     Option.bind (some (l10.set (d0+Int.toNat v6) (IntKind.u32.wrap (IntKind.i64.wrap ((IntKind.i64.wrap ((IntKind.i64.wrap y16)-(IntKind.i64.wrap (Int.tmod (IntKind.u64.wrap (v4+(IntKind.u64.wrap (d2*(IntKind.u64.wrap y15))))) 1000000000))))-v5))))) fun l12=>
     (N9 d0 d1 d2 nL1) (IntKind.u64.wrap (Int.tdiv (IntKind.u64.wrap (v4+(IntKind.u64.wrap (d2*(IntKind.u64.wrap y15))))) 1000000000)) 0 (IntKind.i64.wrap (v6+1)) l12))
   else
    (Option.bind (C4 (l10.drop d0) v6) fun y19=>
    bif decide ((IntKind.i64.wrap ((IntKind.i64.wrap ((IntKind.i64.wrap y19)-(IntKind.i64.wrap (Int.tmod v4 1000000000))))-v5))<0) then
     (Option.bind (C4 (l10.drop d0) v6) fun y20=>
     Option.bind (some (l10.set (d0+Int.toNat v6) (IntKind.u32.wrap (IntKind.i64.wrap ((IntKind.i64.wrap ((IntKind.i64.wrap ((IntKind.i64.wrap y19)-(IntKind.i64.wrap (Int.tmod v4 1000000000))))-v5))+1000000000))))) fun l13=>
     (N9 d0 d1 d2 nL1) (IntKind.u64.wrap (Int.tdiv v4 1000000000)) 1 (IntKind.i64.wrap (v6+1)) l13)
    else
     (Option.bind (C4 (l10.drop d0) v6) fun y21=>
     Option.bind (some (l10.set (d0+Int.toNat v6) (IntKind.u32.wrap (IntKind.i64.wrap ((IntKind.i64.wrap ((IntKind.i64.wrap y19)-(IntKind.i64.wrap (Int.tmod v4 1000000000))))-v5))))) fun l14=>
     (N9 d0 d1 d2 nL1) (IntKind.u64.wrap (Int.tdiv v4 1000000000)) 0 (IntKind.i64.wrap (v6+1)) l14)))
  else
   (some (decide (v5>0),l10))
def Fp7(fuel:Nat)(d0:Nat)(d1:List Int)(d2:Int)(d3:List Int):Option (Bool×List Int):=
 N9 d0 d1 d2 fuel 0 0 0 d3
noncomputable abbrev Hb4:=C1 Tryz.f219
abbrev Hh4(r:Bool×List Int):=J none Tryz.prog 57 [] (Dc2 Tryz.prog Tryz.f219 [(2000,.buf 0 167 1 (r.2.map A5))] (.b r.1))
theorem Fa8{fuel:Nat}{d0:Nat}{d1:List Int}{d2:Int}{d3:List Int}{r:Bool×List Int}(hF:Fp7 fuel d0 d1 d2 d3=some r):
 K5 Tryz.prog 219 [(2000,.buf 0 167 1 (d3.map A5))] [.suf 2000 0 d0,.l 1 d1 A5,.n d2] [(2000,.buf 0 167 1 (r.2.map A5))] (.b r.1):=by
 unfold Fp7 at hF
 refine cr 57 Tryz.func219 ?_
 have hL1:∀(nL1:Nat) (v4:Int) (v5:Int) (v6:Int) (l10:List Int),N9 d0 d1 d2 nL1 v4 v5 v6 l10=some r→Hh4 r ⟨mkT [(0,.suf 2000 0 d0),(1,.l 1 d1 A5),(2,.n d2),(7,.n v4),(8,.i v5),(14,.i (IntKind.i64.wrap (((d1.map A5).length:Int)+1))),(15,.i v6)],[(2000,.buf 0 167 1 (l10.map A5))],[kL Hb4 [1,1,0,1,0,0],.inBlock 0,kC Hb4 [1,1,1]]⟩:=by
  clear hF;intro nL1
  induction nL1 with
  |zero=>intro v4 v5 v6 l10 hF;cases hF
  |succ nL1 iL1=>
   intro v4 v5 v6 l10 hF
   rw[N9]at hF
   refine jI 6 16 hF ?_ ?_<;>intro hF
   ·refine jI 22 22 hF ?_ ?_<;>intro hF
    ·obtain⟨y15,e23,hF⟩:=bnd hF
     refine jo1 6 (gm (f:=A5) e23) ?_
     obtain⟨y16,e24,hF⟩:=bnd hF
     refine jo1 16 (gmd (f:=A5) e24) ?_
     refine jo1 0 (gjm (f:=A5) (gjd e24)) ?_
     refine jI 19 46 hF ?_ ?_<;>intro hF
     ·obtain⟨y17,e25,hF⟩:=bnd hF
      refine jo1 12 (gmd (f:=A5) e25) ?_
      obtain⟨l11,e26,hF⟩:=bnd hF
      have hst:=stm (f:=A5) (z:=IntKind.u32.wrap (IntKind.i64.wrap ((IntKind.i64.wrap ((IntKind.i64.wrap ((IntKind.i64.wrap y16)-(IntKind.i64.wrap (Int.tmod (IntKind.u64.wrap (v4+(IntKind.u64.wrap (d2*(IntKind.u64.wrap y15))))) 1000000000))))-v5))+1000000000))) (k:=0) (xs:=[.int .u32 (IntKind.u32.wrap (IntKind.i64.wrap ((IntKind.i64.wrap ((IntKind.i64.wrap ((IntKind.i64.wrap y16)-(IntKind.i64.wrap (Int.tmod (IntKind.u64.wrap (v4+(IntKind.u64.wrap (d2*(IntKind.u64.wrap y15))))) 1000000000))))-v5))+1000000000)))]) (gjd e25) rfl
      refine C2 0 (E9 (o:=(match(l10.map A5)[d0+Int.toNat v6]? with|some old=>some ((l10.map A5).set (d0+Int.toNat v6) (X6 old 0 [.int .u32 (IntKind.u32.wrap (IntKind.i64.wrap ((IntKind.i64.wrap ((IntKind.i64.wrap ((IntKind.i64.wrap y16)-(IntKind.i64.wrap (Int.tmod (IntKind.u64.wrap (v4+(IntKind.u64.wrap (d2*(IntKind.u64.wrap y15))))) 1000000000))))-v5))+1000000000)))]))|none=>none)) (l11.map A5) (by kernel_rfl) (by cases e26;exact hst) ?_)
      exact ja 6 (iL1 _ _ _ _ hF)
     ·obtain⟨y18,e27,hF⟩:=bnd hF
      refine jo1 7 (gmd (f:=A5) e27) ?_
      obtain⟨l12,e28,hF⟩:=bnd hF
      have hst:=stm (f:=A5) (z:=IntKind.u32.wrap (IntKind.i64.wrap ((IntKind.i64.wrap ((IntKind.i64.wrap y16)-(IntKind.i64.wrap (Int.tmod (IntKind.u64.wrap (v4+(IntKind.u64.wrap (d2*(IntKind.u64.wrap y15))))) 1000000000))))-v5))) (k:=0) (xs:=[.int .u32 (IntKind.u32.wrap (IntKind.i64.wrap ((IntKind.i64.wrap ((IntKind.i64.wrap y16)-(IntKind.i64.wrap (Int.tmod (IntKind.u64.wrap (v4+(IntKind.u64.wrap (d2*(IntKind.u64.wrap y15))))) 1000000000))))-v5)))]) (gjd e27) rfl
      refine C2 0 (E9 (o:=(match(l10.map A5)[d0+Int.toNat v6]? with|some old=>some ((l10.map A5).set (d0+Int.toNat v6) (X6 old 0 [.int .u32 (IntKind.u32.wrap (IntKind.i64.wrap ((IntKind.i64.wrap ((IntKind.i64.wrap y16)-(IntKind.i64.wrap (Int.tmod (IntKind.u64.wrap (v4+(IntKind.u64.wrap (d2*(IntKind.u64.wrap y15))))) 1000000000))))-v5)))]))|none=>none)) (l12.map A5) (by kernel_rfl) (by cases e28;exact hst) ?_)
      exact ja 6 (iL1 _ _ _ _ hF)
    ·obtain⟨y19,e29,hF⟩:=bnd hF
     refine jo1 12 (gmd (f:=A5) e29) ?_
     refine jo1 0 (gjm (f:=A5) (gjd e29)) ?_
     refine jI 19 46 hF ?_ ?_<;>intro hF
     ·obtain⟨y20,e30,hF⟩:=bnd hF
      refine jo1 12 (gmd (f:=A5) e30) ?_
      obtain⟨l13,e31,hF⟩:=bnd hF
      have hst:=stm (f:=A5) (z:=IntKind.u32.wrap (IntKind.i64.wrap ((IntKind.i64.wrap ((IntKind.i64.wrap ((IntKind.i64.wrap y19)-(IntKind.i64.wrap (Int.tmod v4 1000000000))))-v5))+1000000000))) (k:=0) (xs:=[.int .u32 (IntKind.u32.wrap (IntKind.i64.wrap ((IntKind.i64.wrap ((IntKind.i64.wrap ((IntKind.i64.wrap y19)-(IntKind.i64.wrap (Int.tmod v4 1000000000))))-v5))+1000000000)))]) (gjd e30) rfl
      refine C2 0 (E9 (o:=(match(l10.map A5)[d0+Int.toNat v6]? with|some old=>some ((l10.map A5).set (d0+Int.toNat v6) (X6 old 0 [.int .u32 (IntKind.u32.wrap (IntKind.i64.wrap ((IntKind.i64.wrap ((IntKind.i64.wrap ((IntKind.i64.wrap y19)-(IntKind.i64.wrap (Int.tmod v4 1000000000))))-v5))+1000000000)))]))|none=>none)) (l13.map A5) (by kernel_rfl) (by cases e31;exact hst) ?_)
      exact ja 6 (iL1 _ _ _ _ hF)
     ·obtain⟨y21,e32,hF⟩:=bnd hF
      refine jo1 7 (gmd (f:=A5) e32) ?_
      obtain⟨l14,e33,hF⟩:=bnd hF
      have hst:=stm (f:=A5) (z:=IntKind.u32.wrap (IntKind.i64.wrap ((IntKind.i64.wrap ((IntKind.i64.wrap y19)-(IntKind.i64.wrap (Int.tmod v4 1000000000))))-v5))) (k:=0) (xs:=[.int .u32 (IntKind.u32.wrap (IntKind.i64.wrap ((IntKind.i64.wrap ((IntKind.i64.wrap y19)-(IntKind.i64.wrap (Int.tmod v4 1000000000))))-v5)))]) (gjd e32) rfl
      refine C2 0 (E9 (o:=(match(l10.map A5)[d0+Int.toNat v6]? with|some old=>some ((l10.map A5).set (d0+Int.toNat v6) (X6 old 0 [.int .u32 (IntKind.u32.wrap (IntKind.i64.wrap ((IntKind.i64.wrap ((IntKind.i64.wrap y19)-(IntKind.i64.wrap (Int.tmod v4 1000000000))))-v5)))]))|none=>none)) (l14.map A5) (by kernel_rfl) (by cases e33;exact hst) ?_)
      exact ja 6 (iL1 _ _ _ _ hF)
   ·cases hF
    exact jrr 8
 exact ja 19 (hL1 _ _ _ _ _ hF)
def Y6(d0:Nat)(d1:List Int):Nat→Int→Int→(List Int)→Option (List Int)
 |0,_,_,_=>none
 |nL1+1,v3,v4,l6=>
  bif decide (v4<(IntKind.i64.wrap (((d1.map A5).length:Int)+1))) then
   (Option.bind (C4 (l6.drop d0) v4) fun y9=>
   bif decide (v4<((d1.map A5).length:Int)) then
    (Option.bind (C4 d1 v4) fun y10=>
    Option.bind (C4 (l6.drop d0) v4) fun y11=>
    Option.bind (some (l6.set (d0+Int.toNat v4) (Int.tmod (IntKind.u32.wrap ((IntKind.u32.wrap (y9+v3))+y10)) 1000000000))) fun l7=>
    (Y6 d0 d1 nL1) (IntKind.u32.wrap (Int.tdiv (IntKind.u32.wrap ((IntKind.u32.wrap (y9+v3))+y10)) 1000000000)) (IntKind.i64.wrap (v4+1)) l7)
   else
    (Option.bind (C4 (l6.drop d0) v4) fun y12=>
    Option.bind (some (l6.set (d0+Int.toNat v4) (Int.tmod (IntKind.u32.wrap (y9+v3)) 1000000000))) fun l8=>
    (Y6 d0 d1 nL1) (IntKind.u32.wrap (Int.tdiv (IntKind.u32.wrap (y9+v3)) 1000000000)) (IntKind.i64.wrap (v4+1)) l8))
  else
   (some l6)
def Ft3(fuel:Nat)(d0:Nat)(d1:List Int)(d2:List Int):Option (List Int):=
 Y6 d0 d1 fuel 0 0 d2
noncomputable abbrev Hi8:=C1 Tryz.f220
abbrev Hh5(r:List Int):=J none Tryz.prog 37 [] (Dc2 Tryz.prog Tryz.f220 [(2000,.buf 0 167 1 (r.map A5))] (.tup []))
theorem Fa9{fuel:Nat}{d0:Nat}{d1:List Int}{d2:List Int}{r:List Int}(hF:Ft3 fuel d0 d1 d2=some r):
 K5 Tryz.prog 220 [(2000,.buf 0 167 1 (d2.map A5))] [.suf 2000 0 d0,.l 1 d1 A5] [(2000,.buf 0 167 1 (r.map A5))] (.tup []):=by
 unfold Ft3 at hF
 refine cr 37 Tryz.func220 ?_
 have hL1:∀(nL1:Nat) (v3:Int) (v4:Int) (l6:List Int),Y6 d0 d1 nL1 v3 v4 l6=some r→Hh5 r ⟨mkT [(0,.suf 2000 0 d0),(1,.l 1 d1 A5),(4,.w v3),(9,.i (IntKind.i64.wrap (((d1.map A5).length:Int)+1))),(10,.i v4)],[(2000,.buf 0 167 1 (l6.map A5))],[kL Hi8 [1,1,0,0],.inBlock 0]⟩:=by
  clear hF;intro nL1
  induction nL1 with
  |zero=>intro v3 v4 l6 hF;cases hF
  |succ nL1 iL1=>
   intro v3 v4 l6 hF
   rw[Y6]at hF
   refine jI 6 11 hF ?_ ?_<;>intro hF
   ·obtain⟨y9,e13,hF⟩:=bnd hF
    refine jo1 13 (gmd (f:=A5) e13) ?_
    refine jo1 0 (gjm (f:=A5) (gjd e13)) ?_
    refine jI 12 22 hF ?_ ?_<;>intro hF
    ·obtain⟨y10,e14,hF⟩:=bnd hF
     refine jo1 5 (gm (f:=A5) e14) ?_
     obtain⟨y11,e15,hF⟩:=bnd hF
     refine jo1 11 (gmd (f:=A5) e15) ?_
     obtain⟨l7,e16,hF⟩:=bnd hF
     have hst:=stm (f:=A5) (z:=Int.tmod (IntKind.u32.wrap ((IntKind.u32.wrap (y9+v3))+y10)) 1000000000) (k:=0) (xs:=[.int .u32 (Int.tmod (IntKind.u32.wrap ((IntKind.u32.wrap (y9+v3))+y10)) 1000000000)]) (gjd e15) rfl
     refine C2 0 (E9 (o:=(match(l6.map A5)[d0+Int.toNat v4]? with|some old=>some ((l6.map A5).set (d0+Int.toNat v4) (X6 old 0 [.int .u32 (Int.tmod (IntKind.u32.wrap ((IntKind.u32.wrap (y9+v3))+y10)) 1000000000)]))|none=>none)) (l7.map A5) (by kernel_rfl) (by cases e16;exact hst) ?_)
     exact ja 7 (iL1 _ _ _ hF)
    ·obtain⟨y12,e17,hF⟩:=bnd hF
     refine jo1 9 (gmd (f:=A5) e17) ?_
     obtain⟨l8,e18,hF⟩:=bnd hF
     have hst:=stm (f:=A5) (z:=Int.tmod (IntKind.u32.wrap (y9+v3)) 1000000000) (k:=0) (xs:=[.int .u32 (Int.tmod (IntKind.u32.wrap (y9+v3)) 1000000000)]) (gjd e17) rfl
     refine C2 0 (E9 (o:=(match(l6.map A5)[d0+Int.toNat v4]? with|some old=>some ((l6.map A5).set (d0+Int.toNat v4) (X6 old 0 [.int .u32 (Int.tmod (IntKind.u32.wrap (y9+v3)) 1000000000)]))|none=>none)) (l8.map A5) (by kernel_rfl) (by cases e18;exact hst) ?_)
     exact ja 7 (iL1 _ _ _ hF)
   ·cases hF
    exact jrr 2
 exact ja 13 (hL1 _ _ _ _ hF)
def Aq2(fuel:Nat)(l1:List Int)(l9:List Int)(l10:List Int)(v6:Int)(y93:Int)(y94:Int)(cL1:Int→(List Int)→(List Int)→Option (List Int×List Int)):Nat→Int→Option (List Int×List Int)
 |0,_=>none
 |nL2+1,v8=>
  Option.bind (
   Option.bind (C4 l1 (IntKind.i64.wrap (((l1.map A5).length:Int)-2))) fun y132=>
   Option.bind (C4 l1 (IntKind.i64.wrap (((l1.map A5).length:Int)-1))) fun y133=>
   Option.bind (C4 l10 (IntKind.i64.wrap ((IntKind.i64.wrap (v6+((l1.map A5).length:Int)))-2))) fun y134=>
   bif decide ((IntKind.u64.wrap (v8*(IntKind.u64.wrap y132)))>(IntKind.u64.wrap ((IntKind.u64.wrap ((IntKind.u64.wrap ((IntKind.u64.wrap ((IntKind.u64.wrap ((IntKind.u64.wrap y93)*1000000000))+(IntKind.u64.wrap y94)))-(IntKind.u64.wrap (v8*(IntKind.u64.wrap y133)))))*1000000000))+(IntKind.u64.wrap y134)))) then
    (Option.bind (C4 l1 (IntKind.i64.wrap (((l1.map A5).length:Int)-1))) fun y135=>
    some (decide ((IntKind.u64.wrap ((IntKind.u64.wrap ((IntKind.u64.wrap ((IntKind.u64.wrap y93)*1000000000))+(IntKind.u64.wrap y94)))-(IntKind.u64.wrap (v8*(IntKind.u64.wrap y135)))))<1000000000)))
   else
    (some false)) fun o9=>
  bif o9 then
   ((Aq2 fuel l1 l9 l10 v6 y93 y94 cL1 nL2) (IntKind.u64.wrap (v8-1)))
  else
   (ass (decide ((0:Int)≤v6)&&decide (v6≤(((l10.map A5).drop 0).length:Int)))<|
   Option.bind (Fp7 fuel (0+Int.toNat v6) l1 v8 l10) fun y128=>
   bif y128.1 then
    (ass (decide ((0:Int)≤v6)&&decide (v6≤(((y128.2.map A5).drop 0).length:Int)))<|
    Option.bind (Ft3 fuel (0+Int.toNat v6) l1 y128.2) fun y129=>
    Option.bind (C4 l9 v6) fun y130=>
    Option.bind (some (l9.set (0+Int.toNat v6) (IntKind.u32.wrap (IntKind.u64.wrap (v8-1))))) fun l11=>
    cL1 (IntKind.i64.wrap (v6-1)) l11 y129)
   else
    (Option.bind (C4 l9 v6) fun y131=>
    Option.bind (some (l9.set (0+Int.toNat v6) (IntKind.u32.wrap v8))) fun l12=>
    cL1 (IntKind.i64.wrap (v6-1)) l12 y128.2))
def Y2(fuel:Nat)(l1:List Int)(y4:Int):Nat→Int→(List Int)→(List Int)→Option (List Int×List Int)
 |0,_,_,_=>none
 |nL1+1,v6,l9,l10=>
  bif decide (v6≥0) then
   (Option.bind (C4 l10 (IntKind.i64.wrap (v6+((l1.map A5).length:Int)))) fun y93=>
   Option.bind (C4 l10 (IntKind.i64.wrap ((IntKind.i64.wrap (v6+((l1.map A5).length:Int)))-1))) fun y94=>
   Option.bind (C4 l1 (IntKind.i64.wrap (((l1.map A5).length:Int)-1))) fun y95=>
   ass (decide ((IntKind.u64.wrap y95)≠0))<|
   Aq2 fuel l1 l9 l10 v6 y93 y94 (Y2 fuel l1 y4 nL1) fuel (bif decide (999999999<(IntKind.u64.wrap (Int.tdiv (IntKind.u64.wrap ((IntKind.u64.wrap ((IntKind.u64.wrap y93)*1000000000))+(IntKind.u64.wrap y94))) (IntKind.u64.wrap y95)))) then 999999999 else(IntKind.u64.wrap (Int.tdiv (IntKind.u64.wrap ((IntKind.u64.wrap ((IntKind.u64.wrap y93)*1000000000))+(IntKind.u64.wrap y94))) (IntKind.u64.wrap y95)))))
  else
   (Option.bind (slc l10 0 ((l1.map A5).length:Int)) fun l13=>
   Option.bind (Bf5 fuel false l13) fun y136=>
   Option.bind (Fp6 fuel y136.mag (IntKind.u32.wrap (IntKind.u64.wrap (Int.tdiv 1000000000 (IntKind.u64.wrap ((IntKind.u64.wrap y4)+1)))))) fun y137=>
   some (l9,y137.1))
def Eo2(fuel:Nat)(d0:List Int)(d1:List Int):Option (List Int×List Int):=
 Option.bind (Dg8 fuel d0 d1) fun y1=>
 bif decide (y1<0) then
  (some ([],d0))
 else
  (bif ((d1.map A5).length:Int)==1 then
   (Option.bind (C4 d1 0) fun y2=>
   Option.bind (Fp6 fuel d0 y2) fun y3=>
   some (y3.1,[y3.2]))
  else
   (Option.bind (C4 d1 (IntKind.i64.wrap (((d1.map A5).length:Int)-1))) fun y4=>
   ass (decide ((IntKind.u64.wrap ((IntKind.u64.wrap y4)+1))≠0))<|
   Option.bind (Fa6 fuel d0 (IntKind.u32.wrap (IntKind.u64.wrap (Int.tdiv 1000000000 (IntKind.u64.wrap ((IntKind.u64.wrap y4)+1)))))) fun y5=>
   Option.bind (Di8 fuel d1 (IntKind.u32.wrap (IntKind.u64.wrap (Int.tdiv 1000000000 (IntKind.u64.wrap ((IntKind.u64.wrap y4)+1)))))) fun y6=>
   Option.bind (slc y6 0 ((d1.map A5).length:Int)) fun l1=>
   Option.bind (mkL (IntKind.i64.wrap (((y5.map A5).length:Int)-((l1.map A5).length:Int))) (IntKind.i64.wrap (((y5.map A5).length:Int)-((l1.map A5).length:Int))) 0) fun l2=>
   Y2 fuel l1 y4 fuel (IntKind.i64.wrap ((IntKind.i64.wrap (((y5.map A5).length:Int)-((l1.map A5).length:Int)))-1)) l2 y5))
noncomputable abbrev Cq3:=C1 Tryz.f178
abbrev Go0(r:List Int×List Int):=J none Tryz.prog 172 [] (H3 Tryz.prog Tryz.f178 (.tup [.l 1 r.1 A5,.l 1 r.2 A5]))
theorem Cd4{fuel:Nat}{d0:List Int}{d1:List Int}{r:List Int×List Int}(hF:Eo2 fuel d0 d1=some r):
 C3 Tryz.prog 178 [.l 1 d0 A5,.l 1 d1 A5] (.tup [.l 1 r.1 A5,.l 1 r.2 A5]):=by
 unfold Eo2 at hF
 refine cf 172 Tryz.func178 ?_
 refine jB 10 hF Ei9 Bk9 fun y1 hF=> ?_
 refine jI 2 21 hF ?_ ?_<;>intro hF
 ·cases hF
  exact jr 7
 ·refine jI 9 25 hF ?_ ?_<;>intro hF
  ·obtain⟨y2,e2,hF⟩:=bnd hF
   refine jo1 5 (gm (f:=A5) e2) ?_
   refine jB 1 hF Gb1 Di7 fun y3 hF=> ?_
   cases hF
   exact jr 14
  ·obtain⟨y4,e4,hF⟩:=bnd hF
   refine jo1 8 (gm (f:=A5) e4) ?_
   obtain⟨hb3,hF⟩:=Q0 hF
   refine jo1 3 (ck hb3) ?_
   refine jd 4 ?_
   obtain⟨y5,e5,hF⟩:=bnd hF
   refine dcr 2 [(49,2000)] Gb2 (Fa7 e5) ?_
   refine dB 2 hF Gb2 Ee8 fun y6 hF=> ?_
   obtain⟨l1,e7,hF⟩:=bnd hF
   refine do2 2 (sm (f:=A5) e7) ?_
   refine je 2 ?_
   obtain⟨l2,e8,hF⟩:=bnd hF
   refine jo2 12 (mm (f:=A5) e8) ?_
   have hL1:∀(nL1:Nat) (v6:Int) (l9:List Int) (l10:List Int),Y2 fuel l1 y4 nL1 v6 l9 l10=some r→Go0 r ⟨mkT [(8,.w (IntKind.u32.wrap (IntKind.u64.wrap (Int.tdiv 1000000000 (IntKind.u64.wrap ((IntKind.u64.wrap y4)+1)))))),(9,.suf 49 0 0),(10,.l 1 l1 A5),(11,.i ((l1.map A5).length:Int)),(12,.suf 62 0 0),(13,.i v6)],[(49,.buf 0 167 1 (l10.map A5)),(62,.buf 0 167 1 (l9.map A5))],[kL Cq3 [1,1,1,1,1,1,1,0,1,0,0],.inBlock 0,kC Cq3 [1,1,1,1,1,1,1,1]]⟩:=by
    clear hF;intro nL1
    induction nL1 with
    |zero=>intro v6 l9 l10 hF;cases hF
    |succ nL1 iL1=>
     intro v6 l9 l10 hF
     rw[Y2]at hF
     refine jI 7 69 hF ?_ ?_<;>intro hF
     ·refine jd 5 ?_
      obtain⟨y93,e99,hF⟩:=bnd hF
      refine do1 4 (gm (f:=A5) e99) ?_
      refine do1 0 (gjm (f:=A5) (gj e99)) ?_
      obtain⟨y94,e100,hF⟩:=bnd hF
      refine do1 7 (gm (f:=A5) e100) ?_
      refine do1 0 (gjm (f:=A5) (gj e100)) ?_
      refine je 3 ?_
      obtain⟨y95,e101,hF⟩:=bnd hF
      refine jo1 6 (gm (f:=A5) e101) ?_
      obtain⟨hb39,hF⟩:=Q0 hF
      refine jo1 2 (ck hb39) ?_
      have hL2:∀(nL2:Nat) (v8:Int),Aq2 fuel l1 l9 l10 v6 y93 y94 (Y2 fuel l1 y4 nL1) nL2 v8=some r→Go0 r ⟨mkT [(8,.w (IntKind.u32.wrap (IntKind.u64.wrap (Int.tdiv 1000000000 (IntKind.u64.wrap ((IntKind.u64.wrap y4)+1)))))),(9,.suf 49 0 0),(10,.l 1 l1 A5),(11,.i ((l1.map A5).length:Int)),(12,.suf 62 0 0),(13,.i v6),(14,.n (IntKind.u64.wrap ((IntKind.u64.wrap ((IntKind.u64.wrap y93)*1000000000))+(IntKind.u64.wrap y94)))),(15,.n v8)],[(49,.buf 0 167 1 (l10.map A5)),(62,.buf 0 167 1 (l9.map A5))],[kL Cq3 [1,1,1,1,1,1,1,0,1,0,0,1,0,0,1,1,0,0,0],.inBlock 2,kC Cq3 [1,1,1,1,1,1,1,0,1,0,0,1,0,0,1,1,1],.inBlock 1,kC Cq3 [1,1,1,1,1,1,1,0,1,0,0,1,1],kL Cq3 [1,1,1,1,1,1,1,0,1,0,0],.inBlock 0,kC Cq3 [1,1,1,1,1,1,1,1]]⟩:=by
       clear hF;intro nL2
       induction nL2 with
       |zero=>intro v8 hF;cases hF
       |succ nL2 iL2=>
        intro v8 hF
        rw[Aq2]at hF
        obtain⟨o9,hO,hF⟩:=bnd hF
        have hR9:Go0 r ⟨mkT [(8,.w (IntKind.u32.wrap (IntKind.u64.wrap (Int.tdiv 1000000000 (IntKind.u64.wrap ((IntKind.u64.wrap y4)+1)))))),(9,.suf 49 0 0),(10,.l 1 l1 A5),(11,.i ((l1.map A5).length:Int)),(12,.suf 62 0 0),(13,.i v6),(14,.n (IntKind.u64.wrap ((IntKind.u64.wrap ((IntKind.u64.wrap y93)*1000000000))+(IntKind.u64.wrap y94)))),(15,.n v8),(139,.b o9)],[(49,.buf 0 167 1 (l10.map A5)),(62,.buf 0 167 1 (l9.map A5))],[kC Cq3 [1,1,1,1,1,1,1,0,1,0,0,1,0,0,1,1,0,0,0,0,1],kC Cq3 [1,1,1,1,1,1,1,0,1,0,0,1,0,0,1,1,0,0,0,1],kL Cq3 [1,1,1,1,1,1,1,0,1,0,0,1,0,0,1,1,0,0,0],.inBlock 2,kC Cq3 [1,1,1,1,1,1,1,0,1,0,0,1,0,0,1,1,1],.inBlock 1,kC Cq3 [1,1,1,1,1,1,1,0,1,0,0,1,1],kL Cq3 [1,1,1,1,1,1,1,0,1,0,0],.inBlock 0,kC Cq3 [1,1,1,1,1,1,1,1]]⟩:=by
         clear hO
         refine jI 0 139 hF ?_ ?_<;>intro hF
         ·exact ja 9 (iL2 _ hF)
         ·obtain⟨hb51,hF⟩:=Q0 hF
          refine jo1 7 (ck hb51) ?_
          obtain⟨y128,e134,hF⟩:=bnd hF
          refine jcr 2 [(49,2000)] Gu0 (Fa8 e134) ?_
          refine jI 1 147 hF ?_ ?_<;>intro hF
          ·obtain⟨hb53,hF⟩:=Q0 hF
           refine jo1 10 (ck hb53) ?_
           obtain⟨y129,e135,hF⟩:=bnd hF
           refine jcr 1 [(49,2000)] Gu1 (Fa9 e135) ?_
           obtain⟨y130,e136,hF⟩:=bnd hF
           refine jo1 6 (gm (f:=A5) e136) ?_
           obtain⟨l11,e137,hF⟩:=bnd hF
           have hst:=stm (f:=A5) (z:=IntKind.u32.wrap (IntKind.u64.wrap (v8-1))) (k:=0) (xs:=[.int .u32 (IntKind.u32.wrap (IntKind.u64.wrap (v8-1)))]) (gj e136) rfl
           refine C2 0 (E9 (o:=(match(l9.map A5)[0+Int.toNat v6]? with|some old=>some ((l9.map A5).set (0+Int.toNat v6) (X6 old 0 [.int .u32 (IntKind.u32.wrap (IntKind.u64.wrap (v8-1)))]))|none=>none)) (l11.map A5) (by kernel_rfl) (by cases e137;exact hst) ?_)
           exact ja 7 (iL1 _ _ _ hF)
          ·obtain⟨y131,e138,hF⟩:=bnd hF
           refine jo1 7 (gm (f:=A5) e138) ?_
           obtain⟨l12,e139,hF⟩:=bnd hF
           have hst:=stm (f:=A5) (z:=IntKind.u32.wrap v8) (k:=0) (xs:=[.int .u32 (IntKind.u32.wrap v8)]) (gj e138) rfl
           refine C2 0 (E9 (o:=(match(l9.map A5)[0+Int.toNat v6]? with|some old=>some ((l9.map A5).set (0+Int.toNat v6) (X6 old 0 [.int .u32 (IntKind.u32.wrap v8)]))|none=>none)) (l12.map A5) (by kernel_rfl) (by cases e139;exact hst) ?_)
           exact ja 7 (iL1 _ _ _ hF)
        clear hF;rename _=some o9=>hF
        refine jd 3 ?_
        obtain⟨y132,e140,hF⟩:=bnd hF
        refine do1 4 (gm (f:=A5) e140) ?_
        obtain⟨y133,e141,hF⟩:=bnd hF
        refine do1 8 (gm (f:=A5) e141) ?_
        obtain⟨y134,e142,hF⟩:=bnd hF
        refine do1 10 (gm (f:=A5) e142) ?_
        refine do1 0 (gjm (f:=A5) (gj e142)) ?_
        refine dI 4 127 hF ?_ ?_<;>intro hF
        ·obtain⟨y135,e143,hF⟩:=bnd hF
         refine do1 5 (gm (f:=A5) e143) ?_
         refine je 6 ?_
         cases hF
         exact ja 0 hR9
        ·refine je 12 ?_
         cases hF
         exact ja 0 hR9
      exact ja 6 (hL2 _ _ hF)
     ·refine C2 3 (Dl3 9 (by kernel_rfl) (by kernel_rfl) ?_)
      obtain⟨l13,e144,hF⟩:=bnd hF
      refine jo2 3 (sm (f:=A5) e144) ?_
      refine jB 0 hF Av3 Q2 fun y136 hF=> ?_
      refine jB 2 hF Gb1 Di7 fun y137 hF=> ?_
      cases hF
      exact jr 13
   exact ja 14 (hL1 _ _ _ _ hF)
def Gn2(fuel:Nat)(d0:A3)(d1:A3):Option A3:=
 Option.bind (Gh6 fuel d1) fun y1=>
 Option.bind (En3 fuel d0 y1) fun y2=>
 some y2
theorem Ez5{fuel:Nat}{d0:A3}{d1:A3}{r:A3}(hF:Gn2 fuel d0 d1=some r):
 C3 Tryz.prog 187 [.agg [.b d0.neg,.l 1 d0.mag A5],.agg [.b d1.neg,.l 1 d1.mag A5]] (.agg [.b r.neg,.l 1 r.mag A5]):=by
 unfold Gn2 at hF
 refine cf 9 Tryz.func187 ?_
 refine jd 7 ?_
 refine dB 2 hF Ga0 Dg9 fun y1 hF=> ?_
 refine dB 0 hF Fg6 Cc4 fun y2 hF=> ?_
 refine je 1 ?_
 cases hF
 exact jr 0
def Eo0(fuel:Nat)(d0:A3)(d1:A3):Option (A3×A3):=
 Option.bind (Eo2 fuel d0.mag d1.mag) fun y1=>
 Option.bind (Bf5 fuel (!(d0.neg==d1.neg)) y1.1) fun y2=>
 Option.bind (Bf5 fuel d0.neg y1.2) fun y3=>
 Option.bind (
  Option.bind (Ec9 y3) fun y9=>
  bif y9 !=0 then
   (some (!(d0.neg==d1.neg)))
  else
   (some false)) fun o1=>
 bif o1 then
  (Option.bind (F99 fuel 1) fun y6=>
  Option.bind (Gn2 fuel y2 y6) fun y7=>
  Option.bind (En3 fuel y3 d1) fun y8=>
  some (y7,y8))
 else
  (some (y2,y3))
noncomputable abbrev Gp6:=C1 Tryz.f144
abbrev Hg5(r:A3×A3):=J none Tryz.prog 47 [] (H3 Tryz.prog Tryz.f144 (.tup [.agg [.b r.1.neg,.l 1 r.1.mag A5],.agg [.b r.2.neg,.l 1 r.2.mag A5]]))
theorem Bl0{fuel:Nat}{d0:A3}{d1:A3}{r:A3×A3}(hF:Eo0 fuel d0 d1=some r):
 C3 Tryz.prog 144 [.agg [.b d0.neg,.l 1 d0.mag A5],.agg [.b d1.neg,.l 1 d1.mag A5]] (.tup [.agg [.b r.1.neg,.l 1 r.1.mag A5],.agg [.b r.2.neg,.l 1 r.2.mag A5]]):=by
 unfold Eo0 at hF
 refine cf 47 Tryz.func144 ?_
 refine jB 13 hF Fh4 Cd4 fun y1 hF=> ?_
 refine jd 7 ?_
 refine dB 6 hF Av3 Q2 fun y2 hF=> ?_
 refine dB 3 hF Av3 Q2 fun y3 hF=> ?_
 refine je 4 ?_
 obtain⟨o1,hO,hF⟩:=bnd hF
 have hR1:Hg5 r ⟨mkT [(3,.ptr 3 0),(4,.ptr 4 0),(5,.ptr 5 0),(8,.ptr 8 0),(9,.ptr 9 0),(38,.b o1)],[(3,.box 98 [.b d1.neg,.l 1 d1.mag A5]),(4,.box 98 [.b false,.esl 1]),(5,.box 98 [.b false,.esl 1]),(8,.box 98 [.b y2.neg,.l 1 y2.mag A5]),(9,.box 98 [.b y3.neg,.l 1 y3.mag A5])],[kO Gp6 [1,1,1,0,0],kC Gp6 [1,1,1,0,1],kC Gp6 [1,1,1,1]]⟩:=by
  clear hO
  refine jI 1 38 hF ?_ ?_<;>intro hF
  ·refine jd 1 ?_
   refine dB 1 hF Fr4 Bh4 fun y6 hF=> ?_
   refine dB 0 hF Gt1 Ez5 fun y7 hF=> ?_
   refine dB 2 hF Fg6 Cc4 fun y8 hF=> ?_
   refine je 2 ?_
   refine jd 1 ?_
   refine je 4 ?_
   cases hF
   exact jr 0
  ·refine jd 3 ?_
   refine je 4 ?_
   cases hF
   exact jr 0
 clear hF;rename _=some o1=>hF
 refine jB 4 hF Ei4 Bk3 fun y9 hF=> ?_
 refine jI 2 32 hF ?_ ?_<;>intro hF
 ·cases hF
  exact ja 6 hR1
 ·cases hF
  exact ja 6 hR1
def Ab0:List (Int×Int)→Int→Option Int
 |[],v2=>
  some v2
 |y4::ys_F179_L1,v2=>
  (Ab0 ys_F179_L1) (IntKind.u64.wrap ((IntKind.u64.wrap (v2*1000000000))+(IntKind.u64.wrap y4.2)))
def Fp3(fuel:Nat)(d0:List Int):Option Int:=
 Option.bind (Fp8 d0) fun y1=>
 Option.bind (Fp9 fuel y1) fun ys1=>
 Ab0 ys1 0
noncomputable abbrev Df0:=C1 Tryz.f179
theorem Dh7{fuel:Nat}{d0:List Int}{r:Int}(hF:Fp3 fuel d0=some r):
 C3 Tryz.prog 179 [.l 1 d0 A5] (.n r):=by
 unfold Fp3 at hF
 refine Cq8 (N:=16) (b:=C1 Tryz.f179) Tryz.func179 (by kernel_rfl) rfl rfl (fun w00_ M00_=> ?_)
 obtain⟨y1,e1,hF⟩:=bnd hF
 refine jcr 13 [(7,2000)] Gb3 (Di9 e1) ?_
 refine ja 2 (S0:=[(3,.ptr 3 0),(7,.fn 254 [] [.ptr 7 0])]) (O0:=[(3,.box 39 [.n 0]),(7,.box 96 [.l 1 y1 A5])]) (T0:=[kC Df0 [1,1,0,1,0],.inBlock 0,kC Df0 [1,1,1]]) ?_
 refine Aq8 [(7,7),(3,2100)] (by kernel_rfl) (by kernel_rfl) (by kernel_rfl) (by kernel_rfl) ?_
 refine Dl1 (S0:=[(3,.ptr 2100 0),(7,.fn 254 [] [.ptr 7 0])]) (O0:=[(7,.box 96 [.l 1 y1 A5]),(2100,.box 39 [.n 0])]) (T0:=[kC Df0 [1,1,0,1,0],.inBlock 0,kC Df0 [1,1,1]]) [3,7] [7,2100] (by kernel_rfl) rfl ?_
 obtain⟨ys1,e2,hF⟩:=bnd hF
 obtain⟨G_,hG_⟩:∃G:List (List Kx.V)→List (Nat×C0)→Prop,G=(fun yv ob=>∃(yl_:List (Int×Int)) (v2:Int),yv=yl_.map U2∧ob=[(2100,.box 39 [.n v2])]∧Ab0 yl_ v2=some r):=⟨_,rfl⟩
 obtain⟨GX_,hGX_⟩:∃G:Code→List (Nat×C0)→Prop,G=(fun j ob=>False):=⟨_,rfl⟩
 refine Az9 (P:=Tryz.prog) (g:=(.tmp 7)) (ps:= #[8,9]) (asg:=(cAt Df0 [1,1,0,1,0,0])) (bo:=(cAt Df0 [1,1,0,1,0,1])) (k:=[.inBlock 0,kC Df0 [1,1,1]]) (gf:=254) (first:=[]) (cap:=[.ptr 7 0]) (xs:=[.rp [.sl 1 (y1.map A5)] 0]) (os:=[]) (S1:=[(3,.ptr 2100 0)]) (ob0:=[(2100,.box 39 [.n 0])]) [] [3] [2100] [.rp [.sl 1 (y1.map A5)] 0] (ysAll:=ys1.map U2) [2100] G_ GX_ rfl (by kernel_rfl) rfl (by kernel_rfl) rfl (by kernel_rfl) (Q6.refl _) Gb6 (Dj3 e2) (by kernel_rfl) (by kernel_rfl) (by kernel_rfl) ?_ ?_ ?_ ⟨by kernel_rfl,by kernel_rfl⟩ ?_ ?_ ?_
 ·rw[hG_];exact⟨ys1,0,rfl,by kernel_rfl,hF⟩
 ·intro yv_ ob_ h_;rw[hG_]at h_;obtain⟨_,_,_,rfl,_⟩:=h_;kernel_rfl
 ·intro j_ ob_ h_;rw[hGX_]at h_;exact h_.elim
 ·intro x_ hxa_ hxb_ hxp_ yv_ ysv_ ob_ h_;rw[hG_]at h_
  obtain⟨yl_,v2,hy_,rfl,hF⟩:=h_
  cases yl_ with
  |nil=>cases hy_
  |cons y4 ys_F179_L1=>
   cases hy_;rw[Ab0]at hF
   refine Ds7 (by kernel_rfl) ?_
   refine Dl1 (S0:=[(3,.ptr 2100 0),(8,.i y4.1),(9,.w y4.2)]) (O0:=[(3000,.raw x_.D (.deferred (some []))),(3001,.raw x_.L (.loop (F9 x_ .ready none))),(2100,.box 39 [.n v2])]) (T0:=[kC Df0 [1,1,0,1,0,0],.begR x_.L,kC Df0 [1,1,0,1,0,1]]) [3,8,9] [3000,3001,2100] (by kernel_rfl) rfl ?_
   refine ja 3 (S0:=[(3,.ptr 2100 0),(5,.w y4.2),(8,.i y4.1),(9,.w y4.2)]) (O0:=[(3000,.raw x_.D (.deferred (some []))),(3001,.raw x_.L (.loop (F9 x_ .ready none))),(2100,.box 39 [.n v2])]) (T0:=[.begR x_.L,kC Df0 [1,1,0,1,0,1]]) ?_
   refine Bt1 (l:=x_.L) (q:=3001) (k:=[kC Df0 [1,1,0,1,0,1]]) (rec:=F9 x_ .ready none) rfl rfl rfl ?_
   refine ja 10 (S0:=[]) (O0:=rob x_ .busy none [(2100,.box 39 [.n (IntKind.u64.wrap ((IntKind.u64.wrap (v2*1000000000))+(IntKind.u64.wrap y4.2)))])]) (T0:=[]) ?_
   exact Bt2 rfl [(2100,.box 39 [.n (IntKind.u64.wrap ((IntKind.u64.wrap (v2*1000000000))+(IntKind.u64.wrap y4.2)))])] rfl rfl (by kernel_rfl) (by rw[hG_];exact⟨ys_F179_L1,IntKind.u64.wrap ((IntKind.u64.wrap (v2*1000000000))+(IntKind.u64.wrap y4.2)),rfl,rfl,hF⟩)
 ·intro D_ ob_ h_;rw[hG_]at h_
  obtain⟨yl_,v2,hy_,rfl,hF⟩:=h_
  cases yl_ with
  |cons _ _=>cases hy_
  |nil=>
   clear hy_;rw[Ab0]at hF
   refine Ep5 [(2100,3)] (by kernel_rfl) (by kernel_rfl) (by kernel_rfl) ?_
   refine ja 0 (S0:=[(3,.ptr 3 0)]) (O0:=[(3,.box 39 [.n v2])]) (T0:=[.inBlock 0,kC Df0 [1,1,1]]) ?_
   have hF:=oi hF;subst hF
   exact C2 6 (Ep6 (xs:=[.n v2]) [.n v2] rfl rfl (by kernel_rfl) (Q6.refl _) rfl (by kernel_rfl))
 ·intro D_ ob_ j_ h_;rw[hGX_]at h_
  exact h_.elim
def Aa8:Nat→Int→(List Int)→Option A3
 |0,_,_=>none
 |nL3+1,v6,l8=>
  bif decide (v6>0) then
   (Option.bind (app l8 [IntKind.u32.wrap (Int.tmod v6 1000000000)]) fun l9=>
   (Aa8 nL3) (IntKind.u64.wrap (Int.tdiv v6 1000000000)) l9)
  else
   (some (⟨false,l8⟩:A3))
def Ap8(fuel:Nat):Nat→Int→Int→Option A3
 |0,_,_=>none
 |nL2+1,v3,v4=>
  bif decide (v4>0) then
   (ass (decide (v4≠0))<|
   (Ap8 fuel nL2) v4 (Int.tmod v3 v4))
  else
   (Aa8 fuel v3 [])
def Ai1(fuel:Nat):Nat→(List Int)→(List Int)→Option A3
 |0,_,_=>none
 |nL1+1,l3,l4=>
  bif decide (((l4.map A5).length:Int)>2) then
   (Option.bind (Eo2 fuel l3 l4) fun y5=>
   Option.bind (Bf5 fuel false y5.2) fun y6=>
   (Ai1 fuel nL1) l4 y6.mag)
  else
   (bif ((l4.map A5).length:Int)==0 then
    (Option.bind (Bf5 fuel false l3) fun y7=>
    some y7)
   else
    (Option.bind (Eo2 fuel l3 l4) fun y8=>
    Option.bind (Fp3 fuel l4) fun y9=>
    Option.bind (Bf5 fuel false y8.2) fun y10=>
    Option.bind (Fp3 fuel y10.mag) fun y11=>
    Ap8 fuel fuel y9 y11))
def Ex8(fuel:Nat)(d0:A3)(d1:A3):Option A3:=
 Ai1 fuel fuel d0.mag d1.mag
noncomputable abbrev Fq7:=C1 Tryz.f135
abbrev Gn7(r:A3):=J none Tryz.prog 68 [] (H3 Tryz.prog Tryz.f135 (.agg [.b r.neg,.l 1 r.mag A5]))
theorem Cc8{fuel:Nat}{d0:A3}{d1:A3}{r:A3}(hF:Ex8 fuel d0 d1=some r):
 C3 Tryz.prog 135 [.agg [.b d0.neg,.l 1 d0.mag A5],.agg [.b d1.neg,.l 1 d1.mag A5]] (.agg [.b r.neg,.l 1 r.mag A5]):=by
 unfold Ex8 at hF
 refine cf 68 Tryz.func135 ?_
 refine jd 7 ?_
 refine je 6 ?_
 have hL1:∀(nL1:Nat) (l3:List Int) (l4:List Int),Ai1 fuel nL1 l3 l4=some r→Gn7 r ⟨mkT [(4,.ptr 4 0),(5,.l 1 l3 A5),(6,.l 1 l4 A5)],[(4,.box 98 [.b false,.esl 1])],[kL Fq7 [1,1,0,0,0],.inBlock 0,kC Fq7 [1,1,1]]⟩:=by
  clear hF;intro nL1
  induction nL1 with
  |zero=>intro l3 l4 hF;cases hF
  |succ nL1 iL1=>
   intro l3 l4 hF
   rw[Ai1]at hF
   refine jI 8 20 hF ?_ ?_<;>intro hF
   ·refine jB 7 hF Fh4 Cd4 fun y5 hF=> ?_
    refine jB 9 hF Av3 Q2 fun y6 hF=> ?_
    exact ja 5 (iL1 _ _ hF)
   ·refine jI 9 33 hF ?_ ?_<;>intro hF
    ·refine jB 4 hF Av3 Q2 fun y7 hF=> ?_
     cases hF
     exact jr 2
    ·refine jB 6 hF Fh4 Cd4 fun y8 hF=> ?_
     refine jB 9 hF Ga5 Dh7 fun y9 hF=> ?_
     refine jB 1 hF Av3 Q2 fun y10 hF=> ?_
     refine jB 1 hF Ga5 Dh7 fun y11 hF=> ?_
     have hL2:∀(nL2:Nat) (v3:Int) (v4:Int),Ap8 fuel nL2 v3 v4=some r→Gn7 r ⟨mkT [(4,.ptr 4 0),(11,.n v3),(12,.n v4)],[(4,.box 98 [.b false,.esl 1])],[kL Fq7 [1,1,1,1,1,1,0,0,0],.inBlock 2,kC Fq7 [1,1,1,1,1,1,1]]⟩:=by
      clear hF;intro nL2
      induction nL2 with
      |zero=>intro v3 v4 hF;cases hF
      |succ nL2 iL2=>
       intro v3 v4 hF
       rw[Ap8]at hF
       refine jI 7 49 hF ?_ ?_<;>intro hF
       ·refine jd 3 ?_
        obtain⟨hb10,hF⟩:=Q0 hF
        refine do1 3 (ck hb10) ?_
        refine je 2 ?_
        exact ja 1 (iL2 _ _ hF)
       ·have hL3:∀(nL3:Nat) (v6:Int) (l8:List Int),Aa8 nL3 v6 l8=some r→Gn7 r ⟨mkT [(4,.ptr 4 0),(11,.n v6),(13,.ptr 13 0)],[(4,.box 98 [.b false,.esl 1]),(13,.box 98 [.b false,.suf 65 0 0]),(65,.buf 0 167 1 (l8.map A5))],[kL Fq7 [1,1,1,1,1,1,1,1,0,0,0],.inBlock 4,kC Fq7 [1,1,1,1,1,1,1,1,1]]⟩:=by
         clear hF;intro nL3
         induction nL3 with
         |zero=>intro v6 l8 hF;cases hF
         |succ nL3 iL3=>
          intro v6 l8 hF
          rw[Aa8]at hF
          refine jI 7 56 hF ?_ ?_<;>intro hF
          ·obtain⟨l9,e14,hF⟩:=bnd hF
           refine jo2 11 (am (f:=A5) e14) ?_
           exact ja 9 (iL3 _ _ hF)
          ·cases hF
           exact jr 7
        refine C2 11 (Bh8 (n:=1) 13 1 65 167 1 (by kernel_rfl) (by kernel_rfl) ?_)
        exact ja 0 (hL3 _ _ _ hF)
     exact ja 6 (hL2 _ _ _ hF)
 exact ja 3 (hL1 _ _ _ hF)
def Ft4(d0:List UInt8)(d1:List UInt8):Option Bool:=
 Option.bind (
  bif decide ((d0.length:Int)≥(d1.length:Int)) then
   (ass (decide (0≤0)&&decide (0≤(d1.length:Int))&&decide ((d1.length:Int)≤d0.length))<|
   some (((d0.drop (Int.toNat 0)).take (Int.toNat ((d1.length:Int)-0)))==d1))
  else
   (some false)) fun o1=>
 some o1
noncomputable abbrev Hb5:=C1 Tryz.f226
abbrev Hh6(r:Bool):=J none Tryz.prog 18 [] (H3 Tryz.prog Tryz.f226 (.b r))
theorem Fb0{d0:List UInt8}{d1:List UInt8}{r:Bool}(hF:Ft4 d0 d1=some r):
 C3 Tryz.prog 226 [.s d0,.s d1] (.b r):=by
 unfold Ft4 at hF
 refine cf 18 Tryz.func226 ?_
 obtain⟨o1,hO,hF⟩:=bnd hF
 have hR1:Hh6 r ⟨mkT [(4,.b o1)],[],[kO Hb5 [1,0],kC Hb5 [1,1]]⟩:=by
  clear hO
  cases hF
  exact jr 1
 clear hF;rename _=some o1=>hF
 refine jI 12 10 hF ?_ ?_<;>intro hF
 ·obtain⟨hb6,hF⟩:=Q0 hF
  refine jo1 3 (ck hb6) ?_
  cases hF
  exact ja 4 hR1
 ·cases hF
  exact ja 8 hR1
def Gi1(d0:List UInt8)(d1:List UInt8):Option (List UInt8):=
 Option.bind (Ft4 d0 d1) fun y1=>
 bif y1 then
  (ass (decide (0≤(d1.length:Int))&&decide ((d1.length:Int)≤(d0.length:Int))&&decide ((d0.length:Int)≤d0.length))<|
  some ((d0.drop (Int.toNat (d1.length:Int))).take (Int.toNat ((d0.length:Int)-(d1.length:Int)))))
 else
  (some d0)
theorem Ez2{d0:List UInt8}{d1:List UInt8}{r:List UInt8}(hF:Gi1 d0 d1=some r):
 C3 Tryz.prog 182 [.s d0,.s d1] (.s r):=by
 unfold Gi1 at hF
 refine cf 13 Tryz.func182 ?_
 refine jB 9 hF Gu2 Fb0 fun y1 hF=> ?_
 refine jI 1 7 hF ?_ ?_<;>intro hF
 ·obtain⟨hb2,hF⟩:=Q0 hF
  refine jo1 6 (ck hb2) ?_
  cases hF
  exact jr 2
 ·cases hF
  exact jr 7
def Ex9(d0:List UInt8)(d1:List UInt8):Option (List UInt8):=
 Option.bind (Gi1 d0 d1) fun y1=>
 some y1
theorem Dg6{d0:List UInt8}{d1:List UInt8}{r:List UInt8}(hF:Ex9 d0 d1=some r):
 C3 Tryz.prog 138 [.s d0,.s d1] (.s r):=by
 unfold Ex9 at hF
 refine cf 8 Tryz.func138 ?_
 refine jB 8 hF Gs8 Ez2 fun y1 hF=> ?_
 cases hF
 exact jr 2
def K4(x:Int):List Dat:=[.int .u8 x]
def Ft5(d0:Int):Option Int:=
 some (IntKind.u8.wrap (BitVec.ofInt IntKind.u8.bits d0|||BitVec.ofInt IntKind.u8.bits 32).toNat)
theorem Cd9{d0:Int}{r:Int}(hF:Ft5 d0=some r):
 C3 Tryz.prog 227 [.y d0] (.y r):=by
 unfold Ft5 at hF
 refine cf 5 Tryz.func227 ?_
 cases hF
 exact jr 10
def Ay2(v7:Int)(v8:Int)(cL1:Int→Int→Option (Int×Bool))(v10:Int):Option (Int×Bool):=
 bif decide (v10≥(IntKind.u8.wrap 10)) then
  (some (0,true))
 else
  (bif decide (v7≥1844674407370955162) then
   (some (IntKind.u64.wrap ((IntKind.u64.wrap (1*2^(min (Int.toNat (IntKind.u64.wrap 32)) IntKind.u64.bits)))-1),true))
  else
   (Option.bind (
    bif decide ((IntKind.u64.wrap ((IntKind.u64.wrap (v7*(IntKind.u64.wrap 10)))+(IntKind.u64.wrap v10)))<(IntKind.u64.wrap (v7*(IntKind.u64.wrap 10)))) then
     (some true)
    else
     (some (decide ((IntKind.u64.wrap ((IntKind.u64.wrap (v7*(IntKind.u64.wrap 10)))+(IntKind.u64.wrap v10)))>(IntKind.u64.wrap ((IntKind.u64.wrap (1*2^(min (Int.toNat (IntKind.u64.wrap 32)) IntKind.u64.bits)))-1)))))) fun o39=>
   bif o39 then
    (some (IntKind.u64.wrap ((IntKind.u64.wrap (1*2^(min (Int.toNat (IntKind.u64.wrap 32)) IntKind.u64.bits)))-1),true))
   else
    (cL1 (IntKind.u64.wrap ((IntKind.u64.wrap (v7*(IntKind.u64.wrap 10)))+(IntKind.u64.wrap v10))) (IntKind.i64.wrap (v8+1)))))
def Y3(d0:List UInt8):Nat→Int→Int→Option (Int×Bool)
 |0,_,_=>none
 |nL1+1,v7,v8=>
  bif decide (v8<(((d0.map toI).map K4).length:Int)) then
   (Option.bind (C4 (d0.map toI) v8) fun y76=>
   Option.bind (
    bif y76==95 then
     (some ())
    else
     (some ())) fun o40=>
   Option.bind (
    bif decide (48≤y76) then
     (some (decide (y76≤57)))
    else
     (some false)) fun o41=>
   bif o41 then
    (Ay2 v7 v8 (Y3 d0 nL1) (IntKind.u8.wrap (y76-48)))
   else
    (Option.bind (
     Option.bind (Ft5 y76) fun y89=>
     bif decide (97≤y89) then
      (Option.bind (Ft5 y76) fun y90=>
      some (decide (y90≤122)))
     else
      (some false)) fun o42=>
    bif o42 then
     (Option.bind (Ft5 y76) fun y88=>
     Ay2 v7 v8 (Y3 d0 nL1) (IntKind.u8.wrap ((IntKind.u8.wrap (y88-97))+10)))
    else
     (some (0,true))))
  else
   (some (v7,false))
def Gi2(fuel:Nat)(d0:List UInt8):Option (Int×Bool):=
 bif d0==[] then
  (some (0,true))
 else
  (ass (decide (0≤(IntKind.u64.wrap 32)))<|
  Y3 d0 fuel 0 0)
noncomputable abbrev Ak5:=C1 Tryz.f183
abbrev Fq1(r:Int×Bool):=J none Tryz.prog 172 [] (H3 Tryz.prog Tryz.f183 (.tup [.n r.1,.d (.ife r.2)]))
theorem Ez3{fuel:Nat}{d0:List UInt8}{r:Int×Bool}(hF:Gi2 fuel d0=some r):
 C3 Tryz.prog 183 [.s d0,.i 10,.i 32] (.tup [.n r.1,.d (.ife r.2)]):=by
 unfold Gi2 at hF
 refine cf 172 Tryz.func183 ?_
 refine jI 11 19 hF ?_ ?_<;>intro hF
 ·cases hF
  exact jr 7
 ·obtain⟨hb2,hF⟩:=Q0 hF
  refine jo1 70 (ck hb2) ?_
  refine C2 15 (E9 (o:=some (d0.map Al5)) ((d0.map toI).map K4) (by kernel_rfl) (bym (f:=K4) (fun _=>rfl)) ?_)
  have hL1:∀(nL1:Nat) (v7:Int) (v8:Int),Y3 d0 nL1 v7 v8=some r→Fq1 r ⟨mkT [(1,.i 10),(8,.b false),(9,.s d0),(10,.n 1844674407370955162),(11,.n (IntKind.u64.wrap ((IntKind.u64.wrap (1*2^(min (Int.toNat (IntKind.u64.wrap 32)) IntKind.u64.bits)))-1))),(12,.b false),(13,.n v7),(99,.l 1 (d0.map toI) K4),(100,.i (((d0.map toI).map K4).length:Int)),(101,.i v8)],[],[kL Ak5 [1,1,1,1,1,1,1,1,1,1,1,0,1,0,0],.inBlock 3,kC Ak5 [1,1,1,1,1,1,1,1,1,1,1,1]]⟩:=by
   clear hF;intro nL1
   induction nL1 with
   |zero=>intro v7 v8 hF;cases hF
   |succ nL1 iL1=>
    intro v7 v8 hF
    rw[Y3]at hF
    refine jI 6 102 hF ?_ ?_<;>intro hF
    ·obtain⟨y76,e76,hF⟩:=bnd hF
     refine jo1 6 (gm (f:=K4) e76) ?_
     have hA2:∀(v10:Int),Ay2 v7 v8 (Y3 d0 nL1) v10=some r→Fq1 r ⟨mkT [(1,.i 10),(8,.b false),(9,.s d0),(10,.n 1844674407370955162),(11,.n (IntKind.u64.wrap ((IntKind.u64.wrap (1*2^(min (Int.toNat (IntKind.u64.wrap 32)) IntKind.u64.bits)))-1))),(12,.b false),(13,.n v7),(16,.y v10),(99,.l 1 (d0.map toI) K4),(100,.i (((d0.map toI).map K4).length:Int)),(101,.i v8)],[],[kC Ak5 [1,1,1,1,1,1,1,1,1,1,1,0,1,0,0,1,1,0,0,1,1,1],.inBlock 4,kC Ak5 [1,1,1,1,1,1,1,1,1,1,1,0,1,0,0,1,1,1],kL Ak5 [1,1,1,1,1,1,1,1,1,1,1,0,1,0,0],.inBlock 3,kC Ak5 [1,1,1,1,1,1,1,1,1,1,1,1]]⟩:=by
      intro v10 hF
      unfold Ay2 at hF
      refine jI 8 137 hF ?_ ?_<;>intro hF
      ·cases hF
       exact jr 7
      ·refine jI 9 141 hF ?_ ?_<;>intro hF
       ·cases hF
        exact jr 8
       ·obtain⟨o39,hO,hF⟩:=bnd hF
        have hR39:Fq1 r ⟨mkT [(1,.i 10),(8,.b false),(9,.s d0),(10,.n 1844674407370955162),(11,.n (IntKind.u64.wrap ((IntKind.u64.wrap (1*2^(min (Int.toNat (IntKind.u64.wrap 32)) IntKind.u64.bits)))-1))),(12,.b false),(17,.n (IntKind.u64.wrap ((IntKind.u64.wrap (v7*(IntKind.u64.wrap 10)))+(IntKind.u64.wrap v10)))),(99,.l 1 (d0.map toI) K4),(100,.i (((d0.map toI).map K4).length:Int)),(101,.i v8),(159,.b o39)],[],[kO Ak5 [1,1,1,1,1,1,1,1,1,1,1,0,1,0,0,1,1,0,0,1,1,1,1,1,1,1,0,0],kC Ak5 [1,1,1,1,1,1,1,1,1,1,1,0,1,0,0,1,1,0,0,1,1,1,1,1,1,1,0,1],kC Ak5 [1,1,1,1,1,1,1,1,1,1,1,0,1,0,0,1,1,0,0,1,1,1,1,1,1,1,1],.inBlock 4,kC Ak5 [1,1,1,1,1,1,1,1,1,1,1,0,1,0,0,1,1,1],kL Ak5 [1,1,1,1,1,1,1,1,1,1,1,0,1,0,0],.inBlock 3,kC Ak5 [1,1,1,1,1,1,1,1,1,1,1,1]]⟩:=by
         clear hO
         refine jI 1 159 hF ?_ ?_<;>intro hF
         ·cases hF
          exact jr 8
         ·exact ja 11 (iL1 _ _ hF)
        clear hF;rename _=some o39=>hF
        refine jI 25 155 hF ?_ ?_<;>intro hF
        ·cases hF
         exact ja 4 hR39
        ·cases hF
         exact ja 4 hR39
     obtain⟨o40,hO,hF⟩:=bnd hF
     have hR40:Fq1 r ⟨mkT [(1,.i 10),(8,.b false),(9,.s d0),(10,.n 1844674407370955162),(11,.n (IntKind.u64.wrap ((IntKind.u64.wrap (1*2^(min (Int.toNat (IntKind.u64.wrap 32)) IntKind.u64.bits)))-1))),(12,.b false),(13,.n v7),(15,.y y76),(99,.l 1 (d0.map toI) K4),(100,.i (((d0.map toI).map K4).length:Int)),(101,.i v8),(106,.b false)],[],[kO Ak5 [1,1,1,1,1,1,1,1,1,1,1,0,1,0,0,1,1,0,0,1,1,0,0,0],kC Ak5 [1,1,1,1,1,1,1,1,1,1,1,0,1,0,0,1,1,0,0,1,1,0,0,1],.inBlock 5,kC Ak5 [1,1,1,1,1,1,1,1,1,1,1,0,1,0,0,1,1,0,0,1,1,1],.inBlock 4,kC Ak5 [1,1,1,1,1,1,1,1,1,1,1,0,1,0,0,1,1,1],kL Ak5 [1,1,1,1,1,1,1,1,1,1,1,0,1,0,0],.inBlock 3,kC Ak5 [1,1,1,1,1,1,1,1,1,1,1,1]]⟩:=by
      clear hO
      obtain⟨o41,hO,hF⟩:=bnd hF
      have hR41:Fq1 r ⟨mkT [(1,.i 10),(8,.b false),(9,.s d0),(10,.n 1844674407370955162),(11,.n (IntKind.u64.wrap ((IntKind.u64.wrap (1*2^(min (Int.toNat (IntKind.u64.wrap 32)) IntKind.u64.bits)))-1))),(12,.b false),(13,.n v7),(15,.y y76),(99,.l 1 (d0.map toI) K4),(100,.i (((d0.map toI).map K4).length:Int)),(101,.i v8),(112,.b o41)],[],[kO Ak5 [1,1,1,1,1,1,1,1,1,1,1,0,1,0,0,1,1,0,0,1,1,0,0,1,1,0],kC Ak5 [1,1,1,1,1,1,1,1,1,1,1,0,1,0,0,1,1,0,0,1,1,0,0,1,1,1],.inBlock 5,kC Ak5 [1,1,1,1,1,1,1,1,1,1,1,0,1,0,0,1,1,0,0,1,1,1],.inBlock 4,kC Ak5 [1,1,1,1,1,1,1,1,1,1,1,0,1,0,0,1,1,1],kL Ak5 [1,1,1,1,1,1,1,1,1,1,1,0,1,0,0],.inBlock 3,kC Ak5 [1,1,1,1,1,1,1,1,1,1,1,1]]⟩:=by
       clear hO
       refine jI 1 112 hF ?_ ?_<;>intro hF
       ·exact ja 7 (hA2 _ hF)
       ·obtain⟨o42,hO,hF⟩:=bnd hF
        have hR42:Fq1 r ⟨mkT [(1,.i 10),(8,.b false),(9,.s d0),(10,.n 1844674407370955162),(11,.n (IntKind.u64.wrap ((IntKind.u64.wrap (1*2^(min (Int.toNat (IntKind.u64.wrap 32)) IntKind.u64.bits)))-1))),(12,.b false),(13,.n v7),(15,.y y76),(99,.l 1 (d0.map toI) K4),(100,.i (((d0.map toI).map K4).length:Int)),(101,.i v8),(121,.b o42)],[],[kO Ak5 [1,1,1,1,1,1,1,1,1,1,1,0,1,0,0,1,1,0,0,1,1,0,0,1,1,1,1,0],kC Ak5 [1,1,1,1,1,1,1,1,1,1,1,0,1,0,0,1,1,0,0,1,1,0,0,1,1,1,1,1],.inBlock 5,kC Ak5 [1,1,1,1,1,1,1,1,1,1,1,0,1,0,0,1,1,0,0,1,1,1],.inBlock 4,kC Ak5 [1,1,1,1,1,1,1,1,1,1,1,0,1,0,0,1,1,1],kL Ak5 [1,1,1,1,1,1,1,1,1,1,1,0,1,0,0],.inBlock 3,kC Ak5 [1,1,1,1,1,1,1,1,1,1,1,1]]⟩:=by
         clear hO
         refine jI 1 121 hF ?_ ?_<;>intro hF
         ·refine jB 3 hF Fh8 Cd9 fun y88 hF=> ?_
          exact ja 5 (hA2 _ hF)
         ·cases hF
          exact jr 7
        clear hF;rename _=some o42=>hF
        refine jB 4 hF Fh8 Cd9 fun y89 hF=> ?_
        refine jI 2 125 hF ?_ ?_<;>intro hF
        ·refine jB 1 hF Fh8 Cd9 fun y90 hF=> ?_
         cases hF
         exact ja 3 hR42
        ·cases hF
         exact ja 5 hR42
      clear hF;rename _=some o41=>hF
      refine jI 7 115 hF ?_ ?_<;>intro hF
      ·cases hF
       exact ja 4 hR41
      ·cases hF
       exact ja 4 hR41
     clear hF;rename _=some o40=>hF
     refine jI 14 109 hF ?_ ?_<;>intro hF
     ·cases hF
      exact ja 3 hR40
     ·cases hF
      exact ja 3 hR40
    ·cases hF
     exact jr 20
  exact ja 5 (hL1 _ _ _ hF)
def Fs2(fuel:Nat)(d0:List UInt8):Option (Int×Bool):=
 Option.bind (Gi2 fuel d0) fun y1=>
 bif !!y1.2 then
  (none)
 else
  (some (y1.1,false))
theorem Ey0{fuel:Nat}{d0:List UInt8}{r:Int×Bool}(hF:Fs2 fuel d0=some r):
 C3 Tryz.prog 139 [.s d0,.i 10,.i 32] (.tup [.n r.1,.d (.ife r.2)]):=by
 unfold Fs2 at hF
 refine cf 26 Tryz.func139 ?_
 refine jB 10 hF Gs9 Ez3 fun y1 hF=> ?_
 refine jI 12 18 hF ?_ ?_<;>intro hF
 ·cases hF
 ·cases hF
  exact jr 8
def At8(fuel:Nat)(d0:List UInt8)(y1:List UInt8):Nat→Int→(List Int)→Option A3
 |0,_,_=>none
 |nL1+1,v2,l4=>
  bif decide (v2>0) then
   (ass (decide (0≤(bif decide ((IntKind.i64.wrap (v2-9))>0) then(IntKind.i64.wrap (v2-9)) else 0))&&decide ((bif decide ((IntKind.i64.wrap (v2-9))>0) then(IntKind.i64.wrap (v2-9)) else 0)≤v2)&&decide (v2≤y1.length))<|
   Option.bind (Fs2 fuel ((y1.drop (Int.toNat (bif decide ((IntKind.i64.wrap (v2-9))>0) then(IntKind.i64.wrap (v2-9)) else 0))).take (Int.toNat (v2-(bif decide ((IntKind.i64.wrap (v2-9))>0) then(IntKind.i64.wrap (v2-9)) else 0))))) fun y4=>
   Option.bind (app l4 [IntKind.u32.wrap y4.1]) fun l5=>
   (At8 fuel d0 y1 nL1) (IntKind.i64.wrap (v2-9)) l5)
  else
   (Option.bind (Bf5 fuel (decide ((y1.length:Int)<(d0.length:Int))) l4) fun y5=>
   some y5)
def F98(fuel:Nat)(d0:List UInt8):Option A3:=
 Option.bind (Ex9 d0 [45]) fun y1=>
 At8 fuel d0 y1 fuel (y1.length:Int) []
noncomputable abbrev b98:=C1 Tryz.f98
abbrev G98(r:A3):=J none Tryz.prog 44 [] (H3 Tryz.prog Tryz.f98 (.agg [.b r.neg,.l 1 r.mag A5]))
theorem Dk6{fuel:Nat}{d0:List UInt8}{r:A3}(hF:F98 fuel d0=some r):
 C3 Tryz.prog 98 [.s d0] (.agg [.b r.neg,.l 1 r.mag A5]):=by
 unfold F98 at hF
 refine cf 44 Tryz.func98 ?_
 refine jB 7 hF Fz8 Dg6 fun y1 hF=> ?_
 have hL1:∀(nL1:Nat) (v2:Int) (l4:List Int),At8 fuel d0 y1 nL1 v2 l4=some r→G98 r ⟨mkT [(2,.ptr 2 0),(3,.s y1),(4,.ptr 4 0),(5,.i v2)],[(2,.box 98 [.b false,.esl 1]),(4,.box 98 [.b (decide ((y1.length:Int)<(d0.length:Int))),.suf 37 0 0]),(37,.buf 0 167 1 (l4.map A5))],[kL b98 [1,1,1,0,1,0,0],.inBlock 0,kC b98 [1,1,1,1]]⟩:=by
  clear hF;intro nL1
  induction nL1 with
  |zero=>intro v2 l4 hF;cases hF
  |succ nL1 iL1=>
   intro v2 l4 hF
   rw[At8]at hF
   refine jI 7 19 hF ?_ ?_<;>intro hF
   ·obtain⟨hb6,hF⟩:=Q0 hF
    refine jo1 11 (ck hb6) ?_
    refine jB 0 hF Gr5 Ey0 fun y4 hF=> ?_
    obtain⟨l5,e7,hF⟩:=bnd hF
    refine jo2 12 (am (f:=A5) e7) ?_
    exact ja 9 (iL1 _ _ hF)
   ·refine jB 8 hF Av3 Q2 fun y5 hF=> ?_
    cases hF
    exact jr 2
 refine C2 22 (Bh8 (n:=1) 4 1 37 167 1 (by kernel_rfl) (by kernel_rfl) ?_)
 exact ja 0 (hL1 _ _ _ hF)
def Fp5:Option Unit:=
 some ()
theorem Di2{r:Unit}(hF:Fp5=some r):
 K5 Tryz.prog 194 [(2000,.box 224 [.d .nilp,.esl 1])] [.ptr 2000 0] [(2000,.box 224 [.ptr 2000 0,.esl 1])] (.tup []):=by
 unfold Fp5 at hF
 refine cr 20 Tryz.func194 ?_
 refine C2 13 (Fc4 (xs:=[.ptr 2000 0]) (.ptr 2000 0) (by kernel_rfl) (Bg0 Tryz.func239 (by kernel_rfl) (by kernel_rfl) (by kernel_rfl) rfl _) ?_)
 cases hF
 exact jrr 5
def Gi0(d0:Int):Option (Bool×List Int):=
 Option.bind (Fp5) fun y1=>
 Option.bind (app [] [d0]) fun l1=>
 some (false,l1)
noncomputable abbrev Hi4:=C1 Tryz.f159
theorem Ey6{d0:Int}{r:Bool×List Int}(hF:Gi0 d0=some r):
 K5 Tryz.prog 159 [(2000,.box 224 [.d .nilp,.esl 1])] [.ptr 2000 0,.y d0] [(2000,.box 224 [.ptr 2000 0,.suf 2001 0 0]),(2001,.buf 0 5 1 (r.2.map K4))] (.d (.ife r.1)):=by
 unfold Gi0 at hF
 refine cr 17 Tryz.func159 ?_
 obtain⟨y1,e1,hF⟩:=bnd hF
 refine jcr 7 [(2000,2000)] Fh5 (Di2 e1) ?_
 obtain⟨l1,e2,hF⟩:=bnd hF
 refine jo2 10 (am (f:=K4) e2) ?_
 refine ja 8 (S0:=[(4,.d (.ife false))]) (O0:=[(14,.buf 0 5 1 (l1.map K4)),(2000,.box 224 [.ptr 2000 0,.suf 14 0 0])]) (T0:=[kC Hi4 [1,1,1,1]]) ?_
 refine C2 0 (Aq8 [(2000,2000),(14,2001)] (by kernel_rfl) (by kernel_rfl) (by kernel_rfl) (by kernel_rfl) ?_)
 cases hF
 exact jrr 0
def En4(d0:Int):Option (List UInt8):=Cj7 d0
theorem Ap4{d0:Int}{r:List UInt8}(hF:En4 d0=some r):C3 Tryz.prog 110 [.d (.int .i64 d0)] (.d (.str r)):=Dc8 (gn:=3) (by kernel_rfl) (by kernel_rfl) Tryz.strconv_Itoa hF
def Ee3(d0:List Int):Option Unit:=
 some ()
theorem Ee4{d0:List Int}{r:Unit}(hF:Ee3 d0=some r):
 K5 Tryz.prog 194 [(2000,.box 224 [.ptr 2000 0,.suf 2001 0 0]),(2001,.buf 0 5 1 (d0.map K4))] [.ptr 2000 0] [(2000,.box 224 [.ptr 2000 0,.suf 2001 0 0]),(2001,.buf 0 5 1 (d0.map K4))] (.tup []):=by
 unfold Ee3 at hF
 refine cr 20 Tryz.func194 ?_
 cases hF
 exact jrr 20
def Cn1(d0:List UInt8)(d1:List Int):Option (Int×Bool×List Int):=
 Option.bind (Ee3 d1) fun y1=>
 Option.bind (app d1 (d0.map toI)) fun l1=>
 some ((d0.length:Int),false,l1)
theorem V5{d0:List UInt8}{d1:List Int}{r:Int×Bool×List Int}(hF:Cn1 d0 d1=some r):
 K5 Tryz.prog 160 [(2000,.box 224 [.ptr 2000 0,.suf 2001 0 0]),(2001,.buf 0 5 1 (d1.map K4))] [.ptr 2000 0,.s d0] [(2000,.box 224 [.ptr 2000 0,.suf 2001 1 0]),(2001,.buf 1 5 1 (r.2.2.map K4))] (.tup [.i r.1,.d (.ife r.2.1)]):=by
 unfold Cn1 at hF
 refine cr 19 Tryz.func160 ?_
 obtain⟨y1,e1,hF⟩:=bnd hF
 refine jcr 8 [(2000,2000),(2001,2001)] Fh5 (Ee4 e1) ?_
 obtain⟨l1,e2,hF⟩:=bnd hF
 refine C2 9 (E9 (o:=Gj7 ((d1.map K4).drop 0) (d0.map Al5)) (l1.map K4) (by kernel_rfl) (ams (f:=K4) (fun _=>rfl) e2) ?_)
 cases hF
 exact jrr 11
def Ey7(d0:List Int):Option (List UInt8):=
 ass (decide (0<(d0.map K4).length))<|
 Option.bind (Gg8 d0 0 ((d0.map K4).length:Int)) fun x1=>
 some x1
theorem Cd2{d0:List Int}{r:List UInt8}(hF:Ey7 d0=some r):
 K5 Tryz.prog 161 [(2000,.box 224 [.ptr 2000 0,.suf 2001 0 0]),(2001,.buf 0 5 1 (d0.map K4))] [.ptr 2000 0] [(2000,.box 224 [.ptr 2000 0,.suf 2001 0 0]),(2001,.fzs 0 1 (d0.map K4))] (.s r):=by
 unfold Ey7 at hF
 refine cr 14 Tryz.func161 ?_
 refine jd 5 ?_
 obtain⟨hb1,hF⟩:=Q0 hF
 refine do1 4 (ck hb1) ?_
 obtain⟨x1,e1,hF⟩:=bnd hF
 refine P5 5 (Aq6 (o:=usd (d0.map K4) 0 ((d0.map K4).length:Int)) [.str x1] (by kernel_rfl) (by kernel_rfl) (usm (f:=K4) (fun _=>rfl) e1) ?_)
 refine je 1 ?_
 cases hF
 exact jrr 0
def Dh6(d0:List UInt8):Option (Int×Bool×List Int):=
 Option.bind (Fp5) fun y1=>
 Option.bind (app [] (d0.map toI)) fun l1=>
 some ((d0.length:Int),false,l1)
noncomputable abbrev Hi5:=C1 Tryz.f160
theorem Cn2{d0:List UInt8}{r:Int×Bool×List Int}(hF:Dh6 d0=some r):
 K5 Tryz.prog 160 [(2000,.box 224 [.d .nilp,.esl 1])] [.ptr 2000 0,.s d0] [(2000,.box 224 [.ptr 2000 0,.suf 2001 0 0]),(2001,.buf 0 5 1 (r.2.2.map K4))] (.tup [.i r.1,.d (.ife r.2.1)]):=by
 unfold Dh6 at hF
 refine cr 19 Tryz.func160 ?_
 obtain⟨y1,e1,hF⟩:=bnd hF
 refine jcr 8 [(2000,2000)] Fh5 (Di2 e1) ?_
 obtain⟨l1,e2,hF⟩:=bnd hF
 refine C2 9 (E9 (o:=Gj7 [] (d0.map Al5)) (l1.map K4) (by kernel_rfl) (ams (f:=K4) (fun _=>rfl) e2) ?_)
 refine ja 11 (S0:=[(4,.i (d0.length:Int)),(5,.d (.ife false))]) (O0:=[(14,.buf 0 5 1 (l1.map K4)),(2000,.box 224 [.ptr 2000 0,.suf 14 0 0])]) (T0:=[kC Hi5 [1,1,1,1]]) ?_
 refine C2 0 (Aq8 [(2000,2000),(14,2001)] (by kernel_rfl) (by kernel_rfl) (by kernel_rfl) (by kernel_rfl) ?_)
 cases hF
 exact jrr 0
def N8(d0:A3):Nat→Int→(List Int)→Option (List UInt8)
 |0,_,_=>none
 |nL1+1,v2,l2=>
  bif decide (v2≥0) then
   (Option.bind (C4 d0.mag v2) fun y12=>
   Option.bind (En4 (IntKind.i64.wrap y12)) fun y13=>
   bif decide (v2<(IntKind.i64.wrap (((d0.mag.map A5).length:Int)-1))) then
    (ass (decide (0≤(y13.length:Int))&&decide ((y13.length:Int)≤([48,48,48,48,48,48,48,48,48].length:Int))&&decide (([48,48,48,48,48,48,48,48,48].length:Int)≤[48,48,48,48,48,48,48,48,48].length))<|
    Option.bind (Cn1 (([48,48,48,48,48,48,48,48,48].drop (Int.toNat (y13.length:Int))).take (Int.toNat (([48,48,48,48,48,48,48,48,48].length:Int)-(y13.length:Int)))) l2) fun y14=>
    Option.bind (Cn1 y13 y14.2.2) fun y15=>
    (N8 d0 nL1) (IntKind.i64.wrap (v2-1)) y15.2.2)
   else
    (Option.bind (Cn1 y13 l2) fun y16=>
    (N8 d0 nL1) (IntKind.i64.wrap (v2-1)) y16.2.2))
  else
   (Option.bind (Ey7 l2) fun y17=>
   some y17)
def Ah7(d0:A3):Nat→Int→(List Int)→Option (List UInt8)
 |0,_,_=>none
 |nL2+1,v5,l5=>
  bif decide (v5≥0) then
   (Option.bind (C4 d0.mag v5) fun y39=>
   Option.bind (En4 (IntKind.i64.wrap y39)) fun y40=>
   bif decide (v5<(IntKind.i64.wrap (((d0.mag.map A5).length:Int)-1))) then
    (ass (decide (0≤(y40.length:Int))&&decide ((y40.length:Int)≤([48,48,48,48,48,48,48,48,48].length:Int))&&decide (([48,48,48,48,48,48,48,48,48].length:Int)≤[48,48,48,48,48,48,48,48,48].length))<|
    Option.bind (Cn1 (([48,48,48,48,48,48,48,48,48].drop (Int.toNat (y40.length:Int))).take (Int.toNat (([48,48,48,48,48,48,48,48,48].length:Int)-(y40.length:Int)))) l5) fun y41=>
    Option.bind (Cn1 y40 y41.2.2) fun y42=>
    (Ah7 d0 nL2) (IntKind.i64.wrap (v5-1)) y42.2.2)
   else
    (Option.bind (Cn1 y40 l5) fun y43=>
    (Ah7 d0 nL2) (IntKind.i64.wrap (v5-1)) y43.2.2))
  else
   (Option.bind (Ey7 l5) fun y44=>
   some y44)
def Ah8(d0:A3):Nat→Int→(List Int)→Option (List UInt8)
 |0,_,_=>none
 |nL3+1,v7,l7=>
  bif decide (v7≥0) then
   (Option.bind (C4 d0.mag v7) fun y56=>
   Option.bind (En4 (IntKind.i64.wrap y56)) fun y57=>
   bif decide (v7<(IntKind.i64.wrap (((d0.mag.map A5).length:Int)-1))) then
    (ass (decide (0≤(y57.length:Int))&&decide ((y57.length:Int)≤([48,48,48,48,48,48,48,48,48].length:Int))&&decide (([48,48,48,48,48,48,48,48,48].length:Int)≤[48,48,48,48,48,48,48,48,48].length))<|
    Option.bind (Cn1 (([48,48,48,48,48,48,48,48,48].drop (Int.toNat (y57.length:Int))).take (Int.toNat (([48,48,48,48,48,48,48,48,48].length:Int)-(y57.length:Int)))) l7) fun y58=>
    Option.bind (Cn1 y57 y58.2.2) fun y59=>
    (Ah8 d0 nL3) (IntKind.i64.wrap (v7-1)) y59.2.2)
   else
    (Option.bind (Cn1 y57 l7) fun y60=>
    (Ah8 d0 nL3) (IntKind.i64.wrap (v7-1)) y60.2.2))
  else
   (Option.bind (Ey7 l7) fun y61=>
   some y61)
def Ed2(fuel:Nat)(d0:A3):Option (List UInt8):=
 bif ((d0.mag.map A5).length:Int)==0 then
  (some [48])
 else
  (bif d0.neg then
   (Option.bind (Gi0 45) fun y1=>
   N8 d0 fuel (IntKind.i64.wrap (((d0.mag.map A5).length:Int)-1)) y1.2)
  else
   (bif decide ((IntKind.i64.wrap (((d0.mag.map A5).length:Int)-1))≥0) then
    (Option.bind (C4 d0.mag (IntKind.i64.wrap (((d0.mag.map A5).length:Int)-1))) fun y25=>
    Option.bind (En4 (IntKind.i64.wrap y25)) fun y26=>
    bif decide ((IntKind.i64.wrap (((d0.mag.map A5).length:Int)-1))<(IntKind.i64.wrap (((d0.mag.map A5).length:Int)-1))) then
     (ass (decide (0≤(y26.length:Int))&&decide ((y26.length:Int)≤([48,48,48,48,48,48,48,48,48].length:Int))&&decide (([48,48,48,48,48,48,48,48,48].length:Int)≤[48,48,48,48,48,48,48,48,48].length))<|
     Option.bind (Dh6 (([48,48,48,48,48,48,48,48,48].drop (Int.toNat (y26.length:Int))).take (Int.toNat (([48,48,48,48,48,48,48,48,48].length:Int)-(y26.length:Int))))) fun y27=>
     Option.bind (Cn1 y26 y27.2.2) fun y28=>
     Ah7 d0 fuel (IntKind.i64.wrap ((IntKind.i64.wrap (((d0.mag.map A5).length:Int)-1))-1)) y28.2.2)
    else
     (Option.bind (Dh6 y26) fun y45=>
     Ah8 d0 fuel (IntKind.i64.wrap ((IntKind.i64.wrap (((d0.mag.map A5).length:Int)-1))-1)) y45.2.2))
   else
    (none)))
noncomputable abbrev Br9:=C1 Tryz.f127
abbrev Gn6(r:List UInt8):=J none Tryz.prog 41 [] (H3 Tryz.prog Tryz.f127 (.s r))
theorem Ax6{fuel:Nat}{d0:A3}{r:List UInt8}(hF:Ed2 fuel d0=some r):
 C3 Tryz.prog 127 [.agg [.b d0.neg,.l 1 d0.mag A5]] (.s r):=by
 unfold Ed2 at hF
 refine cf 41 Tryz.func127 ?_
 refine jI 13 9 hF ?_ ?_<;>intro hF
 ·cases hF
  exact jr 5
 ·refine jI 12 11 hF ?_ ?_<;>intro hF
  ·obtain⟨y1,e1,hF⟩:=bnd hF
   refine jcr 2 [(3,2000),(12,2001)] Gs1 (Ey6 e1) ?_
   have hL1:∀(nL1:Nat) (v2:Int) (l2:List Int),N8 d0 nL1 v2 l2=some r→Gn6 r ⟨mkT [(1,.ptr 1 0),(3,.ptr 3 0),(4,.i v2)],[(1,.box 98 [.b d0.neg,.l 1 d0.mag A5]),(3,.box 224 [.ptr 3 0,.suf 12 0 0]),(12,.buf 0 5 1 (l2.map K4))],[kL Br9 [1,1,1,1,0,1,0,0],.inBlock 0,kC Br9 [1,1,1,1,1]]⟩:=by
    clear hF;intro nL1
    induction nL1 with
    |zero=>intro v2 l2 hF;cases hF
    |succ nL1 iL1=>
     intro v2 l2 hF
     rw[N8]at hF
     refine jI 7 18 hF ?_ ?_<;>intro hF
     ·obtain⟨y12,e12,hF⟩:=bnd hF
      refine jo1 9 (gm (f:=A5) e12) ?_
      refine jB 2 hF Dc0 Ap4 fun y13 hF=> ?_
      refine jI 12 33 hF ?_ ?_<;>intro hF
      ·obtain⟨hb11,hF⟩:=Q0 hF
       refine jo1 4 (ck hb11) ?_
       obtain⟨y14,e14,hF⟩:=bnd hF
       refine jcr 0 [(3,2000),(12,2001)] Av4 (V5 e14) ?_
       refine ja 1 (S0:=[(1,.ptr 1 0),(3,.ptr 3 0),(4,.i v2),(5,.s y13)]) (O0:=[(1,.box 98 [.b d0.neg,.l 1 d0.mag A5]),(3,.box 224 [.ptr 3 0,.suf 12 0 0]),(12,.buf 0 5 1 (y14.2.2.map K4))]) (T0:=[kC Br9 [1,1,1,1,0,1,0,0,1,0,0,1,1],.inBlock 1,kC Br9 [1,1,1,1,0,1,0,0,1,1],kL Br9 [1,1,1,1,0,1,0,0],.inBlock 0,kC Br9 [1,1,1,1,1]]) ?_
       obtain⟨y15,e15,hF⟩:=bnd hF
       refine jcr 2 [(3,2000),(12,2001)] Av4 (V5 e15) ?_
       exact ja 7 (iL1 _ _ hF)
      ·obtain⟨y16,e16,hF⟩:=bnd hF
       refine jcr 4 [(3,2000),(12,2001)] Av4 (V5 e16) ?_
       exact ja 7 (iL1 _ _ hF)
     ·obtain⟨y17,e17,hF⟩:=bnd hF
      refine jcr 4 [(3,2000),(12,2001)] Fh3 (Cd2 e17) ?_
      cases hF
      exact jr 2
   exact ja 12 (hL1 _ _ _ hF)
  ·refine jI 20 18 hF ?_ ?_<;>intro hF
   ·obtain⟨y25,e25,hF⟩:=bnd hF
    refine jo1 9 (gm (f:=A5) e25) ?_
    refine jB 2 hF Dc0 Ap4 fun y26 hF=> ?_
    refine jI 12 33 hF ?_ ?_<;>intro hF
    ·obtain⟨hb20,hF⟩:=Q0 hF
     refine jo1 4 (ck hb20) ?_
     obtain⟨y27,e27,hF⟩:=bnd hF
     refine jcr 0 [(3,2000),(37,2001)] Av4 (Cn2 e27) ?_
     obtain⟨y28,e28,hF⟩:=bnd hF
     refine jcr 3 [(3,2000),(37,2001)] Av4 (V5 e28) ?_
     have hL2:∀(nL2:Nat) (v5:Int) (l5:List Int),Ah7 d0 nL2 v5 l5=some r→Gn6 r ⟨mkT [(1,.ptr 1 0),(3,.ptr 3 0),(4,.i v5)],[(1,.box 98 [.b d0.neg,.l 1 d0.mag A5]),(3,.box 224 [.ptr 3 0,.suf 37 0 0]),(37,.buf 0 5 1 (l5.map K4))],[kL Br9 [1,1,1,1,0,1,0,0],.inBlock 0,kC Br9 [1,1,1,1,1]]⟩:=by
      clear hF;intro nL2
      induction nL2 with
      |zero=>intro v5 l5 hF;cases hF
      |succ nL2 iL2=>
       intro v5 l5 hF
       rw[Ah7]at hF
       refine jI 7 18 hF ?_ ?_<;>intro hF
       ·obtain⟨y39,e39,hF⟩:=bnd hF
        refine jo1 9 (gm (f:=A5) e39) ?_
        refine jB 2 hF Dc0 Ap4 fun y40 hF=> ?_
        refine jI 12 33 hF ?_ ?_<;>intro hF
        ·obtain⟨hb29,hF⟩:=Q0 hF
         refine jo1 4 (ck hb29) ?_
         obtain⟨y41,e41,hF⟩:=bnd hF
         refine jcr 0 [(3,2000),(37,2001)] Av4 (V5 e41) ?_
         refine ja 1 (S0:=[(1,.ptr 1 0),(3,.ptr 3 0),(4,.i v5),(5,.s y40)]) (O0:=[(1,.box 98 [.b d0.neg,.l 1 d0.mag A5]),(3,.box 224 [.ptr 3 0,.suf 37 0 0]),(37,.buf 0 5 1 (y41.2.2.map K4))]) (T0:=[kC Br9 [1,1,1,1,0,1,0,0,1,0,0,1,1],.inBlock 1,kC Br9 [1,1,1,1,0,1,0,0,1,1],kL Br9 [1,1,1,1,0,1,0,0],.inBlock 0,kC Br9 [1,1,1,1,1]]) ?_
         obtain⟨y42,e42,hF⟩:=bnd hF
         refine jcr 2 [(3,2000),(37,2001)] Av4 (V5 e42) ?_
         exact ja 7 (iL2 _ _ hF)
        ·obtain⟨y43,e43,hF⟩:=bnd hF
         refine jcr 4 [(3,2000),(37,2001)] Av4 (V5 e43) ?_
         exact ja 7 (iL2 _ _ hF)
       ·obtain⟨y44,e44,hF⟩:=bnd hF
        refine jcr 4 [(3,2000),(37,2001)] Fh3 (Cd2 e44) ?_
        cases hF
        exact jr 2
     exact ja 7 (hL2 _ _ _ hF)
    ·obtain⟨y45,e45,hF⟩:=bnd hF
     refine jcr 4 [(3,2000),(39,2001)] Av4 (Cn2 e45) ?_
     have hL3:∀(nL3:Nat) (v7:Int) (l7:List Int),Ah8 d0 nL3 v7 l7=some r→Gn6 r ⟨mkT [(1,.ptr 1 0),(3,.ptr 3 0),(4,.i v7)],[(1,.box 98 [.b d0.neg,.l 1 d0.mag A5]),(3,.box 224 [.ptr 3 0,.suf 39 0 0]),(39,.buf 0 5 1 (l7.map K4))],[kL Br9 [1,1,1,1,0,1,0,0],.inBlock 0,kC Br9 [1,1,1,1,1]]⟩:=by
      clear hF;intro nL3
      induction nL3 with
      |zero=>intro v7 l7 hF;cases hF
      |succ nL3 iL3=>
       intro v7 l7 hF
       rw[Ah8]at hF
       refine jI 7 18 hF ?_ ?_<;>intro hF
       ·obtain⟨y56,e56,hF⟩:=bnd hF
        refine jo1 9 (gm (f:=A5) e56) ?_
        refine jB 2 hF Dc0 Ap4 fun y57 hF=> ?_
        refine jI 12 33 hF ?_ ?_<;>intro hF
        ·obtain⟨hb38,hF⟩:=Q0 hF
         refine jo1 4 (ck hb38) ?_
         obtain⟨y58,e58,hF⟩:=bnd hF
         refine jcr 0 [(3,2000),(39,2001)] Av4 (V5 e58) ?_
         refine ja 1 (S0:=[(1,.ptr 1 0),(3,.ptr 3 0),(4,.i v7),(5,.s y57)]) (O0:=[(1,.box 98 [.b d0.neg,.l 1 d0.mag A5]),(3,.box 224 [.ptr 3 0,.suf 39 0 0]),(39,.buf 0 5 1 (y58.2.2.map K4))]) (T0:=[kC Br9 [1,1,1,1,0,1,0,0,1,0,0,1,1],.inBlock 1,kC Br9 [1,1,1,1,0,1,0,0,1,1],kL Br9 [1,1,1,1,0,1,0,0],.inBlock 0,kC Br9 [1,1,1,1,1]]) ?_
         obtain⟨y59,e59,hF⟩:=bnd hF
         refine jcr 2 [(3,2000),(39,2001)] Av4 (V5 e59) ?_
         exact ja 7 (iL3 _ _ hF)
        ·obtain⟨y60,e60,hF⟩:=bnd hF
         refine jcr 4 [(3,2000),(39,2001)] Av4 (V5 e60) ?_
         exact ja 7 (iL3 _ _ hF)
       ·obtain⟨y61,e61,hF⟩:=bnd hF
        refine jcr 4 [(3,2000),(39,2001)] Fh3 (Cd2 e61) ?_
        cases hF
        exact jr 2
     exact ja 7 (hL3 _ _ _ hF)
   ·cases hF
def Fp4(d0:A3):Option Int:=
 bif ((d0.mag.map A5).length:Int)==0 then
  (some 1)
 else
  (Option.bind (C4 d0.mag (IntKind.i64.wrap (((d0.mag.map A5).length:Int)-1))) fun y1=>
  Option.bind (En4 (IntKind.i64.wrap y1)) fun y2=>
  some (IntKind.i64.wrap ((IntKind.i64.wrap (9*(IntKind.i64.wrap (((d0.mag.map A5).length:Int)-1))))+(y2.length:Int))))
theorem Dh9{d0:A3}{r:Int}(hF:Fp4 d0=some r):
 C3 Tryz.prog 180 [.agg [.b d0.neg,.l 1 d0.mag A5]] (.i r):=by
 unfold Fp4 at hF
 refine cf 22 Tryz.func180 ?_
 refine jI 18 8 hF ?_ ?_<;>intro hF
 ·cases hF
  exact jr 5
 ·obtain⟨y1,e1,hF⟩:=bnd hF
  refine jo1 11 (gm (f:=A5) e1) ?_
  refine jB 2 hF Dc0 Ap4 fun y2 hF=> ?_
  cases hF
  exact jr 4
structure A2 where
 n_:A3
 d:A3
 deriving DecidableEq
def F97(d0:List UInt8)(d1:List UInt8):Option (List UInt8×List UInt8×Bool):=Fq9 d0 d1
theorem Ep3{d0:List UInt8}{d1:List UInt8}{r:List UInt8×List UInt8×Bool}(hF:F97 d0 d1=some r):C3 Tryz.prog 97 [.d (.str d0),.d (.str d1)] (.tup [.d (.str r.1),.d (.str r.2.1),.d (.bool r.2.2)]):=Do1 (List.Mem.head _) Tryz.strings_Cut hF
def F48(fuel:Nat)(d0:List UInt8):Option A2:=
 Option.bind (F97 d0 [47]) fun y1=>
 bif !y1.2.2 then
  (Option.bind (F98 fuel y1.1) fun y2=>
  Option.bind (F99 fuel 1) fun y3=>
  some (⟨y2,y3⟩:A2))
 else
  (Option.bind (F98 fuel y1.1) fun y4=>
  Option.bind (F98 fuel y1.2.1) fun y5=>
  some (⟨y4,y5⟩:A2))
theorem At6{fuel:Nat}{d0:List UInt8}{r:A2}(hF:F48 fuel d0=some r):
 C3 Tryz.prog 48 [.s d0] (.agg [.b r.n_.neg,.l 1 r.n_.mag A5,.b r.d.neg,.l 1 r.d.mag A5]):=by
 unfold F48 at hF
 refine cf 23 Tryz.func48 ?_
 refine jB 7 hF Hd8 Ep3 fun y1 hF=> ?_
 refine jI 14 13 hF ?_ ?_<;>intro hF
 ·refine jB 4 hF Gv6 Dk6 fun y2 hF=> ?_
  refine jB 0 hF Fr4 Bh4 fun y3 hF=> ?_
  cases hF
  exact jr 3
 ·refine jB 5 hF Gv6 Dk6 fun y4 hF=> ?_
  refine jB 1 hF Gv6 Dk6 fun y5 hF=> ?_
  cases hF
  exact jr 3
def F50(fuel:Nat)(d0:A2)(d1:A2):Option Int:=
 Option.bind (Br6 fuel d0.n_ d1.d) fun y1=>
 Option.bind (Br6 fuel d1.n_ d0.d) fun y2=>
 Option.bind (Ec1 fuel y1 y2) fun y3=>
 some y3
theorem Co0{fuel:Nat}{d0:A2}{d1:A2}{r:Int}(hF:F50 fuel d0 d1=some r):
 C3 Tryz.prog 50 [.agg [.b d0.n_.neg,.l 1 d0.n_.mag A5,.b d0.d.neg,.l 1 d0.d.mag A5],.agg [.b d1.n_.neg,.l 1 d1.n_.mag A5,.b d1.d.neg,.l 1 d1.d.mag A5]] (.i r):=by
 unfold F50 at hF
 refine cf 16 Tryz.func50 ?_
 refine jd 7 ?_
 refine dB 4 hF Ch8 Ah1 fun y1 hF=> ?_
 refine dB 4 hF Ch8 Ah1 fun y2 hF=> ?_
 refine dB 0 hF Dr2 Ax4 fun y3 hF=> ?_
 refine je 1 ?_
 cases hF
 exact jr 0
def Ed0(fuel:Nat)(d0:A3)(d1:A3):Option A2:=
 Option.bind (Ex8 fuel d0 d1) fun y1=>
 bif d1.neg then
  (Option.bind (Gh6 fuel y1) fun y2=>
  Option.bind (
   bif decide (((y2.mag.map A5).length:Int)>1) then
    (some true)
   else
    (bif y2.neg then
     (some true)
    else
     (Option.bind (C4 y2.mag 0) fun y7=>
     some (y7 !=1)))) fun o1=>
  bif o1 then
   (Option.bind (Eo0 fuel d0 y2) fun y5=>
   Option.bind (Eo0 fuel d1 y2) fun y6=>
   some (⟨y5.1,y6.1⟩:A2))
  else
   (some (⟨d0,d1⟩:A2)))
 else
  (Option.bind (
   bif decide (((y1.mag.map A5).length:Int)>1) then
    (some true)
   else
    (bif y1.neg then
     (some true)
    else
     (Option.bind (C4 y1.mag 0) fun y12=>
     some (y12 !=1)))) fun o2=>
  bif o2 then
   (Option.bind (Eo0 fuel d0 y1) fun y10=>
   Option.bind (Eo0 fuel d1 y1) fun y11=>
   some (⟨y10.1,y11.1⟩:A2))
  else
   (some (⟨d0,d1⟩:A2)))
noncomputable abbrev Fq6:=C1 Tryz.f103
abbrev Gy4(r:A2):=J none Tryz.prog 43 [] (H3 Tryz.prog Tryz.f103 (.agg [.b r.n_.neg,.l 1 r.n_.mag A5,.b r.d.neg,.l 1 r.d.mag A5]))
theorem Cc3{fuel:Nat}{d0:A3}{d1:A3}{r:A2}(hF:Ed0 fuel d0 d1=some r):
 C3 Tryz.prog 103 [.agg [.b d0.neg,.l 1 d0.mag A5],.agg [.b d1.neg,.l 1 d1.mag A5]] (.agg [.b r.n_.neg,.l 1 r.n_.mag A5,.b r.d.neg,.l 1 r.d.mag A5]):=by
 unfold Ed0 at hF
 refine cf 43 Tryz.func103 ?_
 refine jB 10 hF Fh0 Cc8 fun y1 hF=> ?_
 refine jI 9 10 hF ?_ ?_<;>intro hF
 ·refine jB 3 hF Ga0 Dg9 fun y2 hF=> ?_
  obtain⟨o1,hO,hF⟩:=bnd hF
  have hR1:Gy4 r ⟨mkT [(2,.ptr 2 0),(3,.ptr 3 0),(4,.ptr 4 0),(5,.ptr 5 0),(27,.b o1)],[(2,.box 98 [.b d0.neg,.l 1 d0.mag A5]),(3,.box 98 [.b d1.neg,.l 1 d1.mag A5]),(4,.box 100 [.b false,.esl 1,.b false,.esl 1]),(5,.box 98 [.b y2.neg,.l 1 y2.mag A5])],[kO Fq6 [1,1,1,0,0],kC Fq6 [1,1,1,0,1],kC Fq6 [1,1,1,1]]⟩:=by
   clear hO
   refine jI 1 27 hF ?_ ?_<;>intro hF
   ·refine jB 5 hF Ej0 Bl0 fun y5 hF=> ?_
    refine jB 8 hF Ej0 Bl0 fun y6 hF=> ?_
    cases hF
    exact jr 12
   ·cases hF
    exact jr 9
  clear hF;rename _=some o1=>hF
  refine jI 10 17 hF ?_ ?_<;>intro hF
  ·cases hF
   exact ja 10 hR1
  ·refine jI 4 21 hF ?_ ?_<;>intro hF
   ·cases hF
    exact ja 6 hR1
   ·obtain⟨y7,e7,hF⟩:=bnd hF
    refine jo1 2 (gm (f:=A5) e7) ?_
    cases hF
    exact ja 3 hR1
 ·obtain⟨o2,hO,hF⟩:=bnd hF
  have hR2:Gy4 r ⟨mkT [(2,.ptr 2 0),(3,.ptr 3 0),(4,.ptr 4 0),(5,.ptr 5 0),(27,.b o2)],[(2,.box 98 [.b d0.neg,.l 1 d0.mag A5]),(3,.box 98 [.b d1.neg,.l 1 d1.mag A5]),(4,.box 100 [.b false,.esl 1,.b false,.esl 1]),(5,.box 98 [.b y1.neg,.l 1 y1.mag A5])],[kO Fq6 [1,1,1,0,0],kC Fq6 [1,1,1,0,1],kC Fq6 [1,1,1,1]]⟩:=by
   clear hO
   refine jI 1 27 hF ?_ ?_<;>intro hF
   ·refine jB 5 hF Ej0 Bl0 fun y10 hF=> ?_
    refine jB 8 hF Ej0 Bl0 fun y11 hF=> ?_
    cases hF
    exact jr 12
   ·cases hF
    exact jr 9
  clear hF;rename _=some o2=>hF
  refine jI 10 17 hF ?_ ?_<;>intro hF
  ·cases hF
   exact ja 10 hR2
  ·refine jI 4 21 hF ?_ ?_<;>intro hF
   ·cases hF
    exact ja 6 hR2
   ·obtain⟨y12,e12,hF⟩:=bnd hF
    refine jo1 2 (gm (f:=A5) e12) ?_
    cases hF
    exact ja 3 hR2
def F51(fuel:Nat)(d0:Int)(d1:Int):Option A2:=
 Option.bind (F99 fuel d0) fun y1=>
 Option.bind (F99 fuel d1) fun y2=>
 Option.bind (Ed0 fuel y1 y2) fun y3=>
 some y3
theorem Bh0{fuel:Nat}{d0:Int}{d1:Int}{r:A2}(hF:F51 fuel d0 d1=some r):
 C3 Tryz.prog 51 [.i d0,.i d1] (.agg [.b r.n_.neg,.l 1 r.n_.mag A5,.b r.d.neg,.l 1 r.d.mag A5]):=by
 unfold F51 at hF
 refine cf 10 Tryz.func51 ?_
 refine jB 7 hF Fr4 Bh4 fun y1 hF=> ?_
 refine jB 1 hF Fr4 Bh4 fun y2 hF=> ?_
 refine jB 0 hF Fg5 Cc3 fun y3 hF=> ?_
 cases hF
 exact jr 2
def F54(fuel:Nat)(d0:A2)(d1:A2):Option A2:=
 Option.bind (Br6 fuel d0.n_ d1.d) fun y1=>
 Option.bind (Br6 fuel d1.n_ d0.d) fun y2=>
 Option.bind (En3 fuel y1 y2) fun y3=>
 Option.bind (Br6 fuel d0.d d1.d) fun y4=>
 Option.bind (Ed0 fuel y3 y4) fun y5=>
 some y5
theorem Co1{fuel:Nat}{d0:A2}{d1:A2}{r:A2}(hF:F54 fuel d0 d1=some r):
 C3 Tryz.prog 54 [.agg [.b d0.n_.neg,.l 1 d0.n_.mag A5,.b d0.d.neg,.l 1 d0.d.mag A5],.agg [.b d1.n_.neg,.l 1 d1.n_.mag A5,.b d1.d.neg,.l 1 d1.d.mag A5]] (.agg [.b r.n_.neg,.l 1 r.n_.mag A5,.b r.d.neg,.l 1 r.d.mag A5]):=by
 unfold F54 at hF
 refine cf 22 Tryz.func54 ?_
 refine jd 7 ?_
 refine dB 4 hF Ch8 Ah1 fun y1 hF=> ?_
 refine dB 4 hF Ch8 Ah1 fun y2 hF=> ?_
 refine dB 0 hF Fg6 Cc4 fun y3 hF=> ?_
 refine dB 4 hF Ch8 Ah1 fun y4 hF=> ?_
 refine dB 0 hF Fg5 Cc3 fun y5 hF=> ?_
 refine je 1 ?_
 cases hF
 exact jr 0
def F86(fuel:Nat)(d0:A2)(d1:A2):Option A2:=
 Option.bind (Br6 fuel d0.n_ d1.n_) fun y1=>
 Option.bind (Br6 fuel d0.d d1.d) fun y2=>
 Option.bind (Ed0 fuel y1 y2) fun y3=>
 some y3
theorem Ep1{fuel:Nat}{d0:A2}{d1:A2}{r:A2}(hF:F86 fuel d0 d1=some r):
 C3 Tryz.prog 86 [.agg [.b d0.n_.neg,.l 1 d0.n_.mag A5,.b d0.d.neg,.l 1 d0.d.mag A5],.agg [.b d1.n_.neg,.l 1 d1.n_.mag A5,.b d1.d.neg,.l 1 d1.d.mag A5]] (.agg [.b r.n_.neg,.l 1 r.n_.mag A5,.b r.d.neg,.l 1 r.d.mag A5]):=by
 unfold F86 at hF
 refine cf 16 Tryz.func86 ?_
 refine jd 7 ?_
 refine dB 4 hF Ch8 Ah1 fun y1 hF=> ?_
 refine dB 4 hF Ch8 Ah1 fun y2 hF=> ?_
 refine dB 0 hF Fg5 Cc3 fun y3 hF=> ?_
 refine je 1 ?_
 cases hF
 exact jr 0
def Fs1(d0:A2):Option Bool:=
 Option.bind (
  bif ((d0.d.mag.map A5).length:Int)==1 then
   (Option.bind (C4 d0.d.mag 0) fun y3=>
   some (y3==1))
  else
   (some false)) fun o1=>
 some o1
noncomputable abbrev Ha4:=C1 Tryz.f126
abbrev Hg1(r:Bool):=J none Tryz.prog 16 [] (H3 Tryz.prog Tryz.f126 (.b r))
theorem Ex6{d0:A2}{r:Bool}(hF:Fs1 d0=some r):
 C3 Tryz.prog 126 [.agg [.b d0.n_.neg,.l 1 d0.n_.mag A5,.b d0.d.neg,.l 1 d0.d.mag A5]] (.b r):=by
 unfold Fs1 at hF
 refine cf 16 Tryz.func126 ?_
 obtain⟨o1,hO,hF⟩:=bnd hF
 have hR1:Hg1 r ⟨mkT [(2,.b o1)],[],[kO Ha4 [1,0],kC Ha4 [1,1]]⟩:=by
  clear hO
  cases hF
  exact jr 1
 clear hF;rename _=some o1=>hF
 refine jI 13 8 hF ?_ ?_<;>intro hF
 ·obtain⟨y3,e3,hF⟩:=bnd hF
  refine jo1 3 (gm (f:=A5) e3) ?_
  cases hF
  exact ja 4 hR1
 ·cases hF
  exact ja 8 hR1
def F87(fuel:Nat)(d0:A2):Option (List UInt8):=
 Option.bind (Fs1 d0) fun y1=>
 bif y1 then
  (Option.bind (Ed2 fuel d0.n_) fun y2=>
  some y2)
 else
  (Option.bind (Ed2 fuel d0.n_) fun y3=>
  ass (decide (y3.length+[47].length≤4611686018427387904))<|
  Option.bind (Ed2 fuel d0.d) fun y4=>
  ass (decide ((y3++[47]).length+y4.length≤4611686018427387904))<|
  some ((y3++[47])++y4))
theorem Dk1{fuel:Nat}{d0:A2}{r:List UInt8}(hF:F87 fuel d0=some r):
 C3 Tryz.prog 87 [.agg [.b d0.n_.neg,.l 1 d0.n_.mag A5,.b d0.d.neg,.l 1 d0.d.mag A5]] (.s r):=by
 unfold F87 at hF
 refine cf 16 Tryz.func87 ?_
 refine jB 9 hF Gr3 Ex6 fun y1 hF=> ?_
 refine jI 1 4 hF ?_ ?_<;>intro hF
 ·refine jB 5 hF Dr3 Ax6 fun y2 hF=> ?_
  cases hF
  exact jr 2
 ·refine jd 3 ?_
  refine dB 2 hF Dr3 Ax6 fun y3 hF=> ?_
  obtain⟨hb2,hF⟩:=Q0 hF
  refine do1 0 (ck hb2) ?_
  refine dB 2 hF Dr3 Ax6 fun y4 hF=> ?_
  obtain⟨hb3,hF⟩:=Q0 hF
  refine do1 0 (ck hb3) ?_
  refine je 1 ?_
  cases hF
  exact jr 0
def F49(d0:A2):Option Int:=
 Option.bind (Ec9 d0.n_) fun y1=>
 some y1
theorem Eo8{d0:A2}{r:Int}(hF:F49 d0=some r):
 C3 Tryz.prog 49 [.agg [.b d0.n_.neg,.l 1 d0.n_.mag A5,.b d0.d.neg,.l 1 d0.d.mag A5]] (.i r):=by
 unfold F49 at hF
 refine cf 6 Tryz.func49 ?_
 refine jB 9 hF Ei4 Bk3 fun y1 hF=> ?_
 cases hF
 exact jr 2
def Ah9(v3:Int):Option Int:=
 some v3
def Ai0(y1:List UInt8):Nat→Int→Option Int
 |0,_=>none
 |nL2+1,v5=>
  bif decide (v5<(((y1.map toI).map K4).length:Int)) then
   (Option.bind (C4 (y1.map toI) v5) fun y12=>
   Option.bind (
    bif decide (y12<48) then
     (some true)
    else
     (some (decide (y12>57)))) fun o8=>
   bif o8 then
    (Ah9 5)
   else
    ((Ai0 y1 nL2) (IntKind.i64.wrap (v5+1))))
  else
   (bif decide ((y1.length:Int)>2000) then
    (Ah9 6)
   else
    (Ah9 0))
def Ed3(fuel:Nat)(d0:List UInt8):Option Int:=
 Option.bind (Ex9 d0 [45]) fun y1=>
 bif d0==[48] then
  (Ah9 0)
 else
  (Option.bind (
   bif y1==[] then
    (some true)
   else
    (Option.bind (C4 y1 0) fun y13=>
    some ((y13.toNat:Int)==48))) fun o5=>
  bif o5 then
   (Ah9 5)
  else
   (Ai0 y1 fuel 0))
noncomputable abbrev Da5:=C1 Tryz.f133
abbrev Gj4(r:Int):=J none Tryz.prog 38 [] (H3 Tryz.prog Tryz.f133 (.i r))
theorem Bk8{fuel:Nat}{d0:List UInt8}{r:Int}(hF:Ed3 fuel d0=some r):
 C3 Tryz.prog 133 [.s d0] (.i r):=by
 unfold Ed3 at hF
 refine cf 38 Tryz.func133 ?_
 refine jB 8 hF Fz8 Dg6 fun y1 hF=> ?_
 have hA1:∀(v3:Int),Ah9 v3=some r→Gj4 r ⟨mkT [(4,.i v3)],[],[kC Da5 [1,0,1,1,1,1],.inScope]⟩:=by
  intro v3 hF
  unfold Ah9 at hF
  cases hF
  exact jr 5
 refine jI 16 26 hF ?_ ?_<;>intro hF
 ·exact ja 3 (hA1 _ hF)
 ·obtain⟨o5,hO,hF⟩:=bnd hF
  have hR5:Gj4 r ⟨mkT [(3,.s y1),(4,.i 0),(29,.b o5)],[],[kO Da5 [1,0,1,1,1,0,0,1,1,0],kC Da5 [1,0,1,1,1,0,0,1,1,1],.inBlock 0,kC Da5 [1,0,1,1,1,1],.inScope]⟩:=by
   clear hO
   refine jI 1 29 hF ?_ ?_<;>intro hF
   ·exact ja 5 (hA1 _ hF)
   ·refine C2 5 (E9 (o:=some (y1.map Al5)) ((y1.map toI).map K4) (by kernel_rfl) (bym (f:=K4) (fun _=>rfl)) ?_)
    have hL2:∀(nL2:Nat) (v5:Int),Ai0 y1 nL2 v5=some r→Gj4 r ⟨mkT [(3,.s y1),(4,.i 0),(10,.l 1 (y1.map toI) K4),(11,.i (((y1.map toI).map K4).length:Int)),(12,.i v5)],[],[kL Da5 [1,0,1,1,1,0,0,1,1,1,1,0,1,0,0],.inBlock 1,kC Da5 [1,0,1,1,1,0,0,1,1,1,1,1],.inBlock 0,kC Da5 [1,0,1,1,1,1],.inScope]⟩:=by
     clear hF;intro nL2
     induction nL2 with
     |zero=>intro v5 hF;cases hF
     |succ nL2 iL2=>
      intro v5 hF
      rw[Ai0]at hF
      refine jI 6 13 hF ?_ ?_<;>intro hF
      ·obtain⟨y12,e12,hF⟩:=bnd hF
       refine jo1 6 (gm (f:=K4) e12) ?_
       obtain⟨o8,hO,hF⟩:=bnd hF
       have hR8:Gj4 r ⟨mkT [(3,.s y1),(4,.i 0),(10,.l 1 (y1.map toI) K4),(11,.i (((y1.map toI).map K4).length:Int)),(12,.i v5),(21,.b o8)],[],[kO Da5 [1,0,1,1,1,0,0,1,1,1,1,0,1,0,0,1,1,0,0,1,0],kC Da5 [1,0,1,1,1,0,0,1,1,1,1,0,1,0,0,1,1,0,0,1,1],.inBlock 2,kC Da5 [1,0,1,1,1,0,0,1,1,1,1,0,1,0,0,1,1,1],kL Da5 [1,0,1,1,1,0,0,1,1,1,1,0,1,0,0],.inBlock 1,kC Da5 [1,0,1,1,1,0,0,1,1,1,1,1],.inBlock 0,kC Da5 [1,0,1,1,1,1],.inScope]⟩:=by
        clear hO
        refine jI 1 21 hF ?_ ?_<;>intro hF
        ·exact ja 6 (hA1 _ hF)
        ·exact ja 7 (iL2 _ hF)
       clear hF;rename _=some o8=>hF
       refine jI 8 18 hF ?_ ?_<;>intro hF
       ·cases hF
        exact ja 3 hR8
       ·cases hF
        exact ja 3 hR8
      ·refine jI 8 25 hF ?_ ?_<;>intro hF
       ·exact ja 5 (hA1 _ hF)
       ·exact ja 3 (hA1 _ hF)
    exact ja 5 (hL2 _ _ hF)
  clear hF;rename _=some o5=>hF
  refine jI 6 32 hF ?_ ?_<;>intro hF
  ·cases hF
   exact ja 5 hR5
  ·obtain⟨y13,e13,hF⟩:=bnd hF
   refine C2 1 (E8 (o:=(match C4 y1 0 with|some c=>some [.int .u8 c.toNat]|none=>none)) [.int .u8 y13.toNat] (by kernel_rfl) (by rw[e13]) ?_)
   cases hF
   exact ja 3 hR5
def En9(d0:A2)(d1:Int):Option Bool:=
 Option.bind (
  Option.bind (Fp4 d0.n_) fun y5=>
  bif decide (y5≤d1) then
   (Option.bind (Fp4 d0.d) fun y6=>
   some (decide (y6≤d1)))
  else
   (some false)) fun o1=>
 some o1
noncomputable abbrev Ha6:=C1 Tryz.f136
abbrev Hg3(r:Bool):=J none Tryz.prog 17 [] (H3 Tryz.prog Tryz.f136 (.b r))
theorem Cc9{d0:A2}{d1:Int}{r:Bool}(hF:En9 d0 d1=some r):
 C3 Tryz.prog 136 [.agg [.b d0.n_.neg,.l 1 d0.n_.mag A5,.b d0.d.neg,.l 1 d0.d.mag A5],.i d1] (.b r):=by
 unfold En9 at hF
 refine cf 17 Tryz.func136 ?_
 obtain⟨o1,hO,hF⟩:=bnd hF
 have hR1:Hg3 r ⟨mkT [(4,.b o1)],[],[kO Ha6 [1,0],kC Ha6 [1,1]]⟩:=by
  clear hO
  cases hF
  exact jr 1
 clear hF;rename _=some o1=>hF
 refine jB 9 hF Ga6 Dh9 fun y5 hF=> ?_
 refine jI 3 10 hF ?_ ?_<;>intro hF
 ·refine jB 2 hF Ga6 Dh9 fun y6 hF=> ?_
  cases hF
  exact ja 4 hR1
 ·cases hF
  exact ja 7 hR1
structure D0 where
 Num:A2
 e:Int
 deriving DecidableEq
def En8(d0:A2):Option (A3×A3):=
 some (d0.n_,d0.d)
theorem Cc7{d0:A2}{r:A3×A3}(hF:En8 d0=some r):
 C3 Tryz.prog 134 [.agg [.b d0.n_.neg,.l 1 d0.n_.mag A5,.b d0.d.neg,.l 1 d0.d.mag A5]] (.tup [.agg [.b r.1.neg,.l 1 r.1.mag A5],.agg [.b r.2.neg,.l 1 r.2.mag A5]]):=by
 unfold En8 at hF
 refine cf 8 Tryz.func134 ?_
 refine jd 7 ?_
 refine je 6 ?_
 cases hF
 exact jr 0
def F96(fuel:Nat)(d0:List UInt8):Option D0:=
 Option.bind (F97 d0 [47]) fun y1=>
 bif !y1.2.2 then
  (Option.bind (
   Option.bind (Ed3 fuel y1.1) fun y19=>
   bif y19==5 then
    (some true)
   else
    (Option.bind (Ed3 fuel [49]) fun y20=>
    some (y20==5))) fun o1=>
  bif o1 then
   (some (⟨(⟨(⟨false,[]⟩:A3),(⟨false,[]⟩:A3)⟩:A2),5⟩:D0))
  else
   (Option.bind (F48 fuel d0) fun y6=>
   Option.bind (En8 y6) fun y7=>
   Option.bind (F99 fuel 1) fun y8=>
   Option.bind (
    bif y1.2.2 then
     (Option.bind (Ec1 fuel y7.2 y8) fun y16=>
     bif decide (y16≤0) then
      (some true)
     else
      (Option.bind (Ex8 fuel y7.1 y7.2) fun y17=>
      Option.bind (Ec1 fuel y17 y8) fun y18=>
      some (y18 !=0)))
    else
     (some false)) fun o2=>
   bif o2 then
    (some (⟨(⟨(⟨false,[]⟩:A3),(⟨false,[]⟩:A3)⟩:A2),5⟩:D0))
   else
    (Option.bind (En9 y6 2000) fun y15=>
    bif !y15 then
     (some (⟨(⟨(⟨false,[]⟩:A3),(⟨false,[]⟩:A3)⟩:A2),6⟩:D0))
    else
     (some (⟨y6,0⟩:D0)))))
 else
  (Option.bind (
   Option.bind (Ed3 fuel y1.1) fun y38=>
   bif y38==5 then
    (some true)
   else
    (Option.bind (Ed3 fuel y1.2.1) fun y39=>
    some (y39==5))) fun o3=>
  bif o3 then
   (some (⟨(⟨(⟨false,[]⟩:A3),(⟨false,[]⟩:A3)⟩:A2),5⟩:D0))
  else
   (Option.bind (F48 fuel d0) fun y25=>
   Option.bind (En8 y25) fun y26=>
   Option.bind (F99 fuel 1) fun y27=>
   Option.bind (
    bif y1.2.2 then
     (Option.bind (Ec1 fuel y26.2 y27) fun y35=>
     bif decide (y35≤0) then
      (some true)
     else
      (Option.bind (Ex8 fuel y26.1 y26.2) fun y36=>
      Option.bind (Ec1 fuel y36 y27) fun y37=>
      some (y37 !=0)))
    else
     (some false)) fun o4=>
   bif o4 then
    (some (⟨(⟨(⟨false,[]⟩:A3),(⟨false,[]⟩:A3)⟩:A2),5⟩:D0))
   else
    (Option.bind (En9 y25 2000) fun y34=>
    bif !y34 then
     (some (⟨(⟨(⟨false,[]⟩:A3),(⟨false,[]⟩:A3)⟩:A2),6⟩:D0))
    else
     (some (⟨y25,0⟩:D0)))))
noncomputable abbrev b96:=C1 Tryz.f96
abbrev G96(r:D0):=J none Tryz.prog 61 [] (H3 Tryz.prog Tryz.f96 (.agg [.b r.Num.n_.neg,.l 1 r.Num.n_.mag A5,.b r.Num.d.neg,.l 1 r.Num.d.mag A5,.i r.e]))
theorem Dk5{fuel:Nat}{d0:List UInt8}{r:D0}(hF:F96 fuel d0=some r):
 C3 Tryz.prog 96 [.s d0] (.agg [.b r.Num.n_.neg,.l 1 r.Num.n_.mag A5,.b r.Num.d.neg,.l 1 r.Num.d.mag A5,.i r.e]):=by
 unfold F96 at hF
 refine cf 61 Tryz.func96 ?_
 refine jB 7 hF Hd8 Ep3 fun y1 hF=> ?_
 refine jI 14 17 hF ?_ ?_<;>intro hF
 ·obtain⟨o1,hO,hF⟩:=bnd hF
  have hR1:G96 r ⟨mkT [(0,.s d0),(2,.ptr 2 0),(5,.b y1.2.2),(25,.b o1)],[(2,.box 158 [.b false,.esl 1,.b false,.esl 1,.i 0])],[kO b96 [1,1,1,0,0],kC b96 [1,1,1,0,1],kC b96 [1,1,1,1]]⟩:=by
   clear hO
   refine jI 1 25 hF ?_ ?_<;>intro hF
   ·cases hF
    exact jr 6
   ·refine jB 5 hF Es1 At6 fun y6 hF=> ?_
    refine jB 8 hF Fg9 Cc7 fun y7 hF=> ?_
    refine jB 10 hF Fr4 Bh4 fun y8 hF=> ?_
    obtain⟨o2,hO,hF⟩:=bnd hF
    have hR2:G96 r ⟨mkT [(2,.ptr 2 0),(6,.ptr 6 0),(37,.b o2)],[(2,.box 158 [.b false,.esl 1,.b false,.esl 1,.i 0]),(6,.box 158 [.b y6.n_.neg,.l 1 y6.n_.mag A5,.b y6.d.neg,.l 1 y6.d.mag A5,.i 0])],[kC b96 [1,1,1,1,1,1,1,0,0,1],.inBlock 0,kC b96 [1,1,1,1,1,1,1,1]]⟩:=by
     clear hO
     refine jI 0 37 hF ?_ ?_<;>intro hF
     ·cases hF
      exact jr 6
     ·refine jB 5 hF Fh1 Cc9 fun y15 hF=> ?_
      refine jI 3 54 hF ?_ ?_<;>intro hF
      ·cases hF
       exact jr 6
      ·cases hF
       exact jr 8
    clear hF;rename _=some o2=>hF
    refine jd 6 ?_
    refine dI 2 39 hF ?_ ?_<;>intro hF
    ·refine dB 2 hF Dr2 Ax4 fun y16 hF=> ?_
     refine dI 2 44 hF ?_ ?_<;>intro hF
     ·refine je 9 ?_
      cases hF
      exact ja 0 hR2
     ·refine dB 2 hF Fh0 Cc8 fun y17 hF=> ?_
      refine dB 1 hF Dr2 Ax4 fun y18 hF=> ?_
      refine je 4 ?_
      cases hF
      exact ja 0 hR2
    ·refine je 14 ?_
     cases hF
     exact ja 0 hR2
  clear hF;rename _=some o1=>hF
  refine jB 8 hF Ei8 Bk8 fun y19 hF=> ?_
  refine jI 2 21 hF ?_ ?_<;>intro hF
  ·cases hF
   exact ja 4 hR1
  ·refine jB 1 hF Ei8 Bk8 fun y20 hF=> ?_
   cases hF
   exact ja 2 hR1
 ·obtain⟨o3,hO,hF⟩:=bnd hF
  have hR3:G96 r ⟨mkT [(0,.s d0),(2,.ptr 2 0),(5,.b y1.2.2),(25,.b o3)],[(2,.box 158 [.b false,.esl 1,.b false,.esl 1,.i 0])],[kO b96 [1,1,1,0,0],kC b96 [1,1,1,0,1],kC b96 [1,1,1,1]]⟩:=by
   clear hO
   refine jI 1 25 hF ?_ ?_<;>intro hF
   ·cases hF
    exact jr 6
   ·refine jB 5 hF Es1 At6 fun y25 hF=> ?_
    refine jB 8 hF Fg9 Cc7 fun y26 hF=> ?_
    refine jB 10 hF Fr4 Bh4 fun y27 hF=> ?_
    obtain⟨o4,hO,hF⟩:=bnd hF
    have hR4:G96 r ⟨mkT [(2,.ptr 2 0),(6,.ptr 6 0),(37,.b o4)],[(2,.box 158 [.b false,.esl 1,.b false,.esl 1,.i 0]),(6,.box 158 [.b y25.n_.neg,.l 1 y25.n_.mag A5,.b y25.d.neg,.l 1 y25.d.mag A5,.i 0])],[kC b96 [1,1,1,1,1,1,1,0,0,1],.inBlock 0,kC b96 [1,1,1,1,1,1,1,1]]⟩:=by
     clear hO
     refine jI 0 37 hF ?_ ?_<;>intro hF
     ·cases hF
      exact jr 6
     ·refine jB 5 hF Fh1 Cc9 fun y34 hF=> ?_
      refine jI 3 54 hF ?_ ?_<;>intro hF
      ·cases hF
       exact jr 6
      ·cases hF
       exact jr 8
    clear hF;rename _=some o4=>hF
    refine jd 6 ?_
    refine dI 2 39 hF ?_ ?_<;>intro hF
    ·refine dB 2 hF Dr2 Ax4 fun y35 hF=> ?_
     refine dI 2 44 hF ?_ ?_<;>intro hF
     ·refine je 9 ?_
      cases hF
      exact ja 0 hR4
     ·refine dB 2 hF Fh0 Cc8 fun y36 hF=> ?_
      refine dB 1 hF Dr2 Ax4 fun y37 hF=> ?_
      refine je 4 ?_
      cases hF
      exact ja 0 hR4
    ·refine je 14 ?_
     cases hF
     exact ja 0 hR4
  clear hF;rename _=some o3=>hF
  refine jB 6 hF Ei8 Bk8 fun y38 hF=> ?_
  refine jI 2 21 hF ?_ ?_<;>intro hF
  ·cases hF
   exact ja 4 hR3
  ·refine jB 1 hF Ei8 Bk8 fun y39 hF=> ?_
   cases hF
   exact ja 2 hR3
def F47(fuel:Nat)(d0:List UInt8):Option Int:=
 Option.bind (F96 fuel d0) fun y1=>
 some y1.e
theorem Fu2{fuel:Nat}{d0:List UInt8}{r:Int}(hF:F47 fuel d0=some r):
 C3 Tryz.prog 47 [.s d0] (.i r):=by
 unfold F47 at hF
 refine cf 6 Tryz.func47 ?_
 refine jB 7 hF Gv5 Dk5 fun y1 hF=> ?_
 cases hF
 exact jr 3
def Eo3(fuel:Nat)(d0:List UInt8):Option Bool:=
 Option.bind (F96 fuel d0) fun y1=>
 Option.bind (
  bif y1.e==0 then
   (Option.bind (En9 y1.Num 4) fun y4=>
   some y4)
  else
   (some false)) fun o1=>
 some o1
noncomputable abbrev Ha9:=C1 Tryz.f191
abbrev Hg8(r:Bool):=J none Tryz.prog 14 [] (H3 Tryz.prog Tryz.f191 (.b r))
theorem Di1{fuel:Nat}{d0:List UInt8}{r:Bool}(hF:Eo3 fuel d0=some r):
 C3 Tryz.prog 191 [.s d0] (.b r):=by
 unfold Eo3 at hF
 refine cf 14 Tryz.func191 ?_
 refine jB 7 hF Gv5 Dk5 fun y1 hF=> ?_
 obtain⟨o1,hO,hF⟩:=bnd hF
 have hR1:Hg8 r ⟨mkT [(2,.b o1)],[],[kO Ha9 [1,1,0],kC Ha9 [1,1,1]]⟩:=by
  clear hO
  cases hF
  exact jr 1
 clear hF;rename _=some o1=>hF
 refine jI 9 9 hF ?_ ?_<;>intro hF
 ·refine jB 2 hF Fh1 Cc9 fun y4 hF=> ?_
  cases hF
  exact ja 2 hR1
 ·cases hF
  exact ja 5 hR1
def Gi9(fuel:Nat)(d0:List UInt8):Option (List UInt8×List UInt8×Int):=
 Option.bind (F96 fuel d0) fun y1=>
 bif y1.e !=0 then
  (some ([],[],y1.e))
 else
  (Option.bind (En8 y1.Num) fun y2=>
  Option.bind (Ed2 fuel y2.1) fun y3=>
  Option.bind (Ed2 fuel y2.2) fun y4=>
  some (y3,y4,0))
theorem Fb4{fuel:Nat}{d0:List UInt8}{r:List UInt8×List UInt8×Int}(hF:Gi9 fuel d0=some r):
 C3 Tryz.prog 251 [.s d0] (.tup [.s r.1,.s r.2.1,.i r.2.2]):=by
 unfold Gi9 at hF
 refine cf 25 Tryz.func251 ?_
 refine jB 9 hF Gv5 Dk5 fun y1 hF=> ?_
 refine jI 10 12 hF ?_ ?_<;>intro hF
 ·refine jd 2 ?_
  refine je 5 ?_
  cases hF
  exact jr 0
 ·refine jB 6 hF Fg9 Cc7 fun y2 hF=> ?_
  refine jd 9 ?_
  refine dB 1 hF Dr3 Ax6 fun y3 hF=> ?_
  refine dB 1 hF Dr3 Ax6 fun y4 hF=> ?_
  refine je 3 ?_
  cases hF
  exact jr 0
end
section
theorem Ga2:B1 Tryz.prog 151:=Kx.A6 Tryz.func151 (by kernel_rfl) (by kernel_rfl)
theorem Ei5:B1 Tryz.prog 111:=Kx.A6 Tryz.func111 (by kernel_rfl) (by kernel_rfl)
theorem Ej1:B1 Tryz.prog 64:=Kx.A6 Tryz.func64 (by kernel_rfl) (by kernel_rfl)
theorem Al7:B1 Tryz.prog 113:=Kx.A6 Tryz.func113 (by kernel_rfl) (by kernel_rfl)
theorem Dc1:B1 Tryz.prog 152:=Kx.A6 Tryz.func152 (by kernel_rfl) (by kernel_rfl)
theorem As0:B1 Tryz.prog 115:=Kx.A6 Tryz.func115 (by kernel_rfl) (by kernel_rfl)
theorem Fg7:B1 Tryz.prog 114:=Kx.A6 Tryz.func114 (by kernel_rfl) (by kernel_rfl)
theorem Ch9:B1 Tryz.prog 112:=Kx.A6 Tryz.func112 (by kernel_rfl) (by kernel_rfl)
theorem Gb7:B1 Tryz.prog 92:=Kx.A6 Tryz.func92 (by kernel_rfl) (by kernel_rfl)
theorem Ei6:B1 Tryz.prog 118:=Kx.A6 Tryz.func118 (by kernel_rfl) (by kernel_rfl)
theorem Gq9:B1 Tryz.prog 119:=Kx.A6 Tryz.func119 (by kernel_rfl) (by kernel_rfl)
theorem Fg8:B1 Tryz.prog 120:=Kx.A6 Tryz.func120 (by kernel_rfl) (by kernel_rfl)
theorem Ga3:B1 Tryz.prog 154:=Kx.A6 Tryz.func154 (by kernel_rfl) (by kernel_rfl)
theorem Fz7:B1 Tryz.prog 128:=Kx.A6 Tryz.func128 (by kernel_rfl) (by kernel_rfl)
theorem Gv1:B1 Tryz.prog 73:=Kx.A6 Tryz.func73 (by kernel_rfl) (by kernel_rfl)
theorem Fh2:B1 Tryz.prog 155:=Kx.A6 Tryz.func155 (by kernel_rfl) (by kernel_rfl)
theorem Es2:B1 Tryz.prog 66:=Kx.A6 Tryz.func66 (by kernel_rfl) (by kernel_rfl)
theorem Hk9:B1 Tryz.prog 72:=Kx.A6 Tryz.func72 (by kernel_rfl) (by kernel_rfl)
theorem Fz4:B1 Tryz.prog 117:=Kx.A6 Tryz.func117 (by kernel_rfl) (by kernel_rfl)
theorem Fz5:B1 Tryz.prog 122:=Kx.A6 Tryz.func122 (by kernel_rfl) (by kernel_rfl)
theorem Fz6:B1 Tryz.prog 123:=Kx.A6 Tryz.func123 (by kernel_rfl) (by kernel_rfl)
theorem Gl4:B1 Tryz.prog 71:=Kx.A6 Tryz.func71 (by kernel_rfl) (by kernel_rfl)
theorem Hl0:B1 Tryz.prog 82:=Kx.A6 Tryz.func82 (by kernel_rfl) (by kernel_rfl)
theorem Ei7:B1 Tryz.prog 121:=Kx.A6 Tryz.func121 (by kernel_rfl) (by kernel_rfl)
theorem Gv3:B1 Tryz.prog 88:=Kx.A6 Tryz.func88 (by kernel_rfl) (by kernel_rfl)
def F64(d0:Int):Option (List UInt8):=
 Option.bind (En4 d0) fun y1=>
 some y1
theorem Ak9{d0:Int}{r:List UInt8}(hF:F64 d0=some r):
 C3 Tryz.prog 64 [.i d0] (.s r):=by
 unfold F64 at hF
 refine cf 5 Tryz.func64 ?_
 refine jB 7 hF Dc0 Ap4 fun y1 hF=> ?_
 cases hF
 exact jr 2
def Fs4(d0:List UInt8):Option (Int×Bool):=Ef6 d0
theorem Dh3{d0:List UInt8}{r:Int×Bool}(hF:Fs4 d0=some r):C3 Tryz.prog 151 [.d (.str d0)] (.tup [.d (.int .i64 r.1),.d (.ife r.2)]):=Da3 (gs:=1) (gr:=2) (by kernel_rfl) (by kernel_rfl) Tryz.strconv_Atoi_ok Tryz.strconv_Atoi_bad Tryz.strconv_Atoi_range hF
def En5(d0:List UInt8)(d1:List UInt8):Option (Int×Int×Bool):=
 Option.bind (
  bif decide ((d0.length:Int)>9) then
   (some true)
  else
   (some (decide ((d1.length:Int)>9)))) fun o1=>
 bif o1 then
  (some (0,0,false))
 else
  (Option.bind (Fs4 d0) fun y1=>
  Option.bind (Fs4 d1) fun y2=>
  some (y1.1,y2.1,true))
noncomputable abbrev Gp5:=C1 Tryz.f111
abbrev Hf6(r:Int×Int×Bool):=J none Tryz.prog 31 [] (H3 Tryz.prog Tryz.f111 (.tup [.i r.1,.i r.2.1,.b r.2.2]))
theorem Bk4{d0:List UInt8}{d1:List UInt8}{r:Int×Int×Bool}(hF:En5 d0 d1=some r):
 C3 Tryz.prog 111 [.s d0,.s d1] (.tup [.i r.1,.i r.2.1,.b r.2.2]):=by
 unfold En5 at hF
 refine cf 31 Tryz.func111 ?_
 obtain⟨o1,hO,hF⟩:=bnd hF
 have hR1:Hf6 r ⟨mkT [(0,.s d0),(1,.s d1),(18,.b o1)],[],[kO Gp5 [1,0,0],kC Gp5 [1,0,1],kC Gp5 [1,1]]⟩:=by
  clear hO
  refine jI 1 18 hF ?_ ?_<;>intro hF
  ·cases hF
   exact jr 7
  ·refine jB 5 hF Ga2 Dh3 fun y1 hF=> ?_
   refine jB 9 hF Ga2 Dh3 fun y2 hF=> ?_
   cases hF
   exact jr 14
 clear hF;rename _=some o1=>hF
 refine jI 13 14 hF ?_ ?_<;>intro hF
 ·cases hF
  exact ja 4 hR1
 ·cases hF
  exact ja 4 hR1
def Bk5(d0:List UInt8):Option Bool:=
 Option.bind (C4 d0 0) fun y1=>
 some ((y1.toNat:Int)==45)
theorem L5{d0:List UInt8}{r:Bool}(hF:Bk5 d0=some r):
 C3 Tryz.prog 113 [.s d0] (.b r):=by
 unfold Bk5 at hF
 refine cf 6 Tryz.func113 ?_
 obtain⟨y1,e1,hF⟩:=bnd hF
 refine C2 7 (E8 (o:=(match C4 d0 0 with|some c=>some [.int .u8 c.toNat]|none=>none)) [.int .u8 y1.toNat] (by kernel_rfl) (by rw[e1]) ?_)
 cases hF
 exact jr 3
def A7(x:Int):List Dat:=[.int .i64 x]
def Aq0:Nat→(List Int)→Option (List Int)
 |0,_=>none
 |nL1+1,l4=>
  Option.bind (
   bif decide (((l4.map A7).length:Int)>0) then
    (Option.bind (C4 l4 (IntKind.i64.wrap (((l4.map A7).length:Int)-1))) fun y9=>
    some (y9==0))
   else
    (some false)) fun o3=>
  bif o3 then
   (Option.bind (slc l4 0 (IntKind.i64.wrap (((l4.map A7).length:Int)-1))) fun l5=>
   (Aq0 nL1) l5)
  else
   (some l4)
def Ec2(fuel:Nat)(d0:List Int):Option (List Int):=
 Aq0 fuel d0
noncomputable abbrev Fd9:=C1 Tryz.f152
abbrev Gz0(r:List Int):=J none Tryz.prog 21 [] (H3 Tryz.prog Tryz.f152 (.l 1 r A7))
theorem Aq1{fuel:Nat}{d0:List Int}{r:List Int}(hF:Ec2 fuel d0=some r):
 C3 Tryz.prog 152 [.l 1 d0 A7] (.l 1 r A7):=by
 unfold Ec2 at hF
 refine cf 21 Tryz.func152 ?_
 have hL1:∀(nL1:Nat) (l4:List Int),Aq0 nL1 l4=some r→Gz0 r ⟨mkT [(0,.l 1 l4 A7)],[],[kL Fd9 [1,0,0,0],.inBlock 0,kC Fd9 [1,1]]⟩:=by
  clear hF;intro nL1
  induction nL1 with
  |zero=>intro l4 hF;cases hF
  |succ nL1 iL1=>
   intro l4 hF
   rw[Aq0]at hF
   obtain⟨o3,hO,hF⟩:=bnd hF
   have hR3:Gz0 r ⟨mkT [(0,.l 1 l4 A7),(14,.b o3)],[],[kO Fd9 [1,0,0,0,0,0],kC Fd9 [1,0,0,0,0,1],kC Fd9 [1,0,0,0,1],kL Fd9 [1,0,0,0],.inBlock 0,kC Fd9 [1,1]]⟩:=by
    clear hO
    refine jI 1 14 hF ?_ ?_<;>intro hF
    ·obtain⟨l5,e11,hF⟩:=bnd hF
     refine jo2 8 (sm (f:=A7) e11) ?_
     exact ja 3 (iL1 _ hF)
    ·cases hF
     exact jr 7
   clear hF;rename _=some o3=>hF
   refine jI 8 6 hF ?_ ?_<;>intro hF
   ·obtain⟨y9,e12,hF⟩:=bnd hF
    refine jo1 4 (gm (f:=A7) e12) ?_
    cases hF
    exact ja 3 hR3
   ·cases hF
    exact ja 8 hR3
 exact ja 7 (hL1 _ _ hF)
def Ap5(d0:List UInt8)(l4:List Int)(v10:Int)(cL1:Int→(List Int)→Option (List Int)):Nat→Int→Int→Option (List Int)
 |0,_,_=>none
 |nL2+1,v13,v14=>
  bif decide (v14<v10) then
   (Option.bind (C4 ((d0.drop (Int.toNat 1)).take (Int.toNat ((d0.length:Int)-1))) v14) fun y10=>
   (Ap5 d0 l4 v10 cL1 nL2) (IntKind.i64.wrap ((IntKind.i64.wrap (10*v13))+(IntKind.i64.wrap (IntKind.u8.wrap ((y10.toNat:Int)-48))))) (IntKind.i64.wrap (v14+1)))
  else
   (Option.bind (app l4 [v13]) fun l5=>
   cL1 (IntKind.i64.wrap (v10-4)) l5)
def Ah3(fuel:Nat)(d0:List UInt8):Nat→Int→(List Int)→Option (List Int)
 |0,_,_=>none
 |nL1+1,v10,l4=>
  bif decide (v10>0) then
   (Ap5 d0 l4 v10 (Ah3 fuel d0 nL1) fuel 0 (bif decide ((IntKind.i64.wrap (v10-4))>0) then(IntKind.i64.wrap (v10-4)) else 0))
  else
   (Option.bind (Ec2 fuel l4) fun y11=>
   some y11)
def Y0(d0:List UInt8)(l9:List Int)(v24:Int)(cL3:Int→(List Int)→Option (List Int)):Nat→Int→Int→Option (List Int)
 |0,_,_=>none
 |nL4+1,v27,v28=>
  bif decide (v28<v24) then
   (Option.bind (C4 d0 v28) fun y20=>
   (Y0 d0 l9 v24 cL3 nL4) (IntKind.i64.wrap ((IntKind.i64.wrap (10*v27))+(IntKind.i64.wrap (IntKind.u8.wrap ((y20.toNat:Int)-48))))) (IntKind.i64.wrap (v28+1)))
  else
   (Option.bind (app l9 [v27]) fun l10=>
   cL3 (IntKind.i64.wrap (v24-4)) l10)
def R3(fuel:Nat)(d0:List UInt8):Nat→Int→(List Int)→Option (List Int)
 |0,_,_=>none
 |nL3+1,v24,l9=>
  bif decide (v24>0) then
   (Y0 d0 l9 v24 (R3 fuel d0 nL3) fuel 0 (bif decide ((IntKind.i64.wrap (v24-4))>0) then(IntKind.i64.wrap (v24-4)) else 0))
  else
   (Option.bind (Ec2 fuel l9) fun y21=>
   some y21)
def Bs4(fuel:Nat)(d0:List UInt8):Option (List Int):=
 Option.bind (C4 d0 0) fun y1=>
 bif (y1.toNat:Int)==45 then
  (ass (decide (0≤1)&&decide (1≤(d0.length:Int))&&decide ((d0.length:Int)≤d0.length))<|
  Ah3 fuel d0 fuel (((d0.drop (Int.toNat 1)).take (Int.toNat ((d0.length:Int)-1))).length:Int) [])
 else
  (R3 fuel d0 fuel (d0.length:Int) [])
noncomputable abbrev Cq2:=C1 Tryz.f115
abbrev Gj3(r:List Int):=J none Tryz.prog 40 [] (H3 Tryz.prog Tryz.f115 (.l 1 r A7))
theorem N7{fuel:Nat}{d0:List UInt8}{r:List Int}(hF:Bs4 fuel d0=some r):
 C3 Tryz.prog 115 [.s d0] (.l 1 r A7):=by
 unfold Bs4 at hF
 refine cf 40 Tryz.func115 ?_
 obtain⟨y1,e1,hF⟩:=bnd hF
 refine C2 8 (E8 (o:=(match C4 d0 0 with|some c=>some [.int .u8 c.toNat]|none=>none)) [.int .u8 y1.toNat] (by kernel_rfl) (by rw[e1]) ?_)
 refine jI 2 9 hF ?_ ?_<;>intro hF
 ·obtain⟨hb2,hF⟩:=Q0 hF
  refine jo1 3 (ck hb2) ?_
  have hL1:∀(nL1:Nat) (v10:Int) (l4:List Int),Ah3 fuel d0 nL1 v10 l4=some r→Gj3 r ⟨mkT [(0,.s ((d0.drop (Int.toNat 1)).take (Int.toNat ((d0.length:Int)-1)))),(3,.suf 37 0 0),(4,.i v10)],[(37,.buf 0 3 1 (l4.map A7))],[kL Cq2 [1,1,1,0,1,0,0],.inBlock 0,kC Cq2 [1,1,1,1]]⟩:=by
   clear hF;intro nL1
   induction nL1 with
   |zero=>intro v10 l4 hF;cases hF
   |succ nL1 iL1=>
    intro v10 l4 hF
    rw[Ah3]at hF
    refine jI 7 15 hF ?_ ?_<;>intro hF
    ·have hL2:∀(nL2:Nat) (v13:Int) (v14:Int),Ap5 d0 l4 v10 (Ah3 fuel d0 nL1) nL2 v13 v14=some r→Gj3 r ⟨mkT [(0,.s ((d0.drop (Int.toNat 1)).take (Int.toNat ((d0.length:Int)-1)))),(3,.suf 37 0 0),(4,.i v10),(5,.i v13),(6,.i v14)],[(37,.buf 0 3 1 (l4.map A7))],[kL Cq2 [1,1,1,0,1,0,0,1,0,0,1,0,1,0,0],.inBlock 2,kC Cq2 [1,1,1,0,1,0,0,1,0,0,1,1],.inBlock 1,kC Cq2 [1,1,1,0,1,0,0,1,1],kL Cq2 [1,1,1,0,1,0,0],.inBlock 0,kC Cq2 [1,1,1,1]]⟩:=by
      clear hF;intro nL2
      induction nL2 with
      |zero=>intro v13 v14 hF;cases hF
      |succ nL2 iL2=>
       intro v13 v14 hF
       rw[Ap5]at hF
       refine jI 8 23 hF ?_ ?_<;>intro hF
       ·obtain⟨y10,e12,hF⟩:=bnd hF
        refine C2 9 (E8 (o:=(match C4 ((d0.drop (Int.toNat 1)).take (Int.toNat ((d0.length:Int)-1))) v14 with|some c=>some [.int .u8 c.toNat]|none=>none)) [.int .u8 y10.toNat] (by kernel_rfl) (by rw[e12]) ?_)
        exact ja 11 (iL2 _ _ hF)
       ·obtain⟨l5,e13,hF⟩:=bnd hF
        refine jo2 6 (am (f:=A7) e13) ?_
        exact ja 8 (iL1 _ _ hF)
     exact ja 18 (hL2 _ _ _ hF)
    ·refine jB 5 hF Dc1 Aq1 fun y11 hF=> ?_
     cases hF
     exact jr 2
  refine C2 15 (Ce5 (n:=1) 3 37 3 1 (by kernel_rfl) (by kernel_rfl) ?_)
  exact ja 0 (hL1 _ _ _ hF)
 ·have hL3:∀(nL3:Nat) (v24:Int) (l9:List Int),R3 fuel d0 nL3 v24 l9=some r→Gj3 r ⟨mkT [(0,.s d0),(3,.suf 37 0 0),(4,.i v24)],[(37,.buf 0 3 1 (l9.map A7))],[kL Cq2 [1,1,1,0,1,0,0],.inBlock 0,kC Cq2 [1,1,1,1]]⟩:=by
   clear hF;intro nL3
   induction nL3 with
   |zero=>intro v24 l9 hF;cases hF
   |succ nL3 iL3=>
    intro v24 l9 hF
    rw[R3]at hF
    refine jI 7 15 hF ?_ ?_<;>intro hF
    ·have hL4:∀(nL4:Nat) (v27:Int) (v28:Int),Y0 d0 l9 v24 (R3 fuel d0 nL3) nL4 v27 v28=some r→Gj3 r ⟨mkT [(0,.s d0),(3,.suf 37 0 0),(4,.i v24),(5,.i v27),(6,.i v28)],[(37,.buf 0 3 1 (l9.map A7))],[kL Cq2 [1,1,1,0,1,0,0,1,0,0,1,0,1,0,0],.inBlock 2,kC Cq2 [1,1,1,0,1,0,0,1,0,0,1,1],.inBlock 1,kC Cq2 [1,1,1,0,1,0,0,1,1],kL Cq2 [1,1,1,0,1,0,0],.inBlock 0,kC Cq2 [1,1,1,1]]⟩:=by
      clear hF;intro nL4
      induction nL4 with
      |zero=>intro v27 v28 hF;cases hF
      |succ nL4 iL4=>
       intro v27 v28 hF
       rw[Y0]at hF
       refine jI 8 23 hF ?_ ?_<;>intro hF
       ·obtain⟨y20,e25,hF⟩:=bnd hF
        refine C2 9 (E8 (o:=(match C4 d0 v28 with|some c=>some [.int .u8 c.toNat]|none=>none)) [.int .u8 y20.toNat] (by kernel_rfl) (by rw[e25]) ?_)
        exact ja 11 (iL4 _ _ hF)
       ·obtain⟨l10,e26,hF⟩:=bnd hF
        refine jo2 6 (am (f:=A7) e26) ?_
        exact ja 8 (iL3 _ _ hF)
     exact ja 18 (hL4 _ _ _ hF)
    ·refine jB 5 hF Dc1 Aq1 fun y21 hF=> ?_
     cases hF
     exact jr 2
  refine C2 15 (Ce5 (n:=1) 3 37 3 1 (by kernel_rfl) (by kernel_rfl) ?_)
  exact ja 0 (hL3 _ _ _ hF)
def X9(d0:List Int)(d1:List Int)(v10:Int)(cL1:Int→(List Int)→Option (List Int)):Nat→Int→Int→(List Int)→Option (List Int)
 |0,_,_,_=>none
 |nL2+1,v13,v14,l25=>
  Option.bind (
   bif decide (v14<((d1.map A7).length:Int)) then
    (some true)
   else
    (some (decide (v13>0)))) fun o9=>
  bif o9 then
   (Option.bind (C4 l25 (IntKind.i64.wrap (v10+v14))) fun y41=>
   bif decide (v14<((d1.map A7).length:Int)) then
    (Option.bind (C4 d0 v10) fun y42=>
    Option.bind (C4 d1 v14) fun y43=>
    Option.bind (C4 l25 (IntKind.i64.wrap (v10+v14))) fun y44=>
    Option.bind (some (l25.set (0+Int.toNat (IntKind.i64.wrap (v10+v14))) (Int.tmod (IntKind.i64.wrap ((IntKind.i64.wrap (y41+v13))+(IntKind.i64.wrap (y42*y43)))) 10000))) fun l26=>
    (X9 d0 d1 v10 cL1 nL2) (IntKind.i64.wrap (Int.tdiv (IntKind.i64.wrap ((IntKind.i64.wrap (y41+v13))+(IntKind.i64.wrap (y42*y43)))) 10000)) (IntKind.i64.wrap (v14+1)) l26)
   else
    (Option.bind (C4 l25 (IntKind.i64.wrap (v10+v14))) fun y45=>
    Option.bind (some (l25.set (0+Int.toNat (IntKind.i64.wrap (v10+v14))) (Int.tmod (IntKind.i64.wrap (y41+v13)) 10000))) fun l27=>
    (X9 d0 d1 v10 cL1 nL2) (IntKind.i64.wrap (Int.tdiv (IntKind.i64.wrap (y41+v13)) 10000)) (IntKind.i64.wrap (v14+1)) l27))
  else
   (cL1 (IntKind.i64.wrap (v10+1)) l25)
def X8(fuel:Nat)(d0:List Int)(d1:List Int):Nat→Int→(List Int)→Option (List Int)
 |0,_,_=>none
 |nL1+1,v10,l19=>
  bif decide (v10<((d0.map A7).length:Int)) then
   (X9 d0 d1 v10 (X8 fuel d0 d1 nL1) fuel 0 0 l19)
  else
   (Option.bind (Ec2 fuel l19) fun y46=>
   some y46)
def Ed1(fuel:Nat)(d0:List Int)(d1:List Int):Option (List Int):=
 Option.bind (mkL (IntKind.i64.wrap (((d0.map A7).length:Int)+((d1.map A7).length:Int))) (IntKind.i64.wrap (((d0.map A7).length:Int)+((d1.map A7).length:Int))) 0) fun l1=>
 X8 fuel d0 d1 fuel 0 l1
noncomputable abbrev Da4:=C1 Tryz.f114
abbrev Gn5(r:List Int):=J none Tryz.prog 66 [] (H3 Tryz.prog Tryz.f114 (.l 1 r A7))
theorem Cc5{fuel:Nat}{d0:List Int}{d1:List Int}{r:List Int}(hF:Ed1 fuel d0 d1=some r):
 C3 Tryz.prog 114 [.l 1 d0 A7,.l 1 d1 A7] (.l 1 r A7):=by
 unfold Ed1 at hF
 refine cf 66 Tryz.func114 ?_
 obtain⟨l1,e1,hF⟩:=bnd hF
 refine jo2 11 (mm (f:=A7) e1) ?_
 have hL1:∀(nL1:Nat) (v10:Int) (l19:List Int),X8 fuel d0 d1 nL1 v10 l19=some r→Gn5 r ⟨mkT [(0,.l 1 d0 A7),(1,.l 1 d1 A7),(5,.suf 15 0 0),(6,.i v10)],[(15,.buf 0 3 1 (l19.map A7))],[kL Da4 [1,1,0,1,0,0],.inBlock 0,kC Da4 [1,1,1]]⟩:=by
  clear hF;intro nL1
  induction nL1 with
  |zero=>intro v10 l19 hF;cases hF
  |succ nL1 iL1=>
   intro v10 l19 hF
   rw[X8]at hF
   refine jI 9 19 hF ?_ ?_<;>intro hF
   ·have hL2:∀(nL2:Nat) (v13:Int) (v14:Int) (l25:List Int),X9 d0 d1 v10 (X8 fuel d0 d1 nL1) nL2 v13 v14 l25=some r→Gn5 r ⟨mkT [(0,.l 1 d0 A7),(1,.l 1 d1 A7),(5,.suf 15 0 0),(6,.i v10),(7,.i v13),(8,.i v14)],[(15,.buf 0 3 1 (l25.map A7))],[kL Da4 [1,1,0,1,0,0,1,0,0,1,1,0,0],.inBlock 2,.inBlock 1,kC Da4 [1,1,0,1,0,0,1,1],kL Da4 [1,1,0,1,0,0],.inBlock 0,kC Da4 [1,1,1]]⟩:=by
     clear hF;intro nL2
     induction nL2 with
     |zero=>intro v13 v14 l25 hF;cases hF
     |succ nL2 iL2=>
      intro v13 v14 l25 hF
      rw[X9]at hF
      obtain⟨o9,hO,hF⟩:=bnd hF
      have hR9:Gn5 r ⟨mkT [(0,.l 1 d0 A7),(1,.l 1 d1 A7),(5,.suf 15 0 0),(6,.i v10),(7,.i v13),(8,.i v14),(29,.b o9)],[(15,.buf 0 3 1 (l25.map A7))],[kO Da4 [1,1,0,1,0,0,1,0,0,1,1,0,0,0,0],kC Da4 [1,1,0,1,0,0,1,0,0,1,1,0,0,0,1],kC Da4 [1,1,0,1,0,0,1,0,0,1,1,0,0,1],kL Da4 [1,1,0,1,0,0,1,0,0,1,1,0,0],.inBlock 2,.inBlock 1,kC Da4 [1,1,0,1,0,0,1,1],kL Da4 [1,1,0,1,0,0],.inBlock 0,kC Da4 [1,1,1]]⟩:=by
       clear hO
       refine jI 1 29 hF ?_ ?_<;>intro hF
       ·obtain⟨y41,e58,hF⟩:=bnd hF
        refine jo1 10 (gm (f:=A7) e58) ?_
        refine jo1 0 (gjm (f:=A7) (gj e58)) ?_
        refine jI 12 43 hF ?_ ?_<;>intro hF
        ·refine jd 1 ?_
         obtain⟨y42,e59,hF⟩:=bnd hF
         refine do1 3 (gm (f:=A7) e59) ?_
         obtain⟨y43,e60,hF⟩:=bnd hF
         refine do1 3 (gm (f:=A7) e60) ?_
         refine je 4 ?_
         obtain⟨y44,e61,hF⟩:=bnd hF
         refine jo1 8 (gm (f:=A7) e61) ?_
         obtain⟨l26,e62,hF⟩:=bnd hF
         have hst:=stm (f:=A7) (z:=Int.tmod (IntKind.i64.wrap ((IntKind.i64.wrap (y41+v13))+(IntKind.i64.wrap (y42*y43)))) 10000) (k:=0) (xs:=[.int .i64 (Int.tmod (IntKind.i64.wrap ((IntKind.i64.wrap (y41+v13))+(IntKind.i64.wrap (y42*y43)))) 10000)]) (gj e61) rfl
         refine C2 0 (E9 (o:=(match(l25.map A7)[0+Int.toNat (IntKind.i64.wrap (v10+v14))]? with|some old=>some ((l25.map A7).set (0+Int.toNat (IntKind.i64.wrap (v10+v14))) (X6 old 0 [.int .i64 (Int.tmod (IntKind.i64.wrap ((IntKind.i64.wrap (y41+v13))+(IntKind.i64.wrap (y42*y43)))) 10000)]))|none=>none)) (l26.map A7) (by kernel_rfl) (by cases e62;exact hst) ?_)
         exact ja 12 (iL2 _ _ _ hF)
        ·obtain⟨y45,e63,hF⟩:=bnd hF
         refine jo1 10 (gm (f:=A7) e63) ?_
         obtain⟨l27,e64,hF⟩:=bnd hF
         have hst:=stm (f:=A7) (z:=Int.tmod (IntKind.i64.wrap (y41+v13)) 10000) (k:=0) (xs:=[.int .i64 (Int.tmod (IntKind.i64.wrap (y41+v13)) 10000)]) (gj e63) rfl
         refine C2 0 (E9 (o:=(match(l25.map A7)[0+Int.toNat (IntKind.i64.wrap (v10+v14))]? with|some old=>some ((l25.map A7).set (0+Int.toNat (IntKind.i64.wrap (v10+v14))) (X6 old 0 [.int .i64 (Int.tmod (IntKind.i64.wrap (y41+v13)) 10000)]))|none=>none)) (l27.map A7) (by kernel_rfl) (by cases e64;exact hst) ?_)
         exact ja 12 (iL2 _ _ _ hF)
       ·exact ja 8 (iL1 _ _ hF)
      clear hF;rename _=some o9=>hF
      refine jI 9 26 hF ?_ ?_<;>intro hF
      ·cases hF
       exact ja 3 hR9
      ·cases hF
       exact ja 3 hR9
    exact ja 14 (hL2 _ _ _ _ hF)
   ·refine jB 5 hF Dc1 Aq1 fun y46 hF=> ?_
    cases hF
    exact jr 2
 exact ja 9 (hL1 _ _ _ hF)
def Ax5(v9:Int)(cL2:Int→(List Int)→Option (List UInt8))(l34:List Int):Option (List UInt8):=
 cL2 (IntKind.i64.wrap (Int.tdiv v9 10)) l34
def N6(d1:List Int)(v7:Int)(cL1:Int→(List Int)→Option (List UInt8)):Nat→Int→(List Int)→Option (List UInt8)
 |0,_,_=>none
 |nL2+1,v9,l32=>
  bif decide (v9>0) then
   (Option.bind (C4 d1 v7) fun y18=>
   ass (decide (v9≠0))<|
   Option.bind (
    bif decide (((l32.map K4).length:Int)>0) then
     (some true)
    else
     (some ((IntKind.u8.wrap (IntKind.i64.wrap (48+(Int.tmod (IntKind.i64.wrap (Int.tdiv y18 v9)) 10)))) !=48))) fun o16=>
   bif o16 then
    (Option.bind (app l32 [IntKind.u8.wrap (IntKind.i64.wrap (48+(Int.tmod (IntKind.i64.wrap (Int.tdiv y18 v9)) 10)))]) fun l35=>
    Ax5 v9 (N6 d1 v7 cL1 nL2) l35)
   else
    (Ax5 v9 (N6 d1 v7 cL1 nL2) l32))
  else
   (cL1 (IntKind.i64.wrap (v7-1)) l32)
def V2(fuel:Nat)(d0:Bool)(d1:List Int):Nat→Int→(List Int)→Option (List UInt8)
 |0,_,_=>none
 |nL1+1,v7,l24=>
  bif decide (v7≥0) then
   (N6 d1 v7 (V2 fuel d0 d1 nL1) fuel 1000 l24)
  else
   (bif d0 then
    (ass (decide ([45].length+(l24.map toB).length≤4611686018427387904))<|
    some ([45]++(l24.map toB)))
   else
    (some (l24.map toB)))
def Df9(fuel:Nat)(d0:Bool)(d1:List Int):Option (List UInt8):=
 bif ((d1.map A7).length:Int)==0 then
  (some [48])
 else
  (V2 fuel d0 d1 fuel (IntKind.i64.wrap (((d1.map A7).length:Int)-1)) [])
noncomputable abbrev Br8:=C1 Tryz.f112
abbrev Gj2(r:List UInt8):=J none Tryz.prog 49 [] (H3 Tryz.prog Tryz.f112 (.s r))
theorem Ah2{fuel:Nat}{d0:Bool}{d1:List Int}{r:List UInt8}(hF:Df9 fuel d0 d1=some r):
 C3 Tryz.prog 112 [.b d0,.l 1 d1 A7] (.s r):=by
 unfold Df9 at hF
 refine cf 49 Tryz.func112 ?_
 refine jI 11 11 hF ?_ ?_<;>intro hF
 ·cases hF
  exact jr 5
 ·have hL1:∀(nL1:Nat) (v7:Int) (l24:List Int),V2 fuel d0 d1 nL1 v7 l24=some r→Gj2 r ⟨mkT [(0,.b d0),(1,.l 1 d1 A7),(5,.suf 42 0 0),(6,.i v7)],[(42,.buf 0 5 1 (l24.map K4))],[kL Br8 [1,1,1,0,1,0,0],.inBlock 0,kC Br8 [1,1,1,1]]⟩:=by
   clear hF;intro nL1
   induction nL1 with
   |zero=>intro v7 l24 hF;cases hF
   |succ nL1 iL1=>
    intro v7 l24 hF
    rw[V2]at hF
    refine jI 7 16 hF ?_ ?_<;>intro hF
    ·have hL2:∀(nL2:Nat) (v9:Int) (l32:List Int),N6 d1 v7 (V2 fuel d0 d1 nL1) nL2 v9 l32=some r→Gj2 r ⟨mkT [(0,.b d0),(1,.l 1 d1 A7),(5,.suf 42 0 0),(6,.i v7),(7,.i v9)],[(42,.buf 0 5 1 (l32.map K4))],[kL Br8 [1,1,1,0,1,0,0,1,0,0,1,0,0],.inBlock 2,.inBlock 1,kC Br8 [1,1,1,0,1,0,0,1,1],kL Br8 [1,1,1,0,1,0,0],.inBlock 0,kC Br8 [1,1,1,1]]⟩:=by
      clear hF;intro nL2
      induction nL2 with
      |zero=>intro v9 l32 hF;cases hF
      |succ nL2 iL2=>
       intro v9 l32 hF
       rw[N6]at hF
       refine jI 7 20 hF ?_ ?_<;>intro hF
       ·have hA3:∀(l34:List Int),Ax5 v9 (N6 d1 v7 (V2 fuel d0 d1 nL1) nL2) l34=some r→Gj2 r ⟨mkT [(0,.b d0),(1,.l 1 d1 A7),(5,.suf 42 0 0),(6,.i v7),(7,.i v9)],[(42,.buf 0 5 1 (l34.map K4))],[kC Br8 [1,1,1,0,1,0,0,1,0,0,1,0,0,1,1],kL Br8 [1,1,1,0,1,0,0,1,0,0,1,0,0],.inBlock 2,.inBlock 1,kC Br8 [1,1,1,0,1,0,0,1,1],kL Br8 [1,1,1,0,1,0,0],.inBlock 0,kC Br8 [1,1,1,1]]⟩:=by
         intro l34 hF
         unfold Ax5 at hF
         exact ja 5 (iL2 _ _ hF)
        obtain⟨y18,e35,hF⟩:=bnd hF
        refine jo1 8 (gm (f:=A7) e35) ?_
        obtain⟨hb90,hF⟩:=Q0 hF
        refine jo1 2 (ck hb90) ?_
        obtain⟨o16,hO,hF⟩:=bnd hF
        have hR16:Gj2 r ⟨mkT [(0,.b d0),(1,.l 1 d1 A7),(5,.suf 42 0 0),(6,.i v7),(7,.i v9),(8,.y (IntKind.u8.wrap (IntKind.i64.wrap (48+(Int.tmod (IntKind.i64.wrap (Int.tdiv y18 v9)) 10))))),(38,.b o16)],[(42,.buf 0 5 1 (l32.map K4))],[kO Br8 [1,1,1,0,1,0,0,1,0,0,1,0,0,1,0,0,1,0],kC Br8 [1,1,1,0,1,0,0,1,0,0,1,0,0,1,0,0,1,1],.inBlock 3,kC Br8 [1,1,1,0,1,0,0,1,0,0,1,0,0,1,1],kL Br8 [1,1,1,0,1,0,0,1,0,0,1,0,0],.inBlock 2,.inBlock 1,kC Br8 [1,1,1,0,1,0,0,1,1],kL Br8 [1,1,1,0,1,0,0],.inBlock 0,kC Br8 [1,1,1,1]]⟩:=by
         clear hO
         refine jI 1 38 hF ?_ ?_<;>intro hF
         ·obtain⟨l35,e36,hF⟩:=bnd hF
          refine jo2 5 (am (f:=K4) e36) ?_
          exact ja 3 (hA3 _ hF)
         ·exact ja 3 (hA3 _ hF)
        clear hF;rename _=some o16=>hF
        refine jI 11 35 hF ?_ ?_<;>intro hF
        ·cases hF
         exact ja 3 hR16
        ·cases hF
         exact ja 3 hR16
       ·exact ja 8 (iL1 _ _ hF)
     exact ja 10 (hL2 _ _ _ hF)
    ·refine jI 7 43 hF ?_ ?_<;>intro hF
     ·refine C2 4 (E8 (o:=Fr7 (l24.map K4)) [.str (l24.map toB)] (by kernel_rfl) (He9 (fun _=>rfl) l24) ?_)
      obtain⟨hb96,hF⟩:=Q0 hF
      refine jo1 0 (ck hb96) ?_
      cases hF
      exact jr 2
     ·refine C2 5 (E8 (o:=Fr7 (l24.map K4)) [.str (l24.map toB)] (by kernel_rfl) (He9 (fun _=>rfl) l24) ?_)
      cases hF
      exact jr 2
  refine C2 16 (Ce5 (n:=1) 5 42 5 1 (by kernel_rfl) (by kernel_rfl) ?_)
  exact ja 0 (hL1 _ _ _ hF)
def F66(fuel:Nat)(d0:List UInt8)(d1:List UInt8):Option (List UInt8):=
 Option.bind (En5 d0 d1) fun y1=>
 bif y1.2.2 then
  (Option.bind (F64 (IntKind.i64.wrap (y1.1*y1.2.1))) fun y2=>
  some y2)
 else
  (Option.bind (Bk5 d0) fun y3=>
  Option.bind (Bk5 d1) fun y4=>
  Option.bind (Bs4 fuel d0) fun y5=>
  Option.bind (Bs4 fuel d1) fun y6=>
  Option.bind (Ed1 fuel y5 y6) fun y7=>
  Option.bind (Df9 fuel (!(y3==y4)) y7) fun y8=>
  some y8)
theorem At7{fuel:Nat}{d0:List UInt8}{d1:List UInt8}{r:List UInt8}(hF:F66 fuel d0 d1=some r):
 C3 Tryz.prog 66 [.s d0,.s d1] (.s r):=by
 unfold F66 at hF
 refine cf 31 Tryz.func66 ?_
 refine jB 9 hF Ei5 Bk4 fun y1 hF=> ?_
 refine jI 12 15 hF ?_ ?_<;>intro hF
 ·refine jB 6 hF Ej1 Ak9 fun y2 hF=> ?_
  cases hF
  exact jr 2
 ·refine jB 5 hF Al7 L5 fun y3 hF=> ?_
  refine jB 1 hF Al7 L5 fun y4 hF=> ?_
  refine jB 2 hF As0 N7 fun y5 hF=> ?_
  refine jB 1 hF As0 N7 fun y6 hF=> ?_
  refine jB 0 hF Fg7 Cc5 fun y7 hF=> ?_
  refine jB 0 hF Ch9 Ah2 fun y8 hF=> ?_
  cases hF
  exact jr 2
def F92(d0:List UInt8):Option Int:=
 bif d0==[48] then
  (some 0)
 else
  (Option.bind (Bk5 d0) fun y1=>
  bif y1 then
   (some (-1))
  else
   (some 1))
theorem Bs9{d0:List UInt8}{r:Int}(hF:F92 d0=some r):
 C3 Tryz.prog 92 [.s d0] (.i r):=by
 unfold F92 at hF
 refine cf 7 Tryz.func92 ?_
 refine jI 10 4 hF ?_ ?_<;>intro hF
 ·cases hF
  exact jr 5
 ·refine jB 6 hF Al7 L5 fun y1 hF=> ?_
  refine jI 1 6 hF ?_ ?_<;>intro hF
  ·cases hF
   exact jr 5
  ·cases hF
   exact jr 6
def Ah4(d0:List Int)(d1:List Int):Nat→Int→Option Int
 |0,_=>none
 |nL1+1,v2=>
  bif decide (v2≥0) then
   (Option.bind (C4 d0 v2) fun y9=>
   Option.bind (C4 d1 v2) fun y10=>
   bif y9 !=y10 then
    (Option.bind (C4 d0 v2) fun y11=>
    Option.bind (C4 d1 v2) fun y12=>
    bif decide (y11<y12) then
     (some (-1))
    else
     (some 1))
   else
    ((Ah4 d0 d1 nL1) (IntKind.i64.wrap (v2-1))))
  else
   (some 0)
def En6(fuel:Nat)(d0:List Int)(d1:List Int):Option Int:=
 bif ((d0.map A7).length:Int) !=((d1.map A7).length:Int) then
  (bif decide (((d0.map A7).length:Int)<((d1.map A7).length:Int)) then
   (some (-1))
  else
   (some 1))
 else
  (Ah4 d0 d1 fuel (IntKind.i64.wrap (((d0.map A7).length:Int)-1)))
noncomputable abbrev Ha1:=C1 Tryz.f118
abbrev Hf8(r:Int):=J none Tryz.prog 41 [] (H3 Tryz.prog Tryz.f118 (.i r))
theorem Bk6{fuel:Nat}{d0:List Int}{d1:List Int}{r:Int}(hF:En6 fuel d0 d1=some r):
 C3 Tryz.prog 118 [.l 1 d0 A7,.l 1 d1 A7] (.i r):=by
 unfold En6 at hF
 refine cf 41 Tryz.func118 ?_
 refine jI 13 10 hF ?_ ?_<;>intro hF
 ·refine jI 10 15 hF ?_ ?_<;>intro hF
  ·cases hF
   exact jr 5
  ·cases hF
   exact jr 6
 ·have hL1:∀(nL1:Nat) (v2:Int),Ah4 d0 d1 nL1 v2=some r→Hf8 r ⟨mkT [(0,.l 1 d0 A7),(1,.l 1 d1 A7),(5,.i v2)],[],[kL Ha1 [1,1,0,1,0,0],.inBlock 0,kC Ha1 [1,1,1]]⟩:=by
   clear hF;intro nL1
   induction nL1 with
   |zero=>intro v2 hF;cases hF
   |succ nL1 iL1=>
    intro v2 hF
    rw[Ah4]at hF
    refine jI 7 20 hF ?_ ?_<;>intro hF
    ·refine jd 5 ?_
     obtain⟨y9,e9,hF⟩:=bnd hF
     refine do1 2 (gm (f:=A7) e9) ?_
     obtain⟨y10,e10,hF⟩:=bnd hF
     refine do1 3 (gm (f:=A7) e10) ?_
     refine je 2 ?_
     refine jI 0 31 hF ?_ ?_<;>intro hF
     ·refine jd 3 ?_
      obtain⟨y11,e11,hF⟩:=bnd hF
      refine do1 2 (gm (f:=A7) e11) ?_
      obtain⟨y12,e12,hF⟩:=bnd hF
      refine do1 3 (gm (f:=A7) e12) ?_
      refine je 2 ?_
      refine jI 0 40 hF ?_ ?_<;>intro hF
      ·cases hF
       exact jr 5
      ·cases hF
       exact jr 6
     ·exact ja 8 (iL1 _ hF)
    ·cases hF
     exact jr 6
  exact ja 12 (hL1 _ _ hF)
def F72(fuel:Nat)(d0:List UInt8)(d1:List UInt8):Option Int:=
 Option.bind (F92 d0) fun y1=>
 Option.bind (F92 d1) fun y2=>
 bif y1 !=y2 then
  (Option.bind (F92 d0) fun y3=>
  Option.bind (F92 d1) fun y4=>
  bif decide (y3<y4) then
   (some (-1))
  else
   (some 1))
 else
  (Option.bind (Bk5 d0) fun y5=>
  bif y5 then
   (Option.bind (Bs4 fuel d1) fun y6=>
   Option.bind (Bs4 fuel d0) fun y7=>
   Option.bind (En6 fuel y6 y7) fun y8=>
   some y8)
  else
   (Option.bind (Bs4 fuel d0) fun y9=>
   Option.bind (Bs4 fuel d1) fun y10=>
   Option.bind (En6 fuel y9 y10) fun y11=>
   some y11))
theorem Fu7{fuel:Nat}{d0:List UInt8}{d1:List UInt8}{r:Int}(hF:F72 fuel d0 d1=some r):
 C3 Tryz.prog 72 [.s d0,.s d1] (.i r):=by
 unfold F72 at hF
 refine cf 27 Tryz.func72 ?_
 refine jB 8 hF Gb7 Bs9 fun y1 hF=> ?_
 refine jB 1 hF Gb7 Bs9 fun y2 hF=> ?_
 refine jI 2 9 hF ?_ ?_<;>intro hF
 ·refine jB 5 hF Gb7 Bs9 fun y3 hF=> ?_
  refine jB 1 hF Gb7 Bs9 fun y4 hF=> ?_
  refine jI 2 14 hF ?_ ?_<;>intro hF
  ·cases hF
   exact jr 5
  ·cases hF
   exact jr 6
 ·refine jB 6 hF Al7 L5 fun y5 hF=> ?_
  refine jI 1 16 hF ?_ ?_<;>intro hF
  ·refine jB 4 hF As0 N7 fun y6 hF=> ?_
   refine jB 1 hF As0 N7 fun y7 hF=> ?_
   refine jB 0 hF Ei6 Bk6 fun y8 hF=> ?_
   cases hF
   exact jr 2
  ·refine jB 5 hF As0 N7 fun y9 hF=> ?_
   refine jB 1 hF As0 N7 fun y10 hF=> ?_
   refine jB 0 hF Ei6 Bk6 fun y11 hF=> ?_
   cases hF
   exact jr 2
def Q1(d0:List Int)(d1:List Int):Nat→Int→Int→(List Int)→Option (List Int)
 |0,_,_,_=>none
 |nL1+1,v3,v4,l10=>
  Option.bind (
   bif decide (v4<((d0.map A7).length:Int)) then
    (some true)
   else
    (bif decide (v4<((d1.map A7).length:Int)) then
     (some true)
    else
     (some (decide (v3>0))))) fun o3=>
  bif o3 then
   (bif decide (v4<((d0.map A7).length:Int)) then
    (Option.bind (C4 d0 v4) fun y7=>
    bif decide (v4<((d1.map A7).length:Int)) then
     (Option.bind (C4 d1 v4) fun y8=>
     Option.bind (app l10 [Int.tmod (IntKind.i64.wrap ((IntKind.i64.wrap (v3+y7))+y8)) 10000]) fun l11=>
     (Q1 d0 d1 nL1) (IntKind.i64.wrap (Int.tdiv (IntKind.i64.wrap ((IntKind.i64.wrap (v3+y7))+y8)) 10000)) (IntKind.i64.wrap (v4+1)) l11)
    else
     (Option.bind (app l10 [Int.tmod (IntKind.i64.wrap (v3+y7)) 10000]) fun l12=>
     (Q1 d0 d1 nL1) (IntKind.i64.wrap (Int.tdiv (IntKind.i64.wrap (v3+y7)) 10000)) (IntKind.i64.wrap (v4+1)) l12))
   else
    (bif decide (v4<((d1.map A7).length:Int)) then
     (Option.bind (C4 d1 v4) fun y9=>
     Option.bind (app l10 [Int.tmod (IntKind.i64.wrap (v3+y9)) 10000]) fun l13=>
     (Q1 d0 d1 nL1) (IntKind.i64.wrap (Int.tdiv (IntKind.i64.wrap (v3+y9)) 10000)) (IntKind.i64.wrap (v4+1)) l13)
    else
     (Option.bind (app l10 [Int.tmod v3 10000]) fun l14=>
     (Q1 d0 d1 nL1) (IntKind.i64.wrap (Int.tdiv v3 10000)) (IntKind.i64.wrap (v4+1)) l14)))
  else
   (some l10)
def Fr9(fuel:Nat)(d0:List Int)(d1:List Int):Option (List Int):=
 Q1 d0 d1 fuel 0 0 []
noncomputable abbrev Fd6:=C1 Tryz.f119
abbrev Gy5(r:List Int):=J none Tryz.prog 54 [] (H3 Tryz.prog Tryz.f119 (.l 1 r A7))
theorem Ex2{fuel:Nat}{d0:List Int}{d1:List Int}{r:List Int}(hF:Fr9 fuel d0 d1=some r):
 C3 Tryz.prog 119 [.l 1 d0 A7,.l 1 d1 A7] (.l 1 r A7):=by
 unfold Fr9 at hF
 refine cf 54 Tryz.func119 ?_
 have hL1:∀(nL1:Nat) (v3:Int) (v4:Int) (l10:List Int),Q1 d0 d1 nL1 v3 v4 l10=some r→Gy5 r ⟨mkT [(0,.l 1 d0 A7),(1,.l 1 d1 A7),(5,.suf 50 0 0),(6,.i v3),(7,.i v4)],[(50,.buf 0 3 1 (l10.map A7))],[kL Fd6 [1,1,1,0,1,0,0],.inBlock 0,kC Fd6 [1,1,1,1]]⟩:=by
  clear hF;intro nL1
  induction nL1 with
  |zero=>intro v3 v4 l10 hF;cases hF
  |succ nL1 iL1=>
   intro v3 v4 l10 hF
   rw[Q1]at hF
   obtain⟨o3,hO,hF⟩:=bnd hF
   have hR3:Gy5 r ⟨mkT [(0,.l 1 d0 A7),(1,.l 1 d1 A7),(5,.suf 50 0 0),(6,.i v3),(7,.i v4),(22,.b o3)],[(50,.buf 0 3 1 (l10.map A7))],[kO Fd6 [1,1,1,0,1,0,0,0,0],kC Fd6 [1,1,1,0,1,0,0,0,1],kC Fd6 [1,1,1,0,1,0,0,1],kL Fd6 [1,1,1,0,1,0,0],.inBlock 0,kC Fd6 [1,1,1,1]]⟩:=by
    clear hO
    refine jI 1 22 hF ?_ ?_<;>intro hF
    ·refine jI 17 29 hF ?_ ?_<;>intro hF
     ·obtain⟨y7,e15,hF⟩:=bnd hF
      refine jo1 5 (gm (f:=A7) e15) ?_
      refine jI 12 39 hF ?_ ?_<;>intro hF
      ·obtain⟨y8,e16,hF⟩:=bnd hF
       refine jo1 5 (gm (f:=A7) e16) ?_
       obtain⟨l11,e17,hF⟩:=bnd hF
       refine jo2 10 (am (f:=A7) e17) ?_
       exact ja 13 (iL1 _ _ _ hF)
      ·obtain⟨l12,e18,hF⟩:=bnd hF
       refine jo2 8 (am (f:=A7) e18) ?_
       exact ja 13 (iL1 _ _ _ hF)
     ·refine jI 10 39 hF ?_ ?_<;>intro hF
      ·obtain⟨y9,e19,hF⟩:=bnd hF
       refine jo1 5 (gm (f:=A7) e19) ?_
       obtain⟨l13,e20,hF⟩:=bnd hF
       refine jo2 10 (am (f:=A7) e20) ?_
       exact ja 13 (iL1 _ _ _ hF)
      ·obtain⟨l14,e21,hF⟩:=bnd hF
       refine jo2 8 (am (f:=A7) e21) ?_
       exact ja 13 (iL1 _ _ _ hF)
    ·cases hF
     exact jr 7
   clear hF;rename _=some o3=>hF
   refine jI 9 13 hF ?_ ?_<;>intro hF
   ·cases hF
    exact ja 9 hR3
   ·refine jI 6 19 hF ?_ ?_<;>intro hF
    ·cases hF
     exact ja 3 hR3
    ·cases hF
     exact ja 3 hR3
 refine C2 19 (Ce5 (n:=1) 5 50 3 1 (by kernel_rfl) (by kernel_rfl) ?_)
 exact ja 0 (hL1 _ _ _ _ hF)
def R4(fuel:Nat)(d0:List Int)(d1:List Int):Nat→Int→Int→(List Int)→Option (List Int)
 |0,_,_,_=>none
 |nL1+1,v3,v4,l10=>
  bif decide (v4<((d0.map A7).length:Int)) then
   (Option.bind (C4 d0 v4) fun y5=>
   bif decide (v4<((d1.map A7).length:Int)) then
    (Option.bind (C4 d1 v4) fun y6=>
    bif decide ((IntKind.i64.wrap ((IntKind.i64.wrap (y5-v3))-y6))<0) then
     (Option.bind (app l10 [IntKind.i64.wrap ((IntKind.i64.wrap ((IntKind.i64.wrap (y5-v3))-y6))+10000)]) fun l11=>
     (R4 fuel d0 d1 nL1) 1 (IntKind.i64.wrap (v4+1)) l11)
    else
     (Option.bind (app l10 [IntKind.i64.wrap ((IntKind.i64.wrap (y5-v3))-y6)]) fun l12=>
     (R4 fuel d0 d1 nL1) 0 (IntKind.i64.wrap (v4+1)) l12))
   else
    (bif decide ((IntKind.i64.wrap (y5-v3))<0) then
     (Option.bind (app l10 [IntKind.i64.wrap ((IntKind.i64.wrap (y5-v3))+10000)]) fun l13=>
     (R4 fuel d0 d1 nL1) 1 (IntKind.i64.wrap (v4+1)) l13)
    else
     (Option.bind (app l10 [IntKind.i64.wrap (y5-v3)]) fun l14=>
     (R4 fuel d0 d1 nL1) 0 (IntKind.i64.wrap (v4+1)) l14)))
  else
   (Option.bind (Ec2 fuel l10) fun y7=>
   some y7)
def Ex3(fuel:Nat)(d0:List Int)(d1:List Int):Option (List Int):=
 R4 fuel d0 d1 fuel 0 0 []
noncomputable abbrev Ha2:=C1 Tryz.f120
abbrev Hf9(r:List Int):=J none Tryz.prog 41 [] (H3 Tryz.prog Tryz.f120 (.l 1 r A7))
theorem Cc6{fuel:Nat}{d0:List Int}{d1:List Int}{r:List Int}(hF:Ex3 fuel d0 d1=some r):
 C3 Tryz.prog 120 [.l 1 d0 A7,.l 1 d1 A7] (.l 1 r A7):=by
 unfold Ex3 at hF
 refine cf 41 Tryz.func120 ?_
 have hL1:∀(nL1:Nat) (v3:Int) (v4:Int) (l10:List Int),R4 fuel d0 d1 nL1 v3 v4 l10=some r→Hf9 r ⟨mkT [(0,.l 1 d0 A7),(1,.l 1 d1 A7),(5,.suf 38 0 0),(6,.i v3),(7,.i v4)],[(38,.buf 0 3 1 (l10.map A7))],[kL Ha2 [1,1,1,0,1,0,0],.inBlock 0,kC Ha2 [1,1,1,1]]⟩:=by
  clear hF;intro nL1
  induction nL1 with
  |zero=>intro v3 v4 l10 hF;cases hF
  |succ nL1 iL1=>
   intro v3 v4 l10 hF
   rw[R4]at hF
   refine jI 9 12 hF ?_ ?_<;>intro hF
   ·obtain⟨y5,e13,hF⟩:=bnd hF
    refine jo1 8 (gm (f:=A7) e13) ?_
    refine jI 13 24 hF ?_ ?_<;>intro hF
    ·obtain⟨y6,e14,hF⟩:=bnd hF
     refine jo1 5 (gm (f:=A7) e14) ?_
     refine jI 14 32 hF ?_ ?_<;>intro hF
     ·obtain⟨l11,e15,hF⟩:=bnd hF
      refine jo2 14 (am (f:=A7) e15) ?_
      exact ja 8 (iL1 _ _ _ hF)
     ·obtain⟨l12,e16,hF⟩:=bnd hF
      refine jo2 6 (am (f:=A7) e16) ?_
      exact ja 8 (iL1 _ _ _ hF)
    ·refine jI 12 32 hF ?_ ?_<;>intro hF
     ·obtain⟨l13,e17,hF⟩:=bnd hF
      refine jo2 14 (am (f:=A7) e17) ?_
      exact ja 8 (iL1 _ _ _ hF)
     ·obtain⟨l14,e18,hF⟩:=bnd hF
      refine jo2 6 (am (f:=A7) e18) ?_
      exact ja 8 (iL1 _ _ _ hF)
   ·refine jB 5 hF Dc1 Aq1 fun y7 hF=> ?_
    cases hF
    exact jr 2
 refine C2 19 (Ce5 (n:=1) 5 38 3 1 (by kernel_rfl) (by kernel_rfl) ?_)
 exact ja 0 (hL1 _ _ _ _ hF)
def F73(fuel:Nat)(d0:List UInt8)(d1:List UInt8):Option (List UInt8):=
 Option.bind (En5 d0 d1) fun y1=>
 bif y1.2.2 then
  (Option.bind (F64 (IntKind.i64.wrap (y1.1+y1.2.1))) fun y2=>
  some y2)
 else
  (Option.bind (Bs4 fuel d0) fun y3=>
  Option.bind (Bs4 fuel d1) fun y4=>
  Option.bind (Bk5 d0) fun y5=>
  Option.bind (Bk5 d1) fun y6=>
  bif y5==y6 then
   (Option.bind (Bk5 d0) fun y7=>
   Option.bind (Fr9 fuel y3 y4) fun y8=>
   Option.bind (Df9 fuel y7 y8) fun y9=>
   some y9)
  else
   (Option.bind (En6 fuel y3 y4) fun y10=>
   bif decide (y10≥0) then
    (Option.bind (Bk5 d0) fun y11=>
    Option.bind (Ex3 fuel y3 y4) fun y12=>
    Option.bind (Df9 fuel y11 y12) fun y13=>
    some y13)
   else
    (Option.bind (Bk5 d1) fun y14=>
    Option.bind (Ex3 fuel y4 y3) fun y15=>
    Option.bind (Df9 fuel y14 y15) fun y16=>
    some y16)))
theorem Dk0{fuel:Nat}{d0:List UInt8}{d1:List UInt8}{r:List UInt8}(hF:F73 fuel d0 d1=some r):
 C3 Tryz.prog 73 [.s d0,.s d1] (.s r):=by
 unfold F73 at hF
 refine cf 53 Tryz.func73 ?_
 refine jB 9 hF Ei5 Bk4 fun y1 hF=> ?_
 refine jI 12 17 hF ?_ ?_<;>intro hF
 ·refine jB 6 hF Ej1 Ak9 fun y2 hF=> ?_
  cases hF
  exact jr 2
 ·refine jB 5 hF As0 N7 fun y3 hF=> ?_
  refine jB 1 hF As0 N7 fun y4 hF=> ?_
  refine jB 7 hF Al7 L5 fun y5 hF=> ?_
  refine jB 1 hF Al7 L5 fun y6 hF=> ?_
  refine jI 2 30 hF ?_ ?_<;>intro hF
  ·refine jB 4 hF Al7 L5 fun y7 hF=> ?_
   refine jB 2 hF Gq9 Ex2 fun y8 hF=> ?_
   refine jB 0 hF Ch9 Ah2 fun y9 hF=> ?_
   cases hF
   exact jr 2
  ·refine jB 7 hF Ei6 Bk6 fun y10 hF=> ?_
   refine jI 2 40 hF ?_ ?_<;>intro hF
   ·refine jB 4 hF Al7 L5 fun y11 hF=> ?_
    refine jB 2 hF Fg8 Cc6 fun y12 hF=> ?_
    refine jB 0 hF Ch9 Ah2 fun y13 hF=> ?_
    cases hF
    exact jr 2
   ·refine jB 5 hF Al7 L5 fun y14 hF=> ?_
    refine jB 2 hF Fg8 Cc6 fun y15 hF=> ?_
    refine jB 0 hF Ch9 Ah2 fun y16 hF=> ?_
    cases hF
    exact jr 2
def Ai4(v92:Int)(cL3:Int→Int→Int→Option (List Int×List Int))(v93:Int)(v94:Int):Option (List Int×List Int):=
 cL3 v93 v94 (IntKind.i64.wrap (v92-1))
def Ay0(v66:Int)(cL1:(List Int)→Int→(List Int)→Option (List Int×List Int))(l23:List Int)(l24:List Int):Option (List Int×List Int):=
 cL1 l23 (IntKind.i64.wrap (v66-1)) l24
def Aa9(fuel:Nat)(d1:List Int)(l20:List Int)(v66:Int)(y147:List Int)(cL1:(List Int)→Int→(List Int)→Option (List Int×List Int)):Nat→Int→Int→Option (List Int×List Int)
 |0,_,_=>none
 |nL5+1,v97,v98=>
  bif decide (v97<v98) then
   (Option.bind (Ed1 fuel d1 [IntKind.i64.wrap (Int.tdiv (IntKind.i64.wrap ((IntKind.i64.wrap (v97+v98))+1)) 2)]) fun y170=>
   Option.bind (En6 fuel y170 y147) fun y171=>
   bif decide (y171≤0) then
    ((Aa9 fuel d1 l20 v66 y147 cL1 nL5) (IntKind.i64.wrap (Int.tdiv (IntKind.i64.wrap ((IntKind.i64.wrap (v97+v98))+1)) 2)) v98)
   else
    ((Aa9 fuel d1 l20 v66 y147 cL1 nL5) v97 (IntKind.i64.wrap ((IntKind.i64.wrap (Int.tdiv (IntKind.i64.wrap ((IntKind.i64.wrap (v97+v98))+1)) 2))-1))))
  else
   (Option.bind (C4 l20 v66) fun y172=>
   Option.bind (some (l20.set (0+Int.toNat v66) v97)) fun l26=>
   bif decide (v97>0) then
    (Option.bind (Ed1 fuel d1 [v97]) fun y173=>
    Option.bind (Ex3 fuel y147 y173) fun y174=>
    Ay0 v66 cL1 y174 l26)
   else
    (Ay0 v66 cL1 y147 l26))
def L0(fuel:Nat)(d1:List Int)(l20:List Int)(v66:Int)(y147:List Int)(cL1:(List Int)→Int→(List Int)→Option (List Int×List Int)):Nat→Int→Int→Int→Option (List Int×List Int)
 |0,_,_,_=>none
 |nL3+1,v90,v91,v92=>
  bif decide (v92≥(bif decide ((IntKind.i64.wrap ((IntKind.i64.wrap (((d1.map A7).length:Int)-1))-1))>0) then(IntKind.i64.wrap ((IntKind.i64.wrap (((d1.map A7).length:Int)-1))-1)) else 0)) then
   (bif decide (v92<((y147.map A7).length:Int)) then
    (Option.bind (C4 y147 v92) fun y163=>
    bif decide (v92≤(IntKind.i64.wrap (((d1.map A7).length:Int)-1))) then
     (Option.bind (C4 d1 v92) fun y164=>
     Ai4 v92 (L0 fuel d1 l20 v66 y147 cL1 nL3) (IntKind.i64.wrap ((IntKind.i64.wrap (v90*10000))+y164)) (IntKind.i64.wrap ((IntKind.i64.wrap (v91*10000))+y163)))
    else
     (Ai4 v92 (L0 fuel d1 l20 v66 y147 cL1 nL3) v90 (IntKind.i64.wrap ((IntKind.i64.wrap (v91*10000))+y163))))
   else
    (bif decide (v92≤(IntKind.i64.wrap (((d1.map A7).length:Int)-1))) then
     (Option.bind (C4 d1 v92) fun y165=>
     Ai4 v92 (L0 fuel d1 l20 v66 y147 cL1 nL3) (IntKind.i64.wrap ((IntKind.i64.wrap (v90*10000))+y165)) (IntKind.i64.wrap (v91*10000)))
    else
     (Ai4 v92 (L0 fuel d1 l20 v66 y147 cL1 nL3) v90 (IntKind.i64.wrap (v91*10000)))))
  else
   (ass (decide ((IntKind.i64.wrap (v90+1))≠0))<|
   ass (decide (v90≠0))<|
   Aa9 fuel d1 l20 v66 y147 cL1 fuel (IntKind.i64.wrap (Int.tdiv v91 (IntKind.i64.wrap (v90+1)))) (IntKind.i64.wrap (Int.tdiv v91 v90)))
def R6(fuel:Nat)(d0:List Int)(d1:List Int):Nat→(List Int)→Int→(List Int)→Option (List Int×List Int)
 |0,_,_,_=>none
 |nL1+1,l19,v66,l20=>
  bif decide (v66≥0) then
   (Option.bind (C4 d0 v66) fun y146=>
   Option.bind (app [y146] l19) fun l25=>
   Option.bind (Ec2 fuel l25) fun y147=>
   L0 fuel d1 l20 v66 y147 (R6 fuel d0 d1 nL1) fuel 0 0 (IntKind.i64.wrap ((IntKind.i64.wrap (((d1.map A7).length:Int)-1))+1)))
  else
   (Option.bind (Ec2 fuel l20) fun y175=>
   some (y175,l19))
def Fp2(fuel:Nat)(d0:List Int)(d1:List Int):Option (List Int×List Int):=
 bif decide (((d0.map A7).length:Int)≤(IntKind.i64.wrap (((d1.map A7).length:Int)-1))) then
  (Option.bind (app [] d0) fun l1=>
  some ([],l1))
 else
  (Option.bind (mkL (IntKind.i64.wrap (((d0.map A7).length:Int)-(IntKind.i64.wrap (((d1.map A7).length:Int)-1)))) (IntKind.i64.wrap (((d0.map A7).length:Int)-(IntKind.i64.wrap (((d1.map A7).length:Int)-1)))) 0) fun l2=>
  Option.bind (slc d0 (IntKind.i64.wrap (((d0.map A7).length:Int)-(IntKind.i64.wrap (((d1.map A7).length:Int)-1)))) (d0.length:Int)) fun l3=>
  Option.bind (app [] l3) fun l4=>
  R6 fuel d0 d1 fuel l4 (IntKind.i64.wrap (((l2.map A7).length:Int)-1)) l2)
noncomputable abbrev Bf9:=C1 Tryz.f154
abbrev Fv2(r:List Int×List Int):=J none Tryz.prog 125 [] (H3 Tryz.prog Tryz.f154 (.tup [.l 1 r.1 A7,.l 1 r.2 A7]))
theorem Dh4{fuel:Nat}{d0:List Int}{d1:List Int}{r:List Int×List Int}(hF:Fp2 fuel d0 d1=some r):
 C3 Tryz.prog 154 [.l 1 d0 A7,.l 1 d1 A7] (.tup [.l 1 r.1 A7,.l 1 r.2 A7]):=by
 unfold Fp2 at hF
 refine cf 125 Tryz.func154 ?_
 refine jI 20 22 hF ?_ ?_<;>intro hF
 ·obtain⟨l1,e1,hF⟩:=bnd hF
  refine jo2 5 (am (f:=A7) e1) ?_
  cases hF
  exact jr 3
 ·obtain⟨l2,e2,hF⟩:=bnd hF
  refine jo2 8 (mm (f:=A7) e2) ?_
  obtain⟨l3,e3,hF⟩:=bnd hF
  refine jo2 10 (smh (f:=A7) e3) ?_
  obtain⟨l4,e4,hF⟩:=bnd hF
  refine jo2 0 (am (f:=A7) e4) ?_
  have hL1:∀(nL1:Nat) (l19:List Int) (v66:Int) (l20:List Int),R6 fuel d0 d1 nL1 l19 v66 l20=some r→Fv2 r ⟨mkT [(0,.l 1 d0 A7),(1,.l 1 d1 A7),(6,.i (IntKind.i64.wrap (((d1.map A7).length:Int)-1))),(7,.suf 30 0 0),(8,.l 1 l19 A7),(9,.i v66)],[(30,.buf 0 3 1 (l20.map A7))],[kL Bf9 [1,1,1,1,1,0,1,0,0],.inBlock 0,kC Bf9 [1,1,1,1,1,1]]⟩:=by
   clear hF;intro nL1
   induction nL1 with
   |zero=>intro l19 v66 l20 hF;cases hF
   |succ nL1 iL1=>
    intro l19 v66 l20 hF
    rw[R6]at hF
    refine jI 7 43 hF ?_ ?_<;>intro hF
    ·have hA2:∀(l23:List Int) (l24:List Int),Ay0 v66 (R6 fuel d0 d1 nL1) l23 l24=some r→Fv2 r ⟨mkT [(0,.l 1 d0 A7),(1,.l 1 d1 A7),(6,.i (IntKind.i64.wrap (((d1.map A7).length:Int)-1))),(7,.suf 30 0 0),(8,.l 1 l23 A7),(9,.i v66)],[(30,.buf 0 3 1 (l24.map A7))],[kC Bf9 [1,1,1,1,1,0,1,0,0,1,1],kL Bf9 [1,1,1,1,1,0,1,0,0],.inBlock 0,kC Bf9 [1,1,1,1,1,1]]⟩:=by
      intro l23 l24 hF
      unfold Ay0 at hF
      exact ja 5 (iL1 _ _ _ hF)
     obtain⟨y146,e160,hF⟩:=bnd hF
     refine jo1 8 (gm (f:=A7) e160) ?_
     obtain⟨l25,e161,hF⟩:=bnd hF
     refine jo2 3 (am (f:=A7) e161) ?_
     refine jB 0 hF Dc1 Aq1 fun y147 hF=> ?_
     have hL3:∀(nL3:Nat) (v90:Int) (v91:Int) (v92:Int),L0 fuel d1 l20 v66 y147 (R6 fuel d0 d1 nL1) nL3 v90 v91 v92=some r→Fv2 r ⟨mkT [(0,.l 1 d0 A7),(1,.l 1 d1 A7),(6,.i (IntKind.i64.wrap (((d1.map A7).length:Int)-1))),(7,.suf 30 0 0),(8,.l 1 y147 A7),(9,.i v66),(10,.i v90),(11,.i v91),(12,.i v92)],[(30,.buf 0 3 1 (l20.map A7))],[kL Bf9 [1,1,1,1,1,0,1,0,0,1,0,0,1,1,0,1,0,0],.inBlock 2,kC Bf9 [1,1,1,1,1,0,1,0,0,1,0,0,1,1,1],.inBlock 1,kC Bf9 [1,1,1,1,1,0,1,0,0,1,1],kL Bf9 [1,1,1,1,1,0,1,0,0],.inBlock 0,kC Bf9 [1,1,1,1,1,1]]⟩:=by
      clear hF;intro nL3
      induction nL3 with
      |zero=>intro v90 v91 v92 hF;cases hF
      |succ nL3 iL3=>
       intro v90 v91 v92 hF
       rw[L0]at hF
       refine jI 10 60 hF ?_ ?_<;>intro hF
       ·have hA4:∀(v93:Int) (v94:Int),Ai4 v92 (L0 fuel d1 l20 v66 y147 (R6 fuel d0 d1 nL1) nL3) v93 v94=some r→Fv2 r ⟨mkT [(0,.l 1 d0 A7),(1,.l 1 d1 A7),(6,.i (IntKind.i64.wrap (((d1.map A7).length:Int)-1))),(7,.suf 30 0 0),(8,.l 1 y147 A7),(9,.i v66),(10,.i v93),(11,.i v94),(12,.i v92)],[(30,.buf 0 3 1 (l20.map A7))],[kC Bf9 [1,1,1,1,1,0,1,0,0,1,0,0,1,1,0,1,0,0,1,1],kL Bf9 [1,1,1,1,1,0,1,0,0,1,0,0,1,1,0,1,0,0],.inBlock 2,kC Bf9 [1,1,1,1,1,0,1,0,0,1,0,0,1,1,1],.inBlock 1,kC Bf9 [1,1,1,1,1,0,1,0,0,1,1],kL Bf9 [1,1,1,1,1,0,1,0,0],.inBlock 0,kC Bf9 [1,1,1,1,1,1]]⟩:=by
         intro v93 v94 hF
         unfold Ai4 at hF
         exact ja 5 (iL3 _ _ _ hF)
        refine jI 18 68 hF ?_ ?_<;>intro hF
        ·obtain⟨y163,e178,hF⟩:=bnd hF
         refine jo1 5 (gm (f:=A7) e178) ?_
         refine jI 10 77 hF ?_ ?_<;>intro hF
         ·obtain⟨y164,e179,hF⟩:=bnd hF
          refine jo1 6 (gm (f:=A7) e179) ?_
          exact ja 5 (hA4 _ _ hF)
         ·exact ja 3 (hA4 _ _ hF)
        ·refine jI 8 77 hF ?_ ?_<;>intro hF
         ·obtain⟨y165,e180,hF⟩:=bnd hF
          refine jo1 6 (gm (f:=A7) e180) ?_
          exact ja 5 (hA4 _ _ hF)
         ·exact ja 3 (hA4 _ _ hF)
       ·refine jd 3 ?_
        obtain⟨hb176,hF⟩:=Q0 hF
        refine do1 3 (ck hb176) ?_
        obtain⟨hb177,hF⟩:=Q0 hF
        refine do1 2 (ck hb177) ?_
        refine je 2 ?_
        have hL5:∀(nL5:Nat) (v97:Int) (v98:Int),Aa9 fuel d1 l20 v66 y147 (R6 fuel d0 d1 nL1) nL5 v97 v98=some r→Fv2 r ⟨mkT [(0,.l 1 d0 A7),(1,.l 1 d1 A7),(6,.i (IntKind.i64.wrap (((d1.map A7).length:Int)-1))),(7,.suf 30 0 0),(8,.l 1 y147 A7),(9,.i v66),(13,.i v97),(14,.i v98)],[(30,.buf 0 3 1 (l20.map A7))],[kL Bf9 [1,1,1,1,1,0,1,0,0,1,0,0,1,1,1,1,0,0,0],.inBlock 4,kC Bf9 [1,1,1,1,1,0,1,0,0,1,0,0,1,1,1,1,1],.inBlock 1,kC Bf9 [1,1,1,1,1,0,1,0,0,1,1],kL Bf9 [1,1,1,1,1,0,1,0,0],.inBlock 0,kC Bf9 [1,1,1,1,1,1]]⟩:=by
         clear hF;intro nL5
         induction nL5 with
         |zero=>intro v97 v98 hF;cases hF
         |succ nL5 iL5=>
          intro v97 v98 hF
          rw[Aa9]at hF
          refine jI 8 94 hF ?_ ?_<;>intro hF
          ·refine jB 17 hF Fg7 Cc5 fun y170 hF=> ?_
           refine jB 1 hF Ei6 Bk6 fun y171 hF=> ?_
           refine jI 2 106 hF ?_ ?_<;>intro hF
           ·exact ja 6 (iL5 _ _ hF)
           ·exact ja 7 (iL5 _ _ hF)
          ·obtain⟨y172,e187,hF⟩:=bnd hF
           refine jo1 7 (gm (f:=A7) e187) ?_
           obtain⟨l26,e188,hF⟩:=bnd hF
           have hst:=stm (f:=A7) (z:=v97) (k:=0) (xs:=[.int .i64 v97]) (gj e187) rfl
           refine C2 0 (E9 (o:=(match(l20.map A7)[0+Int.toNat v66]? with|some old=>some ((l20.map A7).set (0+Int.toNat v66) (X6 old 0 [.int .i64 v97]))|none=>none)) (l26.map A7) (by kernel_rfl) (by cases e188;exact hst) ?_)
           refine jI 6 115 hF ?_ ?_<;>intro hF
           ·refine jB 6 hF Fg7 Cc5 fun y173 hF=> ?_
            refine jB 0 hF Fg8 Cc6 fun y174 hF=> ?_
            exact ja 3 (hA2 _ _ hF)
           ·exact ja 3 (hA2 _ _ hF)
        exact ja 3 (hL5 _ _ _ hF)
     exact ja 16 (hL3 _ _ _ _ hF)
    ·refine jB 5 hF Dc1 Aq1 fun y175 hF=> ?_
     cases hF
     exact jr 4
  refine C2 12 (Dl3 8 (by kernel_rfl) (by kernel_rfl) ?_)
  exact ja 0 (hL1 _ _ _ _ hF)
def Fo9(fuel:Nat)(d0:List UInt8):Option (List UInt8):=
 Option.bind (Bk5 d0) fun y1=>
 Option.bind (Bs4 fuel d0) fun y2=>
 Option.bind (Df9 fuel (!y1) y2) fun y3=>
 some y3
theorem Dg3{fuel:Nat}{d0:List UInt8}{r:List UInt8}(hF:Fo9 fuel d0=some r):
 C3 Tryz.prog 128 [.s d0] (.s r):=by
 unfold Fo9 at hF
 refine cf 9 Tryz.func128 ?_
 refine jB 7 hF Al7 L5 fun y1 hF=> ?_
 refine jB 2 hF As0 N7 fun y2 hF=> ?_
 refine jB 0 hF Ch9 Ah2 fun y3 hF=> ?_
 cases hF
 exact jr 2
def Ey2(fuel:Nat)(d0:List UInt8)(d1:List UInt8):Option (List UInt8):=
 Option.bind (Fo9 fuel d1) fun y1=>
 Option.bind (F73 fuel d0 y1) fun y2=>
 some y2
theorem Cd1{fuel:Nat}{d0:List UInt8}{d1:List UInt8}{r:List UInt8}(hF:Ey2 fuel d0 d1=some r):
 C3 Tryz.prog 155 [.s d0,.s d1] (.s r):=by
 unfold Ey2 at hF
 refine cf 9 Tryz.func155 ?_
 refine jB 8 hF Fz7 Dg3 fun y1 hF=> ?_
 refine jB 0 hF Gv1 Dk0 fun y2 hF=> ?_
 cases hF
 exact jr 2
def En7(fuel:Nat)(d0:List UInt8)(d1:List UInt8):Option (List UInt8×List UInt8):=
 Option.bind (En5 d0 d1) fun y1=>
 bif y1.2.2 then
  (ass (decide (y1.2.1≠0))<|
  Option.bind (
   ass (decide (y1.2.1≠0))<|
   bif (Int.tmod y1.1 y1.2.1) !=0 then
    (some (!((decide (y1.1<0))==(decide (y1.2.1<0)))))
   else
    (some false)) fun o1=>
  bif o1 then
   (Option.bind (F64 (IntKind.i64.wrap ((IntKind.i64.wrap (Int.tdiv y1.1 y1.2.1))-1))) fun y2=>
   Option.bind (F64 (IntKind.i64.wrap (y1.1-(IntKind.i64.wrap (y1.2.1*(IntKind.i64.wrap ((IntKind.i64.wrap (Int.tdiv y1.1 y1.2.1))-1))))))) fun y3=>
   some (y2,y3))
  else
   (Option.bind (F64 (IntKind.i64.wrap (Int.tdiv y1.1 y1.2.1))) fun y4=>
   Option.bind (F64 (IntKind.i64.wrap (y1.1-(IntKind.i64.wrap (y1.2.1*(IntKind.i64.wrap (Int.tdiv y1.1 y1.2.1))))))) fun y5=>
   some (y4,y5)))
 else
  (Option.bind (Bs4 fuel d0) fun y6=>
  Option.bind (Bs4 fuel d1) fun y7=>
  Option.bind (Fp2 fuel y6 y7) fun y8=>
  Option.bind (Bk5 d0) fun y9=>
  Option.bind (Bk5 d1) fun y10=>
  Option.bind (Df9 fuel (!(y9==y10)) y8.1) fun y11=>
  Option.bind (
   bif decide (((y8.2.map A7).length:Int)>0) then
    (Option.bind (Bk5 d0) fun y21=>
    Option.bind (Bk5 d1) fun y22=>
    some (!(y21==y22)))
   else
    (some false)) fun o2=>
  bif o2 then
   (Option.bind (Ey2 fuel y11 [49]) fun y16=>
   Option.bind (F66 fuel y16 d1) fun y17=>
   Option.bind (Ey2 fuel d0 y17) fun y18=>
   some (y16,y18))
  else
   (Option.bind (F66 fuel y11 d1) fun y19=>
   Option.bind (Ey2 fuel d0 y19) fun y20=>
   some (y11,y20)))
noncomputable abbrev Fd7:=C1 Tryz.f121
abbrev Gy6(r:List UInt8×List UInt8):=J none Tryz.prog 78 [] (H3 Tryz.prog Tryz.f121 (.tup [.s r.1,.s r.2]))
theorem Bk7{fuel:Nat}{d0:List UInt8}{d1:List UInt8}{r:List UInt8×List UInt8}(hF:En7 fuel d0 d1=some r):
 C3 Tryz.prog 121 [.s d0,.s d1] (.tup [.s r.1,.s r.2]):=by
 unfold En7 at hF
 refine cf 78 Tryz.func121 ?_
 refine jB 10 hF Ei5 Bk4 fun y1 hF=> ?_
 refine jI 12 20 hF ?_ ?_<;>intro hF
 ·obtain⟨hb2,hF⟩:=Q0 hF
  refine jo1 5 (ck hb2) ?_
  obtain⟨o1,hO,hF⟩:=bnd hF
  have hR1:Gy6 r ⟨mkT [(6,.i y1.1),(7,.i y1.2.1),(9,.i (IntKind.i64.wrap (Int.tdiv y1.1 y1.2.1))),(34,.b o1)],[],[kO Fd7 [1,0,1,1,0,1,0,0],kC Fd7 [1,0,1,1,0,1,0,1],kC Fd7 [1,0,1,1,0,1,1],kC Fd7 [1,1]]⟩:=by
   clear hO
   refine jI 1 34 hF ?_ ?_<;>intro hF
   ·refine jB 9 hF Ej1 Ak9 fun y2 hF=> ?_
    refine jB 5 hF Ej1 Ak9 fun y3 hF=> ?_
    cases hF
    exact jr 3
   ·refine jB 5 hF Ej1 Ak9 fun y4 hF=> ?_
    refine jB 5 hF Ej1 Ak9 fun y5 hF=> ?_
    cases hF
    exact jr 3
  clear hF;rename _=some o1=>hF
  obtain⟨hb8,hF⟩:=Q0 hF
  refine jo1 7 (ck hb8) ?_
  refine jI 2 28 hF ?_ ?_<;>intro hF
  ·cases hF
   exact ja 6 hR1
  ·cases hF
   exact ja 6 hR1
 ·refine jB 5 hF As0 N7 fun y6 hF=> ?_
  refine jB 1 hF As0 N7 fun y7 hF=> ?_
  refine jB 0 hF Ga3 Dh4 fun y8 hF=> ?_
  refine jB 9 hF Al7 L5 fun y9 hF=> ?_
  refine jB 1 hF Al7 L5 fun y10 hF=> ?_
  refine jB 2 hF Ch9 Ah2 fun y11 hF=> ?_
  obtain⟨o2,hO,hF⟩:=bnd hF
  have hR2:Gy6 r ⟨mkT [(0,.s d0),(1,.s d1),(12,.s y11),(69,.b o2)],[],[kO Fd7 [1,1,1,1,0,0],kC Fd7 [1,1,1,1,0,1],kC Fd7 [1,1,1,1,1]]⟩:=by
   clear hO
   refine jI 1 69 hF ?_ ?_<;>intro hF
   ·refine jB 3 hF Fh2 Cd1 fun y16 hF=> ?_
    refine jB 8 hF Es2 At7 fun y17 hF=> ?_
    refine jB 0 hF Fh2 Cd1 fun y18 hF=> ?_
    cases hF
    exact jr 3
   ·refine jB 8 hF Es2 At7 fun y19 hF=> ?_
    refine jB 0 hF Fh2 Cd1 fun y20 hF=> ?_
    cases hF
    exact jr 3
  clear hF;rename _=some o2=>hF
  refine jI 9 63 hF ?_ ?_<;>intro hF
  ·refine jB 1 hF Al7 L5 fun y21 hF=> ?_
   refine jB 1 hF Al7 L5 fun y22 hF=> ?_
   cases hF
   exact ja 2 hR2
  ·cases hF
   exact ja 6 hR2
def Ap6:Nat→Int→Int→Option (List UInt8)
 |0,_,_=>none
 |nL1+1,v3,v4=>
  bif v4 !=0 then
   (ass (decide (v4≠0))<|
   (Ap6 nL1) v4 (Int.tmod v3 v4))
  else
   (Option.bind (F64 (bif decide ((IntKind.i64.wrap (0-v3))>v3) then(IntKind.i64.wrap (0-v3)) else v3)) fun y2=>
   some y2)
def Ap7(fuel:Nat):Nat→(List Int)→(List Int)→Option (List UInt8)
 |0,_,_=>none
 |nL2+1,l3,l4=>
  bif decide (((l4.map A7).length:Int)>0) then
   (Option.bind (Fp2 fuel l3 l4) fun y7=>
   (Ap7 fuel nL2) l4 y7.2)
  else
   (Option.bind (Df9 fuel false l3) fun y8=>
   some y8)
def Fo8(fuel:Nat)(d0:List UInt8)(d1:List UInt8):Option (List UInt8):=
 Option.bind (En5 d0 d1) fun y1=>
 bif y1.2.2 then
  (Ap6 fuel y1.1 y1.2.1)
 else
  (Option.bind (Bs4 fuel d0) fun y3=>
  Option.bind (Bs4 fuel d1) fun y4=>
  Ap7 fuel fuel y3 y4)
noncomputable abbrev Fx3:=C1 Tryz.f123
abbrev Gy7(r:List UInt8):=J none Tryz.prog 50 [] (H3 Tryz.prog Tryz.f123 (.s r))
theorem Dg2{fuel:Nat}{d0:List UInt8}{d1:List UInt8}{r:List UInt8}(hF:Fo8 fuel d0 d1=some r):
 C3 Tryz.prog 123 [.s d0,.s d1] (.s r):=by
 unfold Fo8 at hF
 refine cf 50 Tryz.func123 ?_
 refine jB 9 hF Ei5 Bk4 fun y1 hF=> ?_
 refine jI 12 20 hF ?_ ?_<;>intro hF
 ·have hL1:∀(nL1:Nat) (v3:Int) (v4:Int),Ap6 nL1 v3 v4=some r→Gy7 r ⟨mkT [(5,.i v3),(6,.i v4)],[],[kL Fx3 [1,0,1,1,0,0,0,0],.inBlock 0,kC Fx3 [1,0,1,1,0,1],kC Fx3 [1,1]]⟩:=by
   clear hF;intro nL1
   induction nL1 with
   |zero=>intro v3 v4 hF;cases hF
   |succ nL1 iL1=>
    intro v3 v4 hF
    rw[Ap6]at hF
    refine jI 7 22 hF ?_ ?_<;>intro hF
    ·obtain⟨hb7,hF⟩:=Q0 hF
     refine jo1 7 (ck hb7) ?_
     exact ja 12 (iL1 _ _ hF)
    ·refine jB 8 hF Ej1 Ak9 fun y2 hF=> ?_
     cases hF
     exact jr 2
  exact ja 4 (hL1 _ _ _ hF)
 ·refine jB 5 hF As0 N7 fun y3 hF=> ?_
  refine jB 1 hF As0 N7 fun y4 hF=> ?_
  have hL2:∀(nL2:Nat) (l3:List Int) (l4:List Int),Ap7 fuel nL2 l3 l4=some r→Gy7 r ⟨mkT [(9,.l 1 l3 A7),(10,.l 1 l4 A7)],[],[kL Fx3 [1,1,1,0,0,0],.inBlock 2,kC Fx3 [1,1,1,1]]⟩:=by
   clear hF;intro nL2
   induction nL2 with
   |zero=>intro l3 l4 hF;cases hF
   |succ nL2 iL2=>
    intro l3 l4 hF
    rw[Ap7]at hF
    refine jI 8 39 hF ?_ ?_<;>intro hF
    ·refine jB 7 hF Ga3 Dh4 fun y7 hF=> ?_
     exact ja 16 (iL2 _ _ hF)
    ·refine jB 5 hF Ch9 Ah2 fun y8 hF=> ?_
     cases hF
     exact jr 2
  exact ja 6 (hL2 _ _ _ hF)
def Dh1(v6:Int)(cL1:Int→Int→Option (Int×Bool))(v7:Int):Option (Int×Bool):=
 cL1 v7 (IntKind.i64.wrap (v6+1))
def Cd0(d0:List UInt8):Nat→Int→Int→Option (Int×Bool)
 |0,_,_=>none
 |nL1+1,v5,v6=>
  bif decide (v6<(d0.length:Int)) then
   (Option.bind (C4 d0 v6) fun y15=>
   bif (y15.toNat:Int) !=45 then
    (Option.bind (C4 d0 v6) fun y16=>
    Dh1 v6 (Cd0 d0 nL1) (IntKind.i64.wrap ((IntKind.i64.wrap (10*v5))-(IntKind.i64.wrap (IntKind.u8.wrap ((y16.toNat:Int)-48))))))
   else
    (Dh1 v6 (Cd0 d0 nL1) v5))
  else
   (Option.bind (Bk5 d0) fun y17=>
   bif !y17 then
    (some (IntKind.i64.wrap (0-v5),true))
   else
    (some (v5,true)))
def Hf3(fuel:Nat)(d0:List UInt8):Option (Int×Bool):=
 Option.bind (
  Option.bind (F72 fuel d0 [45,57,50,50,51,51,55,50,48,51,54,56,53,52,55,55,53,56,48,56]) fun y18=>
  bif decide (y18<0) then
   (some true)
  else
   (Option.bind (F72 fuel d0 [57,50,50,51,51,55,50,48,51,54,56,53,52,55,55,53,56,48,55]) fun y19=>
   some (decide (y19>0)))) fun o1=>
 bif o1 then
  (some (0,false))
 else
  (Cd0 d0 fuel 0 0)
def Ah5(d0:List UInt8):Nat→Int→Option Bool
 |0,_=>none
 |nL1+1,v2=>
  bif decide (v2<(((d0.drop (Int.toNat 1)).take (Int.toNat ((d0.length:Int)-1))).length:Int)) then
   (Option.bind (
    Option.bind (C4 ((d0.drop (Int.toNat 1)).take (Int.toNat ((d0.length:Int)-1))) v2) fun y21=>
    bif decide ((y21.toNat:Int)<48) then
     (some true)
    else
     (Option.bind (C4 ((d0.drop (Int.toNat 1)).take (Int.toNat ((d0.length:Int)-1))) v2) fun y22=>
     some (decide ((y22.toNat:Int)>57)))) fun o5=>
   bif o5 then
    (some false)
   else
    ((Ah5 d0 nL1) (IntKind.i64.wrap (v2+1))))
  else
   (some true)
def Ah6(d0:List UInt8):Nat→Int→Option Bool
 |0,_=>none
 |nL2+1,v4=>
  bif decide (v4<(d0.length:Int)) then
   (Option.bind (
    Option.bind (C4 d0 v4) fun y42=>
    bif decide ((y42.toNat:Int)<48) then
     (some true)
    else
     (Option.bind (C4 d0 v4) fun y43=>
     some (decide ((y43.toNat:Int)>57)))) fun o9=>
   bif o9 then
    (some false)
   else
    ((Ah6 d0 nL2) (IntKind.i64.wrap (v4+1))))
  else
   (some true)
def Fo7(fuel:Nat)(d0:List UInt8):Option Bool:=
 bif d0==[48] then
  (some true)
 else
  (Option.bind (
   bif decide ((d0.length:Int)>0) then
    (Option.bind (C4 d0 0) fun y45=>
    some ((y45.toNat:Int)==45))
   else
    (some false)) fun o1=>
  bif o1 then
   (ass (decide (0≤1)&&decide (1≤(d0.length:Int))&&decide ((d0.length:Int)≤d0.length))<|
   Option.bind (
    bif (((d0.drop (Int.toNat 1)).take (Int.toNat ((d0.length:Int)-1))).length:Int)==0 then
     (some true)
    else
     (Option.bind (C4 ((d0.drop (Int.toNat 1)).take (Int.toNat ((d0.length:Int)-1))) 0) fun y23=>
     some ((y23.toNat:Int)==48))) fun o2=>
   bif o2 then
    (some false)
   else
    (Ah5 d0 fuel 0))
  else
   (Option.bind (
    bif (d0.length:Int)==0 then
     (some true)
    else
     (Option.bind (C4 d0 0) fun y44=>
     some ((y44.toNat:Int)==48))) fun o6=>
   bif o6 then
    (some false)
   else
    (Ah6 d0 fuel 0)))
noncomputable abbrev Ba5:=C1 Tryz.f122
abbrev Fb7(r:Bool):=J none Tryz.prog 42 [] (H3 Tryz.prog Tryz.f122 (.b r))
theorem Dg1{fuel:Nat}{d0:List UInt8}{r:Bool}(hF:Fo7 fuel d0=some r):
 C3 Tryz.prog 122 [.s d0] (.b r):=by
 unfold Fo7 at hF
 refine cf 42 Tryz.func122 ?_
 refine jI 10 6 hF ?_ ?_<;>intro hF
 ·cases hF
  exact jr 5
 ·obtain⟨o1,hO,hF⟩:=bnd hF
  have hR1:Fb7 r ⟨mkT [(3,.s d0),(15,.b o1)],[],[kO Ba5 [1,1,1,0,0],kC Ba5 [1,1,1,0,1],kC Ba5 [1,1,1,1]]⟩:=by
   clear hO
   refine jI 1 15 hF ?_ ?_<;>intro hF
   ·obtain⟨hb5,hF⟩:=Q0 hF
    refine jo1 3 (ck hb5) ?_
    obtain⟨o2,hO,hF⟩:=bnd hF
    have hR2:Fb7 r ⟨mkT [(3,.s ((d0.drop (Int.toNat 1)).take (Int.toNat ((d0.length:Int)-1)))),(25,.b o2)],[],[kO Ba5 [1,1,1,1,0,0],kC Ba5 [1,1,1,1,0,1],kC Ba5 [1,1,1,1,1]]⟩:=by
     clear hO
     refine jI 1 25 hF ?_ ?_<;>intro hF
     ·cases hF
      exact jr 5
     ·have hL1:∀(nL1:Nat) (v2:Int),Ah5 d0 nL1 v2=some r→Fb7 r ⟨mkT [(3,.s ((d0.drop (Int.toNat 1)).take (Int.toNat ((d0.length:Int)-1)))),(4,.i v2)],[],[kL Ba5 [1,1,1,1,1,0,1,0,0],.inBlock 0,kC Ba5 [1,1,1,1,1,1]]⟩:=by
       clear hF;intro nL1
       induction nL1 with
       |zero=>intro v2 hF;cases hF
       |succ nL1 iL1=>
        intro v2 hF
        rw[Ah5]at hF
        refine jI 9 29 hF ?_ ?_<;>intro hF
        ·obtain⟨o5,hO,hF⟩:=bnd hF
         have hR5:Fb7 r ⟨mkT [(3,.s ((d0.drop (Int.toNat 1)).take (Int.toNat ((d0.length:Int)-1)))),(4,.i v2),(41,.b o5)],[],[kO Ba5 [1,1,1,1,1,0,1,0,0,1,0,0,0],kC Ba5 [1,1,1,1,1,0,1,0,0,1,0,0,1],.inBlock 1,kC Ba5 [1,1,1,1,1,0,1,0,0,1,1],kL Ba5 [1,1,1,1,1,0,1,0,0],.inBlock 0,kC Ba5 [1,1,1,1,1,1]]⟩:=by
          clear hO
          refine jI 1 41 hF ?_ ?_<;>intro hF
          ·cases hF
           exact jr 5
          ·exact ja 8 (iL1 _ hF)
         clear hF;rename _=some o5=>hF
         obtain⟨y21,e21,hF⟩:=bnd hF
         refine C2 8 (E8 (o:=(match C4 ((d0.drop (Int.toNat 1)).take (Int.toNat ((d0.length:Int)-1))) v2 with|some c=>some [.int .u8 c.toNat]|none=>none)) [.int .u8 y21.toNat] (by kernel_rfl) (by rw[e21]) ?_)
         refine jI 2 36 hF ?_ ?_<;>intro hF
         ·cases hF
          exact ja 5 hR5
         ·obtain⟨y22,e22,hF⟩:=bnd hF
          refine C2 2 (E8 (o:=(match C4 ((d0.drop (Int.toNat 1)).take (Int.toNat ((d0.length:Int)-1))) v2 with|some c=>some [.int .u8 c.toNat]|none=>none)) [.int .u8 y22.toNat] (by kernel_rfl) (by rw[e22]) ?_)
          cases hF
          exact ja 2 hR5
        ·cases hF
         exact jr 6
      exact ja 9 (hL1 _ _ hF)
    clear hF;rename _=some o2=>hF
    refine jI 9 21 hF ?_ ?_<;>intro hF
    ·cases hF
     exact ja 4 hR2
    ·obtain⟨y23,e23,hF⟩:=bnd hF
     refine C2 1 (E8 (o:=(match C4 ((d0.drop (Int.toNat 1)).take (Int.toNat ((d0.length:Int)-1))) 0 with|some c=>some [.int .u8 c.toNat]|none=>none)) [.int .u8 y23.toNat] (by kernel_rfl) (by rw[e23]) ?_)
     cases hF
     exact ja 2 hR2
   ·obtain⟨o6,hO,hF⟩:=bnd hF
    have hR6:Fb7 r ⟨mkT [(3,.s d0),(25,.b o6)],[],[kO Ba5 [1,1,1,1,0,0],kC Ba5 [1,1,1,1,0,1],kC Ba5 [1,1,1,1,1]]⟩:=by
     clear hO
     refine jI 1 25 hF ?_ ?_<;>intro hF
     ·cases hF
      exact jr 5
     ·have hL2:∀(nL2:Nat) (v4:Int),Ah6 d0 nL2 v4=some r→Fb7 r ⟨mkT [(3,.s d0),(4,.i v4)],[],[kL Ba5 [1,1,1,1,1,0,1,0,0],.inBlock 0,kC Ba5 [1,1,1,1,1,1]]⟩:=by
       clear hF;intro nL2
       induction nL2 with
       |zero=>intro v4 hF;cases hF
       |succ nL2 iL2=>
        intro v4 hF
        rw[Ah6]at hF
        refine jI 9 29 hF ?_ ?_<;>intro hF
        ·obtain⟨o9,hO,hF⟩:=bnd hF
         have hR9:Fb7 r ⟨mkT [(3,.s d0),(4,.i v4),(41,.b o9)],[],[kO Ba5 [1,1,1,1,1,0,1,0,0,1,0,0,0],kC Ba5 [1,1,1,1,1,0,1,0,0,1,0,0,1],.inBlock 1,kC Ba5 [1,1,1,1,1,0,1,0,0,1,1],kL Ba5 [1,1,1,1,1,0,1,0,0],.inBlock 0,kC Ba5 [1,1,1,1,1,1]]⟩:=by
          clear hO
          refine jI 1 41 hF ?_ ?_<;>intro hF
          ·cases hF
           exact jr 5
          ·exact ja 8 (iL2 _ hF)
         clear hF;rename _=some o9=>hF
         obtain⟨y42,e42,hF⟩:=bnd hF
         refine C2 8 (E8 (o:=(match C4 d0 v4 with|some c=>some [.int .u8 c.toNat]|none=>none)) [.int .u8 y42.toNat] (by kernel_rfl) (by rw[e42]) ?_)
         refine jI 2 36 hF ?_ ?_<;>intro hF
         ·cases hF
          exact ja 5 hR9
         ·obtain⟨y43,e43,hF⟩:=bnd hF
          refine C2 2 (E8 (o:=(match C4 d0 v4 with|some c=>some [.int .u8 c.toNat]|none=>none)) [.int .u8 y43.toNat] (by kernel_rfl) (by rw[e43]) ?_)
          cases hF
          exact ja 2 hR9
        ·cases hF
         exact jr 6
      exact ja 9 (hL2 _ _ hF)
    clear hF;rename _=some o6=>hF
    refine jI 9 21 hF ?_ ?_<;>intro hF
    ·cases hF
     exact ja 4 hR6
    ·obtain⟨y44,e44,hF⟩:=bnd hF
     refine C2 1 (E8 (o:=(match C4 d0 0 with|some c=>some [.int .u8 c.toNat]|none=>none)) [.int .u8 y44.toNat] (by kernel_rfl) (by rw[e44]) ?_)
     cases hF
     exact ja 2 hR6
  clear hF;rename _=some o1=>hF
  refine jI 14 11 hF ?_ ?_<;>intro hF
  ·obtain⟨y45,e45,hF⟩:=bnd hF
   refine C2 1 (E8 (o:=(match C4 d0 0 with|some c=>some [.int .u8 c.toNat]|none=>none)) [.int .u8 y45.toNat] (by kernel_rfl) (by rw[e45]) ?_)
   cases hF
   exact ja 2 hR1
  ·cases hF
   exact ja 4 hR1
def V3(d0:List UInt8):Nat→Int→Option (List UInt8×List UInt8×Bool)
 |0,_=>none
 |nL1+1,v2=>
  bif decide (v2<(d0.length:Int)) then
   (Option.bind (C4 d0 v2) fun y3=>
   bif (y3.toNat:Int)==47 then
    (ass (decide (0≤0)&&decide (0≤v2)&&decide (v2≤d0.length))<|
    ass (decide (0≤(IntKind.i64.wrap (v2+1)))&&decide ((IntKind.i64.wrap (v2+1))≤(d0.length:Int))&&decide ((d0.length:Int)≤d0.length))<|
    some ((d0.drop (Int.toNat 0)).take (Int.toNat (v2-0)),(d0.drop (Int.toNat (IntKind.i64.wrap (v2+1)))).take (Int.toNat ((d0.length:Int)-(IntKind.i64.wrap (v2+1)))),true))
   else
    ((V3 d0 nL1) (IntKind.i64.wrap (v2+1))))
  else
   (some (d0,[49],false))
def Fo6(fuel:Nat)(d0:List UInt8):Option (List UInt8×List UInt8×Bool):=
 V3 d0 fuel 0
noncomputable abbrev Ha0:=C1 Tryz.f117
abbrev Hf7(r:List UInt8×List UInt8×Bool):=J none Tryz.prog 24 [] (H3 Tryz.prog Tryz.f117 (.tup [.s r.1,.s r.2.1,.b r.2.2]))
theorem Dg0{fuel:Nat}{d0:List UInt8}{r:List UInt8×List UInt8×Bool}(hF:Fo6 fuel d0=some r):
 C3 Tryz.prog 117 [.s d0] (.tup [.s r.1,.s r.2.1,.b r.2.2]):=by
 unfold Fo6 at hF
 refine cf 24 Tryz.func117 ?_
 have hL1:∀(nL1:Nat) (v2:Int),V3 d0 nL1 v2=some r→Hf7 r ⟨mkT [(0,.s d0),(5,.i v2)],[],[kL Ha0 [1,0,1,0,0],.inBlock 0,kC Ha0 [1,1]]⟩:=by
  clear hF;intro nL1
  induction nL1 with
  |zero=>intro v2 hF;cases hF
  |succ nL1 iL1=>
   intro v2 hF
   rw[V3]at hF
   refine jI 9 9 hF ?_ ?_<;>intro hF
   ·obtain⟨y3,e3,hF⟩:=bnd hF
    refine C2 8 (E8 (o:=(match C4 d0 v2 with|some c=>some [.int .u8 c.toNat]|none=>none)) [.int .u8 y3.toNat] (by kernel_rfl) (by rw[e3]) ?_)
    refine jI 2 15 hF ?_ ?_<;>intro hF
    ·refine jd 2 ?_
     obtain⟨hb11,hF⟩:=Q0 hF
     refine do1 2 (ck hb11) ?_
     obtain⟨hb12,hF⟩:=Q0 hF
     refine do1 3 (ck hb12) ?_
     refine je 3 ?_
     cases hF
     exact jr 0
    ·exact ja 8 (iL1 _ hF)
   ·cases hF
    exact jr 9
 exact ja 13 (hL1 _ _ hF)
def F71(fuel:Nat)(d0:List UInt8):Option (List UInt8×List UInt8):=
 Option.bind (Fo6 fuel d0) fun y1=>
 some (y1.1,y1.2.1)
theorem Co4{fuel:Nat}{d0:List UInt8}{r:List UInt8×List UInt8}(hF:F71 fuel d0=some r):
 C3 Tryz.prog 71 [.s d0] (.tup [.s r.1,.s r.2]):=by
 unfold F71 at hF
 refine cf 15 Tryz.func71 ?_
 refine jB 8 hF Fz4 Dg0 fun y1 hF=> ?_
 cases hF
 exact jr 15
def F82(fuel:Nat)(d0:List UInt8):Option Bool:=
 Option.bind (Fo6 fuel d0) fun y1=>
 Option.bind (
  Option.bind (Fo7 fuel y1.1) fun y12=>
  bif !y12 then
   (some true)
  else
   (Option.bind (Fo7 fuel y1.2.1) fun y13=>
   some (!y13))) fun o1=>
 bif o1 then
  (some false)
 else
  (Option.bind (
   bif !y1.2.2 then
    (some true)
   else
    (Option.bind (F72 fuel y1.2.1 [49]) fun y10=>
    bif decide (y10>0) then
     (Option.bind (Fo8 fuel y1.1 y1.2.1) fun y11=>
     some (y11==[49]))
    else
     (some false))) fun o2=>
  some o2)
noncomputable abbrev b82:=C1 Tryz.f82
abbrev G82(r:Bool):=J none Tryz.prog 33 [] (H3 Tryz.prog Tryz.f82 (.b r))
theorem Fu8{fuel:Nat}{d0:List UInt8}{r:Bool}(hF:F82 fuel d0=some r):
 C3 Tryz.prog 82 [.s d0] (.b r):=by
 unfold F82 at hF
 refine cf 33 Tryz.func82 ?_
 refine jB 7 hF Fz4 Dg0 fun y1 hF=> ?_
 obtain⟨o1,hO,hF⟩:=bnd hF
 have hR1:G82 r ⟨mkT [(3,.s y1.1),(4,.s y1.2.1),(5,.b y1.2.2),(19,.b o1)],[],[kO b82 [1,1,0,0],kC b82 [1,1,0,1],kC b82 [1,1,1]]⟩:=by
  clear hO
  refine jI 1 19 hF ?_ ?_<;>intro hF
  ·cases hF
   exact jr 5
  ·obtain⟨o2,hO,hF⟩:=bnd hF
   have hR2:G82 r ⟨mkT [(2,.b o2)],[],[kO b82 [1,1,1,0],kC b82 [1,1,1,1]]⟩:=by
    clear hO
    cases hF
    exact jr 1
   clear hF;rename _=some o2=>hF
   refine jI 7 22 hF ?_ ?_<;>intro hF
   ·cases hF
    exact ja 11 hR2
   ·refine jB 1 hF Hk9 Fu7 fun y10 hF=> ?_
    refine jI 2 26 hF ?_ ?_<;>intro hF
    ·refine jB 2 hF Fz6 Dg2 fun y11 hF=> ?_
     cases hF
     exact ja 4 hR2
    ·cases hF
     exact ja 7 hR2
 clear hF;rename _=some o1=>hF
 refine jB 12 hF Fz5 Dg1 fun y12 hF=> ?_
 refine jI 2 15 hF ?_ ?_<;>intro hF
 ·cases hF
  exact ja 4 hR1
 ·refine jB 1 hF Fz5 Dg1 fun y13 hF=> ?_
  cases hF
  exact ja 2 hR1
def F88(fuel:Nat)(d0:List UInt8)(d1:List UInt8):Option (List UInt8):=
 Option.bind (Fo8 fuel d0 d1) fun y1=>
 Option.bind (F92 d1) fun y2=>
 bif decide (y2<0) then
  (Option.bind (Fo9 fuel y1) fun y3=>
  Option.bind (En7 fuel d0 y3) fun y4=>
  Option.bind (En7 fuel d1 y3) fun y5=>
  bif y5.1==[49] then
   (some y4.1)
  else
   (ass (decide (y4.1.length+[47].length≤4611686018427387904))<|
   ass (decide ((y4.1++[47]).length+y5.1.length≤4611686018427387904))<|
   some ((y4.1++[47])++y5.1)))
 else
  (Option.bind (En7 fuel d0 y1) fun y6=>
  Option.bind (En7 fuel d1 y1) fun y7=>
  bif y7.1==[49] then
   (some y6.1)
  else
   (ass (decide (y6.1.length+[47].length≤4611686018427387904))<|
   ass (decide ((y6.1++[47]).length+y7.1.length≤4611686018427387904))<|
   some ((y6.1++[47])++y7.1)))
theorem Dk2{fuel:Nat}{d0:List UInt8}{d1:List UInt8}{r:List UInt8}(hF:F88 fuel d0 d1=some r):
 C3 Tryz.prog 88 [.s d0,.s d1] (.s r):=by
 unfold F88 at hF
 refine cf 33 Tryz.func88 ?_
 refine jB 8 hF Fz6 Dg2 fun y1 hF=> ?_
 refine jB 6 hF Gb7 Bs9 fun y2 hF=> ?_
 refine jI 2 11 hF ?_ ?_<;>intro hF
 ·refine jB 3 hF Fz7 Dg3 fun y3 hF=> ?_
  refine jB 6 hF Ei7 Bk7 fun y4 hF=> ?_
  refine jB 9 hF Ei7 Bk7 fun y5 hF=> ?_
  refine jI 11 27 hF ?_ ?_<;>intro hF
  ·cases hF
   exact jr 6
  ·obtain⟨hb3,hF⟩:=Q0 hF
   refine jo1 5 (ck hb3) ?_
   obtain⟨hb4,hF⟩:=Q0 hF
   refine jo1 1 (ck hb4) ?_
   cases hF
   exact jr 2
 ·refine jB 6 hF Ei7 Bk7 fun y6 hF=> ?_
  refine jB 9 hF Ei7 Bk7 fun y7 hF=> ?_
  refine jI 11 27 hF ?_ ?_<;>intro hF
  ·cases hF
   exact jr 6
  ·obtain⟨hb6,hF⟩:=Q0 hF
   refine jo1 5 (ck hb6) ?_
   obtain⟨hb7,hF⟩:=Q0 hF
   refine jo1 1 (ck hb7) ?_
   cases hF
   exact jr 2
def F37(fuel:Nat)(d0:List UInt8)(d1:List UInt8):Option (List UInt8):=
 Option.bind (F71 fuel d0) fun y1=>
 Option.bind (F71 fuel d1) fun y2=>
 Option.bind (
  bif y1.2==[49] then
   (some (y2.2==[49]))
  else
   (some false)) fun o1=>
 bif o1 then
  (Option.bind (F73 fuel y1.1 y2.1) fun y3=>
  some y3)
 else
  (Option.bind (F66 fuel y1.1 y2.2) fun y4=>
  Option.bind (F66 fuel y2.1 y1.2) fun y5=>
  Option.bind (F73 fuel y4 y5) fun y6=>
  Option.bind (F66 fuel y1.2 y2.2) fun y7=>
  Option.bind (F88 fuel y6 y7) fun y8=>
  some y8)
noncomputable abbrev b37:=C1 Tryz.f37
abbrev G37(r:List UInt8):=J none Tryz.prog 39 [] (H3 Tryz.prog Tryz.f37 (.s r))
theorem Eo7{fuel:Nat}{d0:List UInt8}{d1:List UInt8}{r:List UInt8}(hF:F37 fuel d0 d1=some r):
 C3 Tryz.prog 37 [.s d0,.s d1] (.s r):=by
 unfold F37 at hF
 refine cf 39 Tryz.func37 ?_
 refine jB 7 hF Gl4 Co4 fun y1 hF=> ?_
 refine jB 9 hF Gl4 Co4 fun y2 hF=> ?_
 obtain⟨o1,hO,hF⟩:=bnd hF
 have hR1:G37 r ⟨mkT [(5,.s y1.1),(6,.s y1.2),(7,.s y2.1),(8,.s y2.2),(24,.b o1)],[],[kO b37 [1,1,1,0,0],kC b37 [1,1,1,0,1],kC b37 [1,1,1,1]]⟩:=by
  clear hO
  refine jI 1 24 hF ?_ ?_<;>intro hF
  ·refine jB 5 hF Gv1 Dk0 fun y3 hF=> ?_
   cases hF
   exact jr 2
  ·refine jB 6 hF Es2 At7 fun y4 hF=> ?_
   refine jB 2 hF Es2 At7 fun y5 hF=> ?_
   refine jB 0 hF Gv1 Dk0 fun y6 hF=> ?_
   refine jB 2 hF Es2 At7 fun y7 hF=> ?_
   refine jB 0 hF Gv3 Dk2 fun y8 hF=> ?_
   cases hF
   exact jr 2
 clear hF;rename _=some o1=>hF
 refine jI 12 21 hF ?_ ?_<;>intro hF
 ·cases hF
  exact ja 3 hR1
 ·cases hF
  exact ja 3 hR1
def F38(fuel:Nat)(d0:List UInt8)(d1:List UInt8):Option (List UInt8):=
 Option.bind (F71 fuel d0) fun y1=>
 Option.bind (F71 fuel d1) fun y2=>
 Option.bind (
  bif y1.2==[49] then
   (some (y2.2==[49]))
  else
   (some false)) fun o1=>
 bif o1 then
  (Option.bind (F66 fuel y1.1 y2.1) fun y3=>
  some y3)
 else
  (Option.bind (F66 fuel y1.1 y2.1) fun y4=>
  Option.bind (F66 fuel y1.2 y2.2) fun y5=>
  Option.bind (F88 fuel y4 y5) fun y6=>
  some y6)
noncomputable abbrev b38:=C1 Tryz.f38
abbrev G38(r:List UInt8):=J none Tryz.prog 35 [] (H3 Tryz.prog Tryz.f38 (.s r))
theorem Fu1{fuel:Nat}{d0:List UInt8}{d1:List UInt8}{r:List UInt8}(hF:F38 fuel d0 d1=some r):
 C3 Tryz.prog 38 [.s d0,.s d1] (.s r):=by
 unfold F38 at hF
 refine cf 35 Tryz.func38 ?_
 refine jB 7 hF Gl4 Co4 fun y1 hF=> ?_
 refine jB 9 hF Gl4 Co4 fun y2 hF=> ?_
 obtain⟨o1,hO,hF⟩:=bnd hF
 have hR1:G38 r ⟨mkT [(5,.s y1.1),(6,.s y1.2),(7,.s y2.1),(8,.s y2.2),(24,.b o1)],[],[kO b38 [1,1,1,0,0],kC b38 [1,1,1,0,1],kC b38 [1,1,1,1]]⟩:=by
  clear hO
  refine jI 1 24 hF ?_ ?_<;>intro hF
  ·refine jB 5 hF Es2 At7 fun y3 hF=> ?_
   cases hF
   exact jr 2
  ·refine jB 6 hF Es2 At7 fun y4 hF=> ?_
   refine jB 2 hF Es2 At7 fun y5 hF=> ?_
   refine jB 0 hF Gv3 Dk2 fun y6 hF=> ?_
   cases hF
   exact jr 2
 clear hF;rename _=some o1=>hF
 refine jI 12 21 hF ?_ ?_<;>intro hF
 ·cases hF
  exact ja 3 hR1
 ·cases hF
  exact ja 3 hR1
def F39(fuel:Nat)(d0:Int)(d1:Int):Option (List UInt8):=
 Option.bind (F64 d0) fun y1=>
 Option.bind (F64 d1) fun y2=>
 Option.bind (F88 fuel y1 y2) fun y3=>
 some y3
theorem Dj4{fuel:Nat}{d0:Int}{d1:Int}{r:List UInt8}(hF:F39 fuel d0 d1=some r):
 C3 Tryz.prog 39 [.i d0,.i d1] (.s r):=by
 unfold F39 at hF
 refine cf 10 Tryz.func39 ?_
 refine jB 7 hF Ej1 Ak9 fun y1 hF=> ?_
 refine jB 1 hF Ej1 Ak9 fun y2 hF=> ?_
 refine jB 0 hF Gv3 Dk2 fun y3 hF=> ?_
 cases hF
 exact jr 2
def e_s(x:List UInt8):List Dat:=[.str x]
end
end Go.Proofs.YtfgbhfphjmmiaaaGreatDoor
end
