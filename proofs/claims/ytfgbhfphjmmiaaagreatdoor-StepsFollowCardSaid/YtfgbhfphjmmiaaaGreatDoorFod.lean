/- One part of the texts that lead to the theorem; it claims nothing by itself. -/
import Derived.Shelf.Strings.Builder1
import Derived.Shelf.Strings.BuilderF
import Derived.Shelf.Strconv.Atoi
import Derived.Shelf.Strconv.Itoa0
import Derived.Shelf.Strconv.Itoa1
import Derived.Shelf.LaysM
import Derived.Shelf.Strconv.Itoa2
import Derived.Shelf.Strconv.Itoa3
import Derived.Shelf.Strconv.AtoiErrFast
import Derived.Shelf.Strconv.ParseIntEmpty
import Derived.Shelf.Strconv.AtoiFail
import Derived.Shelf.Strconv.Clone
import Derived.Shelf.Strconv.SyntaxError
import Derived.Shelf.LaysC
import Derived.Shelf.Strconv.ToError
import Derived.Shelf.Strconv.Lower
import Derived.Shelf.Strconv.ParseUint10
import Derived.Shelf.Strconv.ParseUint10Empty
import Derived.Shelf.Strconv.ParseUint10Any
import Derived.Shelf.Strconv.ParseInt10
import Derived.Shelf.Strconv.AtoiLong
import Derived.Shelf.Strconv.AtoiInnerAll
import Derived.Shelf.Strconv.RangeError
import Derived.Shelf.Strconv.ToErrorRange
import Derived.Shelf.Strconv.AtoiAll
import Derived.Shelf.Strconv.ErrVarAll
import Derived.Shelf.Strings.Search1
import Derived.Shelf.Strings.Search2
import Derived.Shelf.Strings.Cut
import Derived.Shelf.Strings.Shaped
import Derived.Shelf.Strings.Prefix
import Derived.Shelf.Bits.Mul64
import Derived.Shelf.Slices.Turned
import Derived.Test.YtfgbhfphjmmiaaaGreatDoorChecked
import Derived.Lib.ItoaNum
import Derived.Lib.AtoiAll
import Derived.Lib.AtoiErrMem
import Derived.Lib.Repeat
import Derived.Lib.LaidTab
import Derived.Lib.AppendIntMem
import Derived.Lib.Split
import Derived.Lib.SplitLaws
import Derived.Lib.CutLaws
import Derived.Lib.SlicesS
import Derived.Deep.Draws
import Derived.Test.YtfgbhfphjmmiaaaGreatDoorProg
import Derived.Test.YtfgbhfphjmmiaaaGreatDoorFoc
section
namespace Go.Proofs
open Go.Shelf
def Tryz.laysM171_ren:Go.Shelf.Ren:=⟨fun|171=>110|243=>150|246=>188|283=>234|284=>235|285=>236|286=>237|129=>260|317=>259|318=>261|319=>262|320=>263|337=>275|338=>276|n=>n,fun|3=>3|9=>9|2=>2|4=>4|171=>286|0=>0|53=>39|37=>215|5=>5|173=>289|212=>310|51=>167|20=>20|213=>311|46=>110|232=>338|233=>339|n=>n,fun|17=>3|18=>4|19=>5|n=>n⟩
theorem Tryz.laysM171:Go.Proofs.LaysM.n171 Tryz.prog Tryz.laysM171_ren:={
 mixed:=by kernel_rfl
 f129:=Tryz.func260.trans (congrArg some (by kernel_rfl))
 f171:=Tryz.func110.trans (congrArg some (by kernel_rfl))
 f243:=Tryz.func150.trans (congrArg some (by kernel_rfl))
 f246:=Tryz.func188.trans (congrArg some (by kernel_rfl))
 f283:=Tryz.func234.trans (congrArg some (by kernel_rfl))
 f284:=Tryz.func235.trans (congrArg some (by kernel_rfl))
 f285:=Tryz.func236.trans (congrArg some (by kernel_rfl))
 f286:=Tryz.func237.trans (congrArg some (by kernel_rfl))
 f317:=Tryz.func259.trans (congrArg some (by kernel_rfl))
 f318:=Tryz.func261.trans (congrArg some (by kernel_rfl))
 f319:=Tryz.func262.trans (congrArg some (by kernel_rfl))
 f320:=Tryz.func263.trans (congrArg some (by kernel_rfl))
 f337:=Tryz.func275.trans (congrArg some (by kernel_rfl))
 f338:=Tryz.func276.trans (congrArg some (by kernel_rfl))
 t0:=Tryz.underlying0
 a0:=Tryz.isAgg0
 z0:=Tryz.sizeOf0
 v0:=Tryz.zeroValue0
 t2:=Tryz.underlying2
 a2:=Tryz.isAgg2
 z2:=Tryz.sizeOf2
 v2:=Tryz.zeroValue2
 t3:=Tryz.underlying3
 a3:=Tryz.isAgg3
 z3:=Tryz.sizeOf3
 v3:=Tryz.zeroValue3
 t4:=Tryz.underlying4
 a4:=Tryz.isAgg4
 z4:=Tryz.sizeOf4
 v4:=Tryz.zeroValue4
 t5:=Tryz.underlying5
 a5:=Tryz.isAgg5
 z5:=Tryz.sizeOf5
 v5:=Tryz.zeroValue5
 t9:=Tryz.underlying9
 a9:=Tryz.isAgg9
 z9:=Tryz.sizeOf9
 v9:=Tryz.zeroValue9
 t20:=Tryz.underlying20
 a20:=Tryz.isAgg20
 z20:=Tryz.sizeOf20
 v20:=Tryz.zeroValue20
 t37:=Tryz.underlying215
 a37:=Tryz.isAgg215
 z37:=Tryz.sizeOf215
 v37:=Tryz.zeroValue215
 t46:=Tryz.underlying110
 a46:=Tryz.isAgg110
 z46:=Tryz.sizeOf110
 v46:=Tryz.zeroValue110
 t51:=Tryz.underlying167
 a51:=Tryz.isAgg167
 z51:=Tryz.sizeOf167
 v51:=Tryz.zeroValue167
 t53:=Tryz.underlying39
 a53:=Tryz.isAgg39
 z53:=Tryz.sizeOf39
 v53:=Tryz.zeroValue39
 t171:=Tryz.underlying286
 a171:=Tryz.isAgg286
 z171:=Tryz.sizeOf286
 v171:=Tryz.zeroValue286
 t173:=Tryz.underlying289
 a173:=Tryz.isAgg289
 z173:=Tryz.sizeOf289
 v173:=Tryz.zeroValue289
 t212:=Tryz.underlying310
 a212:=Tryz.isAgg310
 z212:=Tryz.sizeOf310
 v212:=Tryz.zeroValue310
 t213:=Tryz.underlying311
 a213:=Tryz.isAgg311
 z213:=Tryz.sizeOf311
 t232:=Tryz.underlying338
 a232:=Tryz.isAgg338
 z232:=Tryz.sizeOf338
 v232:=Tryz.zeroValue338
 t233:=Tryz.underlying339
 a233:=Tryz.isAgg339
 z233:=Tryz.sizeOf339
 v233:=Tryz.zeroValue339
 g17:=by kernel_rfl
 g18:=by kernel_rfl
 g19:=by kernel_rfl
 i0:=by kernel_rfl
 i2:=by kernel_rfl
 i3:=by kernel_rfl
 i4:=by kernel_rfl
 i5:=by kernel_rfl
 i9:=by kernel_rfl
 i20:=by kernel_rfl
 i37:=by kernel_rfl
 i46:=by kernel_rfl
 i51:=by kernel_rfl
 i53:=by kernel_rfl
 i171:=by kernel_rfl
 i173:=by kernel_rfl
 i212:=by kernel_rfl
 i232:=by kernel_rfl
 i233:=by kernel_rfl
 m17:=by kernel_rfl
 m18:=by kernel_rfl
 m19:=by kernel_rfl}
open Go.RowKit Go.Sort Go.Lib in
theorem Tryz.strconv_Itoa(n:Int)(h0: -9223372036854775808≤n)(h1:n≤9223372036854775807)(w:World)(htab:Lib.TabIs Tryz.prog w "internal/strconv.uint64pow10" .u64 Lib.pow10Tab):
 Calls Tryz.prog 110 #[.int .i64 n] w fun e w'=>e= .returned (.string ⟨(Lib.itoa n).toArray⟩)∧∃k os,w'=grow (w.drewN k) os:=Any.strconv_Itoa Tryz.laysM171 n h0 h1 w htab
def Tryz.laysC172_ren:Go.Shelf.Ren:=⟨fun|172=>151|244=>189|245=>184|247=>238|279=>229|280=>230|281=>231|282=>232|287=>183|316=>257|171=>110|205=>258|321=>227|322=>228|243=>150|246=>188|283=>234|284=>235|285=>236|286=>237|129=>260|317=>259|318=>261|319=>262|320=>263|337=>275|338=>276|n=>n,fun|9=>9|3=>3|75=>203|76=>213|4=>4|5=>5|167=>280|37=>215|0=>0|85=>291|2=>2|168=>282|53=>39|175=>204|46=>110|210=>307|127=>250|145=>326|143=>324|21=>21|171=>286|173=>289|212=>310|51=>167|20=>20|213=>311|232=>338|233=>339|80=>189|n=>n,fun|15=>1|16=>2|17=>3|18=>4|19=>5|n=>n⟩
theorem Tryz.laysC172:Go.Proofs.LaysC.n172 Tryz.prog Tryz.laysC172_ren:={
 mixed:=by kernel_rfl
 f129:=Tryz.func260.trans (congrArg some (by kernel_rfl))
 f171:=Tryz.func110.trans (congrArg some (by kernel_rfl))
 f172:=Tryz.func151.trans (congrArg some (by kernel_rfl))
 f205:=Tryz.func258.trans (congrArg some (by kernel_rfl))
 f243:=Tryz.func150.trans (congrArg some (by kernel_rfl))
 f244:=Tryz.func189.trans (congrArg some (by kernel_rfl))
 f245:=Tryz.func184.trans (congrArg some (by kernel_rfl))
 f246:=Tryz.func188.trans (congrArg some (by kernel_rfl))
 f247:=Tryz.func238.trans (congrArg some (by kernel_rfl))
 f279:=Tryz.func229.trans (congrArg some (by kernel_rfl))
 f280:=Tryz.func230.trans (congrArg some (by kernel_rfl))
 f281:=Tryz.func231.trans (congrArg some (by kernel_rfl))
 f282:=Tryz.func232.trans (congrArg some (by kernel_rfl))
 f283:=Tryz.func234.trans (congrArg some (by kernel_rfl))
 f284:=Tryz.func235.trans (congrArg some (by kernel_rfl))
 f285:=Tryz.func236.trans (congrArg some (by kernel_rfl))
 f286:=Tryz.func237.trans (congrArg some (by kernel_rfl))
 f287:=Tryz.func183.trans (congrArg some (by kernel_rfl))
 f316:=Tryz.func257.trans (congrArg some (by kernel_rfl))
 f317:=Tryz.func259.trans (congrArg some (by kernel_rfl))
 f318:=Tryz.func261.trans (congrArg some (by kernel_rfl))
 f319:=Tryz.func262.trans (congrArg some (by kernel_rfl))
 f320:=Tryz.func263.trans (congrArg some (by kernel_rfl))
 f321:=Tryz.func227.trans (congrArg some (by kernel_rfl))
 f322:=Tryz.func228.trans (congrArg some (by kernel_rfl))
 f337:=Tryz.func275.trans (congrArg some (by kernel_rfl))
 f338:=Tryz.func276.trans (congrArg some (by kernel_rfl))
 t0:=Tryz.underlying0
 a0:=Tryz.isAgg0
 z0:=Tryz.sizeOf0
 v0:=Tryz.zeroValue0
 t2:=Tryz.underlying2
 a2:=Tryz.isAgg2
 z2:=Tryz.sizeOf2
 v2:=Tryz.zeroValue2
 t3:=Tryz.underlying3
 a3:=Tryz.isAgg3
 z3:=Tryz.sizeOf3
 v3:=Tryz.zeroValue3
 t4:=Tryz.underlying4
 a4:=Tryz.isAgg4
 z4:=Tryz.sizeOf4
 v4:=Tryz.zeroValue4
 t5:=Tryz.underlying5
 a5:=Tryz.isAgg5
 z5:=Tryz.sizeOf5
 v5:=Tryz.zeroValue5
 t9:=Tryz.underlying9
 a9:=Tryz.isAgg9
 z9:=Tryz.sizeOf9
 v9:=Tryz.zeroValue9
 t20:=Tryz.underlying20
 a20:=Tryz.isAgg20
 z20:=Tryz.sizeOf20
 v20:=Tryz.zeroValue20
 t21:=Tryz.underlying21
 a21:=Tryz.isAgg21
 z21:=Tryz.sizeOf21
 v21:=Tryz.zeroValue21
 t37:=Tryz.underlying215
 a37:=Tryz.isAgg215
 z37:=Tryz.sizeOf215
 v37:=Tryz.zeroValue215
 t46:=Tryz.underlying110
 a46:=Tryz.isAgg110
 z46:=Tryz.sizeOf110
 v46:=Tryz.zeroValue110
 t51:=Tryz.underlying167
 a51:=Tryz.isAgg167
 z51:=Tryz.sizeOf167
 v51:=Tryz.zeroValue167
 t53:=Tryz.underlying39
 a53:=Tryz.isAgg39
 z53:=Tryz.sizeOf39
 v53:=Tryz.zeroValue39
 t75:=Tryz.underlying203
 a75:=Tryz.isAgg203
 z75:=Tryz.sizeOf203
 v75:=Tryz.zeroValue203
 t76:=Tryz.underlying213
 a76:=Tryz.isAgg213
 z76:=Tryz.sizeOf213
 v76:=Tryz.zeroValue213
 t85:=Tryz.underlying291
 a85:=Tryz.isAgg291
 z85:=Tryz.sizeOf291
 v85:=Tryz.zeroValue291
 t127:=Tryz.underlying250
 a127:=Tryz.isAgg250
 z127:=Tryz.sizeOf250
 v127:=Tryz.zeroValue250
 t143:=Tryz.underlying324
 a143:=Tryz.isAgg324
 z143:=Tryz.sizeOf324
 v143:=Tryz.zeroValue324
 t145:=Tryz.underlying326
 a145:=Tryz.isAgg326
 z145:=Tryz.sizeOf326
 v145:=Tryz.zeroValue326
 t167:=Tryz.underlying280
 a167:=Tryz.isAgg280
 z167:=Tryz.sizeOf280
 v167:=Tryz.zeroValue280
 t168:=Tryz.underlying282
 a168:=Tryz.isAgg282
 z168:=Tryz.sizeOf282
 v168:=Tryz.zeroValue282
 t171:=Tryz.underlying286
 a171:=Tryz.isAgg286
 z171:=Tryz.sizeOf286
 v171:=Tryz.zeroValue286
 t173:=Tryz.underlying289
 a173:=Tryz.isAgg289
 z173:=Tryz.sizeOf289
 v173:=Tryz.zeroValue289
 t175:=Tryz.underlying204
 a175:=Tryz.isAgg204
 z175:=Tryz.sizeOf204
 v175:=Tryz.zeroValue204
 t210:=Tryz.underlying307
 a210:=Tryz.isAgg307
 z210:=Tryz.sizeOf307
 v210:=Tryz.zeroValue307
 t212:=Tryz.underlying310
 a212:=Tryz.isAgg310
 z212:=Tryz.sizeOf310
 v212:=Tryz.zeroValue310
 t213:=Tryz.underlying311
 a213:=Tryz.isAgg311
 z213:=Tryz.sizeOf311
 t232:=Tryz.underlying338
 a232:=Tryz.isAgg338
 z232:=Tryz.sizeOf338
 v232:=Tryz.zeroValue338
 t233:=Tryz.underlying339
 a233:=Tryz.isAgg339
 z233:=Tryz.sizeOf339
 v233:=Tryz.zeroValue339
 g15:=by kernel_rfl
 g16:=by kernel_rfl
 g17:=by kernel_rfl
 g18:=by kernel_rfl
 g19:=by kernel_rfl
 t80:=Tryz.underlying189
 a80:=Tryz.isAgg189
 z80:=Tryz.sizeOf189
 v80:=Tryz.zeroValue189
 i0:=by kernel_rfl
 i2:=by kernel_rfl
 i3:=by kernel_rfl
 i4:=by kernel_rfl
 i5:=by kernel_rfl
 i9:=by kernel_rfl
 i20:=by kernel_rfl
 i21:=by kernel_rfl
 i37:=by kernel_rfl
 i46:=by kernel_rfl
 i51:=by kernel_rfl
 i53:=by kernel_rfl
 i75:=by kernel_rfl
 i76:=by kernel_rfl
 i80:=by kernel_rfl
 i85:=by kernel_rfl
 i127:=by kernel_rfl
 i143:=by kernel_rfl
 i145:=by kernel_rfl
 i167:=by kernel_rfl
 i168:=by kernel_rfl
 i171:=by kernel_rfl
 i173:=by kernel_rfl
 i175:=by kernel_rfl
 i210:=by kernel_rfl
 i212:=by kernel_rfl
 i232:=by kernel_rfl
 i233:=by kernel_rfl
 m15:=by kernel_rfl
 m16:=by kernel_rfl
 m17:=by kernel_rfl
 m18:=by kernel_rfl
 m19:=by kernel_rfl
 c0:=by kernel_rfl
 c2:=by kernel_rfl
 c3:=by kernel_rfl
 c4:=by kernel_rfl
 c5:=by kernel_rfl
 c9:=by kernel_rfl
 c20:=by kernel_rfl
 c21:=by kernel_rfl
 c37:=by kernel_rfl
 c46:=by kernel_rfl
 c51:=by kernel_rfl
 c53:=by kernel_rfl
 c75:=by kernel_rfl
 c76:=by kernel_rfl
 c80:=by kernel_rfl
 c85:=by kernel_rfl
 c127:=by kernel_rfl
 c143:=by kernel_rfl
 c145:=by kernel_rfl
 c167:=by kernel_rfl
 c168:=by kernel_rfl
 c171:=by kernel_rfl
 c173:=by kernel_rfl
 c175:=by kernel_rfl
 c210:=by kernel_rfl
 c212:=by kernel_rfl
 c213:=by kernel_rfl
 c232:=by kernel_rfl
 c233:=by kernel_rfl}
open Go.RowKit in
theorem Tryz.strconv_Atoi_ok(s:ByteArray)(hmax:s.size≤9223372036854775806)(v:Int)(h:Lib.atoiAll s.data.toList= .ok v)(w:World):
 Calls Tryz.prog 151 #[.string s] w fun e w'=>e= .returned (.tuple #[.int .i64 v,.nilIface])∧(w'=w∨∃t,w'=Lib.bytesWorld w 5 t):=Any.strconv_Atoi_ok Tryz.laysC172 s hmax v h w
open Go.RowKit in
theorem Tryz.strconv_Atoi_bad(s:ByteArray)(hlim:s.size≤281474976710656)(h1:∀v,Lib.atoiAll s.data.toList≠ .ok v)(h2:Lib.atoiAll s.data.toList≠ .range)(ev:Value)(w:World)(hv:w.cell? ⟨1,0,none⟩=some ev)(hev:ev= .nilIface∨∃te pe,ev= .iface te pe):
 Calls Tryz.prog 151 #[.string s] w fun e w'=>∃N,e= .returned (.tuple #[.int .i64 (0),.iface 282 (.pointer (some ⟨N,0,none⟩))])∧w.heap.size≤N∧w'.heap[N]? =some (.cells #[.string ⟨#[65,116,111,105]⟩,.string s,ev] 307 (0,0))∧Below w.heap.size w w':=Any.strconv_Atoi_syntax Tryz.laysC172 s hlim (by cases hx:Lib.atoiAll s.data.toList<;>first|rfl|exact absurd hx (h1 _)|exact absurd hx h2) ev w hv hev
open Go.RowKit in
theorem Tryz.strconv_Atoi_range(s:ByteArray)(hlim:s.size≤281474976710656)(h:Lib.atoiAll s.data.toList= .range)(ev:Value)(w:World)(hv:w.cell? ⟨2,0,none⟩=some ev)(hev:ev= .nilIface∨∃te pe,ev= .iface te pe):
 Calls Tryz.prog 151 #[.string s] w fun e w'=>∃N,e= .returned (.tuple #[.int .i64 (Lib.atoiSat s.data.toList),.iface 282 (.pointer (some ⟨N,0,none⟩))])∧w.heap.size≤N∧w'.heap[N]? =some (.cells #[.string ⟨#[65,116,111,105]⟩,.string s,ev] 307 (0,0))∧Below w.heap.size w w':=Any.strconv_Atoi_range Tryz.laysC172 s hlim h ev w hv hev
def Tryz.lays145_ren:Go.Shelf.Ren:=⟨fun|145=>97|220=>137|219=>181|217=>222|225=>223|224=>224|267=>225|266=>255|314=>256|n=>n,fun|9=>9|4=>4|59=>160|3=>3|5=>5|46=>110|146=>168|51=>167|n=>n,fun|1=>0|n=>n⟩
theorem Tryz.lays145:Go.Proofs.Lays.n145 Tryz.prog Tryz.lays145_ren:={
 mixed:=by kernel_rfl
 f145:=Tryz.func97.trans (congrArg some (by kernel_rfl))
 f217:=Tryz.func222.trans (congrArg some (by kernel_rfl))
 f219:=Tryz.func181.trans (congrArg some (by kernel_rfl))
 f220:=Tryz.func137.trans (congrArg some (by kernel_rfl))
 f224:=Tryz.func224.trans (congrArg some (by kernel_rfl))
 f225:=Tryz.func223.trans (congrArg some (by kernel_rfl))
 f266:=Tryz.func255.trans (congrArg some (by kernel_rfl))
 f267:=Tryz.func225.trans (congrArg some (by kernel_rfl))
 f314:=Tryz.func256.trans (congrArg some (by kernel_rfl))
 t3:=Tryz.underlying3
 a3:=Tryz.isAgg3
 z3:=Tryz.sizeOf3
 v3:=Tryz.zeroValue3
 t4:=Tryz.underlying4
 a4:=Tryz.isAgg4
 z4:=Tryz.sizeOf4
 v4:=Tryz.zeroValue4
 t5:=Tryz.underlying5
 a5:=Tryz.isAgg5
 z5:=Tryz.sizeOf5
 v5:=Tryz.zeroValue5
 t9:=Tryz.underlying9
 a9:=Tryz.isAgg9
 z9:=Tryz.sizeOf9
 v9:=Tryz.zeroValue9
 t46:=Tryz.underlying110
 a46:=Tryz.isAgg110
 z46:=Tryz.sizeOf110
 v46:=Tryz.zeroValue110
 t51:=Tryz.underlying167
 a51:=Tryz.isAgg167
 z51:=Tryz.sizeOf167
 v51:=Tryz.zeroValue167
 t59:=Tryz.underlying160
 a59:=Tryz.isAgg160
 z59:=Tryz.sizeOf160
 v59:=Tryz.zeroValue160
 t146:=Tryz.underlying168
 a146:=Tryz.isAgg168
 z146:=Tryz.sizeOf168
 v146:=Tryz.zeroValue168
 g1:=by kernel_rfl}
open Go.RowKit Go.Lib in
theorem Tryz.strings_Cut(s sep:ByteArray)(m:Int)(w:World)(hs:s.size<4294967281)(hm:w.cell? ⟨0,0,none⟩=some (.int .i64 m)):
 Calls Tryz.prog 97 #[.string s,.string sep] w fun e w'=>e= .returned (.tuple #[.string ⟨(Lib.cut s.data.toList sep.data.toList).1.toArray⟩,.string ⟨(Lib.cut s.data.toList sep.data.toList).2.1.toArray⟩,.bool (Lib.cut s.data.toList sep.data.toList).2.2])∧∃n,w'=w.drewN n:=Any.strings_Cut Tryz.lays145 s sep m w hs hm
end Go.Proofs
end
section
namespace Go.Proofs.YtfgbhfphjmmiaaaGreatDoor.Kx
open Go Go.RowKit
variable {P:Program} {g:FuncId}
theorem callF_calls{args:List V}{v:V}(h:∀M w vals,Sits M w→GlA M w→RelVs M noR args vals→∃u,RelV M noR v u∧Calls P g vals.toArray w (fun e w'=>e= .returned u∧Below w.heap.size w w')):CallF P g args v:=
 fun M w vals hs hg hr=>by
  obtain⟨u,hv,hc⟩:=h M w vals hs hg hr
  exact hc.mono fun e w' ⟨he,hb⟩=>⟨u,M,he,Ext.same hs hb,hv⟩
theorem rel1{M:Mem}{v:V}{vals:List Value}(h:RelVs M noR [v] vals):∃a,vals=[a]∧RelV M noR v a:=by
 simp only[RelVs]at h
 obtain⟨a,r,rfl,h1,rfl⟩:=h
 exact⟨a,rfl,h1⟩
theorem rel2{M:Mem}{v u:V}{vals:List Value}(h:RelVs M noR [v,u] vals):∃a b,vals=[a,b]∧RelV M noR v a∧RelV M noR u b:=by
 simp only[RelVs]at h
 obtain⟨a,r,rfl,h1,b,r',rfl,h2,rfl⟩:=h
 exact⟨a,b,rfl,h1,h2⟩
theorem below_drewN(w:World)(n:Nat):Below w.heap.size w (w.drewN n):=⟨rfl,rfl,rfl,Nat.le_refl _,fun _ _=>rfl⟩
theorem strv_size(s:List UInt8):(⟨s.toArray⟩:ByteArray).size=s.length:=rfl
def digF:Nat→Nat→List UInt8→List UInt8
 |0,_,acc=>acc
 |k+1,n,acc=>bif Nat.blt n 10 then UInt8.ofNat (48+n)::acc else digF k (n/10) (UInt8.ofNat (48+n%10)::acc)
theorem digF_eq:∀(k n:Nat) (acc:List UInt8),n<10^k→0<k→digF k n acc=Lib.decDigits n++acc
 |0,_,_,_,h=>by omega
 |k+1,n,acc,h,_=>by
  rw[digF,Lib.decDigits]
  by_cases hn:n<10
  ·rw[show Nat.blt n 10=true from Nat.ble_eq_true_of_le hn,cond_true,dif_pos hn];rfl
  ·have hb:Nat.blt n 10=false:=by
    cases hb:Nat.blt n 10 with
    |false=>rfl
    |true=>exact absurd (Nat.le_of_ble_eq_true hb) hn
   have hk:0<k:=by
    rcases Nat.eq_zero_or_pos k with e|e
    ·subst e;simp at h;omega
    ·exact e
   have hd:n/10<10^k:=by rw[Nat.pow_succ]at h;omega
   rw[hb,cond_false,dif_neg hn,digF_eq k (n/10) _ hd hk,List.append_assoc];rfl
def itoaF(n:Int):Option (List UInt8):=
 bif decide (-9223372036854775808≤n)&&decide (n≤9223372036854775807) then some (match n with| .ofNat m=>digF 20 m []| .negSucc m=>45::digF 20 (m+1) []) else none
theorem itoaF_eq{n:Int}{r:List UInt8}(h:itoaF n=some r):(-9223372036854775808≤n∧n≤9223372036854775807)∧r=Lib.itoa n:=by
 unfold itoaF at h
 cases hb:(decide (-9223372036854775808≤n)&&decide (n≤9223372036854775807)) with
 |false=>rw[hb]at h;cases h
 |true=>
  rw[hb,cond_true]at h
  rw[Bool.and_eq_true,decide_eq_true_eq,decide_eq_true_eq]at hb
  refine⟨hb,?_⟩
  unfold Lib.itoa
  cases n with
  |ofNat m=>
   have hm:m<10^20:=by have:=hb.2;have:(m:Int)≤9223372036854775807:=this;omega
   have:=Option.some.inj h
   rw[←this]
   simp only[digF_eq 20 m [] hm (by omega),List.append_nil]
   rw[if_neg (show¬Int.ofNat m<0 by simp)];rfl
  |negSucc m=>
   have hm:m+1<10^20:=by have:=hb.1;omega
   have:=Option.some.inj h
   rw[←this]
   simp only[digF_eq 20 (m+1) [] hm (by omega),List.append_nil]
   rw[if_pos (Int.negSucc_lt_zero m)];rfl
theorem relDs_ints{M:Mem}{k:IntKind}:∀{zs:List Int} {us:List Value},RelDs M (zs.map (Dat.int k)) us→us=zs.map fun z=>Value.int k z
 |[],us,h=>h
 |z::zs,us,⟨u,us',e,r,rs⟩=>by
  subst e
  cases r
  rw[relDs_ints rs];rfl
theorem tab_of{M:Mem}{w:World}{name:String}{gn:Nat}{k:IntKind}{zs:List Int}(hg:P.globalNamed name=some gn)(he:gl gn=some (zs.map (Dat.int k)))(hs:Sits M w)(ha:GlA M w):Lib.TabIs P w name k zs:=by
 obtain⟨us,⟨c,hc,hcell⟩,hr⟩:=ha.ok.d gn _ he
 obtain⟨c',e',z',h1,h2⟩:=hs gn c hc
 obtain⟨c2,e2,z2,h3,h4⟩:=ha.sz gn _ he
 rw[h1]at h3
 cases h3
 have hus:=relDs_ints hr
 unfold Lib.TabIs World.var?
 rw[hg,Option.bind_some,h1]
 show some c'=_
 congr 1
 refine Array.ext' ?_
 refine List.ext_getElem? fun j=> ?_
 rw[List.length_map]at h4
 rw[←hus]
 have hul:us.length=zs.length:=by rw[hus,List.length_map]
 by_cases hj:j<us.length
 ·have h5:=hcell j hj
  rw[Nat.zero_add]at h5
  have h6:us[j]? =some us[j]:=List.getElem?_eq_getElem hj
  rw[h6]at h5
  rw[Array.getElem?_toList,h2 j _ h5,h6]
 ·rw[List.getElem?_eq_none (by rw[Array.length_toList];omega),List.getElem?_eq_none (by simpa using Nat.le_of_not_lt hj)]
theorem below_grow(w:World)(k:Nat)(os:Array Obj):Below w.heap.size w (Go.Sort.grow (w.drewN k) os):=
 ⟨rfl,rfl,rfl,by show w.heap.size≤(w.heap++os).size;rw[Array.size_append];omega,fun g h=>Lib.heap_grow_old w k os g h⟩
theorem itoa_callF{gn:Nat}(hg:P.globalNamed "internal/strconv.uint64pow10" =some gn)(he:gl gn=some (Lib.pow10Tab.map (Dat.int .u64)))
 (h:∀(n:Int),-9223372036854775808≤n→n≤9223372036854775807→∀w,Lib.TabIs P w "internal/strconv.uint64pow10" .u64 Lib.pow10Tab→Calls P g #[.int .i64 n] w fun e w'=>e= .returned (.string ⟨(Lib.itoa n).toArray⟩)∧∃k os,w'=Go.Sort.grow (w.drewN k) os) {n:Int} {r:List UInt8} (hF:itoaF n=some r):CallF P g [.d (.int .i64 n)] (.d (.str r)):=by
 obtain⟨hn,rfl⟩:=itoaF_eq hF
 refine callF_calls fun M w vals hs hgl hr=> ?_
 obtain⟨a,rfl,h1⟩:=rel1 hr
 obtain rfl:=relV_int h1
 exact⟨_,mk_str (s:=Lib.itoa n),(h n hn.1 hn.2 w (tab_of hg he hs hgl)).mono fun e w' ⟨h2,k,os,h3⟩=>⟨h2,by rw[h3];exact below_grow w k os⟩⟩
def atoiF(s:List UInt8):Option (Int×Bool):=bif decide (s.length≤2147483648) then some (match Lib.atoiAll s with| .ok v=>(v,false)| .range=>(Lib.atoiSat s,true)|_=>(0,true)) else none
theorem ife_cell{M:Mem}{w:World}{n:Nat}(he:gl n=some [.ife true])(hs:Sits M w)(hg:GlA M w):∃t u,w.cell? ⟨n,0,none⟩=some (.iface t u):=by
 obtain⟨us,⟨c,hc,hcell⟩,u,us',rfl,hr,_⟩:=hg.ok.d n _ he
 cases hr with
 |ifc t u=>
  have h0:=hcell 0 (by simp)
  exact⟨t,u,hs.cell hc (by simpa using h0)⟩
theorem atoi_callF{bt te tc:TypeId}{gs gr:Nat}(hes:gl gs=some [.ife true])(her:gl gr=some [.ife true])
 (h:∀(s:ByteArray),s.size≤9223372036854775806→∀v:Int,Lib.atoiAll s.data.toList= .ok v→∀w,Calls P g #[.string s] w fun e w'=>e= .returned (.tuple #[.int .i64 v,.nilIface])∧(w'=w∨∃t,w'=Lib.bytesWorld w bt t))
 (hb:∀(s:ByteArray),s.size≤281474976710656→(∀v,Lib.atoiAll s.data.toList≠ .ok v)→Lib.atoiAll s.data.toList≠ .range→∀(ev:Value) (w:World),w.cell? ⟨gs,0,none⟩=some ev→(ev= .nilIface∨∃te pe,ev= .iface te pe)→
  Calls P g #[.string s] w fun e w'=>∃N,e= .returned (.tuple #[.int .i64 (0),.iface te (.pointer (some ⟨N,0,none⟩))])∧w.heap.size≤N∧w'.heap[N]? =some (.cells #[.string ⟨#[65,116,111,105]⟩,.string s,ev] tc (0,0))∧Below w.heap.size w w')
 (hr0:∀(s:ByteArray),s.size≤281474976710656→Lib.atoiAll s.data.toList= .range→∀(ev:Value) (w:World),w.cell? ⟨gr,0,none⟩=some ev→(ev= .nilIface∨∃te pe,ev= .iface te pe)→
  Calls P g #[.string s] w fun e w'=>∃N,e= .returned (.tuple #[.int .i64 (Lib.atoiSat s.data.toList),.iface te (.pointer (some ⟨N,0,none⟩))])∧w.heap.size≤N∧w'.heap[N]? =some (.cells #[.string ⟨#[65,116,111,105]⟩,.string s,ev] tc (0,0))∧Below w.heap.size w w')
 {s:List UInt8} {r:Int×Bool} (hF:atoiF s=some r):CallF P g [.d (.str s)] (.tup [.d (.int .i64 r.1),.d (.ife r.2)]):=by
 unfold atoiF at hF
 cases hb1:decide (s.length≤2147483648) with
 |false=>rw[hb1]at hF;cases hF
 |true=>
  rw[hb1,cond_true]at hF
  have hlen:=of_decide_eq_true hb1
  have hr1:=Option.some.inj hF
  intro M w vals hs hg hr
  obtain⟨a,rfl,h1⟩:=rel1 hr
  obtain rfl:=relV_str h1
  have pair:∀(n:Int) (N:Nat),RelV M noR (.tup [.d (.int .i64 n),.d (.ife true)]) (.tuple #[.int .i64 n,.iface te (.pointer (some ⟨N,0,none⟩))]):=fun n N=>by
   simp only[RelV,RelVs]
   exact⟨[.int .i64 n,.iface te (.pointer (some ⟨N,0,none⟩))],rfl,_,_,rfl,.int _ _,_,_,rfl,.ifc _ _,rfl⟩
  split at hr1
  ·rename_i v hv
   subst hr1
   refine(h ⟨s.toArray⟩ (by rw[strv_size];omega) v (by simpa using hv) w).mono fun e w' ⟨h2,h3⟩=>⟨_,M,h2,Ext.same hs ?_,?_⟩
   ·rcases h3 with rfl|⟨t,rfl⟩
    ·exact Below.refl _ _
    ·exact Lib.bytesWorld_below _ _ _
   ·simp only[RelV,RelVs]
    exact⟨[.int .i64 v,.nilIface],rfl,_,_,rfl,.int _ _,_,_,rfl,.nili,rfl⟩
  ·rename_i hv
   subst hr1
   obtain⟨t,u,hc⟩:=ife_cell her hs hg
   exact(hr0 ⟨s.toArray⟩ (by rw[strv_size];omega) (by simpa using hv) _ w hc (.inr ⟨t,u,rfl⟩)).mono fun e w' ⟨N,h2,_,_,h3⟩=>⟨_,M,h2,Ext.same hs h3,by simpa using pair (Lib.atoiSat s) N⟩
  ·rename_i hv1 hv2
   subst hr1
   obtain⟨t,u,hc⟩:=ife_cell hes hs hg
   exact(hb ⟨s.toArray⟩ (by rw[strv_size];omega) (fun v hv=>hv1 v (by simpa using hv)) (fun hv=>hv2 (by simpa using hv)) _ w hc (.inr ⟨t,u,rfl⟩)).mono fun e w' ⟨N,h2,_,_,h3⟩=>⟨_,M,h2,Ext.same hs h3,pair 0 N⟩
def repL(s:List UInt8):Nat→List UInt8
 |0=>[]
 |n+1=>s++repL s n
theorem rep_eq(s:List UInt8):∀n,Lib.repeatL s n=repL s n
 |0=>rfl
 |n+1=>by rw[Lib.repeatL,rep_eq s n];rfl
def cut1(c:UInt8):List UInt8→List UInt8×List UInt8×Bool
 |[]=>([],[],false)
 |b::l=>match b==c with
  |true=>([],l,true)
  |false=>match cut1 c l with|(x,y,t)=>(b::x,y,t)
theorem index_cons(b c:UInt8)(l:List UInt8):Lib.index (b::l) [c]=if b=c then 0 else if Lib.index l [c]= -1 then-1 else Lib.index l [c]+1:=by
 rw[Lib.index]
 by_cases h:b=c
 ·subst h;simp[List.isPrefixOf]
 ·have hp:([c]:List UInt8).isPrefixOf (b::l)=false:=by simp[List.isPrefixOf,Ne.symm h]
  rw[hp,if_neg h]
  by_cases h2:Lib.index l [c]= -1<;>simp[h2]
theorem cut1_eq(c:UInt8):∀l,Lib.cut l [c]=cut1 c l
 |[]=>rfl
 |b::l=>by
  have ih:=cut1_eq c l
  have hge:=Lib.index_ge l [c]
  unfold Lib.cut at ih⊢
  rw[index_cons]
  unfold cut1
  by_cases h:b=c
  ·subst h;simp
  ·rw[if_neg h,show(b==c)=false from by simpa using h]
   dsimp only
   rw[←ih]
   by_cases h2:Lib.index l [c]= -1
   ·simp[h2]
   ·rw[if_neg h2]
    obtain⟨j,hj⟩:∃j:Nat,Lib.index l [c]=j:=⟨(Lib.index l [c]).toNat,by omega⟩
    rw[hj,if_pos (by omega),if_pos (by omega)]
    have e1:((j:Int)+1).toNat=j+1:=by omega
    rw[e1,Int.toNat_natCast]
    simp
def cutF(s p:List UInt8):Option (List UInt8×List UInt8×Bool):=match p with
 |[c]=>bif decide (s.length≤2147483648) then some (cut1 c s) else none
 |_=>none
theorem cut_callF{n:Nat}(hx:(n,IntKind.i64)∈gxT)(h:∀(s sep:ByteArray) (m:Int) (w:World),s.size<4294967281→w.cell? ⟨n,0,none⟩=some (.int .i64 m)→Calls P g #[.string s,.string sep] w fun e w'=>
 e= .returned (.tuple #[.string ⟨(Lib.cut s.data.toList sep.data.toList).1.toArray⟩,.string ⟨(Lib.cut s.data.toList sep.data.toList).2.1.toArray⟩,.bool (Lib.cut s.data.toList sep.data.toList).2.2])∧∃n,w'=w.drewN n)
 {s p:List UInt8} {r:List UInt8×List UInt8×Bool} (hF:cutF s p=some r):CallF P g [.d (.str s),.d (.str p)] (.tup [.d (.str r.1),.d (.str r.2.1),.d (.bool r.2.2)]):=by
 unfold cutF at hF
 split at hF
 ·rename_i c
  cases hb:decide (s.length≤2147483648) with
  |false=>rw[hb]at hF;cases hF
  |true=>
   rw[hb,cond_true]at hF
   cases hF
   have hb:=of_decide_eq_true hb
   refine callF_calls fun M w vals hs hg hr=> ?_
   obtain⟨a,b,rfl,h1,h2⟩:=rel2 hr
   obtain rfl:=relV_str h1
   obtain rfl:=relV_str h2
   obtain⟨m,hm⟩:=hg.ok.x _ _ hx
   have hc:=h ⟨s.toArray⟩ ⟨([c]:List UInt8).toArray⟩ m w (by rw[strv_size];omega) (hm.cell hs (j:=0) rfl)
   have e:Lib.cut (⟨s.toArray⟩:ByteArray).data.toList (⟨([c]:List UInt8).toArray⟩:ByteArray).data.toList=cut1 c s:=by rw[←cut1_eq]
   rw[e]at hc
   refine⟨.tuple #[strv (cut1 c s).1,strv (cut1 c s).2.1,.bool (cut1 c s).2.2],?_,hc.mono fun e w' ⟨h3,k,h4⟩=>⟨h3,by rw[h4];exact below_drewN _ _⟩⟩
   simp only[RelV,RelVs]
   exact⟨[strv (cut1 c s).1,strv (cut1 c s).2.1,.bool (cut1 c s).2.2],rfl,_,_,rfl,.str _,_,_,rfl,.str _,_,_,rfl,.bool _,rfl⟩
 ·cases hF
end Go.Proofs.YtfgbhfphjmmiaaaGreatDoor.Kx
end
section
set_option linter.unusedVariables false
set_option maxRecDepth 100000
namespace Go.Proofs.YtfgbhfphjmmiaaaGreatDoor
open Go Go.RowKit Kx
theorem en185:entersT Tryz.prog 185:=Kx.enters_of Tryz.func185 (by kernel_rfl) (by kernel_rfl)
theorem en141:entersT Tryz.prog 141:=Kx.enters_of Tryz.func141 (by kernel_rfl) (by kernel_rfl)
theorem en233:entersT Tryz.prog 233:=Kx.enters_of Tryz.func233 (by kernel_rfl) (by kernel_rfl)
theorem en186:entersT Tryz.prog 186:=Kx.enters_of Tryz.func186 (by kernel_rfl) (by kernel_rfl)
theorem en140:entersT Tryz.prog 140:=Kx.enters_of Tryz.func140 (by kernel_rfl) (by kernel_rfl)
theorem en100:entersT Tryz.prog 100:=Kx.enters_of Tryz.func100 (by kernel_rfl) (by kernel_rfl)
theorem en142:entersT Tryz.prog 142:=Kx.enters_of Tryz.func142 (by kernel_rfl) (by kernel_rfl)
theorem en145:entersT Tryz.prog 145:=Kx.enters_of Tryz.func145 (by kernel_rfl) (by kernel_rfl)
theorem en146:entersT Tryz.prog 146:=Kx.enters_of Tryz.func146 (by kernel_rfl) (by kernel_rfl)
theorem en221:entersT Tryz.prog 221:=Kx.enters_of Tryz.func221 (by kernel_rfl) (by kernel_rfl)
theorem en254:entersT Tryz.prog 254:=Kx.enters_of Tryz.func254 (by kernel_rfl) (by kernel_rfl)
theorem en217:entersT Tryz.prog 217:=Kx.enters_of Tryz.func217 (by kernel_rfl) (by kernel_rfl)
theorem en218:entersT Tryz.prog 218:=Kx.enters_of Tryz.func218 (by kernel_rfl) (by kernel_rfl)
theorem en219:entersT Tryz.prog 219:=Kx.enters_of Tryz.func219 (by kernel_rfl) (by kernel_rfl)
theorem en220:entersT Tryz.prog 220:=Kx.enters_of Tryz.func220 (by kernel_rfl) (by kernel_rfl)
theorem en178:entersT Tryz.prog 178:=Kx.enters_of Tryz.func178 (by kernel_rfl) (by kernel_rfl)
theorem en99:entersT Tryz.prog 99:=Kx.enters_of Tryz.func99 (by kernel_rfl) (by kernel_rfl)
theorem en143:entersT Tryz.prog 143:=Kx.enters_of Tryz.func143 (by kernel_rfl) (by kernel_rfl)
theorem en104:entersT Tryz.prog 104:=Kx.enters_of Tryz.func104 (by kernel_rfl) (by kernel_rfl)
theorem en187:entersT Tryz.prog 187:=Kx.enters_of Tryz.func187 (by kernel_rfl) (by kernel_rfl)
theorem en179:entersT Tryz.prog 179:=Kx.enters_of Tryz.func179 (by kernel_rfl) (by kernel_rfl)
theorem en226:entersT Tryz.prog 226:=Kx.enters_of Tryz.func226 (by kernel_rfl) (by kernel_rfl)
theorem en182:entersT Tryz.prog 182:=Kx.enters_of Tryz.func182 (by kernel_rfl) (by kernel_rfl)
theorem en138:entersT Tryz.prog 138:=Kx.enters_of Tryz.func138 (by kernel_rfl) (by kernel_rfl)
theorem en227:entersT Tryz.prog 227:=Kx.enters_of Tryz.func227 (by kernel_rfl) (by kernel_rfl)
theorem en183:entersT Tryz.prog 183:=Kx.enters_of Tryz.func183 (by kernel_rfl) (by kernel_rfl)
theorem en139:entersT Tryz.prog 139:=Kx.enters_of Tryz.func139 (by kernel_rfl) (by kernel_rfl)
theorem en194:entersT Tryz.prog 194:=Kx.enters_of Tryz.func194 (by kernel_rfl) (by kernel_rfl)
theorem en159:entersT Tryz.prog 159:=Kx.enters_of Tryz.func159 (by kernel_rfl) (by kernel_rfl)
theorem en110:entersT Tryz.prog 110:=Kx.enters_of Tryz.func110 (by kernel_rfl) (by kernel_rfl)
theorem en160:entersT Tryz.prog 160:=Kx.enters_of Tryz.func160 (by kernel_rfl) (by kernel_rfl)
theorem en161:entersT Tryz.prog 161:=Kx.enters_of Tryz.func161 (by kernel_rfl) (by kernel_rfl)
theorem en97:entersT Tryz.prog 97:=Kx.enters_of Tryz.func97 (by kernel_rfl) (by kernel_rfl)
theorem en98:entersT Tryz.prog 98:=Kx.enters_of Tryz.func98 (by kernel_rfl) (by kernel_rfl)
theorem en101:entersT Tryz.prog 101:=Kx.enters_of Tryz.func101 (by kernel_rfl) (by kernel_rfl)
theorem en102:entersT Tryz.prog 102:=Kx.enters_of Tryz.func102 (by kernel_rfl) (by kernel_rfl)
theorem en135:entersT Tryz.prog 135:=Kx.enters_of Tryz.func135 (by kernel_rfl) (by kernel_rfl)
theorem en144:entersT Tryz.prog 144:=Kx.enters_of Tryz.func144 (by kernel_rfl) (by kernel_rfl)
theorem en103:entersT Tryz.prog 103:=Kx.enters_of Tryz.func103 (by kernel_rfl) (by kernel_rfl)
theorem en126:entersT Tryz.prog 126:=Kx.enters_of Tryz.func126 (by kernel_rfl) (by kernel_rfl)
theorem en127:entersT Tryz.prog 127:=Kx.enters_of Tryz.func127 (by kernel_rfl) (by kernel_rfl)
theorem en180:entersT Tryz.prog 180:=Kx.enters_of Tryz.func180 (by kernel_rfl) (by kernel_rfl)
theorem en133:entersT Tryz.prog 133:=Kx.enters_of Tryz.func133 (by kernel_rfl) (by kernel_rfl)
theorem en48:entersT Tryz.prog 48:=Kx.enters_of Tryz.func48 (by kernel_rfl) (by kernel_rfl)
theorem en134:entersT Tryz.prog 134:=Kx.enters_of Tryz.func134 (by kernel_rfl) (by kernel_rfl)
theorem en136:entersT Tryz.prog 136:=Kx.enters_of Tryz.func136 (by kernel_rfl) (by kernel_rfl)
theorem en96:entersT Tryz.prog 96:=Kx.enters_of Tryz.func96 (by kernel_rfl) (by kernel_rfl)
structure T_exact_Whole where
 neg:Bool
 mag:List Int
 deriving DecidableEq
def e_u32(x:Int):List Dat:=[.int .u32 x]
def F99_L1(d0:Int):Nat→Int→(List Int)→Option T_exact_Whole
 |0,_,_=>none
 |n_F99_L1+1,v2,l4=>
  bif decide (v2>0) then
   (Option.bind (app l4 [IntKind.u32.wrap (Int.tmod v2 1000000000)]) fun l5=>
   (F99_L1 d0 n_F99_L1) (IntKind.u64.wrap (Int.tdiv v2 1000000000)) l5)
  else
   (some (⟨decide (d0<0),l4⟩:T_exact_Whole))
def F99_L2(d0:Int):Nat→Int→(List Int)→Option T_exact_Whole
 |0,_,_=>none
 |n_F99_L2+1,v4,l9=>
  bif decide (v4>0) then
   (Option.bind (app l9 [IntKind.u32.wrap (Int.tmod v4 1000000000)]) fun l10=>
   (F99_L2 d0 n_F99_L2) (IntKind.u64.wrap (Int.tdiv v4 1000000000)) l10)
  else
   (some (⟨decide (d0<0),l9⟩:T_exact_Whole))
def F99(fuel:Nat)(d0:Int):Option T_exact_Whole:=
 bif decide (d0<0) then
  (F99_L1 d0 fuel (IntKind.u64.wrap (0-(IntKind.u64.wrap d0))) [])
 else
  (F99_L2 d0 fuel (IntKind.u64.wrap d0) [])
noncomputable abbrev b99:=bodyOf Tryz.f99
abbrev G99(r:T_exact_Whole):=J none Tryz.prog 27 [] (finF Tryz.prog Tryz.f99 (.agg [.b r.neg,.l 1 r.mag e_u32]))
theorem F99_ok{fuel:Nat}{d0:Int}{r:T_exact_Whole}(hF:F99 fuel d0=some r):
 CallF Tryz.prog 99 [.i d0] (.agg [.b r.neg,.l 1 r.mag e_u32]):=by
 unfold F99 at hF
 refine cf 27 Tryz.func99 ?_
 refine ji 24 11 hF (fun hb1 hF=> ?_) (fun hb1 hF=> ?_)
 ·
  have hF99_L1:∀(n_F99_L1:Nat) (v2:Int) (l4:List Int),F99_L1 d0 n_F99_L1 v2 l4=some r→G99 r ⟨mkT [(2,.ptr 2 0),(3,.ptr 3 0),(4,.n v2)],[(2,.box 98 [.b false,.esl 1]),(3,.box 98 [.b (decide (d0<0)),.suf 24 0 0]),(24,.buf 0 167 1 (l4.map e_u32))],[kL b99 [1,1,1,1,0,0,0],.inBlock 0,kC b99 [1,1,1,1,1]]⟩:=by
   clear hF;intro n_F99_L1
   induction n_F99_L1 with
   |zero=>intro v2 l4 hF;cases hF
   |succ n_F99_L1 ih_F99_L1=>
    intro v2 l4 hF
    rw[F99_L1]at hF
    refine ji 7 15 hF (fun hb4 hF=> ?_) (fun hb4 hF=> ?_)
    ·
     obtain⟨l5,e3,hF⟩:=bnd hF
     refine jo2 11 (am (f:=e_u32) e3) ?_
     exact ja 9 (ih_F99_L1 _ _ hF)
    ·
     have hF:=oi hF;subst hF
     exact jr 7
  refine J_adv 9 (J_ownc (n:=1) 3 1 24 167 1 (by kernel_rfl) (by kernel_rfl) ?_)
  exact ja 0 (hF99_L1 _ _ _ hF)
 ·
  have hF99_L2:∀(n_F99_L2:Nat) (v4:Int) (l9:List Int),F99_L2 d0 n_F99_L2 v4 l9=some r→G99 r ⟨mkT [(2,.ptr 2 0),(3,.ptr 3 0),(4,.n v4)],[(2,.box 98 [.b false,.esl 1]),(3,.box 98 [.b (decide (d0<0)),.suf 24 0 0]),(24,.buf 0 167 1 (l9.map e_u32))],[kL b99 [1,1,1,1,0,0,0],.inBlock 0,kC b99 [1,1,1,1,1]]⟩:=by
   clear hF;intro n_F99_L2
   induction n_F99_L2 with
   |zero=>intro v4 l9 hF;cases hF
   |succ n_F99_L2 ih_F99_L2=>
    intro v4 l9 hF
    rw[F99_L2]at hF
    refine ji 7 15 hF (fun hb7 hF=> ?_) (fun hb7 hF=> ?_)
    ·
     obtain⟨l10,e6,hF⟩:=bnd hF
     refine jo2 11 (am (f:=e_u32) e6) ?_
     exact ja 9 (ih_F99_L2 _ _ hF)
    ·
     have hF:=oi hF;subst hF
     exact jr 7
  refine J_adv 5 (J_ownc (n:=1) 3 1 24 167 1 (by kernel_rfl) (by kernel_rfl) ?_)
  exact ja 0 (hF99_L2 _ _ _ hF)
def F140_L1(d0:Bool):Nat→(List Int)→Option T_exact_Whole
 |0,_=>none
 |n_F140_L1+1,l4=>
  Option.bind (
   bif decide (((l4.map e_u32).length:Int)>0) then
    (Option.bind (geti l4 (IntKind.i64.wrap (((l4.map e_u32).length:Int)-1))) fun y9=>
    some (y9==0))
   else
    (some false)) fun o3=>
  bif o3 then
   (Option.bind (slc l4 0 (IntKind.i64.wrap (((l4.map e_u32).length:Int)-1))) fun l5=>
   (F140_L1 d0 n_F140_L1) l5)
  else
   (Option.bind (
    bif d0 then
     (some (decide (((l4.map e_u32).length:Int)>0)))
    else
     (some false)) fun o4=>
   some (⟨o4,l4⟩:T_exact_Whole))
def F140(fuel:Nat)(d0:Bool)(d1:List Int):Option T_exact_Whole:=
 F140_L1 d0 fuel d1
noncomputable abbrev b140:=bodyOf Tryz.f140
abbrev G140(r:T_exact_Whole):=J none Tryz.prog 30 [] (finF Tryz.prog Tryz.f140 (.agg [.b r.neg,.l 1 r.mag e_u32]))
theorem F140_ok{fuel:Nat}{d0:Bool}{d1:List Int}{r:T_exact_Whole}(hF:F140 fuel d0 d1=some r):
 CallF Tryz.prog 140 [.b d0,.l 1 d1 e_u32] (.agg [.b r.neg,.l 1 r.mag e_u32]):=by
 unfold F140 at hF
 refine cf 30 Tryz.func140 ?_
 have hF140_L1:∀(n_F140_L1:Nat) (l4:List Int),F140_L1 d0 n_F140_L1 l4=some r→G140 r ⟨mkT [(0,.b d0),(1,.l 1 l4 e_u32),(4,.ptr 4 0)],[(4,.box 98 [.b false,.esl 1])],[kL b140 [1,0,0,0],.inBlock 0,kC b140 [1,1]]⟩:=by
  clear hF;intro n_F140_L1
  induction n_F140_L1 with
  |zero=>intro l4 hF;cases hF
  |succ n_F140_L1 ih_F140_L1=>
   intro l4 hF
   rw[F140_L1]at hF
   obtain⟨o3,hO,hF⟩:=bnd hF
   have hR3:G140 r ⟨mkT [(0,.b d0),(1,.l 1 l4 e_u32),(4,.ptr 4 0),(16,.b o3)],[(4,.box 98 [.b false,.esl 1])],[kO b140 [1,0,0,0,0,0],kC b140 [1,0,0,0,0,1],kC b140 [1,0,0,0,1],kL b140 [1,0,0,0],.inBlock 0,kC b140 [1,1]]⟩:=by
    clear hO
    refine ji 1 16 hF (fun hb11 hF=> ?_) (fun hb11 hF=> ?_)
    ·
     obtain⟨l5,e11,hF⟩:=bnd hF
     refine jo2 8 (sm (f:=e_u32) e11) ?_
     exact ja 3 (ih_F140_L1 _ hF)
    ·
     obtain⟨o4,hO,hF⟩:=bnd hF
     have hR4:G140 r ⟨mkT [(4,.ptr 4 0)],[(4,.box 98 [.b o4,.l 1 l4 e_u32])],[kO b140 [1,1,0],kC b140 [1,1,1]]⟩:=by
      clear hO
      have hF:=oi hF;subst hF
      exact jr 1
     clear hF;rename _=some o4=>hF
     refine ji 6 23 hF (fun hb14 hF=> ?_) (fun hb14 hF=> ?_)
     ·
      have hF:=oi hF;subst hF
      exact ja 7 hR4
     ·
      have hF:=oi hF;subst hF
      exact ja 7 hR4
   clear hF;rename _=some o3=>hF
   refine ji 8 8 hF (fun hb15 hF=> ?_) (fun hb15 hF=> ?_)
   ·
    obtain⟨y9,e12,hF⟩:=bnd hF
    refine jo1 4 (gm (f:=e_u32) e12) ?_
    have hF:=oi hF;subst hF
    exact ja 3 hR3
   ·
    have hF:=oi hF;subst hF
    exact ja 8 hR3
 exact ja 7 (hF140_L1 _ _ hF)
def F185(d0:Int):Option Bool:=
 some (d0 !=d0)
theorem F185_ok{d0:Int}{r:Bool}(hF:F185 d0=some r):
 CallF Tryz.prog 185 [.i d0] (.b r):=by
 unfold F185 at hF
 refine cf 6 Tryz.func185 ?_
 have hF:=oi hF;subst hF
 exact jr 11
def F141(d0:Int)(d1:Int):Option Int:=
 Option.bind (F185 d0) fun y1=>
 Option.bind (F185 d1) fun y2=>
 bif y1 then
  (bif y2 then
   (some 0)
  else
   (some (-1)))
 else
  (bif y2 then
   (some 1)
  else
   (bif decide (d0<d1) then
    (some (-1))
   else
    (bif decide (d0>d1) then
     (some 1)
    else
     (some 0))))
theorem F141_ok{d0:Int}{d1:Int}{r:Int}(hF:F141 d0 d1=some r):
 CallF Tryz.prog 141 [.i d0,.i d1] (.i r):=by
 unfold F141 at hF
 refine cf 20 Tryz.func141 ?_
 obtain⟨y1,e1,hF⟩:=bnd hF
 refine jc 7 en185 (F185_ok e1) ?_
 obtain⟨y2,e2,hF⟩:=bnd hF
 refine jc 5 en185 (F185_ok e2) ?_
 refine ji 7 11 hF (fun hb1 hF=> ?_) (fun hb1 hF=> ?_)
 ·
  refine ji 6 12 hF (fun hb2 hF=> ?_) (fun hb2 hF=> ?_)
  ·
   have hF:=oi hF;subst hF
   exact jr 5
  ·
   have hF:=oi hF;subst hF
   exact jr 6
 ·
  refine ji 7 13 hF (fun hb3 hF=> ?_) (fun hb3 hF=> ?_)
  ·
   have hF:=oi hF;subst hF
   exact jr 5
  ·
   refine ji 9 16 hF (fun hb4 hF=> ?_) (fun hb4 hF=> ?_)
   ·
    have hF:=oi hF;subst hF
    exact jr 5
   ·
    refine ji 9 19 hF (fun hb5 hF=> ?_) (fun hb5 hF=> ?_)
    ·
     have hF:=oi hF;subst hF
     exact jr 5
    ·
     have hF:=oi hF;subst hF
     exact jr 6
def F233(d0:Int):Option Bool:=
 some (d0 !=d0)
theorem F233_ok{d0:Int}{r:Bool}(hF:F233 d0=some r):
 CallF Tryz.prog 233 [.w d0] (.b r):=by
 unfold F233 at hF
 refine cf 6 Tryz.func233 ?_
 have hF:=oi hF;subst hF
 exact jr 11
def F186(d0:Int)(d1:Int):Option Int:=
 Option.bind (F233 d0) fun y1=>
 Option.bind (F233 d1) fun y2=>
 bif y1 then
  (bif y2 then
   (some 0)
  else
   (some (-1)))
 else
  (bif y2 then
   (some 1)
  else
   (bif decide (d0<d1) then
    (some (-1))
   else
    (bif decide (d0>d1) then
     (some 1)
    else
     (some 0))))
theorem F186_ok{d0:Int}{d1:Int}{r:Int}(hF:F186 d0 d1=some r):
 CallF Tryz.prog 186 [.w d0,.w d1] (.i r):=by
 unfold F186 at hF
 refine cf 20 Tryz.func186 ?_
 obtain⟨y1,e1,hF⟩:=bnd hF
 refine jc 7 en233 (F233_ok e1) ?_
 obtain⟨y2,e2,hF⟩:=bnd hF
 refine jc 5 en233 (F233_ok e2) ?_
 refine ji 7 11 hF (fun hb1 hF=> ?_) (fun hb1 hF=> ?_)
 ·
  refine ji 6 12 hF (fun hb2 hF=> ?_) (fun hb2 hF=> ?_)
  ·
   have hF:=oi hF;subst hF
   exact jr 5
  ·
   have hF:=oi hF;subst hF
   exact jr 6
 ·
  refine ji 7 13 hF (fun hb3 hF=> ?_) (fun hb3 hF=> ?_)
  ·
   have hF:=oi hF;subst hF
   exact jr 5
  ·
   refine ji 9 16 hF (fun hb4 hF=> ?_) (fun hb4 hF=> ?_)
   ·
    have hF:=oi hF;subst hF
    exact jr 5
   ·
    refine ji 9 19 hF (fun hb5 hF=> ?_) (fun hb5 hF=> ?_)
    ·
     have hF:=oi hF;subst hF
     exact jr 5
    ·
     have hF:=oi hF;subst hF
     exact jr 6
def F142_L1(d0:List Int)(d1:List Int):Nat→Int→Option Int
 |0,_=>none
 |n_F142_L1+1,v2=>
  bif decide (v2≥0) then
   (Option.bind (geti d0 v2) fun y8=>
   Option.bind (geti d1 v2) fun y9=>
   Option.bind (F186 y8 y9) fun y10=>
   bif y10 !=0 then
    (some y10)
   else
    ((F142_L1 d0 d1 n_F142_L1) (IntKind.i64.wrap (v2-1))))
  else
   (some 0)
def F142(fuel:Nat)(d0:List Int)(d1:List Int):Option Int:=
 Option.bind (F141 ((d0.map e_u32).length:Int) ((d1.map e_u32).length:Int)) fun y1=>
 bif y1 !=0 then
  (some y1)
 else
  (F142_L1 d0 d1 fuel (IntKind.i64.wrap (((d0.map e_u32).length:Int)-1)))
noncomputable abbrev b142:=bodyOf Tryz.f142
abbrev G142(r:Int):=J none Tryz.prog 35 [] (finF Tryz.prog Tryz.f142 (.i r))
theorem F142_ok{fuel:Nat}{d0:List Int}{d1:List Int}{r:Int}(hF:F142 fuel d0 d1=some r):
 CallF Tryz.prog 142 [.l 1 d0 e_u32,.l 1 d1 e_u32] (.i r):=by
 unfold F142 at hF
 refine cf 35 Tryz.func142 ?_
 obtain⟨y1,e1,hF⟩:=bnd hF
 refine jc 11 en141 (F141_ok e1) ?_
 refine ji 7 14 hF (fun hb1 hF=> ?_) (fun hb1 hF=> ?_)
 ·
  have hF:=oi hF;subst hF
  exact jr 6
 ·
  have hF142_L1:∀(n_F142_L1:Nat) (v2:Int),F142_L1 d0 d1 n_F142_L1 v2=some r→G142 r ⟨mkT [(0,.l 1 d0 e_u32),(1,.l 1 d1 e_u32),(6,.i v2)],[],[kL b142 [1,1,0,1,0,0],.inBlock 0,kC b142 [1,1,1]]⟩:=by
   clear hF;intro n_F142_L1
   induction n_F142_L1 with
   |zero=>intro v2 hF;cases hF
   |succ n_F142_L1 ih_F142_L1=>
    intro v2 hF
    rw[F142_L1]at hF
    refine ji 7 20 hF (fun hb6 hF=> ?_) (fun hb6 hF=> ?_)
    ·
     refine jd 5 ?_
     obtain⟨y8,e8,hF⟩:=bnd hF
     refine do1 2 (gm (f:=e_u32) e8) ?_
     obtain⟨y9,e9,hF⟩:=bnd hF
     refine do1 3 (gm (f:=e_u32) e9) ?_
     obtain⟨y10,e10,hF⟩:=bnd hF
     refine dc 1 en186 (F186_ok e10) ?_
     refine je 1 ?_
     refine ji 5 33 hF (fun hb7 hF=> ?_) (fun hb7 hF=> ?_)
     ·
      have hF:=oi hF;subst hF
      exact jr 6
     ·
      exact ja 8 (ih_F142_L1 _ hF)
    ·
     have hF:=oi hF;subst hF
     exact jr 6
  exact ja 12 (hF142_L1 _ _ hF)
def F143(fuel:Nat)(d0:T_exact_Whole):Option T_exact_Whole:=
 Option.bind (F140 fuel (!d0.neg) d0.mag) fun y1=>
 some y1
theorem F143_ok{fuel:Nat}{d0:T_exact_Whole}{r:T_exact_Whole}(hF:F143 fuel d0=some r):
 CallF Tryz.prog 143 [.agg [.b d0.neg,.l 1 d0.mag e_u32]] (.agg [.b r.neg,.l 1 r.mag e_u32]):=by
 unfold F143 at hF
 refine cf 9 Tryz.func143 ?_
 obtain⟨y1,e1,hF⟩:=bnd hF
 refine jc 12 en140 (F140_ok e1) ?_
 have hF:=oi hF;subst hF
 exact jr 2
def F100(d0:T_exact_Whole):Option Int:=
 bif ((d0.mag.map e_u32).length:Int)==0 then
  (some 0)
 else
  (bif d0.neg then
   (some (-1))
  else
   (some 1))
theorem F100_ok{d0:T_exact_Whole}{r:Int}(hF:F100 d0=some r):
 CallF Tryz.prog 100 [.agg [.b d0.neg,.l 1 d0.mag e_u32]] (.i r):=by
 unfold F100 at hF
 refine cf 11 Tryz.func100 ?_
 refine ji 15 3 hF (fun hb1 hF=> ?_) (fun hb1 hF=> ?_)
 ·
  have hF:=oi hF;subst hF
  exact jr 5
 ·
  refine ji 7 8 hF (fun hb2 hF=> ?_) (fun hb2 hF=> ?_)
  ·
   have hF:=oi hF;subst hF
   exact jr 5
  ·
   have hF:=oi hF;subst hF
   exact jr 7
def F102(fuel:Nat)(d0:T_exact_Whole)(d1:T_exact_Whole):Option Int:=
 Option.bind (F100 d0) fun y1=>
 Option.bind (F100 d1) fun y2=>
 Option.bind (F141 y1 y2) fun y3=>
 Option.bind (
  bif y3 !=0 then
   (some true)
  else
   (some (((d0.mag.map e_u32).length:Int)==0))) fun o1=>
 bif o1 then
  (some y3)
 else
  (bif d0.neg then
   (Option.bind (F142 fuel d1.mag d0.mag) fun y4=>
   some y4)
  else
   (Option.bind (F142 fuel d0.mag d1.mag) fun y5=>
   some y5))
noncomputable abbrev b102:=bodyOf Tryz.f102
abbrev G102(r:Int):=J none Tryz.prog 32 [] (finF Tryz.prog Tryz.f102 (.i r))
theorem F102_ok{fuel:Nat}{d0:T_exact_Whole}{d1:T_exact_Whole}{r:Int}(hF:F102 fuel d0 d1=some r):
 CallF Tryz.prog 102 [.agg [.b d0.neg,.l 1 d0.mag e_u32],.agg [.b d1.neg,.l 1 d1.mag e_u32]] (.i r):=by
 unfold F102 at hF
 refine cf 32 Tryz.func102 ?_
 refine jd 8 ?_
 obtain⟨y1,e1,hF⟩:=bnd hF
 refine dc 1 en100 (F100_ok e1) ?_
 obtain⟨y2,e2,hF⟩:=bnd hF
 refine dc 1 en100 (F100_ok e2) ?_
 obtain⟨y3,e3,hF⟩:=bnd hF
 refine dc 0 en141 (F141_ok e3) ?_
 refine je 1 ?_
 obtain⟨o1,hO,hF⟩:=bnd hF
 have hR1:G102 r ⟨mkT [(2,.ptr 2 0),(3,.ptr 3 0),(5,.i y3),(18,.b o1)],[(2,.box 98 [.b d0.neg,.l 1 d0.mag e_u32]),(3,.box 98 [.b d1.neg,.l 1 d1.mag e_u32])],[kO b102 [1,0,1,0],kC b102 [1,0,1,1],kC b102 [1,1]]⟩:=by
  clear hO
  refine ji 1 18 hF (fun hb3 hF=> ?_) (fun hb3 hF=> ?_)
  ·
   have hF:=oi hF;subst hF
   exact jr 6
  ·
   refine ji 8 21 hF (fun hb4 hF=> ?_) (fun hb4 hF=> ?_)
   ·
    obtain⟨y4,e4,hF⟩:=bnd hF
    refine jc 7 en142 (F142_ok e4) ?_
    have hF:=oi hF;subst hF
    exact jr 2
   ·
    obtain⟨y5,e5,hF⟩:=bnd hF
    refine jc 8 en142 (F142_ok e5) ?_
    have hF:=oi hF;subst hF
    exact jr 2
 clear hF;rename _=some o1=>hF
 refine ji 5 13 hF (fun hb5 hF=> ?_) (fun hb5 hF=> ?_)
 ·
  have hF:=oi hF;subst hF
  exact ja 5 hR1
 ·
  have hF:=oi hF;subst hF
  exact ja 5 hR1
def F145_L1(d0:List Int)(d1:List Int):Nat→Int→Int→(List Int)→Option (List Int)
 |0,_,_,_=>none
 |n_F145_L1+1,v3,v4,l7=>
  bif decide (v4<((d1.map e_u32).length:Int)) then
   (Option.bind (geti d1 v4) fun y5=>
   bif decide (v4<((d0.map e_u32).length:Int)) then
    (Option.bind (geti d0 v4) fun y6=>
    Option.bind (app l7 [Int.tmod (IntKind.u32.wrap ((IntKind.u32.wrap (y5+v3))+y6)) 1000000000]) fun l8=>
    (F145_L1 d0 d1 n_F145_L1) (IntKind.u32.wrap (Int.tdiv (IntKind.u32.wrap ((IntKind.u32.wrap (y5+v3))+y6)) 1000000000)) (IntKind.i64.wrap (v4+1)) l8)
   else
    (Option.bind (app l7 [Int.tmod (IntKind.u32.wrap (y5+v3)) 1000000000]) fun l9=>
    (F145_L1 d0 d1 n_F145_L1) (IntKind.u32.wrap (Int.tdiv (IntKind.u32.wrap (y5+v3)) 1000000000)) (IntKind.i64.wrap (v4+1)) l9))
  else
   (bif decide (v3>0) then
    (Option.bind (app l7 [v3]) fun l10=>
    some l10)
   else
    (some l7))
def F145_L2(d0:List Int)(d1:List Int):Nat→Int→Int→(List Int)→Option (List Int)
 |0,_,_,_=>none
 |n_F145_L2+1,v7,v8,l17=>
  bif decide (v8<((d0.map e_u32).length:Int)) then
   (Option.bind (geti d0 v8) fun y11=>
   bif decide (v8<((d1.map e_u32).length:Int)) then
    (Option.bind (geti d1 v8) fun y12=>
    Option.bind (app l17 [Int.tmod (IntKind.u32.wrap ((IntKind.u32.wrap (y11+v7))+y12)) 1000000000]) fun l18=>
    (F145_L2 d0 d1 n_F145_L2) (IntKind.u32.wrap (Int.tdiv (IntKind.u32.wrap ((IntKind.u32.wrap (y11+v7))+y12)) 1000000000)) (IntKind.i64.wrap (v8+1)) l18)
   else
    (Option.bind (app l17 [Int.tmod (IntKind.u32.wrap (y11+v7)) 1000000000]) fun l19=>
    (F145_L2 d0 d1 n_F145_L2) (IntKind.u32.wrap (Int.tdiv (IntKind.u32.wrap (y11+v7)) 1000000000)) (IntKind.i64.wrap (v8+1)) l19))
  else
   (bif decide (v7>0) then
    (Option.bind (app l17 [v7]) fun l20=>
    some l20)
   else
    (some l17))
def F145(fuel:Nat)(d0:List Int)(d1:List Int):Option (List Int):=
 bif decide (((d0.map e_u32).length:Int)<((d1.map e_u32).length:Int)) then
  (Option.bind (mkL 0 (IntKind.i64.wrap (((d1.map e_u32).length:Int)+1)) 0) fun l1=>
  F145_L1 d0 d1 fuel 0 0 l1)
 else
  (Option.bind (mkL 0 (IntKind.i64.wrap (((d0.map e_u32).length:Int)+1)) 0) fun l11=>
  F145_L2 d0 d1 fuel 0 0 l11)
noncomputable abbrev b145:=bodyOf Tryz.f145
abbrev G145(r:List Int):=J none Tryz.prog 56 [] (finF Tryz.prog Tryz.f145 (.l 1 r e_u32))
theorem F145_ok{fuel:Nat}{d0:List Int}{d1:List Int}{r:List Int}(hF:F145 fuel d0 d1=some r):
 CallF Tryz.prog 145 [.l 1 d0 e_u32,.l 1 d1 e_u32] (.l 1 r e_u32):=by
 unfold F145 at hF
 refine cf 56 Tryz.func145 ?_
 refine ji 13 14 hF (fun hb1 hF=> ?_) (fun hb1 hF=> ?_)
 ·
  obtain⟨l1,e1,hF⟩:=bnd hF
  refine jo2 12 (mm (f:=e_u32) e1) ?_
  have hF145_L1:∀(n_F145_L1:Nat) (v3:Int) (v4:Int) (l7:List Int),F145_L1 d0 d1 n_F145_L1 v3 v4 l7=some r→G145 r ⟨mkT [(1,.l 1 d0 e_u32),(5,.suf 20 0 0),(6,.w v3),(21,.l 1 d1 e_u32),(22,.i ((d1.map e_u32).length:Int)),(23,.i v4)],[(20,.buf 0 167 1 (l7.map e_u32))],[kL b145 [1,1,1,1,0,1,0,0],.inBlock 0,kC b145 [1,1,1,1,1]]⟩:=by
   clear hF;intro n_F145_L1
   induction n_F145_L1 with
   |zero=>intro v3 v4 l7 hF;cases hF
   |succ n_F145_L1 ih_F145_L1=>
    intro v3 v4 l7 hF
    rw[F145_L1]at hF
    refine ji 6 24 hF (fun hb6 hF=> ?_) (fun hb6 hF=> ?_)
    ·
     obtain⟨y5,e10,hF⟩:=bnd hF
     refine jo1 7 (gm (f:=e_u32) e10) ?_
     refine ji 19 34 hF (fun hb7 hF=> ?_) (fun hb7 hF=> ?_)
     ·
      obtain⟨y6,e11,hF⟩:=bnd hF
      refine jo1 5 (gm (f:=e_u32) e11) ?_
      obtain⟨l8,e12,hF⟩:=bnd hF
      refine jo2 15 (am (f:=e_u32) e12) ?_
      exact ja 7 (ih_F145_L1 _ _ _ hF)
     ·
      obtain⟨l9,e13,hF⟩:=bnd hF
      refine jo2 13 (am (f:=e_u32) e13) ?_
      exact ja 7 (ih_F145_L1 _ _ _ hF)
    ·
     refine ji 8 50 hF (fun hb8 hF=> ?_) (fun hb8 hF=> ?_)
     ·
      obtain⟨l10,e14,hF⟩:=bnd hF
      refine jo2 5 (am (f:=e_u32) e14) ?_
      have hF:=oi hF;subst hF
      exact jr 7
     ·
      have hF:=oi hF;subst hF
      exact jr 7
  exact ja 15 (hF145_L1 _ _ _ _ hF)
 ·
  obtain⟨l11,e15,hF⟩:=bnd hF
  refine jo2 7 (mm (f:=e_u32) e15) ?_
  have hF145_L2:∀(n_F145_L2:Nat) (v7:Int) (v8:Int) (l17:List Int),F145_L2 d0 d1 n_F145_L2 v7 v8 l17=some r→G145 r ⟨mkT [(1,.l 1 d1 e_u32),(5,.suf 20 0 0),(6,.w v7),(21,.l 1 d0 e_u32),(22,.i ((d0.map e_u32).length:Int)),(23,.i v8)],[(20,.buf 0 167 1 (l17.map e_u32))],[kL b145 [1,1,1,1,0,1,0,0],.inBlock 0,kC b145 [1,1,1,1,1]]⟩:=by
   clear hF;intro n_F145_L2
   induction n_F145_L2 with
   |zero=>intro v7 v8 l17 hF;cases hF
   |succ n_F145_L2 ih_F145_L2=>
    intro v7 v8 l17 hF
    rw[F145_L2]at hF
    refine ji 6 24 hF (fun hb13 hF=> ?_) (fun hb13 hF=> ?_)
    ·
     obtain⟨y11,e24,hF⟩:=bnd hF
     refine jo1 7 (gm (f:=e_u32) e24) ?_
     refine ji 19 34 hF (fun hb14 hF=> ?_) (fun hb14 hF=> ?_)
     ·
      obtain⟨y12,e25,hF⟩:=bnd hF
      refine jo1 5 (gm (f:=e_u32) e25) ?_
      obtain⟨l18,e26,hF⟩:=bnd hF
      refine jo2 15 (am (f:=e_u32) e26) ?_
      exact ja 7 (ih_F145_L2 _ _ _ hF)
     ·
      obtain⟨l19,e27,hF⟩:=bnd hF
      refine jo2 13 (am (f:=e_u32) e27) ?_
      exact ja 7 (ih_F145_L2 _ _ _ hF)
    ·
     refine ji 8 50 hF (fun hb15 hF=> ?_) (fun hb15 hF=> ?_)
     ·
      obtain⟨l20,e28,hF⟩:=bnd hF
      refine jo2 5 (am (f:=e_u32) e28) ?_
      have hF:=oi hF;subst hF
      exact jr 7
     ·
      have hF:=oi hF;subst hF
      exact jr 7
  exact ja 15 (hF145_L2 _ _ _ _ hF)
def F146_L1(d0:List Int)(d1:List Int):Nat→Int→Int→(List Int)→Option (List Int)
 |0,_,_,_=>none
 |n_F146_L1+1,v3,v4,l11=>
  bif decide (v4<((d0.map e_u32).length:Int)) then
   (Option.bind (geti d0 v4) fun y5=>
   bif decide (v4<((d1.map e_u32).length:Int)) then
    (Option.bind (geti d1 v4) fun y6=>
    bif decide ((IntKind.i64.wrap ((IntKind.i64.wrap ((IntKind.i64.wrap y5)-v3))-(IntKind.i64.wrap y6)))<0) then
     (Option.bind (app l11 [IntKind.u32.wrap (IntKind.i64.wrap ((IntKind.i64.wrap ((IntKind.i64.wrap ((IntKind.i64.wrap y5)-v3))-(IntKind.i64.wrap y6)))+1000000000))]) fun l12=>
     (F146_L1 d0 d1 n_F146_L1) 1 (IntKind.i64.wrap (v4+1)) l12)
    else
     (Option.bind (app l11 [IntKind.u32.wrap (IntKind.i64.wrap ((IntKind.i64.wrap ((IntKind.i64.wrap y5)-v3))-(IntKind.i64.wrap y6)))]) fun l13=>
     (F146_L1 d0 d1 n_F146_L1) 0 (IntKind.i64.wrap (v4+1)) l13))
   else
    (bif decide ((IntKind.i64.wrap ((IntKind.i64.wrap y5)-v3))<0) then
     (Option.bind (app l11 [IntKind.u32.wrap (IntKind.i64.wrap ((IntKind.i64.wrap ((IntKind.i64.wrap y5)-v3))+1000000000))]) fun l14=>
     (F146_L1 d0 d1 n_F146_L1) 1 (IntKind.i64.wrap (v4+1)) l14)
    else
     (Option.bind (app l11 [IntKind.u32.wrap (IntKind.i64.wrap ((IntKind.i64.wrap y5)-v3))]) fun l15=>
     (F146_L1 d0 d1 n_F146_L1) 0 (IntKind.i64.wrap (v4+1)) l15)))
  else
   (some l11)
def F146(fuel:Nat)(d0:List Int)(d1:List Int):Option (List Int):=
 Option.bind (mkL 0 ((d0.map e_u32).length:Int) 0) fun l1=>
 F146_L1 d0 d1 fuel 0 0 l1
noncomputable abbrev b146:=bodyOf Tryz.f146
abbrev G146(r:List Int):=J none Tryz.prog 46 [] (finF Tryz.prog Tryz.f146 (.l 1 r e_u32))
theorem F146_ok{fuel:Nat}{d0:List Int}{d1:List Int}{r:List Int}(hF:F146 fuel d0 d1=some r):
 CallF Tryz.prog 146 [.l 1 d0 e_u32,.l 1 d1 e_u32] (.l 1 r e_u32):=by
 unfold F146 at hF
 refine cf 46 Tryz.func146 ?_
 obtain⟨l1,e1,hF⟩:=bnd hF
 refine jo2 8 (mm (f:=e_u32) e1) ?_
 have hF146_L1:∀(n_F146_L1:Nat) (v3:Int) (v4:Int) (l11:List Int),F146_L1 d0 d1 n_F146_L1 v3 v4 l11=some r→G146 r ⟨mkT [(1,.l 1 d1 e_u32),(5,.suf 12 0 0),(6,.i v3),(13,.l 1 d0 e_u32),(14,.i ((d0.map e_u32).length:Int)),(15,.i v4)],[(12,.buf 0 167 1 (l11.map e_u32))],[kL b146 [1,1,1,0,1,0,0],.inBlock 0,kC b146 [1,1,1,1]]⟩:=by
  clear hF;intro n_F146_L1
  induction n_F146_L1 with
  |zero=>intro v3 v4 l11 hF;cases hF
  |succ n_F146_L1 ih_F146_L1=>
   intro v3 v4 l11 hF
   rw[F146_L1]at hF
   refine ji 6 16 hF (fun hb9 hF=> ?_) (fun hb9 hF=> ?_)
   ·
    obtain⟨y5,e14,hF⟩:=bnd hF
    refine jo1 7 (gm (f:=e_u32) e14) ?_
    refine ji 20 27 hF (fun hb10 hF=> ?_) (fun hb10 hF=> ?_)
    ·
     obtain⟨y6,e15,hF⟩:=bnd hF
     refine jo1 5 (gm (f:=e_u32) e15) ?_
     refine ji 15 36 hF (fun hb11 hF=> ?_) (fun hb11 hF=> ?_)
     ·
      obtain⟨l12,e16,hF⟩:=bnd hF
      refine jo2 12 (am (f:=e_u32) e16) ?_
      exact ja 7 (ih_F146_L1 _ _ _ hF)
     ·
      obtain⟨l13,e17,hF⟩:=bnd hF
      refine jo2 7 (am (f:=e_u32) e17) ?_
      exact ja 7 (ih_F146_L1 _ _ _ hF)
    ·
     refine ji 12 36 hF (fun hb12 hF=> ?_) (fun hb12 hF=> ?_)
     ·
      obtain⟨l14,e18,hF⟩:=bnd hF
      refine jo2 12 (am (f:=e_u32) e18) ?_
      exact ja 7 (ih_F146_L1 _ _ _ hF)
     ·
      obtain⟨l15,e19,hF⟩:=bnd hF
      refine jo2 7 (am (f:=e_u32) e19) ?_
      exact ja 7 (ih_F146_L1 _ _ _ hF)
   ·
    have hF:=oi hF;subst hF
    exact jr 7
 exact ja 15 (hF146_L1 _ _ _ _ hF)
def F104(fuel:Nat)(d0:T_exact_Whole)(d1:T_exact_Whole):Option T_exact_Whole:=
 bif d0.neg==d1.neg then
  (Option.bind (F145 fuel d0.mag d1.mag) fun y1=>
  Option.bind (F140 fuel d0.neg y1) fun y2=>
  some y2)
 else
  (Option.bind (F142 fuel d0.mag d1.mag) fun y3=>
  bif decide (y3<0) then
   (Option.bind (F146 fuel d1.mag d0.mag) fun y4=>
   Option.bind (F140 fuel d1.neg y4) fun y5=>
   some y5)
  else
   (Option.bind (F146 fuel d0.mag d1.mag) fun y6=>
   Option.bind (F140 fuel d0.neg y6) fun y7=>
   some y7))
theorem F104_ok{fuel:Nat}{d0:T_exact_Whole}{d1:T_exact_Whole}{r:T_exact_Whole}(hF:F104 fuel d0 d1=some r):
 CallF Tryz.prog 104 [.agg [.b d0.neg,.l 1 d0.mag e_u32],.agg [.b d1.neg,.l 1 d1.mag e_u32]] (.agg [.b r.neg,.l 1 r.mag e_u32]):=by
 unfold F104 at hF
 refine cf 42 Tryz.func104 ?_
 refine ji 17 5 hF (fun hb1 hF=> ?_) (fun hb1 hF=> ?_)
 ·
  refine jd 2 ?_
  obtain⟨y1,e1,hF⟩:=bnd hF
  refine dc 6 en145 (F145_ok e1) ?_
  obtain⟨y2,e2,hF⟩:=bnd hF
  refine dc 0 en140 (F140_ok e2) ?_
  refine je 1 ?_
  have hF:=oi hF;subst hF
  exact jr 0
 ·
  obtain⟨y3,e3,hF⟩:=bnd hF
  refine jc 7 en142 (F142_ok e3) ?_
  refine ji 3 19 hF (fun hb2 hF=> ?_) (fun hb2 hF=> ?_)
  ·
   refine jd 2 ?_
   obtain⟨y4,e4,hF⟩:=bnd hF
   refine dc 6 en146 (F146_ok e4) ?_
   obtain⟨y5,e5,hF⟩:=bnd hF
   refine dc 0 en140 (F140_ok e5) ?_
   refine je 1 ?_
   have hF:=oi hF;subst hF
   exact jr 0
  ·
   refine jd 4 ?_
   obtain⟨y6,e6,hF⟩:=bnd hF
   refine dc 6 en146 (F146_ok e6) ?_
   obtain⟨y7,e7,hF⟩:=bnd hF
   refine dc 0 en140 (F140_ok e7) ?_
   refine je 1 ?_
   have hF:=oi hF;subst hF
   exact jr 0
def F101_L2(d1:T_exact_Whole)(v10:Int)(y23:Int)(rec_F101_L1:Int→(List Int)→Option T_exact_Whole):Nat→Int→Int→(List Int)→Option T_exact_Whole
 |0,_,_,_=>none
 |n_F101_L2+1,v13,v14,l19=>
  bif decide (v14<((d1.mag.map e_u32).length:Int)) then
   (Option.bind (geti d1.mag v14) fun y30=>
   Option.bind (geti l19 (IntKind.i64.wrap (v10+v14))) fun y31=>
   Option.bind (geti l19 (IntKind.i64.wrap (v10+v14))) fun y32=>
   Option.bind (some (l19.set (0+Int.toNat (IntKind.i64.wrap (v10+v14))) (IntKind.u32.wrap (Int.tmod (IntKind.u64.wrap ((IntKind.u64.wrap ((IntKind.u64.wrap ((IntKind.u64.wrap y23)*(IntKind.u64.wrap y30)))+(IntKind.u64.wrap y31)))+v13)) 1000000000)))) fun l20=>
   (F101_L2 d1 v10 y23 rec_F101_L1 n_F101_L2) (IntKind.u64.wrap (Int.tdiv (IntKind.u64.wrap ((IntKind.u64.wrap ((IntKind.u64.wrap ((IntKind.u64.wrap y23)*(IntKind.u64.wrap y30)))+(IntKind.u64.wrap y31)))+v13)) 1000000000)) (IntKind.i64.wrap (v14+1)) l20)
  else
   (Option.bind (geti l19 (IntKind.i64.wrap (v10+((d1.mag.map e_u32).length:Int)))) fun y33=>
   Option.bind (some (l19.set (0+Int.toNat (IntKind.i64.wrap (v10+((d1.mag.map e_u32).length:Int)))) (IntKind.u32.wrap v13))) fun l21=>
   rec_F101_L1 (IntKind.i64.wrap (v10+1)) l21)
def F101_L1(fuel:Nat)(d0:T_exact_Whole)(d1:T_exact_Whole):Nat→Int→(List Int)→Option T_exact_Whole
 |0,_,_=>none
 |n_F101_L1+1,v10,l15=>
  bif decide (v10<((d0.mag.map e_u32).length:Int)) then
   (Option.bind (geti d0.mag v10) fun y23=>
   F101_L2 d1 v10 y23 (F101_L1 fuel d0 d1 n_F101_L1) fuel 0 0 l15)
  else
   (Option.bind (F140 fuel (!(d0.neg==d1.neg)) l15) fun y34=>
   some y34)
def F101(fuel:Nat)(d0:T_exact_Whole)(d1:T_exact_Whole):Option T_exact_Whole:=
 Option.bind (mkL (IntKind.i64.wrap (((d0.mag.map e_u32).length:Int)+((d1.mag.map e_u32).length:Int))) (IntKind.i64.wrap (((d0.mag.map e_u32).length:Int)+((d1.mag.map e_u32).length:Int))) 0) fun l1=>
 F101_L1 fuel d0 d1 fuel 0 l1
noncomputable abbrev b101:=bodyOf Tryz.f101
abbrev G101(r:T_exact_Whole):=J none Tryz.prog 79 [] (finF Tryz.prog Tryz.f101 (.agg [.b r.neg,.l 1 r.mag e_u32]))
theorem F101_ok{fuel:Nat}{d0:T_exact_Whole}{d1:T_exact_Whole}{r:T_exact_Whole}(hF:F101 fuel d0 d1=some r):
 CallF Tryz.prog 101 [.agg [.b d0.neg,.l 1 d0.mag e_u32],.agg [.b d1.neg,.l 1 d1.mag e_u32]] (.agg [.b r.neg,.l 1 r.mag e_u32]):=by
 unfold F101 at hF
 refine cf 79 Tryz.func101 ?_
 obtain⟨l1,e1,hF⟩:=bnd hF
 refine jo2 15 (mm (f:=e_u32) e1) ?_
 have hF101_L1:∀(n_F101_L1:Nat) (v10:Int) (l15:List Int),F101_L1 fuel d0 d1 n_F101_L1 v10 l15=some r→G101 r ⟨mkT [(2,.ptr 2 0),(3,.ptr 3 0),(4,.ptr 4 0),(5,.suf 19 0 0),(21,.l 1 d0.mag e_u32),(22,.i ((d0.mag.map e_u32).length:Int)),(23,.i v10)],[(2,.box 98 [.b d0.neg,.l 1 d0.mag e_u32]),(3,.box 98 [.b d1.neg,.l 1 d1.mag e_u32]),(4,.box 98 [.b false,.esl 1]),(19,.buf 0 167 1 (l15.map e_u32))],[kL b101 [1,1,0,1,0,0],.inBlock 0,kC b101 [1,1,1]]⟩:=by
  clear hF;intro n_F101_L1
  induction n_F101_L1 with
  |zero=>intro v10 l15 hF;cases hF
  |succ n_F101_L1 ih_F101_L1=>
   intro v10 l15 hF
   rw[F101_L1]at hF
   refine ji 6 24 hF (fun hb9 hF=> ?_) (fun hb9 hF=> ?_)
   ·
    obtain⟨y23,e32,hF⟩:=bnd hF
    refine jo1 7 (gm (f:=e_u32) e32) ?_
    have hF101_L2:∀(n_F101_L2:Nat) (v13:Int) (v14:Int) (l19:List Int),F101_L2 d1 v10 y23 (F101_L1 fuel d0 d1 n_F101_L1) n_F101_L2 v13 v14 l19=some r→G101 r ⟨mkT [(2,.ptr 2 0),(3,.ptr 3 0),(4,.ptr 4 0),(5,.suf 19 0 0),(6,.i v10),(7,.w y23),(8,.n v13),(21,.l 1 d0.mag e_u32),(22,.i ((d0.mag.map e_u32).length:Int)),(23,.i v10),(29,.l 1 d1.mag e_u32),(30,.i ((d1.mag.map e_u32).length:Int)),(31,.i v14)],[(2,.box 98 [.b d0.neg,.l 1 d0.mag e_u32]),(3,.box 98 [.b d1.neg,.l 1 d1.mag e_u32]),(4,.box 98 [.b false,.esl 1]),(19,.buf 0 167 1 (l19.map e_u32))],[kL b101 [1,1,0,1,0,0,1,1,0,0,1,1,0,1,0,0],.inBlock 2,kC b101 [1,1,0,1,0,0,1,1,0,0,1,1,1],.inBlock 1,kC b101 [1,1,0,1,0,0,1,1,1],kL b101 [1,1,0,1,0,0],.inBlock 0,kC b101 [1,1,1]]⟩:=by
     clear hF;intro n_F101_L2
     induction n_F101_L2 with
     |zero=>intro v13 v14 l19 hF;cases hF
     |succ n_F101_L2 ih_F101_L2=>
      intro v13 v14 l19 hF
      rw[F101_L2]at hF
      refine ji 6 32 hF (fun hb12 hF=> ?_) (fun hb12 hF=> ?_)
      ·
       obtain⟨y30,e41,hF⟩:=bnd hF
       refine jo1 7 (gm (f:=e_u32) e41) ?_
       obtain⟨y31,e42,hF⟩:=bnd hF
       refine jo1 15 (gm (f:=e_u32) e42) ?_
       refine jo1 0 (gjm (f:=e_u32) (gj e42)) ?_
       obtain⟨y32,e43,hF⟩:=bnd hF
       refine jo1 16 (gm (f:=e_u32) e43) ?_
       obtain⟨l20,e44,hF⟩:=bnd hF
       have hst:=stm (f:=e_u32) (z:=IntKind.u32.wrap (Int.tmod (IntKind.u64.wrap ((IntKind.u64.wrap ((IntKind.u64.wrap ((IntKind.u64.wrap y23)*(IntKind.u64.wrap y30)))+(IntKind.u64.wrap y31)))+v13)) 1000000000)) (k:=0) (xs:=[.int .u32 (IntKind.u32.wrap (Int.tmod (IntKind.u64.wrap ((IntKind.u64.wrap ((IntKind.u64.wrap ((IntKind.u64.wrap y23)*(IntKind.u64.wrap y30)))+(IntKind.u64.wrap y31)))+v13)) 1000000000))]) (gj e43) rfl
       refine J_adv 0 (J_opt2 (o:=(match(l19.map e_u32)[0+Int.toNat (IntKind.i64.wrap (v10+v14))]? with|some old=>some ((l19.map e_u32).set (0+Int.toNat (IntKind.i64.wrap (v10+v14))) (setD old 0 [.int .u32 (IntKind.u32.wrap (Int.tmod (IntKind.u64.wrap ((IntKind.u64.wrap ((IntKind.u64.wrap ((IntKind.u64.wrap y23)*(IntKind.u64.wrap y30)))+(IntKind.u64.wrap y31)))+v13)) 1000000000))]))|none=>none)) (l20.map e_u32) (by kernel_rfl) (by cases e44;exact hst) ?_)
       exact ja 7 (ih_F101_L2 _ _ _ hF)
      ·
       obtain⟨y33,e45,hF⟩:=bnd hF
       refine jo1 11 (gm (f:=e_u32) e45) ?_
       obtain⟨l21,e46,hF⟩:=bnd hF
       have hst:=stm (f:=e_u32) (z:=IntKind.u32.wrap v13) (k:=0) (xs:=[.int .u32 (IntKind.u32.wrap v13)]) (gj e45) rfl
       refine J_adv 0 (J_opt2 (o:=(match(l19.map e_u32)[0+Int.toNat (IntKind.i64.wrap (v10+((d1.mag.map e_u32).length:Int)))]? with|some old=>some ((l19.map e_u32).set (0+Int.toNat (IntKind.i64.wrap (v10+((d1.mag.map e_u32).length:Int)))) (setD old 0 [.int .u32 (IntKind.u32.wrap v13)]))|none=>none)) (l21.map e_u32) (by kernel_rfl) (by cases e46;exact hst) ?_)
       exact ja 6 (ih_F101_L1 _ _ hF)
    exact ja 18 (hF101_L2 _ _ _ _ hF)
   ·
    obtain⟨y34,e47,hF⟩:=bnd hF
    refine jc 10 en140 (F140_ok e47) ?_
    have hF:=oi hF;subst hF
    exact jr 2
 exact ja 12 (hF101_L1 _ _ _ hF)
def F221(d0:List Int):Option (List Int):=
 some d0
noncomputable abbrev b221:=bodyOf Tryz.f221
theorem F221_ok{d0:List Int}{r:List Int}(hF:F221 d0=some r):
 CallR Tryz.prog 221 [] [.l 1 d0 e_u32] [(2000,.box 96 [.l 1 r e_u32])] (.fn 254 [] [.ptr 2000 0]):=by
 unfold F221 at hF
 refine cr 4 Tryz.func221 ?_
 refine ja 10 (S0:=[(2,.fn 254 [] [.ptr 1 0])]) (O0:=[(1,.box 96 [.l 1 d0 e_u32])]) (T0:=[kC b221 [1,1]]) ?_
 refine J_adv 0 (J_ren [(1,2000)] (by kernel_rfl) (by kernel_rfl) (by kernel_rfl) (by kernel_rfl) ?_)
 have hF:=oi hF;subst hF
 exact J_adv 0 (J_retRR (xs:=[.fn 254 [] [.ptr 2000 0]]) [.fn 254 [] [.ptr 2000 0]] rfl (by kernel_rfl) (by kernel_rfl) (Res'.refl _) rfl)
def y_i64_u32(x:Int×Int):List Kx.V:=[.d (.int .i64 x.1),.d (.int .u32 x.2)]
def F254_L1(d0:List Int):Nat→Int→Option (List (Int×Int))
 |0,_=>none
 |n_F254_L1+1,v2=>
  bif decide (v2≥0) then
   (Option.bind (geti d0 v2) fun y3=>
   Option.bind (
    (F254_L1 d0 n_F254_L1) (IntKind.i64.wrap (v2-1))) fun l3=>
   some ((v2,y3)::l3))
  else
   (some [])
def F254(fuel:Nat)(d0:List Int):Option (List (Int×Int)):=
 F254_L1 d0 fuel (IntKind.i64.wrap (((d0.map e_u32).length:Int)-1))
noncomputable abbrev b254:=bodyOf Tryz.f254
theorem F254_ok{fuel:Nat}{d0:List Int}{r:List (Int×Int)}(hF:F254 fuel d0=some r):
 IterC Tryz.prog 254 [(2000,.frn 2000)] [.yl 2000,.rp [.sl 1 (d0.map e_u32)] 0] (r.map y_i64_u32) false:=by
 unfold F254 at hF
 refine iterC_of (N:=19) (b:=bodyOf Tryz.f254) Tryz.func254 (by kernel_rfl) rfl rfl (fun yl_ Inv_ Stop_ Pan_ hR_=> ?_)
 have hF254_L1:∀(n_F254_L1:Nat) (r:List (Int×Int)) (v2:Int),F254_L1 d0 n_F254_L1 v2=some r→J none Tryz.prog 19 [] (finI Tryz.prog Tryz.f254 yl_ Inv_ Stop_ Pan_ false (some (r.map y_i64_u32))) ⟨mkT [(0,.yl 2000),(1,.rp [.sl 1 (d0.map e_u32)] 0),(3,.i v2)],[(2000,.frn 2000)],[kL b254 [1,0,0],.inBlock 0]⟩:=by
  clear hF;intro n_F254_L1
  induction n_F254_L1 with
  |zero=>intro r v2 hF;cases hF
  |succ n_F254_L1 ih_F254_L1=>
   intro r v2 hF
   rw[F254_L1]at hF
   refine ji 7 8 hF (fun hb3 hF=> ?_) (fun hb3 hF=> ?_)
   ·
    obtain⟨y3,e3,hF⟩:=bnd hF
    refine jo1 10 (gm (f:=e_u32) e3) ?_
    obtain⟨l3,hY_,hr_⟩:=bnd hF
    clear hF;have hr_:=Option.some.inj hr_;subst hr_;have hF:=hY_;clear hY_
    refine J_adv 1 (J_yield hR_ (xs:=[.i v2,.w y3]) [.i v2,.w y3] (ys:=l3.map y_i64_u32) (by kernel_rfl) (by kernel_rfl) (Res'.refl _) ?_ ?_)
    rotate_left
    ·
     exact J_adv 3 (J_doneI hR_ (.inr rfl) rfl rfl (by kernel_rfl))
    ·
     exact ja 10 (ih_F254_L1 _ _ hF)
   ·
    have hF:=oi hF;subst hF
    exact J_adv 2 (J_doneI hR_ (.inl ⟨rfl,rfl⟩) rfl rfl (by kernel_rfl))
 exact ja 9 (hF254_L1 _ _ _ hF)
def F217_L1(d1:Int):List (Int×Int)→Int→(List Int)→Option (List Int×Int)
 |[],v2,l5=>
  some (l5,IntKind.u32.wrap v2)
 |y6::ys_F217_L1,v2,l5=>
  ass (decide ((IntKind.u64.wrap d1)≠0))<|
  ass (decide ((IntKind.u64.wrap d1)≠0))<|
  Option.bind (geti l5 y6.1) fun y7=>
  Option.bind (some (l5.set (0+Int.toNat y6.1) (IntKind.u32.wrap (IntKind.u64.wrap (Int.tdiv (IntKind.u64.wrap ((IntKind.u64.wrap (v2*1000000000))+(IntKind.u64.wrap y6.2))) (IntKind.u64.wrap d1)))))) fun l6=>
  (F217_L1 d1 ys_F217_L1) (Int.tmod (IntKind.u64.wrap ((IntKind.u64.wrap (v2*1000000000))+(IntKind.u64.wrap y6.2))) (IntKind.u64.wrap d1)) l6
def F217(fuel:Nat)(d0:List Int)(d1:Int):Option (List Int×Int):=
 Option.bind (mkL ((d0.map e_u32).length:Int) ((d0.map e_u32).length:Int) 0) fun l1=>
 Option.bind (F221 d0) fun y1=>
 Option.bind (F254 fuel y1) fun ys1=>
 F217_L1 d1 ys1 0 l1
noncomputable abbrev b217:=bodyOf Tryz.f217
theorem F217_ok{fuel:Nat}{d0:List Int}{d1:Int}{r:List Int×Int}(hF:F217 fuel d0 d1=some r):
 CallF Tryz.prog 217 [.l 1 d0 e_u32,.w d1] (.tup [.l 1 r.1 e_u32,.w r.2]):=by
 unfold F217 at hF
 refine callM_of (N:=38) (b:=bodyOf Tryz.f217) Tryz.func217 (by kernel_rfl) rfl rfl (fun w00_ M00_=> ?_)
 obtain⟨l1,e1,hF⟩:=bnd hF
 refine jo2 10 (mm (f:=e_u32) e1) ?_
 obtain⟨y1,e2,hF⟩:=bnd hF
 refine jcr 12 [(15,2000)] en221 (F221_ok e2) ?_
 refine ja 2 (S0:=[(3,.ptr 3 0),(6,.ptr 6 0),(7,.ptr 7 0),(15,.fn 254 [] [.ptr 15 0])]) (O0:=[(3,.box 167 [.w d1]),(6,.box 96 [.suf 13 0 0]),(7,.box 39 [.n 0]),(13,.buf 0 167 1 (l1.map e_u32)),(15,.box 96 [.l 1 y1 e_u32])]) (T0:=[kC b217 [1,1,1,0,1,0],.inBlock 0,kC b217 [1,1,1,1]]) ?_
 refine J_ren [(13,13),(15,15),(3,2100),(6,2101),(7,2102)] (by kernel_rfl) (by kernel_rfl) (by kernel_rfl) (by kernel_rfl) ?_
 refine J_at (S0:=[(3,.ptr 2100 0),(6,.ptr 2101 0),(7,.ptr 2102 0),(15,.fn 254 [] [.ptr 15 0])]) (O0:=[(13,.buf 0 167 1 (l1.map e_u32)),(15,.box 96 [.l 1 y1 e_u32]),(2100,.box 167 [.w d1]),(2101,.box 96 [.suf 13 0 0]),(2102,.box 39 [.n 0])]) (T0:=[kC b217 [1,1,1,0,1,0],.inBlock 0,kC b217 [1,1,1,1]]) [3,6,7,15] [13,15,2100,2101,2102] (by kernel_rfl) rfl ?_
 obtain⟨ys1,e3,hF⟩:=bnd hF
 obtain⟨G_,hG_⟩:∃G:List (List Kx.V)→List (Nat×IObj)→Prop,G=(fun yv ob=>∃(yl_:List (Int×Int)) (v2:Int) (l5:List Int),yv=yl_.map y_i64_u32∧ob=[(13,.buf 0 167 1 (l5.map e_u32)),(2100,.box 167 [.w d1]),(2101,.box 96 [.suf 13 0 0]),(2102,.box 39 [.n v2])]∧F217_L1 d1 yl_ v2 l5=some r):=⟨_,rfl⟩
 obtain⟨GX_,hGX_⟩:∃G:Code→List (Nat×IObj)→Prop,G=(fun j ob=>False):=⟨_,rfl⟩
 refine J_range (P:=Tryz.prog) (g:=(.tmp 15)) (ps:= #[16,17]) (asg:=(cAt b217 [1,1,1,0,1,0,0])) (bo:=(cAt b217 [1,1,1,0,1,0,1])) (k:=[.inBlock 0,kC b217 [1,1,1,1]]) (gf:=254) (first:=[]) (cap:=[.ptr 15 0]) (xs:=[.rp [.sl 1 (y1.map e_u32)] 0]) (os:=[]) (S1:=[(3,.ptr 2100 0),(6,.ptr 2101 0),(7,.ptr 2102 0)]) (ob0:=[(13,.buf 0 167 1 (l1.map e_u32)),(2100,.box 167 [.w d1]),(2101,.box 96 [.suf 13 0 0]),(2102,.box 39 [.n 0])]) [] [3,6,7] [13,2100,2101,2102] [.rp [.sl 1 (y1.map e_u32)] 0] (ysAll:=ys1.map y_i64_u32) [2100,2101,2102] G_ GX_ rfl (by kernel_rfl) rfl (by kernel_rfl) rfl (by kernel_rfl) (Res'.refl _) en254 (F254_ok e3) (by kernel_rfl) (by kernel_rfl) (by kernel_rfl) ?_ ?_ ?_ ⟨by kernel_rfl,by kernel_rfl⟩ ?_ ?_ ?_
 ·rw[hG_];exact⟨ys1,0,l1,rfl,by kernel_rfl,hF⟩
 ·intro yv_ ob_ h_;rw[hG_]at h_;obtain⟨_,_,_,_,rfl,_⟩:=h_;kernel_rfl
 ·intro j_ ob_ h_;rw[hGX_]at h_;exact h_.elim
 ·intro x_ hxa_ hxb_ hxp_ yv_ ysv_ ob_ h_;rw[hG_]at h_
  obtain⟨yl_,v2,l5,hy_,rfl,hF⟩:=h_
  cases yl_ with
  |nil=>cases hy_
  |cons y6 ys_F217_L1=>
   cases hy_;rw[F217_L1]at hF
   refine hJ_of (by kernel_rfl) ?_
   refine J_at (S0:=[(3,.ptr 2100 0),(6,.ptr 2101 0),(7,.ptr 2102 0),(16,.i y6.1),(17,.w y6.2)]) (O0:=[(3000,.raw x_.D (.deferred (some []))),(3001,.raw x_.L (.loop (recOf x_ .ready none))),(13,.buf 0 167 1 (l5.map e_u32)),(2100,.box 167 [.w d1]),(2101,.box 96 [.suf 13 0 0]),(2102,.box 39 [.n v2])]) (T0:=[kC b217 [1,1,1,0,1,0,0],.begR x_.L,kC b217 [1,1,1,0,1,0,1]]) [3,6,7,16,17] [3000,3001,13,2100,2101,2102] (by kernel_rfl) rfl ?_
   refine ja 7 (S0:=[(3,.ptr 2100 0),(6,.ptr 2101 0),(7,.ptr 2102 0),(8,.i y6.1),(9,.w y6.2),(16,.i y6.1),(17,.w y6.2)]) (O0:=[(3000,.raw x_.D (.deferred (some []))),(3001,.raw x_.L (.loop (recOf x_ .ready none))),(13,.buf 0 167 1 (l5.map e_u32)),(2100,.box 167 [.w d1]),(2101,.box 96 [.suf 13 0 0]),(2102,.box 39 [.n v2])]) (T0:=[.begR x_.L,kC b217 [1,1,1,0,1,0,1]]) ?_
   refine J_begR (l:=x_.L) (q:=3001) (k:=[kC b217 [1,1,1,0,1,0,1]]) (rec:=recOf x_ .ready none) rfl rfl rfl ?_
   refine jd 10 ?_
   obtain⟨hb5,hF⟩:=assd hF
   refine do1 5 (ck hb5) ?_
   obtain⟨hb6,hF⟩:=assd hF
   refine do1 4 (ck hb6) ?_
   obtain⟨y7,e8,hF⟩:=bnd hF
   refine do1 0 (gm (f:=e_u32) e8) ?_
   obtain⟨l6,e9,hF⟩:=bnd hF
   have hst:=stm (f:=e_u32) (z:=IntKind.u32.wrap (IntKind.u64.wrap (Int.tdiv (IntKind.u64.wrap ((IntKind.u64.wrap (v2*1000000000))+(IntKind.u64.wrap y6.2))) (IntKind.u64.wrap d1)))) (k:=0) (xs:=[.int .u32 (IntKind.u32.wrap (IntKind.u64.wrap (Int.tdiv (IntKind.u64.wrap ((IntKind.u64.wrap (v2*1000000000))+(IntKind.u64.wrap y6.2))) (IntKind.u64.wrap d1))))]) (gj e8) rfl
   refine JD_adv 0 (JD_opt2 (o:=(match(l5.map e_u32)[0+Int.toNat y6.1]? with|some old=>some ((l5.map e_u32).set (0+Int.toNat y6.1) (setD old 0 [.int .u32 (IntKind.u32.wrap (IntKind.u64.wrap (Int.tdiv (IntKind.u64.wrap ((IntKind.u64.wrap (v2*1000000000))+(IntKind.u64.wrap y6.2))) (IntKind.u64.wrap d1))))]))|none=>none)) (l6.map e_u32) (by kernel_rfl) (by kernel_rfl) (by cases e9;exact hst) ?_)
   refine je 1 ?_
   refine ja 1 (S0:=[]) (O0:=rob x_ .busy none [(13,.buf 0 167 1 (l6.map e_u32)),(2100,.box 167 [.w d1]),(2101,.box 96 [.suf 13 0 0]),(2102,.box 39 [.n (Int.tmod (IntKind.u64.wrap ((IntKind.u64.wrap (v2*1000000000))+(IntKind.u64.wrap y6.2))) (IntKind.u64.wrap d1))])]) (T0:=[]) ?_
   exact J_endB rfl [(13,.buf 0 167 1 (l6.map e_u32)),(2100,.box 167 [.w d1]),(2101,.box 96 [.suf 13 0 0]),(2102,.box 39 [.n (Int.tmod (IntKind.u64.wrap ((IntKind.u64.wrap (v2*1000000000))+(IntKind.u64.wrap y6.2))) (IntKind.u64.wrap d1))])] rfl rfl (by kernel_rfl) (by rw[hG_];exact⟨ys_F217_L1,Int.tmod (IntKind.u64.wrap ((IntKind.u64.wrap (v2*1000000000))+(IntKind.u64.wrap y6.2))) (IntKind.u64.wrap d1),l6,rfl,rfl,hF⟩)
 ·intro D_ ob_ h_;rw[hG_]at h_
  obtain⟨yl_,v2,l5,hy_,rfl,hF⟩:=h_
  cases yl_ with
  |cons _ _=>cases hy_
  |nil=>
   clear hy_;rw[F217_L1]at hF
   refine J_renM [(2100,3),(2101,6),(2102,7),(13,13)] (by kernel_rfl) (by kernel_rfl) (by kernel_rfl) ?_
   refine ja 0 (S0:=[(6,.ptr 6 0),(7,.ptr 7 0)]) (O0:=[(6,.box 96 [.suf 13 0 0]),(7,.box 39 [.n v2]),(13,.buf 0 167 1 (l5.map e_u32))]) (T0:=[.inBlock 0,kC b217 [1,1,1,1]]) ?_
   refine jd 2 ?_
   refine je 5 ?_
   have hF:=oi hF;subst hF
   exact J_adv 0 (J_retM (xs:=[.l 1 l5 e_u32,.w (IntKind.u32.wrap v2)]) [.l 1 l5 e_u32,.w (IntKind.u32.wrap v2)] rfl rfl (by kernel_rfl) (Res'.refl _) rfl (by kernel_rfl))
 ·intro D_ ob_ j_ h_;rw[hGX_]at h_
  exact h_.elim
def F218_L1(d0:List Int)(d1:Int):Nat→Int→Int→(List Int)→Option (List Int)
 |0,_,_,_=>none
 |n_F218_L1+1,v3,v4,l5=>
  bif decide (v4<((d0.map e_u32).length:Int)) then
   (Option.bind (geti d0 v4) fun y3=>
   Option.bind (app l5 [IntKind.u32.wrap (Int.tmod (IntKind.u64.wrap ((IntKind.u64.wrap ((IntKind.u64.wrap y3)*(IntKind.u64.wrap d1)))+v3)) 1000000000)]) fun l6=>
   (F218_L1 d0 d1 n_F218_L1) (IntKind.u64.wrap (Int.tdiv (IntKind.u64.wrap ((IntKind.u64.wrap ((IntKind.u64.wrap y3)*(IntKind.u64.wrap d1)))+v3)) 1000000000)) (IntKind.i64.wrap (v4+1)) l6)
  else
   (Option.bind (app l5 [IntKind.u32.wrap v3]) fun l7=>
   some l7)
def F218(fuel:Nat)(d0:List Int)(d1:Int):Option (List Int):=
 Option.bind (mkL 0 (IntKind.i64.wrap (((d0.map e_u32).length:Int)+1)) 0) fun l1=>
 F218_L1 d0 d1 fuel 0 0 l1
noncomputable abbrev b218:=bodyOf Tryz.f218
abbrev G218(r:List Int):=J none Tryz.prog 41 [] (finR Tryz.prog Tryz.f218 [(2000,.buf 0 167 1 (r.map e_u32))] (.suf 2000 0 0))
theorem F218_ok{fuel:Nat}{d0:List Int}{d1:Int}{r:List Int}(hF:F218 fuel d0 d1=some r):
 CallR Tryz.prog 218 [] [.l 1 d0 e_u32,.w d1] [(2000,.buf 0 167 1 (r.map e_u32))] (.suf 2000 0 0):=by
 unfold F218 at hF
 refine cr 41 Tryz.func218 ?_
 obtain⟨l1,e1,hF⟩:=bnd hF
 refine jo2 9 (mm (f:=e_u32) e1) ?_
 have hF218_L1:∀(n_F218_L1:Nat) (v3:Int) (v4:Int) (l5:List Int),F218_L1 d0 d1 n_F218_L1 v3 v4 l5=some r→G218 r ⟨mkT [(1,.w d1),(5,.suf 13 0 0),(6,.n v3),(14,.l 1 d0 e_u32),(15,.i ((d0.map e_u32).length:Int)),(16,.i v4)],[(13,.buf 0 167 1 (l5.map e_u32))],[kL b218 [1,1,1,0,1,0,0],.inBlock 0,kC b218 [1,1,1,1]]⟩:=by
  clear hF;intro n_F218_L1
  induction n_F218_L1 with
  |zero=>intro v3 v4 l5 hF;cases hF
  |succ n_F218_L1 ih_F218_L1=>
   intro v3 v4 l5 hF
   rw[F218_L1]at hF
   refine ji 6 17 hF (fun hb3 hF=> ?_) (fun hb3 hF=> ?_)
   ·
    obtain⟨y3,e6,hF⟩:=bnd hF
    refine jo1 6 (gm (f:=e_u32) e6) ?_
    obtain⟨l6,e7,hF⟩:=bnd hF
    refine jo2 20 (am (f:=e_u32) e7) ?_
    exact ja 10 (ih_F218_L1 _ _ _ hF)
   ·
    obtain⟨l7,e8,hF⟩:=bnd hF
    refine jo2 8 (am (f:=e_u32) e8) ?_
    refine ja 2 (S0:=[(4,.suf 13 0 0)]) (O0:=[(13,.buf 0 167 1 (l7.map e_u32))]) (T0:=[kC b218 [1,1,1,1,1]]) ?_
    refine J_adv 0 (J_ren [(13,2000)] (by kernel_rfl) (by kernel_rfl) (by kernel_rfl) (by kernel_rfl) ?_)
    have hF:=oi hF;subst hF
    exact J_adv 0 (J_retRR (xs:=[.suf 2000 0 0]) [.suf 2000 0 0] rfl (by kernel_rfl) (by kernel_rfl) (Res'.refl _) rfl)
 exact ja 15 (hF218_L1 _ _ _ _ hF)
def F218a_L1(d0:List Int)(d1:Int):Nat→Int→Int→(List Int)→Option (List Int)
 |0,_,_,_=>none
 |n_F218a_L1+1,v3,v4,l5=>
  bif decide (v4<((d0.map e_u32).length:Int)) then
   (Option.bind (geti d0 v4) fun y3=>
   Option.bind (app l5 [IntKind.u32.wrap (Int.tmod (IntKind.u64.wrap ((IntKind.u64.wrap ((IntKind.u64.wrap y3)*(IntKind.u64.wrap d1)))+v3)) 1000000000)]) fun l6=>
   (F218a_L1 d0 d1 n_F218a_L1) (IntKind.u64.wrap (Int.tdiv (IntKind.u64.wrap ((IntKind.u64.wrap ((IntKind.u64.wrap y3)*(IntKind.u64.wrap d1)))+v3)) 1000000000)) (IntKind.i64.wrap (v4+1)) l6)
  else
   (Option.bind (app l5 [IntKind.u32.wrap v3]) fun l7=>
   some l7)
def F218a(fuel:Nat)(d0:List Int)(d1:Int):Option (List Int):=
 Option.bind (mkL 0 (IntKind.i64.wrap (((d0.map e_u32).length:Int)+1)) 0) fun l1=>
 F218a_L1 d0 d1 fuel 0 0 l1
abbrev G218a(r:List Int):=J none Tryz.prog 41 [] (finF Tryz.prog Tryz.f218 (.l 1 r e_u32))
theorem F218a_ok{fuel:Nat}{d0:List Int}{d1:Int}{r:List Int}(hF:F218a fuel d0 d1=some r):
 CallF Tryz.prog 218 [.l 1 d0 e_u32,.w d1] (.l 1 r e_u32):=by
 unfold F218a at hF
 refine cf 41 Tryz.func218 ?_
 obtain⟨l1,e1,hF⟩:=bnd hF
 refine jo2 9 (mm (f:=e_u32) e1) ?_
 have hF218a_L1:∀(n_F218a_L1:Nat) (v3:Int) (v4:Int) (l5:List Int),F218a_L1 d0 d1 n_F218a_L1 v3 v4 l5=some r→G218a r ⟨mkT [(1,.w d1),(5,.suf 13 0 0),(6,.n v3),(14,.l 1 d0 e_u32),(15,.i ((d0.map e_u32).length:Int)),(16,.i v4)],[(13,.buf 0 167 1 (l5.map e_u32))],[kL b218 [1,1,1,0,1,0,0],.inBlock 0,kC b218 [1,1,1,1]]⟩:=by
  clear hF;intro n_F218a_L1
  induction n_F218a_L1 with
  |zero=>intro v3 v4 l5 hF;cases hF
  |succ n_F218a_L1 ih_F218a_L1=>
   intro v3 v4 l5 hF
   rw[F218a_L1]at hF
   refine ji 6 17 hF (fun hb3 hF=> ?_) (fun hb3 hF=> ?_)
   ·
    obtain⟨y3,e6,hF⟩:=bnd hF
    refine jo1 6 (gm (f:=e_u32) e6) ?_
    obtain⟨l6,e7,hF⟩:=bnd hF
    refine jo2 20 (am (f:=e_u32) e7) ?_
    exact ja 10 (ih_F218a_L1 _ _ _ hF)
   ·
    obtain⟨l7,e8,hF⟩:=bnd hF
    refine jo2 8 (am (f:=e_u32) e8) ?_
    have hF:=oi hF;subst hF
    exact jr 2
 exact ja 15 (hF218a_L1 _ _ _ _ hF)
def F219_L1(d0:Nat)(d1:List Int)(d2:Int):Nat→Int→Int→Int→(List Int)→Option (Bool×List Int)
 |0,_,_,_,_=>none
 |n_F219_L1+1,v4,v5,v6,l10=>
  bif decide (v6<(IntKind.i64.wrap (((d1.map e_u32).length:Int)+1))) then
   (bif decide (v6<((d1.map e_u32).length:Int)) then
    (Option.bind (geti d1 v6) fun y15=>
    Option.bind (geti (l10.drop d0) v6) fun y16=>
    bif decide ((IntKind.i64.wrap ((IntKind.i64.wrap ((IntKind.i64.wrap y16)-(IntKind.i64.wrap (Int.tmod (IntKind.u64.wrap (v4+(IntKind.u64.wrap (d2*(IntKind.u64.wrap y15))))) 1000000000))))-v5))<0) then
     (Option.bind (geti (l10.drop d0) v6) fun y17=>
     Option.bind (some (l10.set (d0+Int.toNat v6) (IntKind.u32.wrap (IntKind.i64.wrap ((IntKind.i64.wrap ((IntKind.i64.wrap ((IntKind.i64.wrap y16)-(IntKind.i64.wrap (Int.tmod (IntKind.u64.wrap (v4+(IntKind.u64.wrap (d2*(IntKind.u64.wrap y15))))) 1000000000))))-v5))+1000000000))))) fun l11=>
     (F219_L1 d0 d1 d2 n_F219_L1) (IntKind.u64.wrap (Int.tdiv (IntKind.u64.wrap (v4+(IntKind.u64.wrap (d2*(IntKind.u64.wrap y15))))) 1000000000)) 1 (IntKind.i64.wrap (v6+1)) l11)
    else
     (Option.bind (geti (l10.drop d0) v6) fun y18=>
     Option.bind (some (l10.set (d0+Int.toNat v6) (IntKind.u32.wrap (IntKind.i64.wrap ((IntKind.i64.wrap ((IntKind.i64.wrap y16)-(IntKind.i64.wrap (Int.tmod (IntKind.u64.wrap (v4+(IntKind.u64.wrap (d2*(IntKind.u64.wrap y15))))) 1000000000))))-v5))))) fun l12=>
     (F219_L1 d0 d1 d2 n_F219_L1) (IntKind.u64.wrap (Int.tdiv (IntKind.u64.wrap (v4+(IntKind.u64.wrap (d2*(IntKind.u64.wrap y15))))) 1000000000)) 0 (IntKind.i64.wrap (v6+1)) l12))
   else
    (Option.bind (geti (l10.drop d0) v6) fun y19=>
    bif decide ((IntKind.i64.wrap ((IntKind.i64.wrap ((IntKind.i64.wrap y19)-(IntKind.i64.wrap (Int.tmod v4 1000000000))))-v5))<0) then
     (Option.bind (geti (l10.drop d0) v6) fun y20=>
     Option.bind (some (l10.set (d0+Int.toNat v6) (IntKind.u32.wrap (IntKind.i64.wrap ((IntKind.i64.wrap ((IntKind.i64.wrap ((IntKind.i64.wrap y19)-(IntKind.i64.wrap (Int.tmod v4 1000000000))))-v5))+1000000000))))) fun l13=>
     (F219_L1 d0 d1 d2 n_F219_L1) (IntKind.u64.wrap (Int.tdiv v4 1000000000)) 1 (IntKind.i64.wrap (v6+1)) l13)
    else
     (Option.bind (geti (l10.drop d0) v6) fun y21=>
     Option.bind (some (l10.set (d0+Int.toNat v6) (IntKind.u32.wrap (IntKind.i64.wrap ((IntKind.i64.wrap ((IntKind.i64.wrap y19)-(IntKind.i64.wrap (Int.tmod v4 1000000000))))-v5))))) fun l14=>
     (F219_L1 d0 d1 d2 n_F219_L1) (IntKind.u64.wrap (Int.tdiv v4 1000000000)) 0 (IntKind.i64.wrap (v6+1)) l14)))
  else
   (some (decide (v5>0),l10))
def F219(fuel:Nat)(d0:Nat)(d1:List Int)(d2:Int)(d3:List Int):Option (Bool×List Int):=
 F219_L1 d0 d1 d2 fuel 0 0 0 d3
noncomputable abbrev b219:=bodyOf Tryz.f219
abbrev G219(r:Bool×List Int):=J none Tryz.prog 57 [] (finR Tryz.prog Tryz.f219 [(2000,.buf 0 167 1 (r.2.map e_u32))] (.b r.1))
theorem F219_ok{fuel:Nat}{d0:Nat}{d1:List Int}{d2:Int}{d3:List Int}{r:Bool×List Int}(hF:F219 fuel d0 d1 d2 d3=some r):
 CallR Tryz.prog 219 [(2000,.buf 0 167 1 (d3.map e_u32))] [.suf 2000 0 d0,.l 1 d1 e_u32,.n d2] [(2000,.buf 0 167 1 (r.2.map e_u32))] (.b r.1):=by
 unfold F219 at hF
 refine cr 57 Tryz.func219 ?_
 have hF219_L1:∀(n_F219_L1:Nat) (v4:Int) (v5:Int) (v6:Int) (l10:List Int),F219_L1 d0 d1 d2 n_F219_L1 v4 v5 v6 l10=some r→G219 r ⟨mkT [(0,.suf 2000 0 d0),(1,.l 1 d1 e_u32),(2,.n d2),(7,.n v4),(8,.i v5),(14,.i (IntKind.i64.wrap (((d1.map e_u32).length:Int)+1))),(15,.i v6)],[(2000,.buf 0 167 1 (l10.map e_u32))],[kL b219 [1,1,0,1,0,0],.inBlock 0,kC b219 [1,1,1]]⟩:=by
  clear hF;intro n_F219_L1
  induction n_F219_L1 with
  |zero=>intro v4 v5 v6 l10 hF;cases hF
  |succ n_F219_L1 ih_F219_L1=>
   intro v4 v5 v6 l10 hF
   rw[F219_L1]at hF
   refine ji 6 16 hF (fun hb9 hF=> ?_) (fun hb9 hF=> ?_)
   ·
    refine ji 22 22 hF (fun hb10 hF=> ?_) (fun hb10 hF=> ?_)
    ·
     obtain⟨y15,e23,hF⟩:=bnd hF
     refine jo1 6 (gm (f:=e_u32) e23) ?_
     obtain⟨y16,e24,hF⟩:=bnd hF
     refine jo1 16 (gmd (f:=e_u32) e24) ?_
     refine jo1 0 (gjm (f:=e_u32) (gjd e24)) ?_
     refine ji 19 46 hF (fun hb11 hF=> ?_) (fun hb11 hF=> ?_)
     ·
      obtain⟨y17,e25,hF⟩:=bnd hF
      refine jo1 12 (gmd (f:=e_u32) e25) ?_
      obtain⟨l11,e26,hF⟩:=bnd hF
      have hst:=stm (f:=e_u32) (z:=IntKind.u32.wrap (IntKind.i64.wrap ((IntKind.i64.wrap ((IntKind.i64.wrap ((IntKind.i64.wrap y16)-(IntKind.i64.wrap (Int.tmod (IntKind.u64.wrap (v4+(IntKind.u64.wrap (d2*(IntKind.u64.wrap y15))))) 1000000000))))-v5))+1000000000))) (k:=0) (xs:=[.int .u32 (IntKind.u32.wrap (IntKind.i64.wrap ((IntKind.i64.wrap ((IntKind.i64.wrap ((IntKind.i64.wrap y16)-(IntKind.i64.wrap (Int.tmod (IntKind.u64.wrap (v4+(IntKind.u64.wrap (d2*(IntKind.u64.wrap y15))))) 1000000000))))-v5))+1000000000)))]) (gjd e25) rfl
      refine J_adv 0 (J_opt2 (o:=(match(l10.map e_u32)[d0+Int.toNat v6]? with|some old=>some ((l10.map e_u32).set (d0+Int.toNat v6) (setD old 0 [.int .u32 (IntKind.u32.wrap (IntKind.i64.wrap ((IntKind.i64.wrap ((IntKind.i64.wrap ((IntKind.i64.wrap y16)-(IntKind.i64.wrap (Int.tmod (IntKind.u64.wrap (v4+(IntKind.u64.wrap (d2*(IntKind.u64.wrap y15))))) 1000000000))))-v5))+1000000000)))]))|none=>none)) (l11.map e_u32) (by kernel_rfl) (by cases e26;exact hst) ?_)
      exact ja 6 (ih_F219_L1 _ _ _ _ hF)
     ·
      obtain⟨y18,e27,hF⟩:=bnd hF
      refine jo1 7 (gmd (f:=e_u32) e27) ?_
      obtain⟨l12,e28,hF⟩:=bnd hF
      have hst:=stm (f:=e_u32) (z:=IntKind.u32.wrap (IntKind.i64.wrap ((IntKind.i64.wrap ((IntKind.i64.wrap y16)-(IntKind.i64.wrap (Int.tmod (IntKind.u64.wrap (v4+(IntKind.u64.wrap (d2*(IntKind.u64.wrap y15))))) 1000000000))))-v5))) (k:=0) (xs:=[.int .u32 (IntKind.u32.wrap (IntKind.i64.wrap ((IntKind.i64.wrap ((IntKind.i64.wrap y16)-(IntKind.i64.wrap (Int.tmod (IntKind.u64.wrap (v4+(IntKind.u64.wrap (d2*(IntKind.u64.wrap y15))))) 1000000000))))-v5)))]) (gjd e27) rfl
      refine J_adv 0 (J_opt2 (o:=(match(l10.map e_u32)[d0+Int.toNat v6]? with|some old=>some ((l10.map e_u32).set (d0+Int.toNat v6) (setD old 0 [.int .u32 (IntKind.u32.wrap (IntKind.i64.wrap ((IntKind.i64.wrap ((IntKind.i64.wrap y16)-(IntKind.i64.wrap (Int.tmod (IntKind.u64.wrap (v4+(IntKind.u64.wrap (d2*(IntKind.u64.wrap y15))))) 1000000000))))-v5)))]))|none=>none)) (l12.map e_u32) (by kernel_rfl) (by cases e28;exact hst) ?_)
      exact ja 6 (ih_F219_L1 _ _ _ _ hF)
    ·
     obtain⟨y19,e29,hF⟩:=bnd hF
     refine jo1 12 (gmd (f:=e_u32) e29) ?_
     refine jo1 0 (gjm (f:=e_u32) (gjd e29)) ?_
     refine ji 19 46 hF (fun hb12 hF=> ?_) (fun hb12 hF=> ?_)
     ·
      obtain⟨y20,e30,hF⟩:=bnd hF
      refine jo1 12 (gmd (f:=e_u32) e30) ?_
      obtain⟨l13,e31,hF⟩:=bnd hF
      have hst:=stm (f:=e_u32) (z:=IntKind.u32.wrap (IntKind.i64.wrap ((IntKind.i64.wrap ((IntKind.i64.wrap ((IntKind.i64.wrap y19)-(IntKind.i64.wrap (Int.tmod v4 1000000000))))-v5))+1000000000))) (k:=0) (xs:=[.int .u32 (IntKind.u32.wrap (IntKind.i64.wrap ((IntKind.i64.wrap ((IntKind.i64.wrap ((IntKind.i64.wrap y19)-(IntKind.i64.wrap (Int.tmod v4 1000000000))))-v5))+1000000000)))]) (gjd e30) rfl
      refine J_adv 0 (J_opt2 (o:=(match(l10.map e_u32)[d0+Int.toNat v6]? with|some old=>some ((l10.map e_u32).set (d0+Int.toNat v6) (setD old 0 [.int .u32 (IntKind.u32.wrap (IntKind.i64.wrap ((IntKind.i64.wrap ((IntKind.i64.wrap ((IntKind.i64.wrap y19)-(IntKind.i64.wrap (Int.tmod v4 1000000000))))-v5))+1000000000)))]))|none=>none)) (l13.map e_u32) (by kernel_rfl) (by cases e31;exact hst) ?_)
      exact ja 6 (ih_F219_L1 _ _ _ _ hF)
     ·
      obtain⟨y21,e32,hF⟩:=bnd hF
      refine jo1 7 (gmd (f:=e_u32) e32) ?_
      obtain⟨l14,e33,hF⟩:=bnd hF
      have hst:=stm (f:=e_u32) (z:=IntKind.u32.wrap (IntKind.i64.wrap ((IntKind.i64.wrap ((IntKind.i64.wrap y19)-(IntKind.i64.wrap (Int.tmod v4 1000000000))))-v5))) (k:=0) (xs:=[.int .u32 (IntKind.u32.wrap (IntKind.i64.wrap ((IntKind.i64.wrap ((IntKind.i64.wrap y19)-(IntKind.i64.wrap (Int.tmod v4 1000000000))))-v5)))]) (gjd e32) rfl
      refine J_adv 0 (J_opt2 (o:=(match(l10.map e_u32)[d0+Int.toNat v6]? with|some old=>some ((l10.map e_u32).set (d0+Int.toNat v6) (setD old 0 [.int .u32 (IntKind.u32.wrap (IntKind.i64.wrap ((IntKind.i64.wrap ((IntKind.i64.wrap y19)-(IntKind.i64.wrap (Int.tmod v4 1000000000))))-v5)))]))|none=>none)) (l14.map e_u32) (by kernel_rfl) (by cases e33;exact hst) ?_)
      exact ja 6 (ih_F219_L1 _ _ _ _ hF)
   ·
    have hF:=oi hF;subst hF
    exact jrr 8
 exact ja 19 (hF219_L1 _ _ _ _ _ hF)
def F220_L1(d0:Nat)(d1:List Int):Nat→Int→Int→(List Int)→Option (List Int)
 |0,_,_,_=>none
 |n_F220_L1+1,v3,v4,l6=>
  bif decide (v4<(IntKind.i64.wrap (((d1.map e_u32).length:Int)+1))) then
   (Option.bind (geti (l6.drop d0) v4) fun y9=>
   bif decide (v4<((d1.map e_u32).length:Int)) then
    (Option.bind (geti d1 v4) fun y10=>
    Option.bind (geti (l6.drop d0) v4) fun y11=>
    Option.bind (some (l6.set (d0+Int.toNat v4) (Int.tmod (IntKind.u32.wrap ((IntKind.u32.wrap (y9+v3))+y10)) 1000000000))) fun l7=>
    (F220_L1 d0 d1 n_F220_L1) (IntKind.u32.wrap (Int.tdiv (IntKind.u32.wrap ((IntKind.u32.wrap (y9+v3))+y10)) 1000000000)) (IntKind.i64.wrap (v4+1)) l7)
   else
    (Option.bind (geti (l6.drop d0) v4) fun y12=>
    Option.bind (some (l6.set (d0+Int.toNat v4) (Int.tmod (IntKind.u32.wrap (y9+v3)) 1000000000))) fun l8=>
    (F220_L1 d0 d1 n_F220_L1) (IntKind.u32.wrap (Int.tdiv (IntKind.u32.wrap (y9+v3)) 1000000000)) (IntKind.i64.wrap (v4+1)) l8))
  else
   (some l6)
def F220(fuel:Nat)(d0:Nat)(d1:List Int)(d2:List Int):Option (List Int):=
 F220_L1 d0 d1 fuel 0 0 d2
noncomputable abbrev b220:=bodyOf Tryz.f220
abbrev G220(r:List Int):=J none Tryz.prog 37 [] (finR Tryz.prog Tryz.f220 [(2000,.buf 0 167 1 (r.map e_u32))] (.tup []))
theorem F220_ok{fuel:Nat}{d0:Nat}{d1:List Int}{d2:List Int}{r:List Int}(hF:F220 fuel d0 d1 d2=some r):
 CallR Tryz.prog 220 [(2000,.buf 0 167 1 (d2.map e_u32))] [.suf 2000 0 d0,.l 1 d1 e_u32] [(2000,.buf 0 167 1 (r.map e_u32))] (.tup []):=by
 unfold F220 at hF
 refine cr 37 Tryz.func220 ?_
 have hF220_L1:∀(n_F220_L1:Nat) (v3:Int) (v4:Int) (l6:List Int),F220_L1 d0 d1 n_F220_L1 v3 v4 l6=some r→G220 r ⟨mkT [(0,.suf 2000 0 d0),(1,.l 1 d1 e_u32),(4,.w v3),(9,.i (IntKind.i64.wrap (((d1.map e_u32).length:Int)+1))),(10,.i v4)],[(2000,.buf 0 167 1 (l6.map e_u32))],[kL b220 [1,1,0,0],.inBlock 0]⟩:=by
  clear hF;intro n_F220_L1
  induction n_F220_L1 with
  |zero=>intro v3 v4 l6 hF;cases hF
  |succ n_F220_L1 ih_F220_L1=>
   intro v3 v4 l6 hF
   rw[F220_L1]at hF
   refine ji 6 11 hF (fun hb5 hF=> ?_) (fun hb5 hF=> ?_)
   ·
    obtain⟨y9,e13,hF⟩:=bnd hF
    refine jo1 13 (gmd (f:=e_u32) e13) ?_
    refine jo1 0 (gjm (f:=e_u32) (gjd e13)) ?_
    refine ji 12 22 hF (fun hb6 hF=> ?_) (fun hb6 hF=> ?_)
    ·
     obtain⟨y10,e14,hF⟩:=bnd hF
     refine jo1 5 (gm (f:=e_u32) e14) ?_
     obtain⟨y11,e15,hF⟩:=bnd hF
     refine jo1 11 (gmd (f:=e_u32) e15) ?_
     obtain⟨l7,e16,hF⟩:=bnd hF
     have hst:=stm (f:=e_u32) (z:=Int.tmod (IntKind.u32.wrap ((IntKind.u32.wrap (y9+v3))+y10)) 1000000000) (k:=0) (xs:=[.int .u32 (Int.tmod (IntKind.u32.wrap ((IntKind.u32.wrap (y9+v3))+y10)) 1000000000)]) (gjd e15) rfl
     refine J_adv 0 (J_opt2 (o:=(match(l6.map e_u32)[d0+Int.toNat v4]? with|some old=>some ((l6.map e_u32).set (d0+Int.toNat v4) (setD old 0 [.int .u32 (Int.tmod (IntKind.u32.wrap ((IntKind.u32.wrap (y9+v3))+y10)) 1000000000)]))|none=>none)) (l7.map e_u32) (by kernel_rfl) (by cases e16;exact hst) ?_)
     exact ja 7 (ih_F220_L1 _ _ _ hF)
    ·
     obtain⟨y12,e17,hF⟩:=bnd hF
     refine jo1 9 (gmd (f:=e_u32) e17) ?_
     obtain⟨l8,e18,hF⟩:=bnd hF
     have hst:=stm (f:=e_u32) (z:=Int.tmod (IntKind.u32.wrap (y9+v3)) 1000000000) (k:=0) (xs:=[.int .u32 (Int.tmod (IntKind.u32.wrap (y9+v3)) 1000000000)]) (gjd e17) rfl
     refine J_adv 0 (J_opt2 (o:=(match(l6.map e_u32)[d0+Int.toNat v4]? with|some old=>some ((l6.map e_u32).set (d0+Int.toNat v4) (setD old 0 [.int .u32 (Int.tmod (IntKind.u32.wrap (y9+v3)) 1000000000)]))|none=>none)) (l8.map e_u32) (by kernel_rfl) (by cases e18;exact hst) ?_)
     exact ja 7 (ih_F220_L1 _ _ _ hF)
   ·
    have hF:=oi hF;subst hF
    exact jrr 2
 exact ja 13 (hF220_L1 _ _ _ _ hF)
def F178_L2(fuel:Nat)(l1:List Int)(l9:List Int)(l10:List Int)(v6:Int)(y93:Int)(y94:Int)(rec_F178_L1:Int→(List Int)→(List Int)→Option (List Int×List Int)):Nat→Int→Option (List Int×List Int)
 |0,_=>none
 |n_F178_L2+1,v8=>
  Option.bind (
   Option.bind (geti l1 (IntKind.i64.wrap (((l1.map e_u32).length:Int)-2))) fun y132=>
   Option.bind (geti l1 (IntKind.i64.wrap (((l1.map e_u32).length:Int)-1))) fun y133=>
   Option.bind (geti l10 (IntKind.i64.wrap ((IntKind.i64.wrap (v6+((l1.map e_u32).length:Int)))-2))) fun y134=>
   bif decide ((IntKind.u64.wrap (v8*(IntKind.u64.wrap y132)))>(IntKind.u64.wrap ((IntKind.u64.wrap ((IntKind.u64.wrap ((IntKind.u64.wrap ((IntKind.u64.wrap ((IntKind.u64.wrap y93)*1000000000))+(IntKind.u64.wrap y94)))-(IntKind.u64.wrap (v8*(IntKind.u64.wrap y133)))))*1000000000))+(IntKind.u64.wrap y134)))) then
    (Option.bind (geti l1 (IntKind.i64.wrap (((l1.map e_u32).length:Int)-1))) fun y135=>
    some (decide ((IntKind.u64.wrap ((IntKind.u64.wrap ((IntKind.u64.wrap ((IntKind.u64.wrap y93)*1000000000))+(IntKind.u64.wrap y94)))-(IntKind.u64.wrap (v8*(IntKind.u64.wrap y135)))))<1000000000)))
   else
    (some false)) fun o9=>
  bif o9 then
   ((F178_L2 fuel l1 l9 l10 v6 y93 y94 rec_F178_L1 n_F178_L2) (IntKind.u64.wrap (v8-1)))
  else
   (ass (decide ((0:Int)≤v6)&&decide (v6≤(((l10.map e_u32).drop 0).length:Int)))<|
   Option.bind (F219 fuel (0+Int.toNat v6) l1 v8 l10) fun y128=>
   bif y128.1 then
    (ass (decide ((0:Int)≤v6)&&decide (v6≤(((y128.2.map e_u32).drop 0).length:Int)))<|
    Option.bind (F220 fuel (0+Int.toNat v6) l1 y128.2) fun y129=>
    Option.bind (geti l9 v6) fun y130=>
    Option.bind (some (l9.set (0+Int.toNat v6) (IntKind.u32.wrap (IntKind.u64.wrap (v8-1))))) fun l11=>
    rec_F178_L1 (IntKind.i64.wrap (v6-1)) l11 y129)
   else
    (Option.bind (geti l9 v6) fun y131=>
    Option.bind (some (l9.set (0+Int.toNat v6) (IntKind.u32.wrap v8))) fun l12=>
    rec_F178_L1 (IntKind.i64.wrap (v6-1)) l12 y128.2))
def F178_L1(fuel:Nat)(l1:List Int)(y4:Int):Nat→Int→(List Int)→(List Int)→Option (List Int×List Int)
 |0,_,_,_=>none
 |n_F178_L1+1,v6,l9,l10=>
  bif decide (v6≥0) then
   (Option.bind (geti l10 (IntKind.i64.wrap (v6+((l1.map e_u32).length:Int)))) fun y93=>
   Option.bind (geti l10 (IntKind.i64.wrap ((IntKind.i64.wrap (v6+((l1.map e_u32).length:Int)))-1))) fun y94=>
   Option.bind (geti l1 (IntKind.i64.wrap (((l1.map e_u32).length:Int)-1))) fun y95=>
   ass (decide ((IntKind.u64.wrap y95)≠0))<|
   F178_L2 fuel l1 l9 l10 v6 y93 y94 (F178_L1 fuel l1 y4 n_F178_L1) fuel (bif decide (999999999<(IntKind.u64.wrap (Int.tdiv (IntKind.u64.wrap ((IntKind.u64.wrap ((IntKind.u64.wrap y93)*1000000000))+(IntKind.u64.wrap y94))) (IntKind.u64.wrap y95)))) then 999999999 else(IntKind.u64.wrap (Int.tdiv (IntKind.u64.wrap ((IntKind.u64.wrap ((IntKind.u64.wrap y93)*1000000000))+(IntKind.u64.wrap y94))) (IntKind.u64.wrap y95)))))
  else
   (Option.bind (slc l10 0 ((l1.map e_u32).length:Int)) fun l13=>
   Option.bind (F140 fuel false l13) fun y136=>
   Option.bind (F217 fuel y136.mag (IntKind.u32.wrap (IntKind.u64.wrap (Int.tdiv 1000000000 (IntKind.u64.wrap ((IntKind.u64.wrap y4)+1)))))) fun y137=>
   some (l9,y137.1))
def F178(fuel:Nat)(d0:List Int)(d1:List Int):Option (List Int×List Int):=
 Option.bind (F142 fuel d0 d1) fun y1=>
 bif decide (y1<0) then
  (some ([],d0))
 else
  (bif ((d1.map e_u32).length:Int)==1 then
   (Option.bind (geti d1 0) fun y2=>
   Option.bind (F217 fuel d0 y2) fun y3=>
   some (y3.1,[y3.2]))
  else
   (Option.bind (geti d1 (IntKind.i64.wrap (((d1.map e_u32).length:Int)-1))) fun y4=>
   ass (decide ((IntKind.u64.wrap ((IntKind.u64.wrap y4)+1))≠0))<|
   Option.bind (F218 fuel d0 (IntKind.u32.wrap (IntKind.u64.wrap (Int.tdiv 1000000000 (IntKind.u64.wrap ((IntKind.u64.wrap y4)+1)))))) fun y5=>
   Option.bind (F218a fuel d1 (IntKind.u32.wrap (IntKind.u64.wrap (Int.tdiv 1000000000 (IntKind.u64.wrap ((IntKind.u64.wrap y4)+1)))))) fun y6=>
   Option.bind (slc y6 0 ((d1.map e_u32).length:Int)) fun l1=>
   Option.bind (mkL (IntKind.i64.wrap (((y5.map e_u32).length:Int)-((l1.map e_u32).length:Int))) (IntKind.i64.wrap (((y5.map e_u32).length:Int)-((l1.map e_u32).length:Int))) 0) fun l2=>
   F178_L1 fuel l1 y4 fuel (IntKind.i64.wrap ((IntKind.i64.wrap (((y5.map e_u32).length:Int)-((l1.map e_u32).length:Int)))-1)) l2 y5))
noncomputable abbrev b178:=bodyOf Tryz.f178
abbrev G178(r:List Int×List Int):=J none Tryz.prog 172 [] (finF Tryz.prog Tryz.f178 (.tup [.l 1 r.1 e_u32,.l 1 r.2 e_u32]))
theorem F178_ok{fuel:Nat}{d0:List Int}{d1:List Int}{r:List Int×List Int}(hF:F178 fuel d0 d1=some r):
 CallF Tryz.prog 178 [.l 1 d0 e_u32,.l 1 d1 e_u32] (.tup [.l 1 r.1 e_u32,.l 1 r.2 e_u32]):=by
 unfold F178 at hF
 refine cf 172 Tryz.func178 ?_
 obtain⟨y1,e1,hF⟩:=bnd hF
 refine jc 10 en142 (F142_ok e1) ?_
 refine ji 2 21 hF (fun hb1 hF=> ?_) (fun hb1 hF=> ?_)
 ·
  have hF:=oi hF;subst hF
  exact jr 7
 ·
  refine ji 9 25 hF (fun hb2 hF=> ?_) (fun hb2 hF=> ?_)
  ·
   obtain⟨y2,e2,hF⟩:=bnd hF
   refine jo1 5 (gm (f:=e_u32) e2) ?_
   obtain⟨y3,e3,hF⟩:=bnd hF
   refine jc 1 en217 (F217_ok e3) ?_
   have hF:=oi hF;subst hF
   exact jr 14
  ·
   obtain⟨y4,e4,hF⟩:=bnd hF
   refine jo1 8 (gm (f:=e_u32) e4) ?_
   obtain⟨hb3,hF⟩:=assd hF
   refine jo1 3 (ck hb3) ?_
   refine jd 4 ?_
   obtain⟨y5,e5,hF⟩:=bnd hF
   refine dcr 2 [(49,2000)] en218 (F218_ok e5) ?_
   obtain⟨y6,e6,hF⟩:=bnd hF
   refine dc 2 en218 (F218a_ok e6) ?_
   obtain⟨l1,e7,hF⟩:=bnd hF
   refine do2 2 (sm (f:=e_u32) e7) ?_
   refine je 2 ?_
   obtain⟨l2,e8,hF⟩:=bnd hF
   refine jo2 12 (mm (f:=e_u32) e8) ?_
   have hF178_L1:∀(n_F178_L1:Nat) (v6:Int) (l9:List Int) (l10:List Int),F178_L1 fuel l1 y4 n_F178_L1 v6 l9 l10=some r→G178 r ⟨mkT [(8,.w (IntKind.u32.wrap (IntKind.u64.wrap (Int.tdiv 1000000000 (IntKind.u64.wrap ((IntKind.u64.wrap y4)+1)))))),(9,.suf 49 0 0),(10,.l 1 l1 e_u32),(11,.i ((l1.map e_u32).length:Int)),(12,.suf 62 0 0),(13,.i v6)],[(49,.buf 0 167 1 (l10.map e_u32)),(62,.buf 0 167 1 (l9.map e_u32))],[kL b178 [1,1,1,1,1,1,1,0,1,0,0],.inBlock 0,kC b178 [1,1,1,1,1,1,1,1]]⟩:=by
    clear hF;intro n_F178_L1
    induction n_F178_L1 with
    |zero=>intro v6 l9 l10 hF;cases hF
    |succ n_F178_L1 ih_F178_L1=>
     intro v6 l9 l10 hF
     rw[F178_L1]at hF
     refine ji 7 69 hF (fun hb38 hF=> ?_) (fun hb38 hF=> ?_)
     ·
      refine jd 5 ?_
      obtain⟨y93,e99,hF⟩:=bnd hF
      refine do1 4 (gm (f:=e_u32) e99) ?_
      refine do1 0 (gjm (f:=e_u32) (gj e99)) ?_
      obtain⟨y94,e100,hF⟩:=bnd hF
      refine do1 7 (gm (f:=e_u32) e100) ?_
      refine do1 0 (gjm (f:=e_u32) (gj e100)) ?_
      refine je 3 ?_
      obtain⟨y95,e101,hF⟩:=bnd hF
      refine jo1 6 (gm (f:=e_u32) e101) ?_
      obtain⟨hb39,hF⟩:=assd hF
      refine jo1 2 (ck hb39) ?_
      have hF178_L2:∀(n_F178_L2:Nat) (v8:Int),F178_L2 fuel l1 l9 l10 v6 y93 y94 (F178_L1 fuel l1 y4 n_F178_L1) n_F178_L2 v8=some r→G178 r ⟨mkT [(8,.w (IntKind.u32.wrap (IntKind.u64.wrap (Int.tdiv 1000000000 (IntKind.u64.wrap ((IntKind.u64.wrap y4)+1)))))),(9,.suf 49 0 0),(10,.l 1 l1 e_u32),(11,.i ((l1.map e_u32).length:Int)),(12,.suf 62 0 0),(13,.i v6),(14,.n (IntKind.u64.wrap ((IntKind.u64.wrap ((IntKind.u64.wrap y93)*1000000000))+(IntKind.u64.wrap y94)))),(15,.n v8)],[(49,.buf 0 167 1 (l10.map e_u32)),(62,.buf 0 167 1 (l9.map e_u32))],[kL b178 [1,1,1,1,1,1,1,0,1,0,0,1,0,0,1,1,0,0,0],.inBlock 2,kC b178 [1,1,1,1,1,1,1,0,1,0,0,1,0,0,1,1,1],.inBlock 1,kC b178 [1,1,1,1,1,1,1,0,1,0,0,1,1],kL b178 [1,1,1,1,1,1,1,0,1,0,0],.inBlock 0,kC b178 [1,1,1,1,1,1,1,1]]⟩:=by
       clear hF;intro n_F178_L2
       induction n_F178_L2 with
       |zero=>intro v8 hF;cases hF
       |succ n_F178_L2 ih_F178_L2=>
        intro v8 hF
        rw[F178_L2]at hF
        obtain⟨o9,hO,hF⟩:=bnd hF
        have hR9:G178 r ⟨mkT [(8,.w (IntKind.u32.wrap (IntKind.u64.wrap (Int.tdiv 1000000000 (IntKind.u64.wrap ((IntKind.u64.wrap y4)+1)))))),(9,.suf 49 0 0),(10,.l 1 l1 e_u32),(11,.i ((l1.map e_u32).length:Int)),(12,.suf 62 0 0),(13,.i v6),(14,.n (IntKind.u64.wrap ((IntKind.u64.wrap ((IntKind.u64.wrap y93)*1000000000))+(IntKind.u64.wrap y94)))),(15,.n v8),(139,.b o9)],[(49,.buf 0 167 1 (l10.map e_u32)),(62,.buf 0 167 1 (l9.map e_u32))],[kC b178 [1,1,1,1,1,1,1,0,1,0,0,1,0,0,1,1,0,0,0,0,1],kC b178 [1,1,1,1,1,1,1,0,1,0,0,1,0,0,1,1,0,0,0,1],kL b178 [1,1,1,1,1,1,1,0,1,0,0,1,0,0,1,1,0,0,0],.inBlock 2,kC b178 [1,1,1,1,1,1,1,0,1,0,0,1,0,0,1,1,1],.inBlock 1,kC b178 [1,1,1,1,1,1,1,0,1,0,0,1,1],kL b178 [1,1,1,1,1,1,1,0,1,0,0],.inBlock 0,kC b178 [1,1,1,1,1,1,1,1]]⟩:=by
         clear hO
         refine ji 0 139 hF (fun hb50 hF=> ?_) (fun hb50 hF=> ?_)
         ·
          exact ja 9 (ih_F178_L2 _ hF)
         ·
          obtain⟨hb51,hF⟩:=assd hF
          refine jo1 7 (ck hb51) ?_
          obtain⟨y128,e134,hF⟩:=bnd hF
          refine jcr 2 [(49,2000)] en219 (F219_ok e134) ?_
          refine ji 1 147 hF (fun hb52 hF=> ?_) (fun hb52 hF=> ?_)
          ·
           obtain⟨hb53,hF⟩:=assd hF
           refine jo1 10 (ck hb53) ?_
           obtain⟨y129,e135,hF⟩:=bnd hF
           refine jcr 1 [(49,2000)] en220 (F220_ok e135) ?_
           obtain⟨y130,e136,hF⟩:=bnd hF
           refine jo1 6 (gm (f:=e_u32) e136) ?_
           obtain⟨l11,e137,hF⟩:=bnd hF
           have hst:=stm (f:=e_u32) (z:=IntKind.u32.wrap (IntKind.u64.wrap (v8-1))) (k:=0) (xs:=[.int .u32 (IntKind.u32.wrap (IntKind.u64.wrap (v8-1)))]) (gj e136) rfl
           refine J_adv 0 (J_opt2 (o:=(match(l9.map e_u32)[0+Int.toNat v6]? with|some old=>some ((l9.map e_u32).set (0+Int.toNat v6) (setD old 0 [.int .u32 (IntKind.u32.wrap (IntKind.u64.wrap (v8-1)))]))|none=>none)) (l11.map e_u32) (by kernel_rfl) (by cases e137;exact hst) ?_)
           exact ja 7 (ih_F178_L1 _ _ _ hF)
          ·
           obtain⟨y131,e138,hF⟩:=bnd hF
           refine jo1 7 (gm (f:=e_u32) e138) ?_
           obtain⟨l12,e139,hF⟩:=bnd hF
           have hst:=stm (f:=e_u32) (z:=IntKind.u32.wrap v8) (k:=0) (xs:=[.int .u32 (IntKind.u32.wrap v8)]) (gj e138) rfl
           refine J_adv 0 (J_opt2 (o:=(match(l9.map e_u32)[0+Int.toNat v6]? with|some old=>some ((l9.map e_u32).set (0+Int.toNat v6) (setD old 0 [.int .u32 (IntKind.u32.wrap v8)]))|none=>none)) (l12.map e_u32) (by kernel_rfl) (by cases e139;exact hst) ?_)
           exact ja 7 (ih_F178_L1 _ _ _ hF)
        clear hF;rename _=some o9=>hF
        refine jd 3 ?_
        obtain⟨y132,e140,hF⟩:=bnd hF
        refine do1 4 (gm (f:=e_u32) e140) ?_
        obtain⟨y133,e141,hF⟩:=bnd hF
        refine do1 8 (gm (f:=e_u32) e141) ?_
        obtain⟨y134,e142,hF⟩:=bnd hF
        refine do1 10 (gm (f:=e_u32) e142) ?_
        refine do1 0 (gjm (f:=e_u32) (gj e142)) ?_
        refine di 4 127 hF (fun hb54 hF=> ?_) (fun hb54 hF=> ?_)
        ·
         obtain⟨y135,e143,hF⟩:=bnd hF
         refine do1 5 (gm (f:=e_u32) e143) ?_
         refine je 6 ?_
         have hF:=oi hF;subst hF
         exact ja 0 hR9
        ·
         refine je 12 ?_
         have hF:=oi hF;subst hF
         exact ja 0 hR9
      exact ja 6 (hF178_L2 _ _ hF)
     ·
      refine J_adv 3 (J_frzS 9 (by kernel_rfl) (by kernel_rfl) ?_)
      obtain⟨l13,e144,hF⟩:=bnd hF
      refine jo2 3 (sm (f:=e_u32) e144) ?_
      obtain⟨y136,e145,hF⟩:=bnd hF
      refine jc 0 en140 (F140_ok e145) ?_
      obtain⟨y137,e146,hF⟩:=bnd hF
      refine jc 2 en217 (F217_ok e146) ?_
      have hF:=oi hF;subst hF
      exact jr 13
   exact ja 14 (hF178_L1 _ _ _ _ hF)
def F187(fuel:Nat)(d0:T_exact_Whole)(d1:T_exact_Whole):Option T_exact_Whole:=
 Option.bind (F143 fuel d1) fun y1=>
 Option.bind (F104 fuel d0 y1) fun y2=>
 some y2
theorem F187_ok{fuel:Nat}{d0:T_exact_Whole}{d1:T_exact_Whole}{r:T_exact_Whole}(hF:F187 fuel d0 d1=some r):
 CallF Tryz.prog 187 [.agg [.b d0.neg,.l 1 d0.mag e_u32],.agg [.b d1.neg,.l 1 d1.mag e_u32]] (.agg [.b r.neg,.l 1 r.mag e_u32]):=by
 unfold F187 at hF
 refine cf 9 Tryz.func187 ?_
 refine jd 7 ?_
 obtain⟨y1,e1,hF⟩:=bnd hF
 refine dc 2 en143 (F143_ok e1) ?_
 obtain⟨y2,e2,hF⟩:=bnd hF
 refine dc 0 en104 (F104_ok e2) ?_
 refine je 1 ?_
 have hF:=oi hF;subst hF
 exact jr 0
def F144(fuel:Nat)(d0:T_exact_Whole)(d1:T_exact_Whole):Option (T_exact_Whole×T_exact_Whole):=
 Option.bind (F178 fuel d0.mag d1.mag) fun y1=>
 Option.bind (F140 fuel (!(d0.neg==d1.neg)) y1.1) fun y2=>
 Option.bind (F140 fuel d0.neg y1.2) fun y3=>
 Option.bind (
  Option.bind (F100 y3) fun y9=>
  bif y9 !=0 then
   (some (!(d0.neg==d1.neg)))
  else
   (some false)) fun o1=>
 bif o1 then
  (Option.bind (F99 fuel 1) fun y6=>
  Option.bind (F187 fuel y2 y6) fun y7=>
  Option.bind (F104 fuel y3 d1) fun y8=>
  some (y7,y8))
 else
  (some (y2,y3))
noncomputable abbrev b144:=bodyOf Tryz.f144
abbrev G144(r:T_exact_Whole×T_exact_Whole):=J none Tryz.prog 47 [] (finF Tryz.prog Tryz.f144 (.tup [.agg [.b r.1.neg,.l 1 r.1.mag e_u32],.agg [.b r.2.neg,.l 1 r.2.mag e_u32]]))
theorem F144_ok{fuel:Nat}{d0:T_exact_Whole}{d1:T_exact_Whole}{r:T_exact_Whole×T_exact_Whole}(hF:F144 fuel d0 d1=some r):
 CallF Tryz.prog 144 [.agg [.b d0.neg,.l 1 d0.mag e_u32],.agg [.b d1.neg,.l 1 d1.mag e_u32]] (.tup [.agg [.b r.1.neg,.l 1 r.1.mag e_u32],.agg [.b r.2.neg,.l 1 r.2.mag e_u32]]):=by
 unfold F144 at hF
 refine cf 47 Tryz.func144 ?_
 obtain⟨y1,e1,hF⟩:=bnd hF
 refine jc 13 en178 (F178_ok e1) ?_
 refine jd 7 ?_
 obtain⟨y2,e2,hF⟩:=bnd hF
 refine dc 6 en140 (F140_ok e2) ?_
 obtain⟨y3,e3,hF⟩:=bnd hF
 refine dc 3 en140 (F140_ok e3) ?_
 refine je 4 ?_
 obtain⟨o1,hO,hF⟩:=bnd hF
 have hR1:G144 r ⟨mkT [(3,.ptr 3 0),(4,.ptr 4 0),(5,.ptr 5 0),(8,.ptr 8 0),(9,.ptr 9 0),(38,.b o1)],[(3,.box 98 [.b d1.neg,.l 1 d1.mag e_u32]),(4,.box 98 [.b false,.esl 1]),(5,.box 98 [.b false,.esl 1]),(8,.box 98 [.b y2.neg,.l 1 y2.mag e_u32]),(9,.box 98 [.b y3.neg,.l 1 y3.mag e_u32])],[kO b144 [1,1,1,0,0],kC b144 [1,1,1,0,1],kC b144 [1,1,1,1]]⟩:=by
  clear hO
  refine ji 1 38 hF (fun hb3 hF=> ?_) (fun hb3 hF=> ?_)
  ·
   refine jd 1 ?_
   obtain⟨y6,e6,hF⟩:=bnd hF
   refine dc 1 en99 (F99_ok e6) ?_
   obtain⟨y7,e7,hF⟩:=bnd hF
   refine dc 0 en187 (F187_ok e7) ?_
   obtain⟨y8,e8,hF⟩:=bnd hF
   refine dc 2 en104 (F104_ok e8) ?_
   refine je 2 ?_
   refine jd 1 ?_
   refine je 4 ?_
   have hF:=oi hF;subst hF
   exact jr 0
  ·
   refine jd 3 ?_
   refine je 4 ?_
   have hF:=oi hF;subst hF
   exact jr 0
 clear hF;rename _=some o1=>hF
 obtain⟨y9,e9,hF⟩:=bnd hF
 refine jc 4 en100 (F100_ok e9) ?_
 refine ji 2 32 hF (fun hb4 hF=> ?_) (fun hb4 hF=> ?_)
 ·
  have hF:=oi hF;subst hF
  exact ja 6 hR1
 ·
  have hF:=oi hF;subst hF
  exact ja 6 hR1
def F179_L1:List (Int×Int)→Int→Option Int
 |[],v2=>
  some v2
 |y4::ys_F179_L1,v2=>
  (F179_L1 ys_F179_L1) (IntKind.u64.wrap ((IntKind.u64.wrap (v2*1000000000))+(IntKind.u64.wrap y4.2)))
def F179(fuel:Nat)(d0:List Int):Option Int:=
 Option.bind (F221 d0) fun y1=>
 Option.bind (F254 fuel y1) fun ys1=>
 F179_L1 ys1 0
noncomputable abbrev b179:=bodyOf Tryz.f179
theorem F179_ok{fuel:Nat}{d0:List Int}{r:Int}(hF:F179 fuel d0=some r):
 CallF Tryz.prog 179 [.l 1 d0 e_u32] (.n r):=by
 unfold F179 at hF
 refine callM_of (N:=16) (b:=bodyOf Tryz.f179) Tryz.func179 (by kernel_rfl) rfl rfl (fun w00_ M00_=> ?_)
 obtain⟨y1,e1,hF⟩:=bnd hF
 refine jcr 13 [(7,2000)] en221 (F221_ok e1) ?_
 refine ja 2 (S0:=[(3,.ptr 3 0),(7,.fn 254 [] [.ptr 7 0])]) (O0:=[(3,.box 39 [.n 0]),(7,.box 96 [.l 1 y1 e_u32])]) (T0:=[kC b179 [1,1,0,1,0],.inBlock 0,kC b179 [1,1,1]]) ?_
 refine J_ren [(7,7),(3,2100)] (by kernel_rfl) (by kernel_rfl) (by kernel_rfl) (by kernel_rfl) ?_
 refine J_at (S0:=[(3,.ptr 2100 0),(7,.fn 254 [] [.ptr 7 0])]) (O0:=[(7,.box 96 [.l 1 y1 e_u32]),(2100,.box 39 [.n 0])]) (T0:=[kC b179 [1,1,0,1,0],.inBlock 0,kC b179 [1,1,1]]) [3,7] [7,2100] (by kernel_rfl) rfl ?_
 obtain⟨ys1,e2,hF⟩:=bnd hF
 obtain⟨G_,hG_⟩:∃G:List (List Kx.V)→List (Nat×IObj)→Prop,G=(fun yv ob=>∃(yl_:List (Int×Int)) (v2:Int),yv=yl_.map y_i64_u32∧ob=[(2100,.box 39 [.n v2])]∧F179_L1 yl_ v2=some r):=⟨_,rfl⟩
 obtain⟨GX_,hGX_⟩:∃G:Code→List (Nat×IObj)→Prop,G=(fun j ob=>False):=⟨_,rfl⟩
 refine J_range (P:=Tryz.prog) (g:=(.tmp 7)) (ps:= #[8,9]) (asg:=(cAt b179 [1,1,0,1,0,0])) (bo:=(cAt b179 [1,1,0,1,0,1])) (k:=[.inBlock 0,kC b179 [1,1,1]]) (gf:=254) (first:=[]) (cap:=[.ptr 7 0]) (xs:=[.rp [.sl 1 (y1.map e_u32)] 0]) (os:=[]) (S1:=[(3,.ptr 2100 0)]) (ob0:=[(2100,.box 39 [.n 0])]) [] [3] [2100] [.rp [.sl 1 (y1.map e_u32)] 0] (ysAll:=ys1.map y_i64_u32) [2100] G_ GX_ rfl (by kernel_rfl) rfl (by kernel_rfl) rfl (by kernel_rfl) (Res'.refl _) en254 (F254_ok e2) (by kernel_rfl) (by kernel_rfl) (by kernel_rfl) ?_ ?_ ?_ ⟨by kernel_rfl,by kernel_rfl⟩ ?_ ?_ ?_
 ·rw[hG_];exact⟨ys1,0,rfl,by kernel_rfl,hF⟩
 ·intro yv_ ob_ h_;rw[hG_]at h_;obtain⟨_,_,_,rfl,_⟩:=h_;kernel_rfl
 ·intro j_ ob_ h_;rw[hGX_]at h_;exact h_.elim
 ·intro x_ hxa_ hxb_ hxp_ yv_ ysv_ ob_ h_;rw[hG_]at h_
  obtain⟨yl_,v2,hy_,rfl,hF⟩:=h_
  cases yl_ with
  |nil=>cases hy_
  |cons y4 ys_F179_L1=>
   cases hy_;rw[F179_L1]at hF
   refine hJ_of (by kernel_rfl) ?_
   refine J_at (S0:=[(3,.ptr 2100 0),(8,.i y4.1),(9,.w y4.2)]) (O0:=[(3000,.raw x_.D (.deferred (some []))),(3001,.raw x_.L (.loop (recOf x_ .ready none))),(2100,.box 39 [.n v2])]) (T0:=[kC b179 [1,1,0,1,0,0],.begR x_.L,kC b179 [1,1,0,1,0,1]]) [3,8,9] [3000,3001,2100] (by kernel_rfl) rfl ?_
   refine ja 3 (S0:=[(3,.ptr 2100 0),(5,.w y4.2),(8,.i y4.1),(9,.w y4.2)]) (O0:=[(3000,.raw x_.D (.deferred (some []))),(3001,.raw x_.L (.loop (recOf x_ .ready none))),(2100,.box 39 [.n v2])]) (T0:=[.begR x_.L,kC b179 [1,1,0,1,0,1]]) ?_
   refine J_begR (l:=x_.L) (q:=3001) (k:=[kC b179 [1,1,0,1,0,1]]) (rec:=recOf x_ .ready none) rfl rfl rfl ?_
   refine ja 10 (S0:=[]) (O0:=rob x_ .busy none [(2100,.box 39 [.n (IntKind.u64.wrap ((IntKind.u64.wrap (v2*1000000000))+(IntKind.u64.wrap y4.2)))])]) (T0:=[]) ?_
   exact J_endB rfl [(2100,.box 39 [.n (IntKind.u64.wrap ((IntKind.u64.wrap (v2*1000000000))+(IntKind.u64.wrap y4.2)))])] rfl rfl (by kernel_rfl) (by rw[hG_];exact⟨ys_F179_L1,IntKind.u64.wrap ((IntKind.u64.wrap (v2*1000000000))+(IntKind.u64.wrap y4.2)),rfl,rfl,hF⟩)
 ·intro D_ ob_ h_;rw[hG_]at h_
  obtain⟨yl_,v2,hy_,rfl,hF⟩:=h_
  cases yl_ with
  |cons _ _=>cases hy_
  |nil=>
   clear hy_;rw[F179_L1]at hF
   refine J_renM [(2100,3)] (by kernel_rfl) (by kernel_rfl) (by kernel_rfl) ?_
   refine ja 0 (S0:=[(3,.ptr 3 0)]) (O0:=[(3,.box 39 [.n v2])]) (T0:=[.inBlock 0,kC b179 [1,1,1]]) ?_
   have hF:=oi hF;subst hF
   exact J_adv 6 (J_retM (xs:=[.n v2]) [.n v2] rfl rfl (by kernel_rfl) (Res'.refl _) rfl (by kernel_rfl))
 ·intro D_ ob_ j_ h_;rw[hGX_]at h_
  exact h_.elim
def F135_L3:Nat→Int→(List Int)→Option T_exact_Whole
 |0,_,_=>none
 |n_F135_L3+1,v6,l8=>
  bif decide (v6>0) then
   (Option.bind (app l8 [IntKind.u32.wrap (Int.tmod v6 1000000000)]) fun l9=>
   (F135_L3 n_F135_L3) (IntKind.u64.wrap (Int.tdiv v6 1000000000)) l9)
  else
   (some (⟨false,l8⟩:T_exact_Whole))
def F135_L2(fuel:Nat):Nat→Int→Int→Option T_exact_Whole
 |0,_,_=>none
 |n_F135_L2+1,v3,v4=>
  bif decide (v4>0) then
   (ass (decide (v4≠0))<|
   (F135_L2 fuel n_F135_L2) v4 (Int.tmod v3 v4))
  else
   (F135_L3 fuel v3 [])
def F135_L1(fuel:Nat):Nat→(List Int)→(List Int)→Option T_exact_Whole
 |0,_,_=>none
 |n_F135_L1+1,l3,l4=>
  bif decide (((l4.map e_u32).length:Int)>2) then
   (Option.bind (F178 fuel l3 l4) fun y5=>
   Option.bind (F140 fuel false y5.2) fun y6=>
   (F135_L1 fuel n_F135_L1) l4 y6.mag)
  else
   (bif ((l4.map e_u32).length:Int)==0 then
    (Option.bind (F140 fuel false l3) fun y7=>
    some y7)
   else
    (Option.bind (F178 fuel l3 l4) fun y8=>
    Option.bind (F179 fuel l4) fun y9=>
    Option.bind (F140 fuel false y8.2) fun y10=>
    Option.bind (F179 fuel y10.mag) fun y11=>
    F135_L2 fuel fuel y9 y11))
def F135(fuel:Nat)(d0:T_exact_Whole)(d1:T_exact_Whole):Option T_exact_Whole:=
 F135_L1 fuel fuel d0.mag d1.mag
noncomputable abbrev b135:=bodyOf Tryz.f135
abbrev G135(r:T_exact_Whole):=J none Tryz.prog 68 [] (finF Tryz.prog Tryz.f135 (.agg [.b r.neg,.l 1 r.mag e_u32]))
theorem F135_ok{fuel:Nat}{d0:T_exact_Whole}{d1:T_exact_Whole}{r:T_exact_Whole}(hF:F135 fuel d0 d1=some r):
 CallF Tryz.prog 135 [.agg [.b d0.neg,.l 1 d0.mag e_u32],.agg [.b d1.neg,.l 1 d1.mag e_u32]] (.agg [.b r.neg,.l 1 r.mag e_u32]):=by
 unfold F135 at hF
 refine cf 68 Tryz.func135 ?_
 refine jd 7 ?_
 refine je 6 ?_
 have hF135_L1:∀(n_F135_L1:Nat) (l3:List Int) (l4:List Int),F135_L1 fuel n_F135_L1 l3 l4=some r→G135 r ⟨mkT [(4,.ptr 4 0),(5,.l 1 l3 e_u32),(6,.l 1 l4 e_u32)],[(4,.box 98 [.b false,.esl 1])],[kL b135 [1,1,0,0,0],.inBlock 0,kC b135 [1,1,1]]⟩:=by
  clear hF;intro n_F135_L1
  induction n_F135_L1 with
  |zero=>intro l3 l4 hF;cases hF
  |succ n_F135_L1 ih_F135_L1=>
   intro l3 l4 hF
   rw[F135_L1]at hF
   refine ji 8 20 hF (fun hb3 hF=> ?_) (fun hb3 hF=> ?_)
   ·
    obtain⟨y5,e5,hF⟩:=bnd hF
    refine jc 7 en178 (F178_ok e5) ?_
    obtain⟨y6,e6,hF⟩:=bnd hF
    refine jc 9 en140 (F140_ok e6) ?_
    exact ja 5 (ih_F135_L1 _ _ hF)
   ·
    refine ji 9 33 hF (fun hb4 hF=> ?_) (fun hb4 hF=> ?_)
    ·
     obtain⟨y7,e7,hF⟩:=bnd hF
     refine jc 4 en140 (F140_ok e7) ?_
     have hF:=oi hF;subst hF
     exact jr 2
    ·
     obtain⟨y8,e8,hF⟩:=bnd hF
     refine jc 6 en178 (F178_ok e8) ?_
     obtain⟨y9,e9,hF⟩:=bnd hF
     refine jc 9 en179 (F179_ok e9) ?_
     obtain⟨y10,e10,hF⟩:=bnd hF
     refine jc 1 en140 (F140_ok e10) ?_
     obtain⟨y11,e11,hF⟩:=bnd hF
     refine jc 1 en179 (F179_ok e11) ?_
     have hF135_L2:∀(n_F135_L2:Nat) (v3:Int) (v4:Int),F135_L2 fuel n_F135_L2 v3 v4=some r→G135 r ⟨mkT [(4,.ptr 4 0),(11,.n v3),(12,.n v4)],[(4,.box 98 [.b false,.esl 1])],[kL b135 [1,1,1,1,1,1,0,0,0],.inBlock 2,kC b135 [1,1,1,1,1,1,1]]⟩:=by
      clear hF;intro n_F135_L2
      induction n_F135_L2 with
      |zero=>intro v3 v4 hF;cases hF
      |succ n_F135_L2 ih_F135_L2=>
       intro v3 v4 hF
       rw[F135_L2]at hF
       refine ji 7 49 hF (fun hb9 hF=> ?_) (fun hb9 hF=> ?_)
       ·
        refine jd 3 ?_
        obtain⟨hb10,hF⟩:=assd hF
        refine do1 3 (ck hb10) ?_
        refine je 2 ?_
        exact ja 1 (ih_F135_L2 _ _ hF)
       ·
        have hF135_L3:∀(n_F135_L3:Nat) (v6:Int) (l8:List Int),F135_L3 n_F135_L3 v6 l8=some r→G135 r ⟨mkT [(4,.ptr 4 0),(11,.n v6),(13,.ptr 13 0)],[(4,.box 98 [.b false,.esl 1]),(13,.box 98 [.b false,.suf 65 0 0]),(65,.buf 0 167 1 (l8.map e_u32))],[kL b135 [1,1,1,1,1,1,1,1,0,0,0],.inBlock 4,kC b135 [1,1,1,1,1,1,1,1,1]]⟩:=by
         clear hF;intro n_F135_L3
         induction n_F135_L3 with
         |zero=>intro v6 l8 hF;cases hF
         |succ n_F135_L3 ih_F135_L3=>
          intro v6 l8 hF
          rw[F135_L3]at hF
          refine ji 7 56 hF (fun hb13 hF=> ?_) (fun hb13 hF=> ?_)
          ·
           obtain⟨l9,e14,hF⟩:=bnd hF
           refine jo2 11 (am (f:=e_u32) e14) ?_
           exact ja 9 (ih_F135_L3 _ _ hF)
          ·
           have hF:=oi hF;subst hF
           exact jr 7
        refine J_adv 11 (J_ownc (n:=1) 13 1 65 167 1 (by kernel_rfl) (by kernel_rfl) ?_)
        exact ja 0 (hF135_L3 _ _ _ hF)
     exact ja 6 (hF135_L2 _ _ _ hF)
 exact ja 3 (hF135_L1 _ _ _ hF)
def F226(d0:List UInt8)(d1:List UInt8):Option Bool:=
 Option.bind (
  bif decide ((d0.length:Int)≥(d1.length:Int)) then
   (ass (decide (0≤0)&&decide (0≤(d1.length:Int))&&decide ((d1.length:Int)≤d0.length))<|
   some (((d0.drop (Int.toNat 0)).take (Int.toNat ((d1.length:Int)-0)))==d1))
  else
   (some false)) fun o1=>
 some o1
noncomputable abbrev b226:=bodyOf Tryz.f226
abbrev G226(r:Bool):=J none Tryz.prog 18 [] (finF Tryz.prog Tryz.f226 (.b r))
theorem F226_ok{d0:List UInt8}{d1:List UInt8}{r:Bool}(hF:F226 d0 d1=some r):
 CallF Tryz.prog 226 [.s d0,.s d1] (.b r):=by
 unfold F226 at hF
 refine cf 18 Tryz.func226 ?_
 obtain⟨o1,hO,hF⟩:=bnd hF
 have hR1:G226 r ⟨mkT [(4,.b o1)],[],[kO b226 [1,0],kC b226 [1,1]]⟩:=by
  clear hO
  have hF:=oi hF;subst hF
  exact jr 1
 clear hF;rename _=some o1=>hF
 refine ji 12 10 hF (fun hb5 hF=> ?_) (fun hb5 hF=> ?_)
 ·
  obtain⟨hb6,hF⟩:=assd hF
  refine jo1 3 (ck hb6) ?_
  have hF:=oi hF;subst hF
  exact ja 4 hR1
 ·
  have hF:=oi hF;subst hF
  exact ja 8 hR1
def F182(d0:List UInt8)(d1:List UInt8):Option (List UInt8):=
 Option.bind (F226 d0 d1) fun y1=>
 bif y1 then
  (ass (decide (0≤(d1.length:Int))&&decide ((d1.length:Int)≤(d0.length:Int))&&decide ((d0.length:Int)≤d0.length))<|
  some ((d0.drop (Int.toNat (d1.length:Int))).take (Int.toNat ((d0.length:Int)-(d1.length:Int)))))
 else
  (some d0)
theorem F182_ok{d0:List UInt8}{d1:List UInt8}{r:List UInt8}(hF:F182 d0 d1=some r):
 CallF Tryz.prog 182 [.s d0,.s d1] (.s r):=by
 unfold F182 at hF
 refine cf 13 Tryz.func182 ?_
 obtain⟨y1,e1,hF⟩:=bnd hF
 refine jc 9 en226 (F226_ok e1) ?_
 refine ji 1 7 hF (fun hb1 hF=> ?_) (fun hb1 hF=> ?_)
 ·
  obtain⟨hb2,hF⟩:=assd hF
  refine jo1 6 (ck hb2) ?_
  have hF:=oi hF;subst hF
  exact jr 2
 ·
  have hF:=oi hF;subst hF
  exact jr 7
def F138(d0:List UInt8)(d1:List UInt8):Option (List UInt8):=
 Option.bind (F182 d0 d1) fun y1=>
 some y1
theorem F138_ok{d0:List UInt8}{d1:List UInt8}{r:List UInt8}(hF:F138 d0 d1=some r):
 CallF Tryz.prog 138 [.s d0,.s d1] (.s r):=by
 unfold F138 at hF
 refine cf 8 Tryz.func138 ?_
 obtain⟨y1,e1,hF⟩:=bnd hF
 refine jc 8 en182 (F182_ok e1) ?_
 have hF:=oi hF;subst hF
 exact jr 2
def e_u8(x:Int):List Dat:=[.int .u8 x]
def F227(d0:Int):Option Int:=
 some (IntKind.u8.wrap (BitVec.ofInt IntKind.u8.bits d0|||BitVec.ofInt IntKind.u8.bits 32).toNat)
theorem F227_ok{d0:Int}{r:Int}(hF:F227 d0=some r):
 CallF Tryz.prog 227 [.y d0] (.y r):=by
 unfold F227 at hF
 refine cf 5 Tryz.func227 ?_
 have hF:=oi hF;subst hF
 exact jr 10
def F183_A2(v7:Int)(v8:Int)(rec_F183_L1:Int→Int→Option (Int×Bool))(v10:Int):Option (Int×Bool):=
 bif decide (v10≥(IntKind.u8.wrap 10)) then
  (some (0,true))
 else
  (bif decide (v7≥1844674407370955162) then
   (some (IntKind.u64.wrap ((IntKind.u64.wrap (1*2^(min (Int.toNat (IntKind.u64.wrap 32)) IntKind.u64.bits)))-1),true))
  else
   (Option.bind (
    bif decide ((IntKind.u64.wrap ((IntKind.u64.wrap (v7*(IntKind.u64.wrap 10)))+(IntKind.u64.wrap v10)))<(IntKind.u64.wrap (v7*(IntKind.u64.wrap 10)))) then
     (some true)
    else
     (some (decide ((IntKind.u64.wrap ((IntKind.u64.wrap (v7*(IntKind.u64.wrap 10)))+(IntKind.u64.wrap v10)))>(IntKind.u64.wrap ((IntKind.u64.wrap (1*2^(min (Int.toNat (IntKind.u64.wrap 32)) IntKind.u64.bits)))-1)))))) fun o39=>
   bif o39 then
    (some (IntKind.u64.wrap ((IntKind.u64.wrap (1*2^(min (Int.toNat (IntKind.u64.wrap 32)) IntKind.u64.bits)))-1),true))
   else
    (rec_F183_L1 (IntKind.u64.wrap ((IntKind.u64.wrap (v7*(IntKind.u64.wrap 10)))+(IntKind.u64.wrap v10))) (IntKind.i64.wrap (v8+1)))))
def F183_L1(d0:List UInt8):Nat→Int→Int→Option (Int×Bool)
 |0,_,_=>none
 |n_F183_L1+1,v7,v8=>
  bif decide (v8<(((d0.map toI).map e_u8).length:Int)) then
   (Option.bind (geti (d0.map toI) v8) fun y76=>
   Option.bind (
    bif y76==95 then
     (some ())
    else
     (some ())) fun o40=>
   Option.bind (
    bif decide (48≤y76) then
     (some (decide (y76≤57)))
    else
     (some false)) fun o41=>
   bif o41 then
    (F183_A2 v7 v8 (F183_L1 d0 n_F183_L1) (IntKind.u8.wrap (y76-48)))
   else
    (Option.bind (
     Option.bind (F227 y76) fun y89=>
     bif decide (97≤y89) then
      (Option.bind (F227 y76) fun y90=>
      some (decide (y90≤122)))
     else
      (some false)) fun o42=>
    bif o42 then
     (Option.bind (F227 y76) fun y88=>
     F183_A2 v7 v8 (F183_L1 d0 n_F183_L1) (IntKind.u8.wrap ((IntKind.u8.wrap (y88-97))+10)))
    else
     (some (0,true))))
  else
   (some (v7,false))
def F183(fuel:Nat)(d0:List UInt8):Option (Int×Bool):=
 bif d0==[] then
  (some (0,true))
 else
  (ass (decide (0≤(IntKind.u64.wrap 32)))<|
  F183_L1 d0 fuel 0 0)
noncomputable abbrev b183:=bodyOf Tryz.f183
abbrev G183(r:Int×Bool):=J none Tryz.prog 172 [] (finF Tryz.prog Tryz.f183 (.tup [.n r.1,.d (.ife r.2)]))
theorem F183_ok{fuel:Nat}{d0:List UInt8}{r:Int×Bool}(hF:F183 fuel d0=some r):
 CallF Tryz.prog 183 [.s d0,.i 10,.i 32] (.tup [.n r.1,.d (.ife r.2)]):=by
 unfold F183 at hF
 refine cf 172 Tryz.func183 ?_
 refine ji 11 19 hF (fun hb1 hF=> ?_) (fun hb1 hF=> ?_)
 ·
  have hF:=oi hF;subst hF
  exact jr 7
 ·
  obtain⟨hb2,hF⟩:=assd hF
  refine jo1 70 (ck hb2) ?_
  refine J_adv 15 (J_opt2 (o:=some (d0.map byteD)) ((d0.map toI).map e_u8) (by kernel_rfl) (bym (f:=e_u8) (fun _=>rfl)) ?_)
  have hF183_L1:∀(n_F183_L1:Nat) (v7:Int) (v8:Int),F183_L1 d0 n_F183_L1 v7 v8=some r→G183 r ⟨mkT [(1,.i 10),(8,.b false),(9,.s d0),(10,.n 1844674407370955162),(11,.n (IntKind.u64.wrap ((IntKind.u64.wrap (1*2^(min (Int.toNat (IntKind.u64.wrap 32)) IntKind.u64.bits)))-1))),(12,.b false),(13,.n v7),(99,.l 1 (d0.map toI) e_u8),(100,.i (((d0.map toI).map e_u8).length:Int)),(101,.i v8)],[],[kL b183 [1,1,1,1,1,1,1,1,1,1,1,0,1,0,0],.inBlock 3,kC b183 [1,1,1,1,1,1,1,1,1,1,1,1]]⟩:=by
   clear hF;intro n_F183_L1
   induction n_F183_L1 with
   |zero=>intro v7 v8 hF;cases hF
   |succ n_F183_L1 ih_F183_L1=>
    intro v7 v8 hF
    rw[F183_L1]at hF
    refine ji 6 102 hF (fun hb115 hF=> ?_) (fun hb115 hF=> ?_)
    ·
     obtain⟨y76,e76,hF⟩:=bnd hF
     refine jo1 6 (gm (f:=e_u8) e76) ?_
     have hF183_A2:∀(v10:Int),F183_A2 v7 v8 (F183_L1 d0 n_F183_L1) v10=some r→G183 r ⟨mkT [(1,.i 10),(8,.b false),(9,.s d0),(10,.n 1844674407370955162),(11,.n (IntKind.u64.wrap ((IntKind.u64.wrap (1*2^(min (Int.toNat (IntKind.u64.wrap 32)) IntKind.u64.bits)))-1))),(12,.b false),(13,.n v7),(16,.y v10),(99,.l 1 (d0.map toI) e_u8),(100,.i (((d0.map toI).map e_u8).length:Int)),(101,.i v8)],[],[kC b183 [1,1,1,1,1,1,1,1,1,1,1,0,1,0,0,1,1,0,0,1,1,1],.inBlock 4,kC b183 [1,1,1,1,1,1,1,1,1,1,1,0,1,0,0,1,1,1],kL b183 [1,1,1,1,1,1,1,1,1,1,1,0,1,0,0],.inBlock 3,kC b183 [1,1,1,1,1,1,1,1,1,1,1,1]]⟩:=by
      intro v10 hF
      unfold F183_A2 at hF
      refine ji 8 137 hF (fun hb155 hF=> ?_) (fun hb155 hF=> ?_)
      ·
       have hF:=oi hF;subst hF
       exact jr 7
      ·
       refine ji 9 141 hF (fun hb156 hF=> ?_) (fun hb156 hF=> ?_)
       ·
        have hF:=oi hF;subst hF
        exact jr 8
       ·
        obtain⟨o39,hO,hF⟩:=bnd hF
        have hR39:G183 r ⟨mkT [(1,.i 10),(8,.b false),(9,.s d0),(10,.n 1844674407370955162),(11,.n (IntKind.u64.wrap ((IntKind.u64.wrap (1*2^(min (Int.toNat (IntKind.u64.wrap 32)) IntKind.u64.bits)))-1))),(12,.b false),(17,.n (IntKind.u64.wrap ((IntKind.u64.wrap (v7*(IntKind.u64.wrap 10)))+(IntKind.u64.wrap v10)))),(99,.l 1 (d0.map toI) e_u8),(100,.i (((d0.map toI).map e_u8).length:Int)),(101,.i v8),(159,.b o39)],[],[kO b183 [1,1,1,1,1,1,1,1,1,1,1,0,1,0,0,1,1,0,0,1,1,1,1,1,1,1,0,0],kC b183 [1,1,1,1,1,1,1,1,1,1,1,0,1,0,0,1,1,0,0,1,1,1,1,1,1,1,0,1],kC b183 [1,1,1,1,1,1,1,1,1,1,1,0,1,0,0,1,1,0,0,1,1,1,1,1,1,1,1],.inBlock 4,kC b183 [1,1,1,1,1,1,1,1,1,1,1,0,1,0,0,1,1,1],kL b183 [1,1,1,1,1,1,1,1,1,1,1,0,1,0,0],.inBlock 3,kC b183 [1,1,1,1,1,1,1,1,1,1,1,1]]⟩:=by
         clear hO
         refine ji 1 159 hF (fun hb159 hF=> ?_) (fun hb159 hF=> ?_)
         ·
          have hF:=oi hF;subst hF
          exact jr 8
         ·
          exact ja 11 (ih_F183_L1 _ _ hF)
        clear hF;rename _=some o39=>hF
        refine ji 25 155 hF (fun hb160 hF=> ?_) (fun hb160 hF=> ?_)
        ·
         have hF:=oi hF;subst hF
         exact ja 4 hR39
        ·
         have hF:=oi hF;subst hF
         exact ja 4 hR39
     obtain⟨o40,hO,hF⟩:=bnd hF
     have hR40:G183 r ⟨mkT [(1,.i 10),(8,.b false),(9,.s d0),(10,.n 1844674407370955162),(11,.n (IntKind.u64.wrap ((IntKind.u64.wrap (1*2^(min (Int.toNat (IntKind.u64.wrap 32)) IntKind.u64.bits)))-1))),(12,.b false),(13,.n v7),(15,.y y76),(99,.l 1 (d0.map toI) e_u8),(100,.i (((d0.map toI).map e_u8).length:Int)),(101,.i v8),(106,.b false)],[],[kO b183 [1,1,1,1,1,1,1,1,1,1,1,0,1,0,0,1,1,0,0,1,1,0,0,0],kC b183 [1,1,1,1,1,1,1,1,1,1,1,0,1,0,0,1,1,0,0,1,1,0,0,1],.inBlock 5,kC b183 [1,1,1,1,1,1,1,1,1,1,1,0,1,0,0,1,1,0,0,1,1,1],.inBlock 4,kC b183 [1,1,1,1,1,1,1,1,1,1,1,0,1,0,0,1,1,1],kL b183 [1,1,1,1,1,1,1,1,1,1,1,0,1,0,0],.inBlock 3,kC b183 [1,1,1,1,1,1,1,1,1,1,1,1]]⟩:=by
      clear hO
      obtain⟨o41,hO,hF⟩:=bnd hF
      have hR41:G183 r ⟨mkT [(1,.i 10),(8,.b false),(9,.s d0),(10,.n 1844674407370955162),(11,.n (IntKind.u64.wrap ((IntKind.u64.wrap (1*2^(min (Int.toNat (IntKind.u64.wrap 32)) IntKind.u64.bits)))-1))),(12,.b false),(13,.n v7),(15,.y y76),(99,.l 1 (d0.map toI) e_u8),(100,.i (((d0.map toI).map e_u8).length:Int)),(101,.i v8),(112,.b o41)],[],[kO b183 [1,1,1,1,1,1,1,1,1,1,1,0,1,0,0,1,1,0,0,1,1,0,0,1,1,0],kC b183 [1,1,1,1,1,1,1,1,1,1,1,0,1,0,0,1,1,0,0,1,1,0,0,1,1,1],.inBlock 5,kC b183 [1,1,1,1,1,1,1,1,1,1,1,0,1,0,0,1,1,0,0,1,1,1],.inBlock 4,kC b183 [1,1,1,1,1,1,1,1,1,1,1,0,1,0,0,1,1,1],kL b183 [1,1,1,1,1,1,1,1,1,1,1,0,1,0,0],.inBlock 3,kC b183 [1,1,1,1,1,1,1,1,1,1,1,1]]⟩:=by
       clear hO
       refine ji 1 112 hF (fun hb165 hF=> ?_) (fun hb165 hF=> ?_)
       ·
        exact ja 7 (hF183_A2 _ hF)
       ·
        obtain⟨o42,hO,hF⟩:=bnd hF
        have hR42:G183 r ⟨mkT [(1,.i 10),(8,.b false),(9,.s d0),(10,.n 1844674407370955162),(11,.n (IntKind.u64.wrap ((IntKind.u64.wrap (1*2^(min (Int.toNat (IntKind.u64.wrap 32)) IntKind.u64.bits)))-1))),(12,.b false),(13,.n v7),(15,.y y76),(99,.l 1 (d0.map toI) e_u8),(100,.i (((d0.map toI).map e_u8).length:Int)),(101,.i v8),(121,.b o42)],[],[kO b183 [1,1,1,1,1,1,1,1,1,1,1,0,1,0,0,1,1,0,0,1,1,0,0,1,1,1,1,0],kC b183 [1,1,1,1,1,1,1,1,1,1,1,0,1,0,0,1,1,0,0,1,1,0,0,1,1,1,1,1],.inBlock 5,kC b183 [1,1,1,1,1,1,1,1,1,1,1,0,1,0,0,1,1,0,0,1,1,1],.inBlock 4,kC b183 [1,1,1,1,1,1,1,1,1,1,1,0,1,0,0,1,1,1],kL b183 [1,1,1,1,1,1,1,1,1,1,1,0,1,0,0],.inBlock 3,kC b183 [1,1,1,1,1,1,1,1,1,1,1,1]]⟩:=by
         clear hO
         refine ji 1 121 hF (fun hb168 hF=> ?_) (fun hb168 hF=> ?_)
         ·
          obtain⟨y88,e88,hF⟩:=bnd hF
          refine jc 3 en227 (F227_ok e88) ?_
          exact ja 5 (hF183_A2 _ hF)
         ·
          have hF:=oi hF;subst hF
          exact jr 7
        clear hF;rename _=some o42=>hF
        obtain⟨y89,e89,hF⟩:=bnd hF
        refine jc 4 en227 (F227_ok e89) ?_
        refine ji 2 125 hF (fun hb169 hF=> ?_) (fun hb169 hF=> ?_)
        ·
         obtain⟨y90,e90,hF⟩:=bnd hF
         refine jc 1 en227 (F227_ok e90) ?_
         have hF:=oi hF;subst hF
         exact ja 3 hR42
        ·
         have hF:=oi hF;subst hF
         exact ja 5 hR42
      clear hF;rename _=some o41=>hF
      refine ji 7 115 hF (fun hb170 hF=> ?_) (fun hb170 hF=> ?_)
      ·
       have hF:=oi hF;subst hF
       exact ja 4 hR41
      ·
       have hF:=oi hF;subst hF
       exact ja 4 hR41
     clear hF;rename _=some o40=>hF
     refine ji 14 109 hF (fun hb171 hF=> ?_) (fun hb171 hF=> ?_)
     ·
      have hF:=oi hF;subst hF
      exact ja 3 hR40
     ·
      have hF:=oi hF;subst hF
      exact ja 3 hR40
    ·
     have hF:=oi hF;subst hF
     exact jr 20
  exact ja 5 (hF183_L1 _ _ _ hF)
def F139(fuel:Nat)(d0:List UInt8):Option (Int×Bool):=
 Option.bind (F183 fuel d0) fun y1=>
 bif !!y1.2 then
  (none)
 else
  (some (y1.1,false))
theorem F139_ok{fuel:Nat}{d0:List UInt8}{r:Int×Bool}(hF:F139 fuel d0=some r):
 CallF Tryz.prog 139 [.s d0,.i 10,.i 32] (.tup [.n r.1,.d (.ife r.2)]):=by
 unfold F139 at hF
 refine cf 26 Tryz.func139 ?_
 obtain⟨y1,e1,hF⟩:=bnd hF
 refine jc 10 en183 (F183_ok e1) ?_
 refine ji 12 18 hF (fun hb1 hF=> ?_) (fun hb1 hF=> ?_)
 ·
  cases hF
 ·
  have hF:=oi hF;subst hF
  exact jr 8
def F98_L1(fuel:Nat)(d0:List UInt8)(y1:List UInt8):Nat→Int→(List Int)→Option T_exact_Whole
 |0,_,_=>none
 |n_F98_L1+1,v2,l4=>
  bif decide (v2>0) then
   (ass (decide (0≤(bif decide ((IntKind.i64.wrap (v2-9))>0) then(IntKind.i64.wrap (v2-9)) else 0))&&decide ((bif decide ((IntKind.i64.wrap (v2-9))>0) then(IntKind.i64.wrap (v2-9)) else 0)≤v2)&&decide (v2≤y1.length))<|
   Option.bind (F139 fuel ((y1.drop (Int.toNat (bif decide ((IntKind.i64.wrap (v2-9))>0) then(IntKind.i64.wrap (v2-9)) else 0))).take (Int.toNat (v2-(bif decide ((IntKind.i64.wrap (v2-9))>0) then(IntKind.i64.wrap (v2-9)) else 0))))) fun y4=>
   Option.bind (app l4 [IntKind.u32.wrap y4.1]) fun l5=>
   (F98_L1 fuel d0 y1 n_F98_L1) (IntKind.i64.wrap (v2-9)) l5)
  else
   (Option.bind (F140 fuel (decide ((y1.length:Int)<(d0.length:Int))) l4) fun y5=>
   some y5)
def F98(fuel:Nat)(d0:List UInt8):Option T_exact_Whole:=
 Option.bind (F138 d0 [45]) fun y1=>
 F98_L1 fuel d0 y1 fuel (y1.length:Int) []
noncomputable abbrev b98:=bodyOf Tryz.f98
abbrev G98(r:T_exact_Whole):=J none Tryz.prog 44 [] (finF Tryz.prog Tryz.f98 (.agg [.b r.neg,.l 1 r.mag e_u32]))
theorem F98_ok{fuel:Nat}{d0:List UInt8}{r:T_exact_Whole}(hF:F98 fuel d0=some r):
 CallF Tryz.prog 98 [.s d0] (.agg [.b r.neg,.l 1 r.mag e_u32]):=by
 unfold F98 at hF
 refine cf 44 Tryz.func98 ?_
 obtain⟨y1,e1,hF⟩:=bnd hF
 refine jc 7 en138 (F138_ok e1) ?_
 have hF98_L1:∀(n_F98_L1:Nat) (v2:Int) (l4:List Int),F98_L1 fuel d0 y1 n_F98_L1 v2 l4=some r→G98 r ⟨mkT [(2,.ptr 2 0),(3,.s y1),(4,.ptr 4 0),(5,.i v2)],[(2,.box 98 [.b false,.esl 1]),(4,.box 98 [.b (decide ((y1.length:Int)<(d0.length:Int))),.suf 37 0 0]),(37,.buf 0 167 1 (l4.map e_u32))],[kL b98 [1,1,1,0,1,0,0],.inBlock 0,kC b98 [1,1,1,1]]⟩:=by
  clear hF;intro n_F98_L1
  induction n_F98_L1 with
  |zero=>intro v2 l4 hF;cases hF
  |succ n_F98_L1 ih_F98_L1=>
   intro v2 l4 hF
   rw[F98_L1]at hF
   refine ji 7 19 hF (fun hb5 hF=> ?_) (fun hb5 hF=> ?_)
   ·
    obtain⟨hb6,hF⟩:=assd hF
    refine jo1 11 (ck hb6) ?_
    obtain⟨y4,e6,hF⟩:=bnd hF
    refine jc 0 en139 (F139_ok e6) ?_
    obtain⟨l5,e7,hF⟩:=bnd hF
    refine jo2 12 (am (f:=e_u32) e7) ?_
    exact ja 9 (ih_F98_L1 _ _ hF)
   ·
    obtain⟨y5,e8,hF⟩:=bnd hF
    refine jc 8 en140 (F140_ok e8) ?_
    have hF:=oi hF;subst hF
    exact jr 2
 refine J_adv 22 (J_ownc (n:=1) 4 1 37 167 1 (by kernel_rfl) (by kernel_rfl) ?_)
 exact ja 0 (hF98_L1 _ _ _ hF)
def F194:Option Unit:=
 some ()
theorem F194_ok{r:Unit}(hF:F194=some r):
 CallR Tryz.prog 194 [(2000,.box 224 [.d .nilp,.esl 1])] [.ptr 2000 0] [(2000,.box 224 [.ptr 2000 0,.esl 1])] (.tup []):=by
 unfold F194 at hF
 refine cr 20 Tryz.func194 ?_
 refine J_adv 13 (J_callX (xs:=[.ptr 2000 0]) (.ptr 2000 0) (by kernel_rfl) (callX_noEscape Tryz.func239 (by kernel_rfl) (by kernel_rfl) (by kernel_rfl) rfl _) ?_)
 have hF:=oi hF;subst hF
 exact jrr 5
def F159(d0:Int):Option (Bool×List Int):=
 Option.bind (F194) fun y1=>
 Option.bind (app [] [d0]) fun l1=>
 some (false,l1)
noncomputable abbrev b159:=bodyOf Tryz.f159
theorem F159_ok{d0:Int}{r:Bool×List Int}(hF:F159 d0=some r):
 CallR Tryz.prog 159 [(2000,.box 224 [.d .nilp,.esl 1])] [.ptr 2000 0,.y d0] [(2000,.box 224 [.ptr 2000 0,.suf 2001 0 0]),(2001,.buf 0 5 1 (r.2.map e_u8))] (.d (.ife r.1)):=by
 unfold F159 at hF
 refine cr 17 Tryz.func159 ?_
 obtain⟨y1,e1,hF⟩:=bnd hF
 refine jcr 7 [(2000,2000)] en194 (F194_ok e1) ?_
 obtain⟨l1,e2,hF⟩:=bnd hF
 refine jo2 10 (am (f:=e_u8) e2) ?_
 refine ja 8 (S0:=[(4,.d (.ife false))]) (O0:=[(14,.buf 0 5 1 (l1.map e_u8)),(2000,.box 224 [.ptr 2000 0,.suf 14 0 0])]) (T0:=[kC b159 [1,1,1,1]]) ?_
 refine J_adv 0 (J_ren [(2000,2000),(14,2001)] (by kernel_rfl) (by kernel_rfl) (by kernel_rfl) (by kernel_rfl) ?_)
 have hF:=oi hF;subst hF
 exact jrr 0
def F110(d0:Int):Option (List UInt8):=itoaF d0
theorem F110_ok{d0:Int}{r:List UInt8}(hF:F110 d0=some r):CallF Tryz.prog 110 [.d (.int .i64 d0)] (.d (.str r)):=itoa_callF (gn:=3) (by kernel_rfl) (by kernel_rfl) Tryz.strconv_Itoa hF
def F194a(d0:List Int):Option Unit:=
 some ()
theorem F194a_ok{d0:List Int}{r:Unit}(hF:F194a d0=some r):
 CallR Tryz.prog 194 [(2000,.box 224 [.ptr 2000 0,.suf 2001 0 0]),(2001,.buf 0 5 1 (d0.map e_u8))] [.ptr 2000 0] [(2000,.box 224 [.ptr 2000 0,.suf 2001 0 0]),(2001,.buf 0 5 1 (d0.map e_u8))] (.tup []):=by
 unfold F194a at hF
 refine cr 20 Tryz.func194 ?_
 have hF:=oi hF;subst hF
 exact jrr 20
def F160(d0:List UInt8)(d1:List Int):Option (Int×Bool×List Int):=
 Option.bind (F194a d1) fun y1=>
 Option.bind (app d1 (d0.map toI)) fun l1=>
 some ((d0.length:Int),false,l1)
theorem F160_ok{d0:List UInt8}{d1:List Int}{r:Int×Bool×List Int}(hF:F160 d0 d1=some r):
 CallR Tryz.prog 160 [(2000,.box 224 [.ptr 2000 0,.suf 2001 0 0]),(2001,.buf 0 5 1 (d1.map e_u8))] [.ptr 2000 0,.s d0] [(2000,.box 224 [.ptr 2000 0,.suf 2001 1 0]),(2001,.buf 1 5 1 (r.2.2.map e_u8))] (.tup [.i r.1,.d (.ife r.2.1)]):=by
 unfold F160 at hF
 refine cr 19 Tryz.func160 ?_
 obtain⟨y1,e1,hF⟩:=bnd hF
 refine jcr 8 [(2000,2000),(2001,2001)] en194 (F194a_ok e1) ?_
 obtain⟨l1,e2,hF⟩:=bnd hF
 refine J_adv 9 (J_opt2 (o:=app2 ((d1.map e_u8).drop 0) (d0.map byteD)) (l1.map e_u8) (by kernel_rfl) (ams (f:=e_u8) (fun _=>rfl) e2) ?_)
 have hF:=oi hF;subst hF
 exact jrr 11
def F161(d0:List Int):Option (List UInt8):=
 ass (decide (0<(d0.map e_u8).length))<|
 Option.bind (ustr d0 0 ((d0.map e_u8).length:Int)) fun x1=>
 some x1
theorem F161_ok{d0:List Int}{r:List UInt8}(hF:F161 d0=some r):
 CallR Tryz.prog 161 [(2000,.box 224 [.ptr 2000 0,.suf 2001 0 0]),(2001,.buf 0 5 1 (d0.map e_u8))] [.ptr 2000 0] [(2000,.box 224 [.ptr 2000 0,.suf 2001 0 0]),(2001,.fzs 0 1 (d0.map e_u8))] (.s r):=by
 unfold F161 at hF
 refine cr 14 Tryz.func161 ?_
 refine jd 5 ?_
 obtain⟨hb1,hF⟩:=assd hF
 refine do1 4 (ck hb1) ?_
 obtain⟨x1,e1,hF⟩:=bnd hF
 refine JD_adv 5 (JD_opt1 (o:=usd (d0.map e_u8) 0 ((d0.map e_u8).length:Int)) [.str x1] (by kernel_rfl) (by kernel_rfl) (usm (f:=e_u8) (fun _=>rfl) e1) ?_)
 refine je 1 ?_
 have hF:=oi hF;subst hF
 exact jrr 0
def F160a(d0:List UInt8):Option (Int×Bool×List Int):=
 Option.bind (F194) fun y1=>
 Option.bind (app [] (d0.map toI)) fun l1=>
 some ((d0.length:Int),false,l1)
noncomputable abbrev b160:=bodyOf Tryz.f160
theorem F160a_ok{d0:List UInt8}{r:Int×Bool×List Int}(hF:F160a d0=some r):
 CallR Tryz.prog 160 [(2000,.box 224 [.d .nilp,.esl 1])] [.ptr 2000 0,.s d0] [(2000,.box 224 [.ptr 2000 0,.suf 2001 0 0]),(2001,.buf 0 5 1 (r.2.2.map e_u8))] (.tup [.i r.1,.d (.ife r.2.1)]):=by
 unfold F160a at hF
 refine cr 19 Tryz.func160 ?_
 obtain⟨y1,e1,hF⟩:=bnd hF
 refine jcr 8 [(2000,2000)] en194 (F194_ok e1) ?_
 obtain⟨l1,e2,hF⟩:=bnd hF
 refine J_adv 9 (J_opt2 (o:=app2 [] (d0.map byteD)) (l1.map e_u8) (by kernel_rfl) (ams (f:=e_u8) (fun _=>rfl) e2) ?_)
 refine ja 11 (S0:=[(4,.i (d0.length:Int)),(5,.d (.ife false))]) (O0:=[(14,.buf 0 5 1 (l1.map e_u8)),(2000,.box 224 [.ptr 2000 0,.suf 14 0 0])]) (T0:=[kC b160 [1,1,1,1]]) ?_
 refine J_adv 0 (J_ren [(2000,2000),(14,2001)] (by kernel_rfl) (by kernel_rfl) (by kernel_rfl) (by kernel_rfl) ?_)
 have hF:=oi hF;subst hF
 exact jrr 0
def F127_L1(d0:T_exact_Whole):Nat→Int→(List Int)→Option (List UInt8)
 |0,_,_=>none
 |n_F127_L1+1,v2,l2=>
  bif decide (v2≥0) then
   (Option.bind (geti d0.mag v2) fun y12=>
   Option.bind (F110 (IntKind.i64.wrap y12)) fun y13=>
   bif decide (v2<(IntKind.i64.wrap (((d0.mag.map e_u32).length:Int)-1))) then
    (ass (decide (0≤(y13.length:Int))&&decide ((y13.length:Int)≤([48,48,48,48,48,48,48,48,48].length:Int))&&decide (([48,48,48,48,48,48,48,48,48].length:Int)≤[48,48,48,48,48,48,48,48,48].length))<|
    Option.bind (F160 (([48,48,48,48,48,48,48,48,48].drop (Int.toNat (y13.length:Int))).take (Int.toNat (([48,48,48,48,48,48,48,48,48].length:Int)-(y13.length:Int)))) l2) fun y14=>
    Option.bind (F160 y13 y14.2.2) fun y15=>
    (F127_L1 d0 n_F127_L1) (IntKind.i64.wrap (v2-1)) y15.2.2)
   else
    (Option.bind (F160 y13 l2) fun y16=>
    (F127_L1 d0 n_F127_L1) (IntKind.i64.wrap (v2-1)) y16.2.2))
  else
   (Option.bind (F161 l2) fun y17=>
   some y17)
def F127_L2(d0:T_exact_Whole):Nat→Int→(List Int)→Option (List UInt8)
 |0,_,_=>none
 |n_F127_L2+1,v5,l5=>
  bif decide (v5≥0) then
   (Option.bind (geti d0.mag v5) fun y39=>
   Option.bind (F110 (IntKind.i64.wrap y39)) fun y40=>
   bif decide (v5<(IntKind.i64.wrap (((d0.mag.map e_u32).length:Int)-1))) then
    (ass (decide (0≤(y40.length:Int))&&decide ((y40.length:Int)≤([48,48,48,48,48,48,48,48,48].length:Int))&&decide (([48,48,48,48,48,48,48,48,48].length:Int)≤[48,48,48,48,48,48,48,48,48].length))<|
    Option.bind (F160 (([48,48,48,48,48,48,48,48,48].drop (Int.toNat (y40.length:Int))).take (Int.toNat (([48,48,48,48,48,48,48,48,48].length:Int)-(y40.length:Int)))) l5) fun y41=>
    Option.bind (F160 y40 y41.2.2) fun y42=>
    (F127_L2 d0 n_F127_L2) (IntKind.i64.wrap (v5-1)) y42.2.2)
   else
    (Option.bind (F160 y40 l5) fun y43=>
    (F127_L2 d0 n_F127_L2) (IntKind.i64.wrap (v5-1)) y43.2.2))
  else
   (Option.bind (F161 l5) fun y44=>
   some y44)
def F127_L3(d0:T_exact_Whole):Nat→Int→(List Int)→Option (List UInt8)
 |0,_,_=>none
 |n_F127_L3+1,v7,l7=>
  bif decide (v7≥0) then
   (Option.bind (geti d0.mag v7) fun y56=>
   Option.bind (F110 (IntKind.i64.wrap y56)) fun y57=>
   bif decide (v7<(IntKind.i64.wrap (((d0.mag.map e_u32).length:Int)-1))) then
    (ass (decide (0≤(y57.length:Int))&&decide ((y57.length:Int)≤([48,48,48,48,48,48,48,48,48].length:Int))&&decide (([48,48,48,48,48,48,48,48,48].length:Int)≤[48,48,48,48,48,48,48,48,48].length))<|
    Option.bind (F160 (([48,48,48,48,48,48,48,48,48].drop (Int.toNat (y57.length:Int))).take (Int.toNat (([48,48,48,48,48,48,48,48,48].length:Int)-(y57.length:Int)))) l7) fun y58=>
    Option.bind (F160 y57 y58.2.2) fun y59=>
    (F127_L3 d0 n_F127_L3) (IntKind.i64.wrap (v7-1)) y59.2.2)
   else
    (Option.bind (F160 y57 l7) fun y60=>
    (F127_L3 d0 n_F127_L3) (IntKind.i64.wrap (v7-1)) y60.2.2))
  else
   (Option.bind (F161 l7) fun y61=>
   some y61)
def F127(fuel:Nat)(d0:T_exact_Whole):Option (List UInt8):=
 bif ((d0.mag.map e_u32).length:Int)==0 then
  (some [48])
 else
  (bif d0.neg then
   (Option.bind (F159 45) fun y1=>
   F127_L1 d0 fuel (IntKind.i64.wrap (((d0.mag.map e_u32).length:Int)-1)) y1.2)
  else
   (bif decide ((IntKind.i64.wrap (((d0.mag.map e_u32).length:Int)-1))≥0) then
    (Option.bind (geti d0.mag (IntKind.i64.wrap (((d0.mag.map e_u32).length:Int)-1))) fun y25=>
    Option.bind (F110 (IntKind.i64.wrap y25)) fun y26=>
    bif decide ((IntKind.i64.wrap (((d0.mag.map e_u32).length:Int)-1))<(IntKind.i64.wrap (((d0.mag.map e_u32).length:Int)-1))) then
     (ass (decide (0≤(y26.length:Int))&&decide ((y26.length:Int)≤([48,48,48,48,48,48,48,48,48].length:Int))&&decide (([48,48,48,48,48,48,48,48,48].length:Int)≤[48,48,48,48,48,48,48,48,48].length))<|
     Option.bind (F160a (([48,48,48,48,48,48,48,48,48].drop (Int.toNat (y26.length:Int))).take (Int.toNat (([48,48,48,48,48,48,48,48,48].length:Int)-(y26.length:Int))))) fun y27=>
     Option.bind (F160 y26 y27.2.2) fun y28=>
     F127_L2 d0 fuel (IntKind.i64.wrap ((IntKind.i64.wrap (((d0.mag.map e_u32).length:Int)-1))-1)) y28.2.2)
    else
     (Option.bind (F160a y26) fun y45=>
     F127_L3 d0 fuel (IntKind.i64.wrap ((IntKind.i64.wrap (((d0.mag.map e_u32).length:Int)-1))-1)) y45.2.2))
   else
    (none)))
noncomputable abbrev b127:=bodyOf Tryz.f127
abbrev G127(r:List UInt8):=J none Tryz.prog 41 [] (finF Tryz.prog Tryz.f127 (.s r))
theorem F127_ok{fuel:Nat}{d0:T_exact_Whole}{r:List UInt8}(hF:F127 fuel d0=some r):
 CallF Tryz.prog 127 [.agg [.b d0.neg,.l 1 d0.mag e_u32]] (.s r):=by
 unfold F127 at hF
 refine cf 41 Tryz.func127 ?_
 refine ji 13 9 hF (fun hb1 hF=> ?_) (fun hb1 hF=> ?_)
 ·
  have hF:=oi hF;subst hF
  exact jr 5
 ·
  refine ji 12 11 hF (fun hb2 hF=> ?_) (fun hb2 hF=> ?_)
  ·
   obtain⟨y1,e1,hF⟩:=bnd hF
   refine jcr 2 [(3,2000),(12,2001)] en159 (F159_ok e1) ?_
   have hF127_L1:∀(n_F127_L1:Nat) (v2:Int) (l2:List Int),F127_L1 d0 n_F127_L1 v2 l2=some r→G127 r ⟨mkT [(1,.ptr 1 0),(3,.ptr 3 0),(4,.i v2)],[(1,.box 98 [.b d0.neg,.l 1 d0.mag e_u32]),(3,.box 224 [.ptr 3 0,.suf 12 0 0]),(12,.buf 0 5 1 (l2.map e_u8))],[kL b127 [1,1,1,1,0,1,0,0],.inBlock 0,kC b127 [1,1,1,1,1]]⟩:=by
    clear hF;intro n_F127_L1
    induction n_F127_L1 with
    |zero=>intro v2 l2 hF;cases hF
    |succ n_F127_L1 ih_F127_L1=>
     intro v2 l2 hF
     rw[F127_L1]at hF
     refine ji 7 18 hF (fun hb9 hF=> ?_) (fun hb9 hF=> ?_)
     ·
      obtain⟨y12,e12,hF⟩:=bnd hF
      refine jo1 9 (gm (f:=e_u32) e12) ?_
      obtain⟨y13,e13,hF⟩:=bnd hF
      refine jc 2 en110 (F110_ok e13) ?_
      refine ji 12 33 hF (fun hb10 hF=> ?_) (fun hb10 hF=> ?_)
      ·
       obtain⟨hb11,hF⟩:=assd hF
       refine jo1 4 (ck hb11) ?_
       obtain⟨y14,e14,hF⟩:=bnd hF
       refine jcr 0 [(3,2000),(12,2001)] en160 (F160_ok e14) ?_
       refine ja 1 (S0:=[(1,.ptr 1 0),(3,.ptr 3 0),(4,.i v2),(5,.s y13)]) (O0:=[(1,.box 98 [.b d0.neg,.l 1 d0.mag e_u32]),(3,.box 224 [.ptr 3 0,.suf 12 0 0]),(12,.buf 0 5 1 (y14.2.2.map e_u8))]) (T0:=[kC b127 [1,1,1,1,0,1,0,0,1,0,0,1,1],.inBlock 1,kC b127 [1,1,1,1,0,1,0,0,1,1],kL b127 [1,1,1,1,0,1,0,0],.inBlock 0,kC b127 [1,1,1,1,1]]) ?_
       obtain⟨y15,e15,hF⟩:=bnd hF
       refine jcr 2 [(3,2000),(12,2001)] en160 (F160_ok e15) ?_
       exact ja 7 (ih_F127_L1 _ _ hF)
      ·
       obtain⟨y16,e16,hF⟩:=bnd hF
       refine jcr 4 [(3,2000),(12,2001)] en160 (F160_ok e16) ?_
       exact ja 7 (ih_F127_L1 _ _ hF)
     ·
      obtain⟨y17,e17,hF⟩:=bnd hF
      refine jcr 4 [(3,2000),(12,2001)] en161 (F161_ok e17) ?_
      have hF:=oi hF;subst hF
      exact jr 2
   exact ja 12 (hF127_L1 _ _ _ hF)
  ·
   refine ji 20 18 hF (fun hb18 hF=> ?_) (fun hb18 hF=> ?_)
   ·
    obtain⟨y25,e25,hF⟩:=bnd hF
    refine jo1 9 (gm (f:=e_u32) e25) ?_
    obtain⟨y26,e26,hF⟩:=bnd hF
    refine jc 2 en110 (F110_ok e26) ?_
    refine ji 12 33 hF (fun hb19 hF=> ?_) (fun hb19 hF=> ?_)
    ·
     obtain⟨hb20,hF⟩:=assd hF
     refine jo1 4 (ck hb20) ?_
     obtain⟨y27,e27,hF⟩:=bnd hF
     refine jcr 0 [(3,2000),(37,2001)] en160 (F160a_ok e27) ?_
     obtain⟨y28,e28,hF⟩:=bnd hF
     refine jcr 3 [(3,2000),(37,2001)] en160 (F160_ok e28) ?_
     have hF127_L2:∀(n_F127_L2:Nat) (v5:Int) (l5:List Int),F127_L2 d0 n_F127_L2 v5 l5=some r→G127 r ⟨mkT [(1,.ptr 1 0),(3,.ptr 3 0),(4,.i v5)],[(1,.box 98 [.b d0.neg,.l 1 d0.mag e_u32]),(3,.box 224 [.ptr 3 0,.suf 37 0 0]),(37,.buf 0 5 1 (l5.map e_u8))],[kL b127 [1,1,1,1,0,1,0,0],.inBlock 0,kC b127 [1,1,1,1,1]]⟩:=by
      clear hF;intro n_F127_L2
      induction n_F127_L2 with
      |zero=>intro v5 l5 hF;cases hF
      |succ n_F127_L2 ih_F127_L2=>
       intro v5 l5 hF
       rw[F127_L2]at hF
       refine ji 7 18 hF (fun hb27 hF=> ?_) (fun hb27 hF=> ?_)
       ·
        obtain⟨y39,e39,hF⟩:=bnd hF
        refine jo1 9 (gm (f:=e_u32) e39) ?_
        obtain⟨y40,e40,hF⟩:=bnd hF
        refine jc 2 en110 (F110_ok e40) ?_
        refine ji 12 33 hF (fun hb28 hF=> ?_) (fun hb28 hF=> ?_)
        ·
         obtain⟨hb29,hF⟩:=assd hF
         refine jo1 4 (ck hb29) ?_
         obtain⟨y41,e41,hF⟩:=bnd hF
         refine jcr 0 [(3,2000),(37,2001)] en160 (F160_ok e41) ?_
         refine ja 1 (S0:=[(1,.ptr 1 0),(3,.ptr 3 0),(4,.i v5),(5,.s y40)]) (O0:=[(1,.box 98 [.b d0.neg,.l 1 d0.mag e_u32]),(3,.box 224 [.ptr 3 0,.suf 37 0 0]),(37,.buf 0 5 1 (y41.2.2.map e_u8))]) (T0:=[kC b127 [1,1,1,1,0,1,0,0,1,0,0,1,1],.inBlock 1,kC b127 [1,1,1,1,0,1,0,0,1,1],kL b127 [1,1,1,1,0,1,0,0],.inBlock 0,kC b127 [1,1,1,1,1]]) ?_
         obtain⟨y42,e42,hF⟩:=bnd hF
         refine jcr 2 [(3,2000),(37,2001)] en160 (F160_ok e42) ?_
         exact ja 7 (ih_F127_L2 _ _ hF)
        ·
         obtain⟨y43,e43,hF⟩:=bnd hF
         refine jcr 4 [(3,2000),(37,2001)] en160 (F160_ok e43) ?_
         exact ja 7 (ih_F127_L2 _ _ hF)
       ·
        obtain⟨y44,e44,hF⟩:=bnd hF
        refine jcr 4 [(3,2000),(37,2001)] en161 (F161_ok e44) ?_
        have hF:=oi hF;subst hF
        exact jr 2
     exact ja 7 (hF127_L2 _ _ _ hF)
    ·
     obtain⟨y45,e45,hF⟩:=bnd hF
     refine jcr 4 [(3,2000),(39,2001)] en160 (F160a_ok e45) ?_
     have hF127_L3:∀(n_F127_L3:Nat) (v7:Int) (l7:List Int),F127_L3 d0 n_F127_L3 v7 l7=some r→G127 r ⟨mkT [(1,.ptr 1 0),(3,.ptr 3 0),(4,.i v7)],[(1,.box 98 [.b d0.neg,.l 1 d0.mag e_u32]),(3,.box 224 [.ptr 3 0,.suf 39 0 0]),(39,.buf 0 5 1 (l7.map e_u8))],[kL b127 [1,1,1,1,0,1,0,0],.inBlock 0,kC b127 [1,1,1,1,1]]⟩:=by
      clear hF;intro n_F127_L3
      induction n_F127_L3 with
      |zero=>intro v7 l7 hF;cases hF
      |succ n_F127_L3 ih_F127_L3=>
       intro v7 l7 hF
       rw[F127_L3]at hF
       refine ji 7 18 hF (fun hb36 hF=> ?_) (fun hb36 hF=> ?_)
       ·
        obtain⟨y56,e56,hF⟩:=bnd hF
        refine jo1 9 (gm (f:=e_u32) e56) ?_
        obtain⟨y57,e57,hF⟩:=bnd hF
        refine jc 2 en110 (F110_ok e57) ?_
        refine ji 12 33 hF (fun hb37 hF=> ?_) (fun hb37 hF=> ?_)
        ·
         obtain⟨hb38,hF⟩:=assd hF
         refine jo1 4 (ck hb38) ?_
         obtain⟨y58,e58,hF⟩:=bnd hF
         refine jcr 0 [(3,2000),(39,2001)] en160 (F160_ok e58) ?_
         refine ja 1 (S0:=[(1,.ptr 1 0),(3,.ptr 3 0),(4,.i v7),(5,.s y57)]) (O0:=[(1,.box 98 [.b d0.neg,.l 1 d0.mag e_u32]),(3,.box 224 [.ptr 3 0,.suf 39 0 0]),(39,.buf 0 5 1 (y58.2.2.map e_u8))]) (T0:=[kC b127 [1,1,1,1,0,1,0,0,1,0,0,1,1],.inBlock 1,kC b127 [1,1,1,1,0,1,0,0,1,1],kL b127 [1,1,1,1,0,1,0,0],.inBlock 0,kC b127 [1,1,1,1,1]]) ?_
         obtain⟨y59,e59,hF⟩:=bnd hF
         refine jcr 2 [(3,2000),(39,2001)] en160 (F160_ok e59) ?_
         exact ja 7 (ih_F127_L3 _ _ hF)
        ·
         obtain⟨y60,e60,hF⟩:=bnd hF
         refine jcr 4 [(3,2000),(39,2001)] en160 (F160_ok e60) ?_
         exact ja 7 (ih_F127_L3 _ _ hF)
       ·
        obtain⟨y61,e61,hF⟩:=bnd hF
        refine jcr 4 [(3,2000),(39,2001)] en161 (F161_ok e61) ?_
        have hF:=oi hF;subst hF
        exact jr 2
     exact ja 7 (hF127_L3 _ _ _ hF)
   ·
    cases hF
def F180(d0:T_exact_Whole):Option Int:=
 bif ((d0.mag.map e_u32).length:Int)==0 then
  (some 1)
 else
  (Option.bind (geti d0.mag (IntKind.i64.wrap (((d0.mag.map e_u32).length:Int)-1))) fun y1=>
  Option.bind (F110 (IntKind.i64.wrap y1)) fun y2=>
  some (IntKind.i64.wrap ((IntKind.i64.wrap (9*(IntKind.i64.wrap (((d0.mag.map e_u32).length:Int)-1))))+(y2.length:Int))))
theorem F180_ok{d0:T_exact_Whole}{r:Int}(hF:F180 d0=some r):
 CallF Tryz.prog 180 [.agg [.b d0.neg,.l 1 d0.mag e_u32]] (.i r):=by
 unfold F180 at hF
 refine cf 22 Tryz.func180 ?_
 refine ji 18 8 hF (fun hb1 hF=> ?_) (fun hb1 hF=> ?_)
 ·
  have hF:=oi hF;subst hF
  exact jr 5
 ·
  obtain⟨y1,e1,hF⟩:=bnd hF
  refine jo1 11 (gm (f:=e_u32) e1) ?_
  obtain⟨y2,e2,hF⟩:=bnd hF
  refine jc 2 en110 (F110_ok e2) ?_
  have hF:=oi hF;subst hF
  exact jr 4
structure T_exact_Num where
 n_:T_exact_Whole
 d:T_exact_Whole
 deriving DecidableEq
def F97(d0:List UInt8)(d1:List UInt8):Option (List UInt8×List UInt8×Bool):=cutF d0 d1
theorem F97_ok{d0:List UInt8}{d1:List UInt8}{r:List UInt8×List UInt8×Bool}(hF:F97 d0 d1=some r):CallF Tryz.prog 97 [.d (.str d0),.d (.str d1)] (.tup [.d (.str r.1),.d (.str r.2.1),.d (.bool r.2.2)]):=cut_callF (List.Mem.head _) Tryz.strings_Cut hF
def F48(fuel:Nat)(d0:List UInt8):Option T_exact_Num:=
 Option.bind (F97 d0 [47]) fun y1=>
 bif !y1.2.2 then
  (Option.bind (F98 fuel y1.1) fun y2=>
  Option.bind (F99 fuel 1) fun y3=>
  some (⟨y2,y3⟩:T_exact_Num))
 else
  (Option.bind (F98 fuel y1.1) fun y4=>
  Option.bind (F98 fuel y1.2.1) fun y5=>
  some (⟨y4,y5⟩:T_exact_Num))
theorem F48_ok{fuel:Nat}{d0:List UInt8}{r:T_exact_Num}(hF:F48 fuel d0=some r):
 CallF Tryz.prog 48 [.s d0] (.agg [.b r.n_.neg,.l 1 r.n_.mag e_u32,.b r.d.neg,.l 1 r.d.mag e_u32]):=by
 unfold F48 at hF
 refine cf 23 Tryz.func48 ?_
 obtain⟨y1,e1,hF⟩:=bnd hF
 refine jc 7 en97 (F97_ok e1) ?_
 refine ji 14 13 hF (fun hb1 hF=> ?_) (fun hb1 hF=> ?_)
 ·
  obtain⟨y2,e2,hF⟩:=bnd hF
  refine jc 4 en98 (F98_ok e2) ?_
  obtain⟨y3,e3,hF⟩:=bnd hF
  refine jc 0 en99 (F99_ok e3) ?_
  have hF:=oi hF;subst hF
  exact jr 3
 ·
  obtain⟨y4,e4,hF⟩:=bnd hF
  refine jc 5 en98 (F98_ok e4) ?_
  obtain⟨y5,e5,hF⟩:=bnd hF
  refine jc 1 en98 (F98_ok e5) ?_
  have hF:=oi hF;subst hF
  exact jr 3
def F50(fuel:Nat)(d0:T_exact_Num)(d1:T_exact_Num):Option Int:=
 Option.bind (F101 fuel d0.n_ d1.d) fun y1=>
 Option.bind (F101 fuel d1.n_ d0.d) fun y2=>
 Option.bind (F102 fuel y1 y2) fun y3=>
 some y3
theorem F50_ok{fuel:Nat}{d0:T_exact_Num}{d1:T_exact_Num}{r:Int}(hF:F50 fuel d0 d1=some r):
 CallF Tryz.prog 50 [.agg [.b d0.n_.neg,.l 1 d0.n_.mag e_u32,.b d0.d.neg,.l 1 d0.d.mag e_u32],.agg [.b d1.n_.neg,.l 1 d1.n_.mag e_u32,.b d1.d.neg,.l 1 d1.d.mag e_u32]] (.i r):=by
 unfold F50 at hF
 refine cf 16 Tryz.func50 ?_
 refine jd 7 ?_
 obtain⟨y1,e1,hF⟩:=bnd hF
 refine dc 4 en101 (F101_ok e1) ?_
 obtain⟨y2,e2,hF⟩:=bnd hF
 refine dc 4 en101 (F101_ok e2) ?_
 obtain⟨y3,e3,hF⟩:=bnd hF
 refine dc 0 en102 (F102_ok e3) ?_
 refine je 1 ?_
 have hF:=oi hF;subst hF
 exact jr 0
def F103(fuel:Nat)(d0:T_exact_Whole)(d1:T_exact_Whole):Option T_exact_Num:=
 Option.bind (F135 fuel d0 d1) fun y1=>
 bif d1.neg then
  (Option.bind (F143 fuel y1) fun y2=>
  Option.bind (
   bif decide (((y2.mag.map e_u32).length:Int)>1) then
    (some true)
   else
    (bif y2.neg then
     (some true)
    else
     (Option.bind (geti y2.mag 0) fun y7=>
     some (y7 !=1)))) fun o1=>
  bif o1 then
   (Option.bind (F144 fuel d0 y2) fun y5=>
   Option.bind (F144 fuel d1 y2) fun y6=>
   some (⟨y5.1,y6.1⟩:T_exact_Num))
  else
   (some (⟨d0,d1⟩:T_exact_Num)))
 else
  (Option.bind (
   bif decide (((y1.mag.map e_u32).length:Int)>1) then
    (some true)
   else
    (bif y1.neg then
     (some true)
    else
     (Option.bind (geti y1.mag 0) fun y12=>
     some (y12 !=1)))) fun o2=>
  bif o2 then
   (Option.bind (F144 fuel d0 y1) fun y10=>
   Option.bind (F144 fuel d1 y1) fun y11=>
   some (⟨y10.1,y11.1⟩:T_exact_Num))
  else
   (some (⟨d0,d1⟩:T_exact_Num)))
noncomputable abbrev b103:=bodyOf Tryz.f103
abbrev G103(r:T_exact_Num):=J none Tryz.prog 43 [] (finF Tryz.prog Tryz.f103 (.agg [.b r.n_.neg,.l 1 r.n_.mag e_u32,.b r.d.neg,.l 1 r.d.mag e_u32]))
theorem F103_ok{fuel:Nat}{d0:T_exact_Whole}{d1:T_exact_Whole}{r:T_exact_Num}(hF:F103 fuel d0 d1=some r):
 CallF Tryz.prog 103 [.agg [.b d0.neg,.l 1 d0.mag e_u32],.agg [.b d1.neg,.l 1 d1.mag e_u32]] (.agg [.b r.n_.neg,.l 1 r.n_.mag e_u32,.b r.d.neg,.l 1 r.d.mag e_u32]):=by
 unfold F103 at hF
 refine cf 43 Tryz.func103 ?_
 obtain⟨y1,e1,hF⟩:=bnd hF
 refine jc 10 en135 (F135_ok e1) ?_
 refine ji 9 10 hF (fun hb1 hF=> ?_) (fun hb1 hF=> ?_)
 ·
  obtain⟨y2,e2,hF⟩:=bnd hF
  refine jc 3 en143 (F143_ok e2) ?_
  obtain⟨o1,hO,hF⟩:=bnd hF
  have hR1:G103 r ⟨mkT [(2,.ptr 2 0),(3,.ptr 3 0),(4,.ptr 4 0),(5,.ptr 5 0),(27,.b o1)],[(2,.box 98 [.b d0.neg,.l 1 d0.mag e_u32]),(3,.box 98 [.b d1.neg,.l 1 d1.mag e_u32]),(4,.box 100 [.b false,.esl 1,.b false,.esl 1]),(5,.box 98 [.b y2.neg,.l 1 y2.mag e_u32])],[kO b103 [1,1,1,0,0],kC b103 [1,1,1,0,1],kC b103 [1,1,1,1]]⟩:=by
   clear hO
   refine ji 1 27 hF (fun hb6 hF=> ?_) (fun hb6 hF=> ?_)
   ·
    obtain⟨y5,e5,hF⟩:=bnd hF
    refine jc 5 en144 (F144_ok e5) ?_
    obtain⟨y6,e6,hF⟩:=bnd hF
    refine jc 8 en144 (F144_ok e6) ?_
    have hF:=oi hF;subst hF
    exact jr 12
   ·
    have hF:=oi hF;subst hF
    exact jr 9
  clear hF;rename _=some o1=>hF
  refine ji 10 17 hF (fun hb7 hF=> ?_) (fun hb7 hF=> ?_)
  ·
   have hF:=oi hF;subst hF
   exact ja 10 hR1
  ·
   refine ji 4 21 hF (fun hb8 hF=> ?_) (fun hb8 hF=> ?_)
   ·
    have hF:=oi hF;subst hF
    exact ja 6 hR1
   ·
    obtain⟨y7,e7,hF⟩:=bnd hF
    refine jo1 2 (gm (f:=e_u32) e7) ?_
    have hF:=oi hF;subst hF
    exact ja 3 hR1
 ·
  obtain⟨o2,hO,hF⟩:=bnd hF
  have hR2:G103 r ⟨mkT [(2,.ptr 2 0),(3,.ptr 3 0),(4,.ptr 4 0),(5,.ptr 5 0),(27,.b o2)],[(2,.box 98 [.b d0.neg,.l 1 d0.mag e_u32]),(3,.box 98 [.b d1.neg,.l 1 d1.mag e_u32]),(4,.box 100 [.b false,.esl 1,.b false,.esl 1]),(5,.box 98 [.b y1.neg,.l 1 y1.mag e_u32])],[kO b103 [1,1,1,0,0],kC b103 [1,1,1,0,1],kC b103 [1,1,1,1]]⟩:=by
   clear hO
   refine ji 1 27 hF (fun hb13 hF=> ?_) (fun hb13 hF=> ?_)
   ·
    obtain⟨y10,e10,hF⟩:=bnd hF
    refine jc 5 en144 (F144_ok e10) ?_
    obtain⟨y11,e11,hF⟩:=bnd hF
    refine jc 8 en144 (F144_ok e11) ?_
    have hF:=oi hF;subst hF
    exact jr 12
   ·
    have hF:=oi hF;subst hF
    exact jr 9
  clear hF;rename _=some o2=>hF
  refine ji 10 17 hF (fun hb14 hF=> ?_) (fun hb14 hF=> ?_)
  ·
   have hF:=oi hF;subst hF
   exact ja 10 hR2
  ·
   refine ji 4 21 hF (fun hb15 hF=> ?_) (fun hb15 hF=> ?_)
   ·
    have hF:=oi hF;subst hF
    exact ja 6 hR2
   ·
    obtain⟨y12,e12,hF⟩:=bnd hF
    refine jo1 2 (gm (f:=e_u32) e12) ?_
    have hF:=oi hF;subst hF
    exact ja 3 hR2
def F51(fuel:Nat)(d0:Int)(d1:Int):Option T_exact_Num:=
 Option.bind (F99 fuel d0) fun y1=>
 Option.bind (F99 fuel d1) fun y2=>
 Option.bind (F103 fuel y1 y2) fun y3=>
 some y3
theorem F51_ok{fuel:Nat}{d0:Int}{d1:Int}{r:T_exact_Num}(hF:F51 fuel d0 d1=some r):
 CallF Tryz.prog 51 [.i d0,.i d1] (.agg [.b r.n_.neg,.l 1 r.n_.mag e_u32,.b r.d.neg,.l 1 r.d.mag e_u32]):=by
 unfold F51 at hF
 refine cf 10 Tryz.func51 ?_
 obtain⟨y1,e1,hF⟩:=bnd hF
 refine jc 7 en99 (F99_ok e1) ?_
 obtain⟨y2,e2,hF⟩:=bnd hF
 refine jc 1 en99 (F99_ok e2) ?_
 obtain⟨y3,e3,hF⟩:=bnd hF
 refine jc 0 en103 (F103_ok e3) ?_
 have hF:=oi hF;subst hF
 exact jr 2
def F54(fuel:Nat)(d0:T_exact_Num)(d1:T_exact_Num):Option T_exact_Num:=
 Option.bind (F101 fuel d0.n_ d1.d) fun y1=>
 Option.bind (F101 fuel d1.n_ d0.d) fun y2=>
 Option.bind (F104 fuel y1 y2) fun y3=>
 Option.bind (F101 fuel d0.d d1.d) fun y4=>
 Option.bind (F103 fuel y3 y4) fun y5=>
 some y5
theorem F54_ok{fuel:Nat}{d0:T_exact_Num}{d1:T_exact_Num}{r:T_exact_Num}(hF:F54 fuel d0 d1=some r):
 CallF Tryz.prog 54 [.agg [.b d0.n_.neg,.l 1 d0.n_.mag e_u32,.b d0.d.neg,.l 1 d0.d.mag e_u32],.agg [.b d1.n_.neg,.l 1 d1.n_.mag e_u32,.b d1.d.neg,.l 1 d1.d.mag e_u32]] (.agg [.b r.n_.neg,.l 1 r.n_.mag e_u32,.b r.d.neg,.l 1 r.d.mag e_u32]):=by
 unfold F54 at hF
 refine cf 22 Tryz.func54 ?_
 refine jd 7 ?_
 obtain⟨y1,e1,hF⟩:=bnd hF
 refine dc 4 en101 (F101_ok e1) ?_
 obtain⟨y2,e2,hF⟩:=bnd hF
 refine dc 4 en101 (F101_ok e2) ?_
 obtain⟨y3,e3,hF⟩:=bnd hF
 refine dc 0 en104 (F104_ok e3) ?_
 obtain⟨y4,e4,hF⟩:=bnd hF
 refine dc 4 en101 (F101_ok e4) ?_
 obtain⟨y5,e5,hF⟩:=bnd hF
 refine dc 0 en103 (F103_ok e5) ?_
 refine je 1 ?_
 have hF:=oi hF;subst hF
 exact jr 0
def F86(fuel:Nat)(d0:T_exact_Num)(d1:T_exact_Num):Option T_exact_Num:=
 Option.bind (F101 fuel d0.n_ d1.n_) fun y1=>
 Option.bind (F101 fuel d0.d d1.d) fun y2=>
 Option.bind (F103 fuel y1 y2) fun y3=>
 some y3
theorem F86_ok{fuel:Nat}{d0:T_exact_Num}{d1:T_exact_Num}{r:T_exact_Num}(hF:F86 fuel d0 d1=some r):
 CallF Tryz.prog 86 [.agg [.b d0.n_.neg,.l 1 d0.n_.mag e_u32,.b d0.d.neg,.l 1 d0.d.mag e_u32],.agg [.b d1.n_.neg,.l 1 d1.n_.mag e_u32,.b d1.d.neg,.l 1 d1.d.mag e_u32]] (.agg [.b r.n_.neg,.l 1 r.n_.mag e_u32,.b r.d.neg,.l 1 r.d.mag e_u32]):=by
 unfold F86 at hF
 refine cf 16 Tryz.func86 ?_
 refine jd 7 ?_
 obtain⟨y1,e1,hF⟩:=bnd hF
 refine dc 4 en101 (F101_ok e1) ?_
 obtain⟨y2,e2,hF⟩:=bnd hF
 refine dc 4 en101 (F101_ok e2) ?_
 obtain⟨y3,e3,hF⟩:=bnd hF
 refine dc 0 en103 (F103_ok e3) ?_
 refine je 1 ?_
 have hF:=oi hF;subst hF
 exact jr 0
def F126(d0:T_exact_Num):Option Bool:=
 Option.bind (
  bif ((d0.d.mag.map e_u32).length:Int)==1 then
   (Option.bind (geti d0.d.mag 0) fun y3=>
   some (y3==1))
  else
   (some false)) fun o1=>
 some o1
noncomputable abbrev b126:=bodyOf Tryz.f126
abbrev G126(r:Bool):=J none Tryz.prog 16 [] (finF Tryz.prog Tryz.f126 (.b r))
theorem F126_ok{d0:T_exact_Num}{r:Bool}(hF:F126 d0=some r):
 CallF Tryz.prog 126 [.agg [.b d0.n_.neg,.l 1 d0.n_.mag e_u32,.b d0.d.neg,.l 1 d0.d.mag e_u32]] (.b r):=by
 unfold F126 at hF
 refine cf 16 Tryz.func126 ?_
 obtain⟨o1,hO,hF⟩:=bnd hF
 have hR1:G126 r ⟨mkT [(2,.b o1)],[],[kO b126 [1,0],kC b126 [1,1]]⟩:=by
  clear hO
  have hF:=oi hF;subst hF
  exact jr 1
 clear hF;rename _=some o1=>hF
 refine ji 13 8 hF (fun hb3 hF=> ?_) (fun hb3 hF=> ?_)
 ·
  obtain⟨y3,e3,hF⟩:=bnd hF
  refine jo1 3 (gm (f:=e_u32) e3) ?_
  have hF:=oi hF;subst hF
  exact ja 4 hR1
 ·
  have hF:=oi hF;subst hF
  exact ja 8 hR1
def F87(fuel:Nat)(d0:T_exact_Num):Option (List UInt8):=
 Option.bind (F126 d0) fun y1=>
 bif y1 then
  (Option.bind (F127 fuel d0.n_) fun y2=>
  some y2)
 else
  (Option.bind (F127 fuel d0.n_) fun y3=>
  ass (decide (y3.length+[47].length≤4611686018427387904))<|
  Option.bind (F127 fuel d0.d) fun y4=>
  ass (decide ((y3++[47]).length+y4.length≤4611686018427387904))<|
  some ((y3++[47])++y4))
theorem F87_ok{fuel:Nat}{d0:T_exact_Num}{r:List UInt8}(hF:F87 fuel d0=some r):
 CallF Tryz.prog 87 [.agg [.b d0.n_.neg,.l 1 d0.n_.mag e_u32,.b d0.d.neg,.l 1 d0.d.mag e_u32]] (.s r):=by
 unfold F87 at hF
 refine cf 16 Tryz.func87 ?_
 obtain⟨y1,e1,hF⟩:=bnd hF
 refine jc 9 en126 (F126_ok e1) ?_
 refine ji 1 4 hF (fun hb1 hF=> ?_) (fun hb1 hF=> ?_)
 ·
  obtain⟨y2,e2,hF⟩:=bnd hF
  refine jc 5 en127 (F127_ok e2) ?_
  have hF:=oi hF;subst hF
  exact jr 2
 ·
  refine jd 3 ?_
  obtain⟨y3,e3,hF⟩:=bnd hF
  refine dc 2 en127 (F127_ok e3) ?_
  obtain⟨hb2,hF⟩:=assd hF
  refine do1 0 (ck hb2) ?_
  obtain⟨y4,e4,hF⟩:=bnd hF
  refine dc 2 en127 (F127_ok e4) ?_
  obtain⟨hb3,hF⟩:=assd hF
  refine do1 0 (ck hb3) ?_
  refine je 1 ?_
  have hF:=oi hF;subst hF
  exact jr 0
def F49(d0:T_exact_Num):Option Int:=
 Option.bind (F100 d0.n_) fun y1=>
 some y1
theorem F49_ok{d0:T_exact_Num}{r:Int}(hF:F49 d0=some r):
 CallF Tryz.prog 49 [.agg [.b d0.n_.neg,.l 1 d0.n_.mag e_u32,.b d0.d.neg,.l 1 d0.d.mag e_u32]] (.i r):=by
 unfold F49 at hF
 refine cf 6 Tryz.func49 ?_
 obtain⟨y1,e1,hF⟩:=bnd hF
 refine jc 9 en100 (F100_ok e1) ?_
 have hF:=oi hF;subst hF
 exact jr 2
def F133_A1(v3:Int):Option Int:=
 some v3
def F133_L2(y1:List UInt8):Nat→Int→Option Int
 |0,_=>none
 |n_F133_L2+1,v5=>
  bif decide (v5<(((y1.map toI).map e_u8).length:Int)) then
   (Option.bind (geti (y1.map toI) v5) fun y12=>
   Option.bind (
    bif decide (y12<48) then
     (some true)
    else
     (some (decide (y12>57)))) fun o8=>
   bif o8 then
    (F133_A1 5)
   else
    ((F133_L2 y1 n_F133_L2) (IntKind.i64.wrap (v5+1))))
  else
   (bif decide ((y1.length:Int)>2000) then
    (F133_A1 6)
   else
    (F133_A1 0))
def F133(fuel:Nat)(d0:List UInt8):Option Int:=
 Option.bind (F138 d0 [45]) fun y1=>
 bif d0==[48] then
  (F133_A1 0)
 else
  (Option.bind (
   bif y1==[] then
    (some true)
   else
    (Option.bind (geti y1 0) fun y13=>
    some ((y13.toNat:Int)==48))) fun o5=>
  bif o5 then
   (F133_A1 5)
  else
   (F133_L2 y1 fuel 0))
noncomputable abbrev b133:=bodyOf Tryz.f133
abbrev G133(r:Int):=J none Tryz.prog 38 [] (finF Tryz.prog Tryz.f133 (.i r))
theorem F133_ok{fuel:Nat}{d0:List UInt8}{r:Int}(hF:F133 fuel d0=some r):
 CallF Tryz.prog 133 [.s d0] (.i r):=by
 unfold F133 at hF
 refine cf 38 Tryz.func133 ?_
 obtain⟨y1,e1,hF⟩:=bnd hF
 refine jc 8 en138 (F138_ok e1) ?_
 have hF133_A1:∀(v3:Int),F133_A1 v3=some r→G133 r ⟨mkT [(4,.i v3)],[],[kC b133 [1,0,1,1,1,1],.inScope]⟩:=by
  intro v3 hF
  unfold F133_A1 at hF
  have hF:=oi hF;subst hF
  exact jr 5
 refine ji 16 26 hF (fun hb22 hF=> ?_) (fun hb22 hF=> ?_)
 ·
  exact ja 3 (hF133_A1 _ hF)
 ·
  obtain⟨o5,hO,hF⟩:=bnd hF
  have hR5:G133 r ⟨mkT [(3,.s y1),(4,.i 0),(29,.b o5)],[],[kO b133 [1,0,1,1,1,0,0,1,1,0],kC b133 [1,0,1,1,1,0,0,1,1,1],.inBlock 0,kC b133 [1,0,1,1,1,1],.inScope]⟩:=by
   clear hO
   refine ji 1 29 hF (fun hb25 hF=> ?_) (fun hb25 hF=> ?_)
   ·
    exact ja 5 (hF133_A1 _ hF)
   ·
    refine J_adv 5 (J_opt2 (o:=some (y1.map byteD)) ((y1.map toI).map e_u8) (by kernel_rfl) (bym (f:=e_u8) (fun _=>rfl)) ?_)
    have hF133_L2:∀(n_F133_L2:Nat) (v5:Int),F133_L2 y1 n_F133_L2 v5=some r→G133 r ⟨mkT [(3,.s y1),(4,.i 0),(10,.l 1 (y1.map toI) e_u8),(11,.i (((y1.map toI).map e_u8).length:Int)),(12,.i v5)],[],[kL b133 [1,0,1,1,1,0,0,1,1,1,1,0,1,0,0],.inBlock 1,kC b133 [1,0,1,1,1,0,0,1,1,1,1,1],.inBlock 0,kC b133 [1,0,1,1,1,1],.inScope]⟩:=by
     clear hF;intro n_F133_L2
     induction n_F133_L2 with
     |zero=>intro v5 hF;cases hF
     |succ n_F133_L2 ih_F133_L2=>
      intro v5 hF
      rw[F133_L2]at hF
      refine ji 6 13 hF (fun hb36 hF=> ?_) (fun hb36 hF=> ?_)
      ·
       obtain⟨y12,e12,hF⟩:=bnd hF
       refine jo1 6 (gm (f:=e_u8) e12) ?_
       obtain⟨o8,hO,hF⟩:=bnd hF
       have hR8:G133 r ⟨mkT [(3,.s y1),(4,.i 0),(10,.l 1 (y1.map toI) e_u8),(11,.i (((y1.map toI).map e_u8).length:Int)),(12,.i v5),(21,.b o8)],[],[kO b133 [1,0,1,1,1,0,0,1,1,1,1,0,1,0,0,1,1,0,0,1,0],kC b133 [1,0,1,1,1,0,0,1,1,1,1,0,1,0,0,1,1,0,0,1,1],.inBlock 2,kC b133 [1,0,1,1,1,0,0,1,1,1,1,0,1,0,0,1,1,1],kL b133 [1,0,1,1,1,0,0,1,1,1,1,0,1,0,0],.inBlock 1,kC b133 [1,0,1,1,1,0,0,1,1,1,1,1],.inBlock 0,kC b133 [1,0,1,1,1,1],.inScope]⟩:=by
        clear hO
        refine ji 1 21 hF (fun hb39 hF=> ?_) (fun hb39 hF=> ?_)
        ·
         exact ja 6 (hF133_A1 _ hF)
        ·
         exact ja 7 (ih_F133_L2 _ hF)
       clear hF;rename _=some o8=>hF
       refine ji 8 18 hF (fun hb40 hF=> ?_) (fun hb40 hF=> ?_)
       ·
        have hF:=oi hF;subst hF
        exact ja 3 hR8
       ·
        have hF:=oi hF;subst hF
        exact ja 3 hR8
      ·
       refine ji 8 25 hF (fun hb41 hF=> ?_) (fun hb41 hF=> ?_)
       ·
        exact ja 5 (hF133_A1 _ hF)
       ·
        exact ja 3 (hF133_A1 _ hF)
    exact ja 5 (hF133_L2 _ _ hF)
  clear hF;rename _=some o5=>hF
  refine ji 6 32 hF (fun hb42 hF=> ?_) (fun hb42 hF=> ?_)
  ·
   have hF:=oi hF;subst hF
   exact ja 5 hR5
  ·
   obtain⟨y13,e13,hF⟩:=bnd hF
   refine J_adv 1 (J_opt1 (o:=(match geti y1 0 with|some c=>some [.int .u8 c.toNat]|none=>none)) [.int .u8 y13.toNat] (by kernel_rfl) (by rw[e13]) ?_)
   have hF:=oi hF;subst hF
   exact ja 3 hR5
def F136(d0:T_exact_Num)(d1:Int):Option Bool:=
 Option.bind (
  Option.bind (F180 d0.n_) fun y5=>
  bif decide (y5≤d1) then
   (Option.bind (F180 d0.d) fun y6=>
   some (decide (y6≤d1)))
  else
   (some false)) fun o1=>
 some o1
noncomputable abbrev b136:=bodyOf Tryz.f136
abbrev G136(r:Bool):=J none Tryz.prog 17 [] (finF Tryz.prog Tryz.f136 (.b r))
theorem F136_ok{d0:T_exact_Num}{d1:Int}{r:Bool}(hF:F136 d0 d1=some r):
 CallF Tryz.prog 136 [.agg [.b d0.n_.neg,.l 1 d0.n_.mag e_u32,.b d0.d.neg,.l 1 d0.d.mag e_u32],.i d1] (.b r):=by
 unfold F136 at hF
 refine cf 17 Tryz.func136 ?_
 obtain⟨o1,hO,hF⟩:=bnd hF
 have hR1:G136 r ⟨mkT [(4,.b o1)],[],[kO b136 [1,0],kC b136 [1,1]]⟩:=by
  clear hO
  have hF:=oi hF;subst hF
  exact jr 1
 clear hF;rename _=some o1=>hF
 obtain⟨y5,e5,hF⟩:=bnd hF
 refine jc 9 en180 (F180_ok e5) ?_
 refine ji 3 10 hF (fun hb3 hF=> ?_) (fun hb3 hF=> ?_)
 ·
  obtain⟨y6,e6,hF⟩:=bnd hF
  refine jc 2 en180 (F180_ok e6) ?_
  have hF:=oi hF;subst hF
  exact ja 4 hR1
 ·
  have hF:=oi hF;subst hF
  exact ja 7 hR1
structure T_ratio_number where
 Num:T_exact_Num
 e:Int
 deriving DecidableEq
def F134(d0:T_exact_Num):Option (T_exact_Whole×T_exact_Whole):=
 some (d0.n_,d0.d)
theorem F134_ok{d0:T_exact_Num}{r:T_exact_Whole×T_exact_Whole}(hF:F134 d0=some r):
 CallF Tryz.prog 134 [.agg [.b d0.n_.neg,.l 1 d0.n_.mag e_u32,.b d0.d.neg,.l 1 d0.d.mag e_u32]] (.tup [.agg [.b r.1.neg,.l 1 r.1.mag e_u32],.agg [.b r.2.neg,.l 1 r.2.mag e_u32]]):=by
 unfold F134 at hF
 refine cf 8 Tryz.func134 ?_
 refine jd 7 ?_
 refine je 6 ?_
 have hF:=oi hF;subst hF
 exact jr 0
def F96(fuel:Nat)(d0:List UInt8):Option T_ratio_number:=
 Option.bind (F97 d0 [47]) fun y1=>
 bif !y1.2.2 then
  (Option.bind (
   Option.bind (F133 fuel y1.1) fun y19=>
   bif y19==5 then
    (some true)
   else
    (Option.bind (F133 fuel [49]) fun y20=>
    some (y20==5))) fun o1=>
  bif o1 then
   (some (⟨(⟨(⟨false,[]⟩:T_exact_Whole),(⟨false,[]⟩:T_exact_Whole)⟩:T_exact_Num),5⟩:T_ratio_number))
  else
   (Option.bind (F48 fuel d0) fun y6=>
   Option.bind (F134 y6) fun y7=>
   Option.bind (F99 fuel 1) fun y8=>
   Option.bind (
    bif y1.2.2 then
     (Option.bind (F102 fuel y7.2 y8) fun y16=>
     bif decide (y16≤0) then
      (some true)
     else
      (Option.bind (F135 fuel y7.1 y7.2) fun y17=>
      Option.bind (F102 fuel y17 y8) fun y18=>
      some (y18 !=0)))
    else
     (some false)) fun o2=>
   bif o2 then
    (some (⟨(⟨(⟨false,[]⟩:T_exact_Whole),(⟨false,[]⟩:T_exact_Whole)⟩:T_exact_Num),5⟩:T_ratio_number))
   else
    (Option.bind (F136 y6 2000) fun y15=>
    bif !y15 then
     (some (⟨(⟨(⟨false,[]⟩:T_exact_Whole),(⟨false,[]⟩:T_exact_Whole)⟩:T_exact_Num),6⟩:T_ratio_number))
    else
     (some (⟨y6,0⟩:T_ratio_number)))))
 else
  (Option.bind (
   Option.bind (F133 fuel y1.1) fun y38=>
   bif y38==5 then
    (some true)
   else
    (Option.bind (F133 fuel y1.2.1) fun y39=>
    some (y39==5))) fun o3=>
  bif o3 then
   (some (⟨(⟨(⟨false,[]⟩:T_exact_Whole),(⟨false,[]⟩:T_exact_Whole)⟩:T_exact_Num),5⟩:T_ratio_number))
  else
   (Option.bind (F48 fuel d0) fun y25=>
   Option.bind (F134 y25) fun y26=>
   Option.bind (F99 fuel 1) fun y27=>
   Option.bind (
    bif y1.2.2 then
     (Option.bind (F102 fuel y26.2 y27) fun y35=>
     bif decide (y35≤0) then
      (some true)
     else
      (Option.bind (F135 fuel y26.1 y26.2) fun y36=>
      Option.bind (F102 fuel y36 y27) fun y37=>
      some (y37 !=0)))
    else
     (some false)) fun o4=>
   bif o4 then
    (some (⟨(⟨(⟨false,[]⟩:T_exact_Whole),(⟨false,[]⟩:T_exact_Whole)⟩:T_exact_Num),5⟩:T_ratio_number))
   else
    (Option.bind (F136 y25 2000) fun y34=>
    bif !y34 then
     (some (⟨(⟨(⟨false,[]⟩:T_exact_Whole),(⟨false,[]⟩:T_exact_Whole)⟩:T_exact_Num),6⟩:T_ratio_number))
    else
     (some (⟨y25,0⟩:T_ratio_number)))))
noncomputable abbrev b96:=bodyOf Tryz.f96
abbrev G96(r:T_ratio_number):=J none Tryz.prog 61 [] (finF Tryz.prog Tryz.f96 (.agg [.b r.Num.n_.neg,.l 1 r.Num.n_.mag e_u32,.b r.Num.d.neg,.l 1 r.Num.d.mag e_u32,.i r.e]))
theorem F96_ok{fuel:Nat}{d0:List UInt8}{r:T_ratio_number}(hF:F96 fuel d0=some r):
 CallF Tryz.prog 96 [.s d0] (.agg [.b r.Num.n_.neg,.l 1 r.Num.n_.mag e_u32,.b r.Num.d.neg,.l 1 r.Num.d.mag e_u32,.i r.e]):=by
 unfold F96 at hF
 refine cf 61 Tryz.func96 ?_
 obtain⟨y1,e1,hF⟩:=bnd hF
 refine jc 7 en97 (F97_ok e1) ?_
 refine ji 14 17 hF (fun hb1 hF=> ?_) (fun hb1 hF=> ?_)
 ·
  obtain⟨o1,hO,hF⟩:=bnd hF
  have hR1:G96 r ⟨mkT [(0,.s d0),(2,.ptr 2 0),(5,.b y1.2.2),(25,.b o1)],[(2,.box 158 [.b false,.esl 1,.b false,.esl 1,.i 0])],[kO b96 [1,1,1,0,0],kC b96 [1,1,1,0,1],kC b96 [1,1,1,1]]⟩:=by
   clear hO
   refine ji 1 25 hF (fun hb4 hF=> ?_) (fun hb4 hF=> ?_)
   ·
    have hF:=oi hF;subst hF
    exact jr 6
   ·
    obtain⟨y6,e6,hF⟩:=bnd hF
    refine jc 5 en48 (F48_ok e6) ?_
    obtain⟨y7,e7,hF⟩:=bnd hF
    refine jc 8 en134 (F134_ok e7) ?_
    obtain⟨y8,e8,hF⟩:=bnd hF
    refine jc 10 en99 (F99_ok e8) ?_
    obtain⟨o2,hO,hF⟩:=bnd hF
    have hR2:G96 r ⟨mkT [(2,.ptr 2 0),(6,.ptr 6 0),(37,.b o2)],[(2,.box 158 [.b false,.esl 1,.b false,.esl 1,.i 0]),(6,.box 158 [.b y6.n_.neg,.l 1 y6.n_.mag e_u32,.b y6.d.neg,.l 1 y6.d.mag e_u32,.i 0])],[kC b96 [1,1,1,1,1,1,1,0,0,1],.inBlock 0,kC b96 [1,1,1,1,1,1,1,1]]⟩:=by
     clear hO
     refine ji 0 37 hF (fun hb9 hF=> ?_) (fun hb9 hF=> ?_)
     ·
      have hF:=oi hF;subst hF
      exact jr 6
     ·
      obtain⟨y15,e15,hF⟩:=bnd hF
      refine jc 5 en136 (F136_ok e15) ?_
      refine ji 3 54 hF (fun hb10 hF=> ?_) (fun hb10 hF=> ?_)
      ·
       have hF:=oi hF;subst hF
       exact jr 6
      ·
       have hF:=oi hF;subst hF
       exact jr 8
    clear hF;rename _=some o2=>hF
    refine jd 6 ?_
    refine di 2 39 hF (fun hb11 hF=> ?_) (fun hb11 hF=> ?_)
    ·
     obtain⟨y16,e16,hF⟩:=bnd hF
     refine dc 2 en102 (F102_ok e16) ?_
     refine di 2 44 hF (fun hb12 hF=> ?_) (fun hb12 hF=> ?_)
     ·
      refine je 9 ?_
      have hF:=oi hF;subst hF
      exact ja 0 hR2
     ·
      obtain⟨y17,e17,hF⟩:=bnd hF
      refine dc 2 en135 (F135_ok e17) ?_
      obtain⟨y18,e18,hF⟩:=bnd hF
      refine dc 1 en102 (F102_ok e18) ?_
      refine je 4 ?_
      have hF:=oi hF;subst hF
      exact ja 0 hR2
    ·
     refine je 14 ?_
     have hF:=oi hF;subst hF
     exact ja 0 hR2
  clear hF;rename _=some o1=>hF
  obtain⟨y19,e19,hF⟩:=bnd hF
  refine jc 8 en133 (F133_ok e19) ?_
  refine ji 2 21 hF (fun hb13 hF=> ?_) (fun hb13 hF=> ?_)
  ·
   have hF:=oi hF;subst hF
   exact ja 4 hR1
  ·
   obtain⟨y20,e20,hF⟩:=bnd hF
   refine jc 1 en133 (F133_ok e20) ?_
   have hF:=oi hF;subst hF
   exact ja 2 hR1
 ·
  obtain⟨o3,hO,hF⟩:=bnd hF
  have hR3:G96 r ⟨mkT [(0,.s d0),(2,.ptr 2 0),(5,.b y1.2.2),(25,.b o3)],[(2,.box 158 [.b false,.esl 1,.b false,.esl 1,.i 0])],[kO b96 [1,1,1,0,0],kC b96 [1,1,1,0,1],kC b96 [1,1,1,1]]⟩:=by
   clear hO
   refine ji 1 25 hF (fun hb16 hF=> ?_) (fun hb16 hF=> ?_)
   ·
    have hF:=oi hF;subst hF
    exact jr 6
   ·
    obtain⟨y25,e25,hF⟩:=bnd hF
    refine jc 5 en48 (F48_ok e25) ?_
    obtain⟨y26,e26,hF⟩:=bnd hF
    refine jc 8 en134 (F134_ok e26) ?_
    obtain⟨y27,e27,hF⟩:=bnd hF
    refine jc 10 en99 (F99_ok e27) ?_
    obtain⟨o4,hO,hF⟩:=bnd hF
    have hR4:G96 r ⟨mkT [(2,.ptr 2 0),(6,.ptr 6 0),(37,.b o4)],[(2,.box 158 [.b false,.esl 1,.b false,.esl 1,.i 0]),(6,.box 158 [.b y25.n_.neg,.l 1 y25.n_.mag e_u32,.b y25.d.neg,.l 1 y25.d.mag e_u32,.i 0])],[kC b96 [1,1,1,1,1,1,1,0,0,1],.inBlock 0,kC b96 [1,1,1,1,1,1,1,1]]⟩:=by
     clear hO
     refine ji 0 37 hF (fun hb21 hF=> ?_) (fun hb21 hF=> ?_)
     ·
      have hF:=oi hF;subst hF
      exact jr 6
     ·
      obtain⟨y34,e34,hF⟩:=bnd hF
      refine jc 5 en136 (F136_ok e34) ?_
      refine ji 3 54 hF (fun hb22 hF=> ?_) (fun hb22 hF=> ?_)
      ·
       have hF:=oi hF;subst hF
       exact jr 6
      ·
       have hF:=oi hF;subst hF
       exact jr 8
    clear hF;rename _=some o4=>hF
    refine jd 6 ?_
    refine di 2 39 hF (fun hb23 hF=> ?_) (fun hb23 hF=> ?_)
    ·
     obtain⟨y35,e35,hF⟩:=bnd hF
     refine dc 2 en102 (F102_ok e35) ?_
     refine di 2 44 hF (fun hb24 hF=> ?_) (fun hb24 hF=> ?_)
     ·
      refine je 9 ?_
      have hF:=oi hF;subst hF
      exact ja 0 hR4
     ·
      obtain⟨y36,e36,hF⟩:=bnd hF
      refine dc 2 en135 (F135_ok e36) ?_
      obtain⟨y37,e37,hF⟩:=bnd hF
      refine dc 1 en102 (F102_ok e37) ?_
      refine je 4 ?_
      have hF:=oi hF;subst hF
      exact ja 0 hR4
    ·
     refine je 14 ?_
     have hF:=oi hF;subst hF
     exact ja 0 hR4
  clear hF;rename _=some o3=>hF
  obtain⟨y38,e38,hF⟩:=bnd hF
  refine jc 6 en133 (F133_ok e38) ?_
  refine ji 2 21 hF (fun hb25 hF=> ?_) (fun hb25 hF=> ?_)
  ·
   have hF:=oi hF;subst hF
   exact ja 4 hR3
  ·
   obtain⟨y39,e39,hF⟩:=bnd hF
   refine jc 1 en133 (F133_ok e39) ?_
   have hF:=oi hF;subst hF
   exact ja 2 hR3
def F47(fuel:Nat)(d0:List UInt8):Option Int:=
 Option.bind (F96 fuel d0) fun y1=>
 some y1.e
theorem F47_ok{fuel:Nat}{d0:List UInt8}{r:Int}(hF:F47 fuel d0=some r):
 CallF Tryz.prog 47 [.s d0] (.i r):=by
 unfold F47 at hF
 refine cf 6 Tryz.func47 ?_
 obtain⟨y1,e1,hF⟩:=bnd hF
 refine jc 7 en96 (F96_ok e1) ?_
 have hF:=oi hF;subst hF
 exact jr 3
def F191(fuel:Nat)(d0:List UInt8):Option Bool:=
 Option.bind (F96 fuel d0) fun y1=>
 Option.bind (
  bif y1.e==0 then
   (Option.bind (F136 y1.Num 4) fun y4=>
   some y4)
  else
   (some false)) fun o1=>
 some o1
noncomputable abbrev b191:=bodyOf Tryz.f191
abbrev G191(r:Bool):=J none Tryz.prog 14 [] (finF Tryz.prog Tryz.f191 (.b r))
theorem F191_ok{fuel:Nat}{d0:List UInt8}{r:Bool}(hF:F191 fuel d0=some r):
 CallF Tryz.prog 191 [.s d0] (.b r):=by
 unfold F191 at hF
 refine cf 14 Tryz.func191 ?_
 obtain⟨y1,e1,hF⟩:=bnd hF
 refine jc 7 en96 (F96_ok e1) ?_
 obtain⟨o1,hO,hF⟩:=bnd hF
 have hR1:G191 r ⟨mkT [(2,.b o1)],[],[kO b191 [1,1,0],kC b191 [1,1,1]]⟩:=by
  clear hO
  have hF:=oi hF;subst hF
  exact jr 1
 clear hF;rename _=some o1=>hF
 refine ji 9 9 hF (fun hb3 hF=> ?_) (fun hb3 hF=> ?_)
 ·
  obtain⟨y4,e4,hF⟩:=bnd hF
  refine jc 2 en136 (F136_ok e4) ?_
  have hF:=oi hF;subst hF
  exact ja 2 hR1
 ·
  have hF:=oi hF;subst hF
  exact ja 5 hR1
def F251(fuel:Nat)(d0:List UInt8):Option (List UInt8×List UInt8×Int):=
 Option.bind (F96 fuel d0) fun y1=>
 bif y1.e !=0 then
  (some ([],[],y1.e))
 else
  (Option.bind (F134 y1.Num) fun y2=>
  Option.bind (F127 fuel y2.1) fun y3=>
  Option.bind (F127 fuel y2.2) fun y4=>
  some (y3,y4,0))
theorem F251_ok{fuel:Nat}{d0:List UInt8}{r:List UInt8×List UInt8×Int}(hF:F251 fuel d0=some r):
 CallF Tryz.prog 251 [.s d0] (.tup [.s r.1,.s r.2.1,.i r.2.2]):=by
 unfold F251 at hF
 refine cf 25 Tryz.func251 ?_
 obtain⟨y1,e1,hF⟩:=bnd hF
 refine jc 9 en96 (F96_ok e1) ?_
 refine ji 10 12 hF (fun hb1 hF=> ?_) (fun hb1 hF=> ?_)
 ·
  refine jd 2 ?_
  refine je 5 ?_
  have hF:=oi hF;subst hF
  exact jr 0
 ·
  obtain⟨y2,e2,hF⟩:=bnd hF
  refine jc 6 en134 (F134_ok e2) ?_
  refine jd 9 ?_
  obtain⟨y3,e3,hF⟩:=bnd hF
  refine dc 1 en127 (F127_ok e3) ?_
  obtain⟨y4,e4,hF⟩:=bnd hF
  refine dc 1 en127 (F127_ok e4) ?_
  refine je 3 ?_
  have hF:=oi hF;subst hF
  exact jr 0
end Go.Proofs.YtfgbhfphjmmiaaaGreatDoor
end
section
set_option linter.unusedVariables false
set_option maxRecDepth 100000
namespace Go.Proofs.YtfgbhfphjmmiaaaGreatDoor
open Go Go.RowKit Kx
theorem en151:entersT Tryz.prog 151:=Kx.enters_of Tryz.func151 (by kernel_rfl) (by kernel_rfl)
theorem en111:entersT Tryz.prog 111:=Kx.enters_of Tryz.func111 (by kernel_rfl) (by kernel_rfl)
theorem en64:entersT Tryz.prog 64:=Kx.enters_of Tryz.func64 (by kernel_rfl) (by kernel_rfl)
theorem en113:entersT Tryz.prog 113:=Kx.enters_of Tryz.func113 (by kernel_rfl) (by kernel_rfl)
theorem en152:entersT Tryz.prog 152:=Kx.enters_of Tryz.func152 (by kernel_rfl) (by kernel_rfl)
theorem en115:entersT Tryz.prog 115:=Kx.enters_of Tryz.func115 (by kernel_rfl) (by kernel_rfl)
theorem en114:entersT Tryz.prog 114:=Kx.enters_of Tryz.func114 (by kernel_rfl) (by kernel_rfl)
theorem en112:entersT Tryz.prog 112:=Kx.enters_of Tryz.func112 (by kernel_rfl) (by kernel_rfl)
theorem en92:entersT Tryz.prog 92:=Kx.enters_of Tryz.func92 (by kernel_rfl) (by kernel_rfl)
theorem en118:entersT Tryz.prog 118:=Kx.enters_of Tryz.func118 (by kernel_rfl) (by kernel_rfl)
theorem en119:entersT Tryz.prog 119:=Kx.enters_of Tryz.func119 (by kernel_rfl) (by kernel_rfl)
theorem en120:entersT Tryz.prog 120:=Kx.enters_of Tryz.func120 (by kernel_rfl) (by kernel_rfl)
theorem en154:entersT Tryz.prog 154:=Kx.enters_of Tryz.func154 (by kernel_rfl) (by kernel_rfl)
theorem en128:entersT Tryz.prog 128:=Kx.enters_of Tryz.func128 (by kernel_rfl) (by kernel_rfl)
theorem en73:entersT Tryz.prog 73:=Kx.enters_of Tryz.func73 (by kernel_rfl) (by kernel_rfl)
theorem en155:entersT Tryz.prog 155:=Kx.enters_of Tryz.func155 (by kernel_rfl) (by kernel_rfl)
theorem en66:entersT Tryz.prog 66:=Kx.enters_of Tryz.func66 (by kernel_rfl) (by kernel_rfl)
theorem en72:entersT Tryz.prog 72:=Kx.enters_of Tryz.func72 (by kernel_rfl) (by kernel_rfl)
theorem en117:entersT Tryz.prog 117:=Kx.enters_of Tryz.func117 (by kernel_rfl) (by kernel_rfl)
theorem en123:entersT Tryz.prog 123:=Kx.enters_of Tryz.func123 (by kernel_rfl) (by kernel_rfl)
theorem en71:entersT Tryz.prog 71:=Kx.enters_of Tryz.func71 (by kernel_rfl) (by kernel_rfl)
theorem en121:entersT Tryz.prog 121:=Kx.enters_of Tryz.func121 (by kernel_rfl) (by kernel_rfl)
theorem en88:entersT Tryz.prog 88:=Kx.enters_of Tryz.func88 (by kernel_rfl) (by kernel_rfl)
theorem en42:entersT Tryz.prog 42:=Kx.enters_of Tryz.func42 (by kernel_rfl) (by kernel_rfl)
def F64(d0:Int):Option (List UInt8):=
 Option.bind (F110 d0) fun y1=>
 some y1
theorem F64_ok{d0:Int}{r:List UInt8}(hF:F64 d0=some r):
 CallF Tryz.prog 64 [.i d0] (.s r):=by
 unfold F64 at hF
 refine cf 5 Tryz.func64 ?_
 obtain⟨y1,e1,hF⟩:=bnd hF
 refine jc 7 en110 (F110_ok e1) ?_
 have hF:=oi hF;subst hF
 exact jr 2
def F151(d0:List UInt8):Option (Int×Bool):=atoiF d0
theorem F151_ok{d0:List UInt8}{r:Int×Bool}(hF:F151 d0=some r):CallF Tryz.prog 151 [.d (.str d0)] (.tup [.d (.int .i64 r.1),.d (.ife r.2)]):=atoi_callF (gs:=1) (gr:=2) (by kernel_rfl) (by kernel_rfl) Tryz.strconv_Atoi_ok Tryz.strconv_Atoi_bad Tryz.strconv_Atoi_range hF
def F111(d0:List UInt8)(d1:List UInt8):Option (Int×Int×Bool):=
 Option.bind (
  bif decide ((d0.length:Int)>9) then
   (some true)
  else
   (some (decide ((d1.length:Int)>9)))) fun o1=>
 bif o1 then
  (some (0,0,false))
 else
  (Option.bind (F151 d0) fun y1=>
  Option.bind (F151 d1) fun y2=>
  some (y1.1,y2.1,true))
noncomputable abbrev b111:=bodyOf Tryz.f111
abbrev G111(r:Int×Int×Bool):=J none Tryz.prog 31 [] (finF Tryz.prog Tryz.f111 (.tup [.i r.1,.i r.2.1,.b r.2.2]))
theorem F111_ok{d0:List UInt8}{d1:List UInt8}{r:Int×Int×Bool}(hF:F111 d0 d1=some r):
 CallF Tryz.prog 111 [.s d0,.s d1] (.tup [.i r.1,.i r.2.1,.b r.2.2]):=by
 unfold F111 at hF
 refine cf 31 Tryz.func111 ?_
 obtain⟨o1,hO,hF⟩:=bnd hF
 have hR1:G111 r ⟨mkT [(0,.s d0),(1,.s d1),(18,.b o1)],[],[kO b111 [1,0,0],kC b111 [1,0,1],kC b111 [1,1]]⟩:=by
  clear hO
  refine ji 1 18 hF (fun hb3 hF=> ?_) (fun hb3 hF=> ?_)
  ·
   have hF:=oi hF;subst hF
   exact jr 7
  ·
   obtain⟨y1,e1,hF⟩:=bnd hF
   refine jc 5 en151 (F151_ok e1) ?_
   obtain⟨y2,e2,hF⟩:=bnd hF
   refine jc 9 en151 (F151_ok e2) ?_
   have hF:=oi hF;subst hF
   exact jr 14
 clear hF;rename _=some o1=>hF
 refine ji 13 14 hF (fun hb4 hF=> ?_) (fun hb4 hF=> ?_)
 ·
  have hF:=oi hF;subst hF
  exact ja 4 hR1
 ·
  have hF:=oi hF;subst hF
  exact ja 4 hR1
def F113(d0:List UInt8):Option Bool:=
 Option.bind (geti d0 0) fun y1=>
 some ((y1.toNat:Int)==45)
theorem F113_ok{d0:List UInt8}{r:Bool}(hF:F113 d0=some r):
 CallF Tryz.prog 113 [.s d0] (.b r):=by
 unfold F113 at hF
 refine cf 6 Tryz.func113 ?_
 obtain⟨y1,e1,hF⟩:=bnd hF
 refine J_adv 7 (J_opt1 (o:=(match geti d0 0 with|some c=>some [.int .u8 c.toNat]|none=>none)) [.int .u8 y1.toNat] (by kernel_rfl) (by rw[e1]) ?_)
 have hF:=oi hF;subst hF
 exact jr 3
def e_i64(x:Int):List Dat:=[.int .i64 x]
def F152_L1:Nat→(List Int)→Option (List Int)
 |0,_=>none
 |n_F152_L1+1,l4=>
  Option.bind (
   bif decide (((l4.map e_i64).length:Int)>0) then
    (Option.bind (geti l4 (IntKind.i64.wrap (((l4.map e_i64).length:Int)-1))) fun y9=>
    some (y9==0))
   else
    (some false)) fun o3=>
  bif o3 then
   (Option.bind (slc l4 0 (IntKind.i64.wrap (((l4.map e_i64).length:Int)-1))) fun l5=>
   (F152_L1 n_F152_L1) l5)
  else
   (some l4)
def F152(fuel:Nat)(d0:List Int):Option (List Int):=
 F152_L1 fuel d0
noncomputable abbrev b152:=bodyOf Tryz.f152
abbrev G152(r:List Int):=J none Tryz.prog 21 [] (finF Tryz.prog Tryz.f152 (.l 1 r e_i64))
theorem F152_ok{fuel:Nat}{d0:List Int}{r:List Int}(hF:F152 fuel d0=some r):
 CallF Tryz.prog 152 [.l 1 d0 e_i64] (.l 1 r e_i64):=by
 unfold F152 at hF
 refine cf 21 Tryz.func152 ?_
 have hF152_L1:∀(n_F152_L1:Nat) (l4:List Int),F152_L1 n_F152_L1 l4=some r→G152 r ⟨mkT [(0,.l 1 l4 e_i64)],[],[kL b152 [1,0,0,0],.inBlock 0,kC b152 [1,1]]⟩:=by
  clear hF;intro n_F152_L1
  induction n_F152_L1 with
  |zero=>intro l4 hF;cases hF
  |succ n_F152_L1 ih_F152_L1=>
   intro l4 hF
   rw[F152_L1]at hF
   obtain⟨o3,hO,hF⟩:=bnd hF
   have hR3:G152 r ⟨mkT [(0,.l 1 l4 e_i64),(14,.b o3)],[],[kO b152 [1,0,0,0,0,0],kC b152 [1,0,0,0,0,1],kC b152 [1,0,0,0,1],kL b152 [1,0,0,0],.inBlock 0,kC b152 [1,1]]⟩:=by
    clear hO
    refine ji 1 14 hF (fun hb11 hF=> ?_) (fun hb11 hF=> ?_)
    ·
     obtain⟨l5,e11,hF⟩:=bnd hF
     refine jo2 8 (sm (f:=e_i64) e11) ?_
     exact ja 3 (ih_F152_L1 _ hF)
    ·
     have hF:=oi hF;subst hF
     exact jr 7
   clear hF;rename _=some o3=>hF
   refine ji 8 6 hF (fun hb12 hF=> ?_) (fun hb12 hF=> ?_)
   ·
    obtain⟨y9,e12,hF⟩:=bnd hF
    refine jo1 4 (gm (f:=e_i64) e12) ?_
    have hF:=oi hF;subst hF
    exact ja 3 hR3
   ·
    have hF:=oi hF;subst hF
    exact ja 8 hR3
 exact ja 7 (hF152_L1 _ _ hF)
def F115_L2(d0:List UInt8)(l4:List Int)(v10:Int)(rec_F115_L1:Int→(List Int)→Option (List Int)):Nat→Int→Int→Option (List Int)
 |0,_,_=>none
 |n_F115_L2+1,v13,v14=>
  bif decide (v14<v10) then
   (Option.bind (geti ((d0.drop (Int.toNat 1)).take (Int.toNat ((d0.length:Int)-1))) v14) fun y10=>
   (F115_L2 d0 l4 v10 rec_F115_L1 n_F115_L2) (IntKind.i64.wrap ((IntKind.i64.wrap (10*v13))+(IntKind.i64.wrap (IntKind.u8.wrap ((y10.toNat:Int)-48))))) (IntKind.i64.wrap (v14+1)))
  else
   (Option.bind (app l4 [v13]) fun l5=>
   rec_F115_L1 (IntKind.i64.wrap (v10-4)) l5)
def F115_L1(fuel:Nat)(d0:List UInt8):Nat→Int→(List Int)→Option (List Int)
 |0,_,_=>none
 |n_F115_L1+1,v10,l4=>
  bif decide (v10>0) then
   (F115_L2 d0 l4 v10 (F115_L1 fuel d0 n_F115_L1) fuel 0 (bif decide ((IntKind.i64.wrap (v10-4))>0) then(IntKind.i64.wrap (v10-4)) else 0))
  else
   (Option.bind (F152 fuel l4) fun y11=>
   some y11)
def F115_L4(d0:List UInt8)(l9:List Int)(v24:Int)(rec_F115_L3:Int→(List Int)→Option (List Int)):Nat→Int→Int→Option (List Int)
 |0,_,_=>none
 |n_F115_L4+1,v27,v28=>
  bif decide (v28<v24) then
   (Option.bind (geti d0 v28) fun y20=>
   (F115_L4 d0 l9 v24 rec_F115_L3 n_F115_L4) (IntKind.i64.wrap ((IntKind.i64.wrap (10*v27))+(IntKind.i64.wrap (IntKind.u8.wrap ((y20.toNat:Int)-48))))) (IntKind.i64.wrap (v28+1)))
  else
   (Option.bind (app l9 [v27]) fun l10=>
   rec_F115_L3 (IntKind.i64.wrap (v24-4)) l10)
def F115_L3(fuel:Nat)(d0:List UInt8):Nat→Int→(List Int)→Option (List Int)
 |0,_,_=>none
 |n_F115_L3+1,v24,l9=>
  bif decide (v24>0) then
   (F115_L4 d0 l9 v24 (F115_L3 fuel d0 n_F115_L3) fuel 0 (bif decide ((IntKind.i64.wrap (v24-4))>0) then(IntKind.i64.wrap (v24-4)) else 0))
  else
   (Option.bind (F152 fuel l9) fun y21=>
   some y21)
def F115(fuel:Nat)(d0:List UInt8):Option (List Int):=
 Option.bind (geti d0 0) fun y1=>
 bif (y1.toNat:Int)==45 then
  (ass (decide (0≤1)&&decide (1≤(d0.length:Int))&&decide ((d0.length:Int)≤d0.length))<|
  F115_L1 fuel d0 fuel (((d0.drop (Int.toNat 1)).take (Int.toNat ((d0.length:Int)-1))).length:Int) [])
 else
  (F115_L3 fuel d0 fuel (d0.length:Int) [])
noncomputable abbrev b115:=bodyOf Tryz.f115
abbrev G115(r:List Int):=J none Tryz.prog 40 [] (finF Tryz.prog Tryz.f115 (.l 1 r e_i64))
theorem F115_ok{fuel:Nat}{d0:List UInt8}{r:List Int}(hF:F115 fuel d0=some r):
 CallF Tryz.prog 115 [.s d0] (.l 1 r e_i64):=by
 unfold F115 at hF
 refine cf 40 Tryz.func115 ?_
 obtain⟨y1,e1,hF⟩:=bnd hF
 refine J_adv 8 (J_opt1 (o:=(match geti d0 0 with|some c=>some [.int .u8 c.toNat]|none=>none)) [.int .u8 y1.toNat] (by kernel_rfl) (by rw[e1]) ?_)
 refine ji 2 9 hF (fun hb1 hF=> ?_) (fun hb1 hF=> ?_)
 ·
  obtain⟨hb2,hF⟩:=assd hF
  refine jo1 3 (ck hb2) ?_
  have hF115_L1:∀(n_F115_L1:Nat) (v10:Int) (l4:List Int),F115_L1 fuel d0 n_F115_L1 v10 l4=some r→G115 r ⟨mkT [(0,.s ((d0.drop (Int.toNat 1)).take (Int.toNat ((d0.length:Int)-1)))),(3,.suf 37 0 0),(4,.i v10)],[(37,.buf 0 3 1 (l4.map e_i64))],[kL b115 [1,1,1,0,1,0,0],.inBlock 0,kC b115 [1,1,1,1]]⟩:=by
   clear hF;intro n_F115_L1
   induction n_F115_L1 with
   |zero=>intro v10 l4 hF;cases hF
   |succ n_F115_L1 ih_F115_L1=>
    intro v10 l4 hF
    rw[F115_L1]at hF
    refine ji 7 15 hF (fun hb11 hF=> ?_) (fun hb11 hF=> ?_)
    ·
     have hF115_L2:∀(n_F115_L2:Nat) (v13:Int) (v14:Int),F115_L2 d0 l4 v10 (F115_L1 fuel d0 n_F115_L1) n_F115_L2 v13 v14=some r→G115 r ⟨mkT [(0,.s ((d0.drop (Int.toNat 1)).take (Int.toNat ((d0.length:Int)-1)))),(3,.suf 37 0 0),(4,.i v10),(5,.i v13),(6,.i v14)],[(37,.buf 0 3 1 (l4.map e_i64))],[kL b115 [1,1,1,0,1,0,0,1,0,0,1,0,1,0,0],.inBlock 2,kC b115 [1,1,1,0,1,0,0,1,0,0,1,1],.inBlock 1,kC b115 [1,1,1,0,1,0,0,1,1],kL b115 [1,1,1,0,1,0,0],.inBlock 0,kC b115 [1,1,1,1]]⟩:=by
      clear hF;intro n_F115_L2
      induction n_F115_L2 with
      |zero=>intro v13 v14 hF;cases hF
      |succ n_F115_L2 ih_F115_L2=>
       intro v13 v14 hF
       rw[F115_L2]at hF
       refine ji 8 23 hF (fun hb14 hF=> ?_) (fun hb14 hF=> ?_)
       ·
        obtain⟨y10,e12,hF⟩:=bnd hF
        refine J_adv 9 (J_opt1 (o:=(match geti ((d0.drop (Int.toNat 1)).take (Int.toNat ((d0.length:Int)-1))) v14 with|some c=>some [.int .u8 c.toNat]|none=>none)) [.int .u8 y10.toNat] (by kernel_rfl) (by rw[e12]) ?_)
        exact ja 11 (ih_F115_L2 _ _ hF)
       ·
        obtain⟨l5,e13,hF⟩:=bnd hF
        refine jo2 6 (am (f:=e_i64) e13) ?_
        exact ja 8 (ih_F115_L1 _ _ hF)
     exact ja 18 (hF115_L2 _ _ _ hF)
    ·
     obtain⟨y11,e14,hF⟩:=bnd hF
     refine jc 5 en152 (F152_ok e14) ?_
     have hF:=oi hF;subst hF
     exact jr 2
  refine J_adv 15 (J_own (n:=1) 3 37 3 1 (by kernel_rfl) (by kernel_rfl) ?_)
  exact ja 0 (hF115_L1 _ _ _ hF)
 ·
  have hF115_L3:∀(n_F115_L3:Nat) (v24:Int) (l9:List Int),F115_L3 fuel d0 n_F115_L3 v24 l9=some r→G115 r ⟨mkT [(0,.s d0),(3,.suf 37 0 0),(4,.i v24)],[(37,.buf 0 3 1 (l9.map e_i64))],[kL b115 [1,1,1,0,1,0,0],.inBlock 0,kC b115 [1,1,1,1]]⟩:=by
   clear hF;intro n_F115_L3
   induction n_F115_L3 with
   |zero=>intro v24 l9 hF;cases hF
   |succ n_F115_L3 ih_F115_L3=>
    intro v24 l9 hF
    rw[F115_L3]at hF
    refine ji 7 15 hF (fun hb23 hF=> ?_) (fun hb23 hF=> ?_)
    ·
     have hF115_L4:∀(n_F115_L4:Nat) (v27:Int) (v28:Int),F115_L4 d0 l9 v24 (F115_L3 fuel d0 n_F115_L3) n_F115_L4 v27 v28=some r→G115 r ⟨mkT [(0,.s d0),(3,.suf 37 0 0),(4,.i v24),(5,.i v27),(6,.i v28)],[(37,.buf 0 3 1 (l9.map e_i64))],[kL b115 [1,1,1,0,1,0,0,1,0,0,1,0,1,0,0],.inBlock 2,kC b115 [1,1,1,0,1,0,0,1,0,0,1,1],.inBlock 1,kC b115 [1,1,1,0,1,0,0,1,1],kL b115 [1,1,1,0,1,0,0],.inBlock 0,kC b115 [1,1,1,1]]⟩:=by
      clear hF;intro n_F115_L4
      induction n_F115_L4 with
      |zero=>intro v27 v28 hF;cases hF
      |succ n_F115_L4 ih_F115_L4=>
       intro v27 v28 hF
       rw[F115_L4]at hF
       refine ji 8 23 hF (fun hb26 hF=> ?_) (fun hb26 hF=> ?_)
       ·
        obtain⟨y20,e25,hF⟩:=bnd hF
        refine J_adv 9 (J_opt1 (o:=(match geti d0 v28 with|some c=>some [.int .u8 c.toNat]|none=>none)) [.int .u8 y20.toNat] (by kernel_rfl) (by rw[e25]) ?_)
        exact ja 11 (ih_F115_L4 _ _ hF)
       ·
        obtain⟨l10,e26,hF⟩:=bnd hF
        refine jo2 6 (am (f:=e_i64) e26) ?_
        exact ja 8 (ih_F115_L3 _ _ hF)
     exact ja 18 (hF115_L4 _ _ _ hF)
    ·
     obtain⟨y21,e27,hF⟩:=bnd hF
     refine jc 5 en152 (F152_ok e27) ?_
     have hF:=oi hF;subst hF
     exact jr 2
  refine J_adv 15 (J_own (n:=1) 3 37 3 1 (by kernel_rfl) (by kernel_rfl) ?_)
  exact ja 0 (hF115_L3 _ _ _ hF)
def F114_L2(d0:List Int)(d1:List Int)(v10:Int)(rec_F114_L1:Int→(List Int)→Option (List Int)):Nat→Int→Int→(List Int)→Option (List Int)
 |0,_,_,_=>none
 |n_F114_L2+1,v13,v14,l25=>
  Option.bind (
   bif decide (v14<((d1.map e_i64).length:Int)) then
    (some true)
   else
    (some (decide (v13>0)))) fun o9=>
  bif o9 then
   (Option.bind (geti l25 (IntKind.i64.wrap (v10+v14))) fun y41=>
   bif decide (v14<((d1.map e_i64).length:Int)) then
    (Option.bind (geti d0 v10) fun y42=>
    Option.bind (geti d1 v14) fun y43=>
    Option.bind (geti l25 (IntKind.i64.wrap (v10+v14))) fun y44=>
    Option.bind (some (l25.set (0+Int.toNat (IntKind.i64.wrap (v10+v14))) (Int.tmod (IntKind.i64.wrap ((IntKind.i64.wrap (y41+v13))+(IntKind.i64.wrap (y42*y43)))) 10000))) fun l26=>
    (F114_L2 d0 d1 v10 rec_F114_L1 n_F114_L2) (IntKind.i64.wrap (Int.tdiv (IntKind.i64.wrap ((IntKind.i64.wrap (y41+v13))+(IntKind.i64.wrap (y42*y43)))) 10000)) (IntKind.i64.wrap (v14+1)) l26)
   else
    (Option.bind (geti l25 (IntKind.i64.wrap (v10+v14))) fun y45=>
    Option.bind (some (l25.set (0+Int.toNat (IntKind.i64.wrap (v10+v14))) (Int.tmod (IntKind.i64.wrap (y41+v13)) 10000))) fun l27=>
    (F114_L2 d0 d1 v10 rec_F114_L1 n_F114_L2) (IntKind.i64.wrap (Int.tdiv (IntKind.i64.wrap (y41+v13)) 10000)) (IntKind.i64.wrap (v14+1)) l27))
  else
   (rec_F114_L1 (IntKind.i64.wrap (v10+1)) l25)
def F114_L1(fuel:Nat)(d0:List Int)(d1:List Int):Nat→Int→(List Int)→Option (List Int)
 |0,_,_=>none
 |n_F114_L1+1,v10,l19=>
  bif decide (v10<((d0.map e_i64).length:Int)) then
   (F114_L2 d0 d1 v10 (F114_L1 fuel d0 d1 n_F114_L1) fuel 0 0 l19)
  else
   (Option.bind (F152 fuel l19) fun y46=>
   some y46)
def F114(fuel:Nat)(d0:List Int)(d1:List Int):Option (List Int):=
 Option.bind (mkL (IntKind.i64.wrap (((d0.map e_i64).length:Int)+((d1.map e_i64).length:Int))) (IntKind.i64.wrap (((d0.map e_i64).length:Int)+((d1.map e_i64).length:Int))) 0) fun l1=>
 F114_L1 fuel d0 d1 fuel 0 l1
noncomputable abbrev b114:=bodyOf Tryz.f114
abbrev G114(r:List Int):=J none Tryz.prog 66 [] (finF Tryz.prog Tryz.f114 (.l 1 r e_i64))
theorem F114_ok{fuel:Nat}{d0:List Int}{d1:List Int}{r:List Int}(hF:F114 fuel d0 d1=some r):
 CallF Tryz.prog 114 [.l 1 d0 e_i64,.l 1 d1 e_i64] (.l 1 r e_i64):=by
 unfold F114 at hF
 refine cf 66 Tryz.func114 ?_
 obtain⟨l1,e1,hF⟩:=bnd hF
 refine jo2 11 (mm (f:=e_i64) e1) ?_
 have hF114_L1:∀(n_F114_L1:Nat) (v10:Int) (l19:List Int),F114_L1 fuel d0 d1 n_F114_L1 v10 l19=some r→G114 r ⟨mkT [(0,.l 1 d0 e_i64),(1,.l 1 d1 e_i64),(5,.suf 15 0 0),(6,.i v10)],[(15,.buf 0 3 1 (l19.map e_i64))],[kL b114 [1,1,0,1,0,0],.inBlock 0,kC b114 [1,1,1]]⟩:=by
  clear hF;intro n_F114_L1
  induction n_F114_L1 with
  |zero=>intro v10 l19 hF;cases hF
  |succ n_F114_L1 ih_F114_L1=>
   intro v10 l19 hF
   rw[F114_L1]at hF
   refine ji 9 19 hF (fun hb33 hF=> ?_) (fun hb33 hF=> ?_)
   ·
    have hF114_L2:∀(n_F114_L2:Nat) (v13:Int) (v14:Int) (l25:List Int),F114_L2 d0 d1 v10 (F114_L1 fuel d0 d1 n_F114_L1) n_F114_L2 v13 v14 l25=some r→G114 r ⟨mkT [(0,.l 1 d0 e_i64),(1,.l 1 d1 e_i64),(5,.suf 15 0 0),(6,.i v10),(7,.i v13),(8,.i v14)],[(15,.buf 0 3 1 (l25.map e_i64))],[kL b114 [1,1,0,1,0,0,1,0,0,1,1,0,0],.inBlock 2,.inBlock 1,kC b114 [1,1,0,1,0,0,1,1],kL b114 [1,1,0,1,0,0],.inBlock 0,kC b114 [1,1,1]]⟩:=by
     clear hF;intro n_F114_L2
     induction n_F114_L2 with
     |zero=>intro v13 v14 l25 hF;cases hF
     |succ n_F114_L2 ih_F114_L2=>
      intro v13 v14 l25 hF
      rw[F114_L2]at hF
      obtain⟨o9,hO,hF⟩:=bnd hF
      have hR9:G114 r ⟨mkT [(0,.l 1 d0 e_i64),(1,.l 1 d1 e_i64),(5,.suf 15 0 0),(6,.i v10),(7,.i v13),(8,.i v14),(29,.b o9)],[(15,.buf 0 3 1 (l25.map e_i64))],[kO b114 [1,1,0,1,0,0,1,0,0,1,1,0,0,0,0],kC b114 [1,1,0,1,0,0,1,0,0,1,1,0,0,0,1],kC b114 [1,1,0,1,0,0,1,0,0,1,1,0,0,1],kL b114 [1,1,0,1,0,0,1,0,0,1,1,0,0],.inBlock 2,.inBlock 1,kC b114 [1,1,0,1,0,0,1,1],kL b114 [1,1,0,1,0,0],.inBlock 0,kC b114 [1,1,1]]⟩:=by
       clear hO
       refine ji 1 29 hF (fun hb46 hF=> ?_) (fun hb46 hF=> ?_)
       ·
        obtain⟨y41,e58,hF⟩:=bnd hF
        refine jo1 10 (gm (f:=e_i64) e58) ?_
        refine jo1 0 (gjm (f:=e_i64) (gj e58)) ?_
        refine ji 12 43 hF (fun hb47 hF=> ?_) (fun hb47 hF=> ?_)
        ·
         refine jd 1 ?_
         obtain⟨y42,e59,hF⟩:=bnd hF
         refine do1 3 (gm (f:=e_i64) e59) ?_
         obtain⟨y43,e60,hF⟩:=bnd hF
         refine do1 3 (gm (f:=e_i64) e60) ?_
         refine je 4 ?_
         obtain⟨y44,e61,hF⟩:=bnd hF
         refine jo1 8 (gm (f:=e_i64) e61) ?_
         obtain⟨l26,e62,hF⟩:=bnd hF
         have hst:=stm (f:=e_i64) (z:=Int.tmod (IntKind.i64.wrap ((IntKind.i64.wrap (y41+v13))+(IntKind.i64.wrap (y42*y43)))) 10000) (k:=0) (xs:=[.int .i64 (Int.tmod (IntKind.i64.wrap ((IntKind.i64.wrap (y41+v13))+(IntKind.i64.wrap (y42*y43)))) 10000)]) (gj e61) rfl
         refine J_adv 0 (J_opt2 (o:=(match(l25.map e_i64)[0+Int.toNat (IntKind.i64.wrap (v10+v14))]? with|some old=>some ((l25.map e_i64).set (0+Int.toNat (IntKind.i64.wrap (v10+v14))) (setD old 0 [.int .i64 (Int.tmod (IntKind.i64.wrap ((IntKind.i64.wrap (y41+v13))+(IntKind.i64.wrap (y42*y43)))) 10000)]))|none=>none)) (l26.map e_i64) (by kernel_rfl) (by cases e62;exact hst) ?_)
         exact ja 12 (ih_F114_L2 _ _ _ hF)
        ·
         obtain⟨y45,e63,hF⟩:=bnd hF
         refine jo1 10 (gm (f:=e_i64) e63) ?_
         obtain⟨l27,e64,hF⟩:=bnd hF
         have hst:=stm (f:=e_i64) (z:=Int.tmod (IntKind.i64.wrap (y41+v13)) 10000) (k:=0) (xs:=[.int .i64 (Int.tmod (IntKind.i64.wrap (y41+v13)) 10000)]) (gj e63) rfl
         refine J_adv 0 (J_opt2 (o:=(match(l25.map e_i64)[0+Int.toNat (IntKind.i64.wrap (v10+v14))]? with|some old=>some ((l25.map e_i64).set (0+Int.toNat (IntKind.i64.wrap (v10+v14))) (setD old 0 [.int .i64 (Int.tmod (IntKind.i64.wrap (y41+v13)) 10000)]))|none=>none)) (l27.map e_i64) (by kernel_rfl) (by cases e64;exact hst) ?_)
         exact ja 12 (ih_F114_L2 _ _ _ hF)
       ·
        exact ja 8 (ih_F114_L1 _ _ hF)
      clear hF;rename _=some o9=>hF
      refine ji 9 26 hF (fun hb48 hF=> ?_) (fun hb48 hF=> ?_)
      ·
       have hF:=oi hF;subst hF
       exact ja 3 hR9
      ·
       have hF:=oi hF;subst hF
       exact ja 3 hR9
    exact ja 14 (hF114_L2 _ _ _ _ hF)
   ·
    obtain⟨y46,e65,hF⟩:=bnd hF
    refine jc 5 en152 (F152_ok e65) ?_
    have hF:=oi hF;subst hF
    exact jr 2
 exact ja 9 (hF114_L1 _ _ _ hF)
def F112_A3(v9:Int)(rec_F112_L2:Int→(List Int)→Option (List UInt8))(l34:List Int):Option (List UInt8):=
 rec_F112_L2 (IntKind.i64.wrap (Int.tdiv v9 10)) l34
def F112_L2(d1:List Int)(v7:Int)(rec_F112_L1:Int→(List Int)→Option (List UInt8)):Nat→Int→(List Int)→Option (List UInt8)
 |0,_,_=>none
 |n_F112_L2+1,v9,l32=>
  bif decide (v9>0) then
   (Option.bind (geti d1 v7) fun y18=>
   ass (decide (v9≠0))<|
   Option.bind (
    bif decide (((l32.map e_u8).length:Int)>0) then
     (some true)
    else
     (some ((IntKind.u8.wrap (IntKind.i64.wrap (48+(Int.tmod (IntKind.i64.wrap (Int.tdiv y18 v9)) 10)))) !=48))) fun o16=>
   bif o16 then
    (Option.bind (app l32 [IntKind.u8.wrap (IntKind.i64.wrap (48+(Int.tmod (IntKind.i64.wrap (Int.tdiv y18 v9)) 10)))]) fun l35=>
    F112_A3 v9 (F112_L2 d1 v7 rec_F112_L1 n_F112_L2) l35)
   else
    (F112_A3 v9 (F112_L2 d1 v7 rec_F112_L1 n_F112_L2) l32))
  else
   (rec_F112_L1 (IntKind.i64.wrap (v7-1)) l32)
def F112_L1(fuel:Nat)(d0:Bool)(d1:List Int):Nat→Int→(List Int)→Option (List UInt8)
 |0,_,_=>none
 |n_F112_L1+1,v7,l24=>
  bif decide (v7≥0) then
   (F112_L2 d1 v7 (F112_L1 fuel d0 d1 n_F112_L1) fuel 1000 l24)
  else
   (bif d0 then
    (ass (decide ([45].length+(l24.map toB).length≤4611686018427387904))<|
    some ([45]++(l24.map toB)))
   else
    (some (l24.map toB)))
def F112(fuel:Nat)(d0:Bool)(d1:List Int):Option (List UInt8):=
 bif ((d1.map e_i64).length:Int)==0 then
  (some [48])
 else
  (F112_L1 fuel d0 d1 fuel (IntKind.i64.wrap (((d1.map e_i64).length:Int)-1)) [])
noncomputable abbrev b112:=bodyOf Tryz.f112
abbrev G112(r:List UInt8):=J none Tryz.prog 49 [] (finF Tryz.prog Tryz.f112 (.s r))
theorem F112_ok{fuel:Nat}{d0:Bool}{d1:List Int}{r:List UInt8}(hF:F112 fuel d0 d1=some r):
 CallF Tryz.prog 112 [.b d0,.l 1 d1 e_i64] (.s r):=by
 unfold F112 at hF
 refine cf 49 Tryz.func112 ?_
 refine ji 11 11 hF (fun hb1 hF=> ?_) (fun hb1 hF=> ?_)
 ·
  have hF:=oi hF;subst hF
  exact jr 5
 ·
  have hF112_L1:∀(n_F112_L1:Nat) (v7:Int) (l24:List Int),F112_L1 fuel d0 d1 n_F112_L1 v7 l24=some r→G112 r ⟨mkT [(0,.b d0),(1,.l 1 d1 e_i64),(5,.suf 42 0 0),(6,.i v7)],[(42,.buf 0 5 1 (l24.map e_u8))],[kL b112 [1,1,1,0,1,0,0],.inBlock 0,kC b112 [1,1,1,1]]⟩:=by
   clear hF;intro n_F112_L1
   induction n_F112_L1 with
   |zero=>intro v7 l24 hF;cases hF
   |succ n_F112_L1 ih_F112_L1=>
    intro v7 l24 hF
    rw[F112_L1]at hF
    refine ji 7 16 hF (fun hb62 hF=> ?_) (fun hb62 hF=> ?_)
    ·
     have hF112_L2:∀(n_F112_L2:Nat) (v9:Int) (l32:List Int),F112_L2 d1 v7 (F112_L1 fuel d0 d1 n_F112_L1) n_F112_L2 v9 l32=some r→G112 r ⟨mkT [(0,.b d0),(1,.l 1 d1 e_i64),(5,.suf 42 0 0),(6,.i v7),(7,.i v9)],[(42,.buf 0 5 1 (l32.map e_u8))],[kL b112 [1,1,1,0,1,0,0,1,0,0,1,0,0],.inBlock 2,.inBlock 1,kC b112 [1,1,1,0,1,0,0,1,1],kL b112 [1,1,1,0,1,0,0],.inBlock 0,kC b112 [1,1,1,1]]⟩:=by
      clear hF;intro n_F112_L2
      induction n_F112_L2 with
      |zero=>intro v9 l32 hF;cases hF
      |succ n_F112_L2 ih_F112_L2=>
       intro v9 l32 hF
       rw[F112_L2]at hF
       refine ji 7 20 hF (fun hb84 hF=> ?_) (fun hb84 hF=> ?_)
       ·
        have hF112_A3:∀(l34:List Int),F112_A3 v9 (F112_L2 d1 v7 (F112_L1 fuel d0 d1 n_F112_L1) n_F112_L2) l34=some r→G112 r ⟨mkT [(0,.b d0),(1,.l 1 d1 e_i64),(5,.suf 42 0 0),(6,.i v7),(7,.i v9)],[(42,.buf 0 5 1 (l34.map e_u8))],[kC b112 [1,1,1,0,1,0,0,1,0,0,1,0,0,1,1],kL b112 [1,1,1,0,1,0,0,1,0,0,1,0,0],.inBlock 2,.inBlock 1,kC b112 [1,1,1,0,1,0,0,1,1],kL b112 [1,1,1,0,1,0,0],.inBlock 0,kC b112 [1,1,1,1]]⟩:=by
         intro l34 hF
         unfold F112_A3 at hF
         exact ja 5 (ih_F112_L2 _ _ hF)
        obtain⟨y18,e35,hF⟩:=bnd hF
        refine jo1 8 (gm (f:=e_i64) e35) ?_
        obtain⟨hb90,hF⟩:=assd hF
        refine jo1 2 (ck hb90) ?_
        obtain⟨o16,hO,hF⟩:=bnd hF
        have hR16:G112 r ⟨mkT [(0,.b d0),(1,.l 1 d1 e_i64),(5,.suf 42 0 0),(6,.i v7),(7,.i v9),(8,.y (IntKind.u8.wrap (IntKind.i64.wrap (48+(Int.tmod (IntKind.i64.wrap (Int.tdiv y18 v9)) 10))))),(38,.b o16)],[(42,.buf 0 5 1 (l32.map e_u8))],[kO b112 [1,1,1,0,1,0,0,1,0,0,1,0,0,1,0,0,1,0],kC b112 [1,1,1,0,1,0,0,1,0,0,1,0,0,1,0,0,1,1],.inBlock 3,kC b112 [1,1,1,0,1,0,0,1,0,0,1,0,0,1,1],kL b112 [1,1,1,0,1,0,0,1,0,0,1,0,0],.inBlock 2,.inBlock 1,kC b112 [1,1,1,0,1,0,0,1,1],kL b112 [1,1,1,0,1,0,0],.inBlock 0,kC b112 [1,1,1,1]]⟩:=by
         clear hO
         refine ji 1 38 hF (fun hb93 hF=> ?_) (fun hb93 hF=> ?_)
         ·
          obtain⟨l35,e36,hF⟩:=bnd hF
          refine jo2 5 (am (f:=e_u8) e36) ?_
          exact ja 3 (hF112_A3 _ hF)
         ·
          exact ja 3 (hF112_A3 _ hF)
        clear hF;rename _=some o16=>hF
        refine ji 11 35 hF (fun hb94 hF=> ?_) (fun hb94 hF=> ?_)
        ·
         have hF:=oi hF;subst hF
         exact ja 3 hR16
        ·
         have hF:=oi hF;subst hF
         exact ja 3 hR16
       ·
        exact ja 8 (ih_F112_L1 _ _ hF)
     exact ja 10 (hF112_L2 _ _ _ hF)
    ·
     refine ji 7 43 hF (fun hb95 hF=> ?_) (fun hb95 hF=> ?_)
     ·
      refine J_adv 4 (J_opt1 (o:=strO (l24.map e_u8)) [.str (l24.map toB)] (by kernel_rfl) (stom (fun _=>rfl) l24) ?_)
      obtain⟨hb96,hF⟩:=assd hF
      refine jo1 0 (ck hb96) ?_
      have hF:=oi hF;subst hF
      exact jr 2
     ·
      refine J_adv 5 (J_opt1 (o:=strO (l24.map e_u8)) [.str (l24.map toB)] (by kernel_rfl) (stom (fun _=>rfl) l24) ?_)
      have hF:=oi hF;subst hF
      exact jr 2
  refine J_adv 16 (J_own (n:=1) 5 42 5 1 (by kernel_rfl) (by kernel_rfl) ?_)
  exact ja 0 (hF112_L1 _ _ _ hF)
def F66(fuel:Nat)(d0:List UInt8)(d1:List UInt8):Option (List UInt8):=
 Option.bind (F111 d0 d1) fun y1=>
 bif y1.2.2 then
  (Option.bind (F64 (IntKind.i64.wrap (y1.1*y1.2.1))) fun y2=>
  some y2)
 else
  (Option.bind (F113 d0) fun y3=>
  Option.bind (F113 d1) fun y4=>
  Option.bind (F115 fuel d0) fun y5=>
  Option.bind (F115 fuel d1) fun y6=>
  Option.bind (F114 fuel y5 y6) fun y7=>
  Option.bind (F112 fuel (!(y3==y4)) y7) fun y8=>
  some y8)
theorem F66_ok{fuel:Nat}{d0:List UInt8}{d1:List UInt8}{r:List UInt8}(hF:F66 fuel d0 d1=some r):
 CallF Tryz.prog 66 [.s d0,.s d1] (.s r):=by
 unfold F66 at hF
 refine cf 31 Tryz.func66 ?_
 obtain⟨y1,e1,hF⟩:=bnd hF
 refine jc 9 en111 (F111_ok e1) ?_
 refine ji 12 15 hF (fun hb1 hF=> ?_) (fun hb1 hF=> ?_)
 ·
  obtain⟨y2,e2,hF⟩:=bnd hF
  refine jc 6 en64 (F64_ok e2) ?_
  have hF:=oi hF;subst hF
  exact jr 2
 ·
  obtain⟨y3,e3,hF⟩:=bnd hF
  refine jc 5 en113 (F113_ok e3) ?_
  obtain⟨y4,e4,hF⟩:=bnd hF
  refine jc 1 en113 (F113_ok e4) ?_
  obtain⟨y5,e5,hF⟩:=bnd hF
  refine jc 2 en115 (F115_ok e5) ?_
  obtain⟨y6,e6,hF⟩:=bnd hF
  refine jc 1 en115 (F115_ok e6) ?_
  obtain⟨y7,e7,hF⟩:=bnd hF
  refine jc 0 en114 (F114_ok e7) ?_
  obtain⟨y8,e8,hF⟩:=bnd hF
  refine jc 0 en112 (F112_ok e8) ?_
  have hF:=oi hF;subst hF
  exact jr 2
def F92(d0:List UInt8):Option Int:=
 bif d0==[48] then
  (some 0)
 else
  (Option.bind (F113 d0) fun y1=>
  bif y1 then
   (some (-1))
  else
   (some 1))
theorem F92_ok{d0:List UInt8}{r:Int}(hF:F92 d0=some r):
 CallF Tryz.prog 92 [.s d0] (.i r):=by
 unfold F92 at hF
 refine cf 7 Tryz.func92 ?_
 refine ji 10 4 hF (fun hb1 hF=> ?_) (fun hb1 hF=> ?_)
 ·
  have hF:=oi hF;subst hF
  exact jr 5
 ·
  obtain⟨y1,e1,hF⟩:=bnd hF
  refine jc 6 en113 (F113_ok e1) ?_
  refine ji 1 6 hF (fun hb2 hF=> ?_) (fun hb2 hF=> ?_)
  ·
   have hF:=oi hF;subst hF
   exact jr 5
  ·
   have hF:=oi hF;subst hF
   exact jr 6
def F118_L1(d0:List Int)(d1:List Int):Nat→Int→Option Int
 |0,_=>none
 |n_F118_L1+1,v2=>
  bif decide (v2≥0) then
   (Option.bind (geti d0 v2) fun y9=>
   Option.bind (geti d1 v2) fun y10=>
   bif y9 !=y10 then
    (Option.bind (geti d0 v2) fun y11=>
    Option.bind (geti d1 v2) fun y12=>
    bif decide (y11<y12) then
     (some (-1))
    else
     (some 1))
   else
    ((F118_L1 d0 d1 n_F118_L1) (IntKind.i64.wrap (v2-1))))
  else
   (some 0)
def F118(fuel:Nat)(d0:List Int)(d1:List Int):Option Int:=
 bif ((d0.map e_i64).length:Int) !=((d1.map e_i64).length:Int) then
  (bif decide (((d0.map e_i64).length:Int)<((d1.map e_i64).length:Int)) then
   (some (-1))
  else
   (some 1))
 else
  (F118_L1 d0 d1 fuel (IntKind.i64.wrap (((d0.map e_i64).length:Int)-1)))
noncomputable abbrev b118:=bodyOf Tryz.f118
abbrev G118(r:Int):=J none Tryz.prog 41 [] (finF Tryz.prog Tryz.f118 (.i r))
theorem F118_ok{fuel:Nat}{d0:List Int}{d1:List Int}{r:Int}(hF:F118 fuel d0 d1=some r):
 CallF Tryz.prog 118 [.l 1 d0 e_i64,.l 1 d1 e_i64] (.i r):=by
 unfold F118 at hF
 refine cf 41 Tryz.func118 ?_
 refine ji 13 10 hF (fun hb1 hF=> ?_) (fun hb1 hF=> ?_)
 ·
  refine ji 10 15 hF (fun hb2 hF=> ?_) (fun hb2 hF=> ?_)
  ·
   have hF:=oi hF;subst hF
   exact jr 5
  ·
   have hF:=oi hF;subst hF
   exact jr 6
 ·
  have hF118_L1:∀(n_F118_L1:Nat) (v2:Int),F118_L1 d0 d1 n_F118_L1 v2=some r→G118 r ⟨mkT [(0,.l 1 d0 e_i64),(1,.l 1 d1 e_i64),(5,.i v2)],[],[kL b118 [1,1,0,1,0,0],.inBlock 0,kC b118 [1,1,1]]⟩:=by
   clear hF;intro n_F118_L1
   induction n_F118_L1 with
   |zero=>intro v2 hF;cases hF
   |succ n_F118_L1 ih_F118_L1=>
    intro v2 hF
    rw[F118_L1]at hF
    refine ji 7 20 hF (fun hb9 hF=> ?_) (fun hb9 hF=> ?_)
    ·
     refine jd 5 ?_
     obtain⟨y9,e9,hF⟩:=bnd hF
     refine do1 2 (gm (f:=e_i64) e9) ?_
     obtain⟨y10,e10,hF⟩:=bnd hF
     refine do1 3 (gm (f:=e_i64) e10) ?_
     refine je 2 ?_
     refine ji 0 31 hF (fun hb10 hF=> ?_) (fun hb10 hF=> ?_)
     ·
      refine jd 3 ?_
      obtain⟨y11,e11,hF⟩:=bnd hF
      refine do1 2 (gm (f:=e_i64) e11) ?_
      obtain⟨y12,e12,hF⟩:=bnd hF
      refine do1 3 (gm (f:=e_i64) e12) ?_
      refine je 2 ?_
      refine ji 0 40 hF (fun hb11 hF=> ?_) (fun hb11 hF=> ?_)
      ·
       have hF:=oi hF;subst hF
       exact jr 5
      ·
       have hF:=oi hF;subst hF
       exact jr 6
     ·
      exact ja 8 (ih_F118_L1 _ hF)
    ·
     have hF:=oi hF;subst hF
     exact jr 6
  exact ja 12 (hF118_L1 _ _ hF)
def F72(fuel:Nat)(d0:List UInt8)(d1:List UInt8):Option Int:=
 Option.bind (F92 d0) fun y1=>
 Option.bind (F92 d1) fun y2=>
 bif y1 !=y2 then
  (Option.bind (F92 d0) fun y3=>
  Option.bind (F92 d1) fun y4=>
  bif decide (y3<y4) then
   (some (-1))
  else
   (some 1))
 else
  (Option.bind (F113 d0) fun y5=>
  bif y5 then
   (Option.bind (F115 fuel d1) fun y6=>
   Option.bind (F115 fuel d0) fun y7=>
   Option.bind (F118 fuel y6 y7) fun y8=>
   some y8)
  else
   (Option.bind (F115 fuel d0) fun y9=>
   Option.bind (F115 fuel d1) fun y10=>
   Option.bind (F118 fuel y9 y10) fun y11=>
   some y11))
theorem F72_ok{fuel:Nat}{d0:List UInt8}{d1:List UInt8}{r:Int}(hF:F72 fuel d0 d1=some r):
 CallF Tryz.prog 72 [.s d0,.s d1] (.i r):=by
 unfold F72 at hF
 refine cf 27 Tryz.func72 ?_
 obtain⟨y1,e1,hF⟩:=bnd hF
 refine jc 8 en92 (F92_ok e1) ?_
 obtain⟨y2,e2,hF⟩:=bnd hF
 refine jc 1 en92 (F92_ok e2) ?_
 refine ji 2 9 hF (fun hb1 hF=> ?_) (fun hb1 hF=> ?_)
 ·
  obtain⟨y3,e3,hF⟩:=bnd hF
  refine jc 5 en92 (F92_ok e3) ?_
  obtain⟨y4,e4,hF⟩:=bnd hF
  refine jc 1 en92 (F92_ok e4) ?_
  refine ji 2 14 hF (fun hb2 hF=> ?_) (fun hb2 hF=> ?_)
  ·
   have hF:=oi hF;subst hF
   exact jr 5
  ·
   have hF:=oi hF;subst hF
   exact jr 6
 ·
  obtain⟨y5,e5,hF⟩:=bnd hF
  refine jc 6 en113 (F113_ok e5) ?_
  refine ji 1 16 hF (fun hb3 hF=> ?_) (fun hb3 hF=> ?_)
  ·
   obtain⟨y6,e6,hF⟩:=bnd hF
   refine jc 4 en115 (F115_ok e6) ?_
   obtain⟨y7,e7,hF⟩:=bnd hF
   refine jc 1 en115 (F115_ok e7) ?_
   obtain⟨y8,e8,hF⟩:=bnd hF
   refine jc 0 en118 (F118_ok e8) ?_
   have hF:=oi hF;subst hF
   exact jr 2
  ·
   obtain⟨y9,e9,hF⟩:=bnd hF
   refine jc 5 en115 (F115_ok e9) ?_
   obtain⟨y10,e10,hF⟩:=bnd hF
   refine jc 1 en115 (F115_ok e10) ?_
   obtain⟨y11,e11,hF⟩:=bnd hF
   refine jc 0 en118 (F118_ok e11) ?_
   have hF:=oi hF;subst hF
   exact jr 2
def F119_L1(d0:List Int)(d1:List Int):Nat→Int→Int→(List Int)→Option (List Int)
 |0,_,_,_=>none
 |n_F119_L1+1,v3,v4,l10=>
  Option.bind (
   bif decide (v4<((d0.map e_i64).length:Int)) then
    (some true)
   else
    (bif decide (v4<((d1.map e_i64).length:Int)) then
     (some true)
    else
     (some (decide (v3>0))))) fun o3=>
  bif o3 then
   (bif decide (v4<((d0.map e_i64).length:Int)) then
    (Option.bind (geti d0 v4) fun y7=>
    bif decide (v4<((d1.map e_i64).length:Int)) then
     (Option.bind (geti d1 v4) fun y8=>
     Option.bind (app l10 [Int.tmod (IntKind.i64.wrap ((IntKind.i64.wrap (v3+y7))+y8)) 10000]) fun l11=>
     (F119_L1 d0 d1 n_F119_L1) (IntKind.i64.wrap (Int.tdiv (IntKind.i64.wrap ((IntKind.i64.wrap (v3+y7))+y8)) 10000)) (IntKind.i64.wrap (v4+1)) l11)
    else
     (Option.bind (app l10 [Int.tmod (IntKind.i64.wrap (v3+y7)) 10000]) fun l12=>
     (F119_L1 d0 d1 n_F119_L1) (IntKind.i64.wrap (Int.tdiv (IntKind.i64.wrap (v3+y7)) 10000)) (IntKind.i64.wrap (v4+1)) l12))
   else
    (bif decide (v4<((d1.map e_i64).length:Int)) then
     (Option.bind (geti d1 v4) fun y9=>
     Option.bind (app l10 [Int.tmod (IntKind.i64.wrap (v3+y9)) 10000]) fun l13=>
     (F119_L1 d0 d1 n_F119_L1) (IntKind.i64.wrap (Int.tdiv (IntKind.i64.wrap (v3+y9)) 10000)) (IntKind.i64.wrap (v4+1)) l13)
    else
     (Option.bind (app l10 [Int.tmod v3 10000]) fun l14=>
     (F119_L1 d0 d1 n_F119_L1) (IntKind.i64.wrap (Int.tdiv v3 10000)) (IntKind.i64.wrap (v4+1)) l14)))
  else
   (some l10)
def F119(fuel:Nat)(d0:List Int)(d1:List Int):Option (List Int):=
 F119_L1 d0 d1 fuel 0 0 []
noncomputable abbrev b119:=bodyOf Tryz.f119
abbrev G119(r:List Int):=J none Tryz.prog 54 [] (finF Tryz.prog Tryz.f119 (.l 1 r e_i64))
theorem F119_ok{fuel:Nat}{d0:List Int}{d1:List Int}{r:List Int}(hF:F119 fuel d0 d1=some r):
 CallF Tryz.prog 119 [.l 1 d0 e_i64,.l 1 d1 e_i64] (.l 1 r e_i64):=by
 unfold F119 at hF
 refine cf 54 Tryz.func119 ?_
 have hF119_L1:∀(n_F119_L1:Nat) (v3:Int) (v4:Int) (l10:List Int),F119_L1 d0 d1 n_F119_L1 v3 v4 l10=some r→G119 r ⟨mkT [(0,.l 1 d0 e_i64),(1,.l 1 d1 e_i64),(5,.suf 50 0 0),(6,.i v3),(7,.i v4)],[(50,.buf 0 3 1 (l10.map e_i64))],[kL b119 [1,1,1,0,1,0,0],.inBlock 0,kC b119 [1,1,1,1]]⟩:=by
  clear hF;intro n_F119_L1
  induction n_F119_L1 with
  |zero=>intro v3 v4 l10 hF;cases hF
  |succ n_F119_L1 ih_F119_L1=>
   intro v3 v4 l10 hF
   rw[F119_L1]at hF
   obtain⟨o3,hO,hF⟩:=bnd hF
   have hR3:G119 r ⟨mkT [(0,.l 1 d0 e_i64),(1,.l 1 d1 e_i64),(5,.suf 50 0 0),(6,.i v3),(7,.i v4),(22,.b o3)],[(50,.buf 0 3 1 (l10.map e_i64))],[kO b119 [1,1,1,0,1,0,0,0,0],kC b119 [1,1,1,0,1,0,0,0,1],kC b119 [1,1,1,0,1,0,0,1],kL b119 [1,1,1,0,1,0,0],.inBlock 0,kC b119 [1,1,1,1]]⟩:=by
    clear hO
    refine ji 1 22 hF (fun hb25 hF=> ?_) (fun hb25 hF=> ?_)
    ·
     refine ji 17 29 hF (fun hb26 hF=> ?_) (fun hb26 hF=> ?_)
     ·
      obtain⟨y7,e15,hF⟩:=bnd hF
      refine jo1 5 (gm (f:=e_i64) e15) ?_
      refine ji 12 39 hF (fun hb27 hF=> ?_) (fun hb27 hF=> ?_)
      ·
       obtain⟨y8,e16,hF⟩:=bnd hF
       refine jo1 5 (gm (f:=e_i64) e16) ?_
       obtain⟨l11,e17,hF⟩:=bnd hF
       refine jo2 10 (am (f:=e_i64) e17) ?_
       exact ja 13 (ih_F119_L1 _ _ _ hF)
      ·
       obtain⟨l12,e18,hF⟩:=bnd hF
       refine jo2 8 (am (f:=e_i64) e18) ?_
       exact ja 13 (ih_F119_L1 _ _ _ hF)
     ·
      refine ji 10 39 hF (fun hb28 hF=> ?_) (fun hb28 hF=> ?_)
      ·
       obtain⟨y9,e19,hF⟩:=bnd hF
       refine jo1 5 (gm (f:=e_i64) e19) ?_
       obtain⟨l13,e20,hF⟩:=bnd hF
       refine jo2 10 (am (f:=e_i64) e20) ?_
       exact ja 13 (ih_F119_L1 _ _ _ hF)
      ·
       obtain⟨l14,e21,hF⟩:=bnd hF
       refine jo2 8 (am (f:=e_i64) e21) ?_
       exact ja 13 (ih_F119_L1 _ _ _ hF)
    ·
     have hF:=oi hF;subst hF
     exact jr 7
   clear hF;rename _=some o3=>hF
   refine ji 9 13 hF (fun hb29 hF=> ?_) (fun hb29 hF=> ?_)
   ·
    have hF:=oi hF;subst hF
    exact ja 9 hR3
   ·
    refine ji 6 19 hF (fun hb30 hF=> ?_) (fun hb30 hF=> ?_)
    ·
     have hF:=oi hF;subst hF
     exact ja 3 hR3
    ·
     have hF:=oi hF;subst hF
     exact ja 3 hR3
 refine J_adv 19 (J_own (n:=1) 5 50 3 1 (by kernel_rfl) (by kernel_rfl) ?_)
 exact ja 0 (hF119_L1 _ _ _ _ hF)
def F120_L1(fuel:Nat)(d0:List Int)(d1:List Int):Nat→Int→Int→(List Int)→Option (List Int)
 |0,_,_,_=>none
 |n_F120_L1+1,v3,v4,l10=>
  bif decide (v4<((d0.map e_i64).length:Int)) then
   (Option.bind (geti d0 v4) fun y5=>
   bif decide (v4<((d1.map e_i64).length:Int)) then
    (Option.bind (geti d1 v4) fun y6=>
    bif decide ((IntKind.i64.wrap ((IntKind.i64.wrap (y5-v3))-y6))<0) then
     (Option.bind (app l10 [IntKind.i64.wrap ((IntKind.i64.wrap ((IntKind.i64.wrap (y5-v3))-y6))+10000)]) fun l11=>
     (F120_L1 fuel d0 d1 n_F120_L1) 1 (IntKind.i64.wrap (v4+1)) l11)
    else
     (Option.bind (app l10 [IntKind.i64.wrap ((IntKind.i64.wrap (y5-v3))-y6)]) fun l12=>
     (F120_L1 fuel d0 d1 n_F120_L1) 0 (IntKind.i64.wrap (v4+1)) l12))
   else
    (bif decide ((IntKind.i64.wrap (y5-v3))<0) then
     (Option.bind (app l10 [IntKind.i64.wrap ((IntKind.i64.wrap (y5-v3))+10000)]) fun l13=>
     (F120_L1 fuel d0 d1 n_F120_L1) 1 (IntKind.i64.wrap (v4+1)) l13)
    else
     (Option.bind (app l10 [IntKind.i64.wrap (y5-v3)]) fun l14=>
     (F120_L1 fuel d0 d1 n_F120_L1) 0 (IntKind.i64.wrap (v4+1)) l14)))
  else
   (Option.bind (F152 fuel l10) fun y7=>
   some y7)
def F120(fuel:Nat)(d0:List Int)(d1:List Int):Option (List Int):=
 F120_L1 fuel d0 d1 fuel 0 0 []
noncomputable abbrev b120:=bodyOf Tryz.f120
abbrev G120(r:List Int):=J none Tryz.prog 41 [] (finF Tryz.prog Tryz.f120 (.l 1 r e_i64))
theorem F120_ok{fuel:Nat}{d0:List Int}{d1:List Int}{r:List Int}(hF:F120 fuel d0 d1=some r):
 CallF Tryz.prog 120 [.l 1 d0 e_i64,.l 1 d1 e_i64] (.l 1 r e_i64):=by
 unfold F120 at hF
 refine cf 41 Tryz.func120 ?_
 have hF120_L1:∀(n_F120_L1:Nat) (v3:Int) (v4:Int) (l10:List Int),F120_L1 fuel d0 d1 n_F120_L1 v3 v4 l10=some r→G120 r ⟨mkT [(0,.l 1 d0 e_i64),(1,.l 1 d1 e_i64),(5,.suf 38 0 0),(6,.i v3),(7,.i v4)],[(38,.buf 0 3 1 (l10.map e_i64))],[kL b120 [1,1,1,0,1,0,0],.inBlock 0,kC b120 [1,1,1,1]]⟩:=by
  clear hF;intro n_F120_L1
  induction n_F120_L1 with
  |zero=>intro v3 v4 l10 hF;cases hF
  |succ n_F120_L1 ih_F120_L1=>
   intro v3 v4 l10 hF
   rw[F120_L1]at hF
   refine ji 9 12 hF (fun hb9 hF=> ?_) (fun hb9 hF=> ?_)
   ·
    obtain⟨y5,e13,hF⟩:=bnd hF
    refine jo1 8 (gm (f:=e_i64) e13) ?_
    refine ji 13 24 hF (fun hb10 hF=> ?_) (fun hb10 hF=> ?_)
    ·
     obtain⟨y6,e14,hF⟩:=bnd hF
     refine jo1 5 (gm (f:=e_i64) e14) ?_
     refine ji 14 32 hF (fun hb11 hF=> ?_) (fun hb11 hF=> ?_)
     ·
      obtain⟨l11,e15,hF⟩:=bnd hF
      refine jo2 14 (am (f:=e_i64) e15) ?_
      exact ja 8 (ih_F120_L1 _ _ _ hF)
     ·
      obtain⟨l12,e16,hF⟩:=bnd hF
      refine jo2 6 (am (f:=e_i64) e16) ?_
      exact ja 8 (ih_F120_L1 _ _ _ hF)
    ·
     refine ji 12 32 hF (fun hb12 hF=> ?_) (fun hb12 hF=> ?_)
     ·
      obtain⟨l13,e17,hF⟩:=bnd hF
      refine jo2 14 (am (f:=e_i64) e17) ?_
      exact ja 8 (ih_F120_L1 _ _ _ hF)
     ·
      obtain⟨l14,e18,hF⟩:=bnd hF
      refine jo2 6 (am (f:=e_i64) e18) ?_
      exact ja 8 (ih_F120_L1 _ _ _ hF)
   ·
    obtain⟨y7,e19,hF⟩:=bnd hF
    refine jc 5 en152 (F152_ok e19) ?_
    have hF:=oi hF;subst hF
    exact jr 2
 refine J_adv 19 (J_own (n:=1) 5 38 3 1 (by kernel_rfl) (by kernel_rfl) ?_)
 exact ja 0 (hF120_L1 _ _ _ _ hF)
def F73(fuel:Nat)(d0:List UInt8)(d1:List UInt8):Option (List UInt8):=
 Option.bind (F111 d0 d1) fun y1=>
 bif y1.2.2 then
  (Option.bind (F64 (IntKind.i64.wrap (y1.1+y1.2.1))) fun y2=>
  some y2)
 else
  (Option.bind (F115 fuel d0) fun y3=>
  Option.bind (F115 fuel d1) fun y4=>
  Option.bind (F113 d0) fun y5=>
  Option.bind (F113 d1) fun y6=>
  bif y5==y6 then
   (Option.bind (F113 d0) fun y7=>
   Option.bind (F119 fuel y3 y4) fun y8=>
   Option.bind (F112 fuel y7 y8) fun y9=>
   some y9)
  else
   (Option.bind (F118 fuel y3 y4) fun y10=>
   bif decide (y10≥0) then
    (Option.bind (F113 d0) fun y11=>
    Option.bind (F120 fuel y3 y4) fun y12=>
    Option.bind (F112 fuel y11 y12) fun y13=>
    some y13)
   else
    (Option.bind (F113 d1) fun y14=>
    Option.bind (F120 fuel y4 y3) fun y15=>
    Option.bind (F112 fuel y14 y15) fun y16=>
    some y16)))
theorem F73_ok{fuel:Nat}{d0:List UInt8}{d1:List UInt8}{r:List UInt8}(hF:F73 fuel d0 d1=some r):
 CallF Tryz.prog 73 [.s d0,.s d1] (.s r):=by
 unfold F73 at hF
 refine cf 53 Tryz.func73 ?_
 obtain⟨y1,e1,hF⟩:=bnd hF
 refine jc 9 en111 (F111_ok e1) ?_
 refine ji 12 17 hF (fun hb1 hF=> ?_) (fun hb1 hF=> ?_)
 ·
  obtain⟨y2,e2,hF⟩:=bnd hF
  refine jc 6 en64 (F64_ok e2) ?_
  have hF:=oi hF;subst hF
  exact jr 2
 ·
  obtain⟨y3,e3,hF⟩:=bnd hF
  refine jc 5 en115 (F115_ok e3) ?_
  obtain⟨y4,e4,hF⟩:=bnd hF
  refine jc 1 en115 (F115_ok e4) ?_
  obtain⟨y5,e5,hF⟩:=bnd hF
  refine jc 7 en113 (F113_ok e5) ?_
  obtain⟨y6,e6,hF⟩:=bnd hF
  refine jc 1 en113 (F113_ok e6) ?_
  refine ji 2 30 hF (fun hb2 hF=> ?_) (fun hb2 hF=> ?_)
  ·
   obtain⟨y7,e7,hF⟩:=bnd hF
   refine jc 4 en113 (F113_ok e7) ?_
   obtain⟨y8,e8,hF⟩:=bnd hF
   refine jc 2 en119 (F119_ok e8) ?_
   obtain⟨y9,e9,hF⟩:=bnd hF
   refine jc 0 en112 (F112_ok e9) ?_
   have hF:=oi hF;subst hF
   exact jr 2
  ·
   obtain⟨y10,e10,hF⟩:=bnd hF
   refine jc 7 en118 (F118_ok e10) ?_
   refine ji 2 40 hF (fun hb3 hF=> ?_) (fun hb3 hF=> ?_)
   ·
    obtain⟨y11,e11,hF⟩:=bnd hF
    refine jc 4 en113 (F113_ok e11) ?_
    obtain⟨y12,e12,hF⟩:=bnd hF
    refine jc 2 en120 (F120_ok e12) ?_
    obtain⟨y13,e13,hF⟩:=bnd hF
    refine jc 0 en112 (F112_ok e13) ?_
    have hF:=oi hF;subst hF
    exact jr 2
   ·
    obtain⟨y14,e14,hF⟩:=bnd hF
    refine jc 5 en113 (F113_ok e14) ?_
    obtain⟨y15,e15,hF⟩:=bnd hF
    refine jc 2 en120 (F120_ok e15) ?_
    obtain⟨y16,e16,hF⟩:=bnd hF
    refine jc 0 en112 (F112_ok e16) ?_
    have hF:=oi hF;subst hF
    exact jr 2
def F154_A4(v92:Int)(rec_F154_L3:Int→Int→Int→Option (List Int×List Int))(v93:Int)(v94:Int):Option (List Int×List Int):=
 rec_F154_L3 v93 v94 (IntKind.i64.wrap (v92-1))
def F154_A2(v66:Int)(rec_F154_L1:(List Int)→Int→(List Int)→Option (List Int×List Int))(l23:List Int)(l24:List Int):Option (List Int×List Int):=
 rec_F154_L1 l23 (IntKind.i64.wrap (v66-1)) l24
def F154_L5(fuel:Nat)(d1:List Int)(l20:List Int)(v66:Int)(y147:List Int)(rec_F154_L1:(List Int)→Int→(List Int)→Option (List Int×List Int)):Nat→Int→Int→Option (List Int×List Int)
 |0,_,_=>none
 |n_F154_L5+1,v97,v98=>
  bif decide (v97<v98) then
   (Option.bind (F114 fuel d1 [IntKind.i64.wrap (Int.tdiv (IntKind.i64.wrap ((IntKind.i64.wrap (v97+v98))+1)) 2)]) fun y170=>
   Option.bind (F118 fuel y170 y147) fun y171=>
   bif decide (y171≤0) then
    ((F154_L5 fuel d1 l20 v66 y147 rec_F154_L1 n_F154_L5) (IntKind.i64.wrap (Int.tdiv (IntKind.i64.wrap ((IntKind.i64.wrap (v97+v98))+1)) 2)) v98)
   else
    ((F154_L5 fuel d1 l20 v66 y147 rec_F154_L1 n_F154_L5) v97 (IntKind.i64.wrap ((IntKind.i64.wrap (Int.tdiv (IntKind.i64.wrap ((IntKind.i64.wrap (v97+v98))+1)) 2))-1))))
  else
   (Option.bind (geti l20 v66) fun y172=>
   Option.bind (some (l20.set (0+Int.toNat v66) v97)) fun l26=>
   bif decide (v97>0) then
    (Option.bind (F114 fuel d1 [v97]) fun y173=>
    Option.bind (F120 fuel y147 y173) fun y174=>
    F154_A2 v66 rec_F154_L1 y174 l26)
   else
    (F154_A2 v66 rec_F154_L1 y147 l26))
def F154_L3(fuel:Nat)(d1:List Int)(l20:List Int)(v66:Int)(y147:List Int)(rec_F154_L1:(List Int)→Int→(List Int)→Option (List Int×List Int)):Nat→Int→Int→Int→Option (List Int×List Int)
 |0,_,_,_=>none
 |n_F154_L3+1,v90,v91,v92=>
  bif decide (v92≥(bif decide ((IntKind.i64.wrap ((IntKind.i64.wrap (((d1.map e_i64).length:Int)-1))-1))>0) then(IntKind.i64.wrap ((IntKind.i64.wrap (((d1.map e_i64).length:Int)-1))-1)) else 0)) then
   (bif decide (v92<((y147.map e_i64).length:Int)) then
    (Option.bind (geti y147 v92) fun y163=>
    bif decide (v92≤(IntKind.i64.wrap (((d1.map e_i64).length:Int)-1))) then
     (Option.bind (geti d1 v92) fun y164=>
     F154_A4 v92 (F154_L3 fuel d1 l20 v66 y147 rec_F154_L1 n_F154_L3) (IntKind.i64.wrap ((IntKind.i64.wrap (v90*10000))+y164)) (IntKind.i64.wrap ((IntKind.i64.wrap (v91*10000))+y163)))
    else
     (F154_A4 v92 (F154_L3 fuel d1 l20 v66 y147 rec_F154_L1 n_F154_L3) v90 (IntKind.i64.wrap ((IntKind.i64.wrap (v91*10000))+y163))))
   else
    (bif decide (v92≤(IntKind.i64.wrap (((d1.map e_i64).length:Int)-1))) then
     (Option.bind (geti d1 v92) fun y165=>
     F154_A4 v92 (F154_L3 fuel d1 l20 v66 y147 rec_F154_L1 n_F154_L3) (IntKind.i64.wrap ((IntKind.i64.wrap (v90*10000))+y165)) (IntKind.i64.wrap (v91*10000)))
    else
     (F154_A4 v92 (F154_L3 fuel d1 l20 v66 y147 rec_F154_L1 n_F154_L3) v90 (IntKind.i64.wrap (v91*10000)))))
  else
   (ass (decide ((IntKind.i64.wrap (v90+1))≠0))<|
   ass (decide (v90≠0))<|
   F154_L5 fuel d1 l20 v66 y147 rec_F154_L1 fuel (IntKind.i64.wrap (Int.tdiv v91 (IntKind.i64.wrap (v90+1)))) (IntKind.i64.wrap (Int.tdiv v91 v90)))
def F154_L1(fuel:Nat)(d0:List Int)(d1:List Int):Nat→(List Int)→Int→(List Int)→Option (List Int×List Int)
 |0,_,_,_=>none
 |n_F154_L1+1,l19,v66,l20=>
  bif decide (v66≥0) then
   (Option.bind (geti d0 v66) fun y146=>
   Option.bind (app [y146] l19) fun l25=>
   Option.bind (F152 fuel l25) fun y147=>
   F154_L3 fuel d1 l20 v66 y147 (F154_L1 fuel d0 d1 n_F154_L1) fuel 0 0 (IntKind.i64.wrap ((IntKind.i64.wrap (((d1.map e_i64).length:Int)-1))+1)))
  else
   (Option.bind (F152 fuel l20) fun y175=>
   some (y175,l19))
def F154(fuel:Nat)(d0:List Int)(d1:List Int):Option (List Int×List Int):=
 bif decide (((d0.map e_i64).length:Int)≤(IntKind.i64.wrap (((d1.map e_i64).length:Int)-1))) then
  (Option.bind (app [] d0) fun l1=>
  some ([],l1))
 else
  (Option.bind (mkL (IntKind.i64.wrap (((d0.map e_i64).length:Int)-(IntKind.i64.wrap (((d1.map e_i64).length:Int)-1)))) (IntKind.i64.wrap (((d0.map e_i64).length:Int)-(IntKind.i64.wrap (((d1.map e_i64).length:Int)-1)))) 0) fun l2=>
  Option.bind (slc d0 (IntKind.i64.wrap (((d0.map e_i64).length:Int)-(IntKind.i64.wrap (((d1.map e_i64).length:Int)-1)))) (d0.length:Int)) fun l3=>
  Option.bind (app [] l3) fun l4=>
  F154_L1 fuel d0 d1 fuel l4 (IntKind.i64.wrap (((l2.map e_i64).length:Int)-1)) l2)
noncomputable abbrev b154:=bodyOf Tryz.f154
abbrev G154(r:List Int×List Int):=J none Tryz.prog 125 [] (finF Tryz.prog Tryz.f154 (.tup [.l 1 r.1 e_i64,.l 1 r.2 e_i64]))
theorem F154_ok{fuel:Nat}{d0:List Int}{d1:List Int}{r:List Int×List Int}(hF:F154 fuel d0 d1=some r):
 CallF Tryz.prog 154 [.l 1 d0 e_i64,.l 1 d1 e_i64] (.tup [.l 1 r.1 e_i64,.l 1 r.2 e_i64]):=by
 unfold F154 at hF
 refine cf 125 Tryz.func154 ?_
 refine ji 20 22 hF (fun hb1 hF=> ?_) (fun hb1 hF=> ?_)
 ·
  obtain⟨l1,e1,hF⟩:=bnd hF
  refine jo2 5 (am (f:=e_i64) e1) ?_
  have hF:=oi hF;subst hF
  exact jr 3
 ·
  obtain⟨l2,e2,hF⟩:=bnd hF
  refine jo2 8 (mm (f:=e_i64) e2) ?_
  obtain⟨l3,e3,hF⟩:=bnd hF
  refine jo2 10 (smh (f:=e_i64) e3) ?_
  obtain⟨l4,e4,hF⟩:=bnd hF
  refine jo2 0 (am (f:=e_i64) e4) ?_
  have hF154_L1:∀(n_F154_L1:Nat) (l19:List Int) (v66:Int) (l20:List Int),F154_L1 fuel d0 d1 n_F154_L1 l19 v66 l20=some r→G154 r ⟨mkT [(0,.l 1 d0 e_i64),(1,.l 1 d1 e_i64),(6,.i (IntKind.i64.wrap (((d1.map e_i64).length:Int)-1))),(7,.suf 30 0 0),(8,.l 1 l19 e_i64),(9,.i v66)],[(30,.buf 0 3 1 (l20.map e_i64))],[kL b154 [1,1,1,1,1,0,1,0,0],.inBlock 0,kC b154 [1,1,1,1,1,1]]⟩:=by
   clear hF;intro n_F154_L1
   induction n_F154_L1 with
   |zero=>intro l19 v66 l20 hF;cases hF
   |succ n_F154_L1 ih_F154_L1=>
    intro l19 v66 l20 hF
    rw[F154_L1]at hF
    refine ji 7 43 hF (fun hb124 hF=> ?_) (fun hb124 hF=> ?_)
    ·
     have hF154_A2:∀(l23:List Int) (l24:List Int),F154_A2 v66 (F154_L1 fuel d0 d1 n_F154_L1) l23 l24=some r→G154 r ⟨mkT [(0,.l 1 d0 e_i64),(1,.l 1 d1 e_i64),(6,.i (IntKind.i64.wrap (((d1.map e_i64).length:Int)-1))),(7,.suf 30 0 0),(8,.l 1 l23 e_i64),(9,.i v66)],[(30,.buf 0 3 1 (l24.map e_i64))],[kC b154 [1,1,1,1,1,0,1,0,0,1,1],kL b154 [1,1,1,1,1,0,1,0,0],.inBlock 0,kC b154 [1,1,1,1,1,1]]⟩:=by
      intro l23 l24 hF
      unfold F154_A2 at hF
      exact ja 5 (ih_F154_L1 _ _ _ hF)
     obtain⟨y146,e160,hF⟩:=bnd hF
     refine jo1 8 (gm (f:=e_i64) e160) ?_
     obtain⟨l25,e161,hF⟩:=bnd hF
     refine jo2 3 (am (f:=e_i64) e161) ?_
     obtain⟨y147,e162,hF⟩:=bnd hF
     refine jc 0 en152 (F152_ok e162) ?_
     have hF154_L3:∀(n_F154_L3:Nat) (v90:Int) (v91:Int) (v92:Int),F154_L3 fuel d1 l20 v66 y147 (F154_L1 fuel d0 d1 n_F154_L1) n_F154_L3 v90 v91 v92=some r→G154 r ⟨mkT [(0,.l 1 d0 e_i64),(1,.l 1 d1 e_i64),(6,.i (IntKind.i64.wrap (((d1.map e_i64).length:Int)-1))),(7,.suf 30 0 0),(8,.l 1 y147 e_i64),(9,.i v66),(10,.i v90),(11,.i v91),(12,.i v92)],[(30,.buf 0 3 1 (l20.map e_i64))],[kL b154 [1,1,1,1,1,0,1,0,0,1,0,0,1,1,0,1,0,0],.inBlock 2,kC b154 [1,1,1,1,1,0,1,0,0,1,0,0,1,1,1],.inBlock 1,kC b154 [1,1,1,1,1,0,1,0,0,1,1],kL b154 [1,1,1,1,1,0,1,0,0],.inBlock 0,kC b154 [1,1,1,1,1,1]]⟩:=by
      clear hF;intro n_F154_L3
      induction n_F154_L3 with
      |zero=>intro v90 v91 v92 hF;cases hF
      |succ n_F154_L3 ih_F154_L3=>
       intro v90 v91 v92 hF
       rw[F154_L3]at hF
       refine ji 10 60 hF (fun hb169 hF=> ?_) (fun hb169 hF=> ?_)
       ·
        have hF154_A4:∀(v93:Int) (v94:Int),F154_A4 v92 (F154_L3 fuel d1 l20 v66 y147 (F154_L1 fuel d0 d1 n_F154_L1) n_F154_L3) v93 v94=some r→G154 r ⟨mkT [(0,.l 1 d0 e_i64),(1,.l 1 d1 e_i64),(6,.i (IntKind.i64.wrap (((d1.map e_i64).length:Int)-1))),(7,.suf 30 0 0),(8,.l 1 y147 e_i64),(9,.i v66),(10,.i v93),(11,.i v94),(12,.i v92)],[(30,.buf 0 3 1 (l20.map e_i64))],[kC b154 [1,1,1,1,1,0,1,0,0,1,0,0,1,1,0,1,0,0,1,1],kL b154 [1,1,1,1,1,0,1,0,0,1,0,0,1,1,0,1,0,0],.inBlock 2,kC b154 [1,1,1,1,1,0,1,0,0,1,0,0,1,1,1],.inBlock 1,kC b154 [1,1,1,1,1,0,1,0,0,1,1],kL b154 [1,1,1,1,1,0,1,0,0],.inBlock 0,kC b154 [1,1,1,1,1,1]]⟩:=by
         intro v93 v94 hF
         unfold F154_A4 at hF
         exact ja 5 (ih_F154_L3 _ _ _ hF)
        refine ji 18 68 hF (fun hb173 hF=> ?_) (fun hb173 hF=> ?_)
        ·
         obtain⟨y163,e178,hF⟩:=bnd hF
         refine jo1 5 (gm (f:=e_i64) e178) ?_
         refine ji 10 77 hF (fun hb174 hF=> ?_) (fun hb174 hF=> ?_)
         ·
          obtain⟨y164,e179,hF⟩:=bnd hF
          refine jo1 6 (gm (f:=e_i64) e179) ?_
          exact ja 5 (hF154_A4 _ _ hF)
         ·
          exact ja 3 (hF154_A4 _ _ hF)
        ·
         refine ji 8 77 hF (fun hb175 hF=> ?_) (fun hb175 hF=> ?_)
         ·
          obtain⟨y165,e180,hF⟩:=bnd hF
          refine jo1 6 (gm (f:=e_i64) e180) ?_
          exact ja 5 (hF154_A4 _ _ hF)
         ·
          exact ja 3 (hF154_A4 _ _ hF)
       ·
        refine jd 3 ?_
        obtain⟨hb176,hF⟩:=assd hF
        refine do1 3 (ck hb176) ?_
        obtain⟨hb177,hF⟩:=assd hF
        refine do1 2 (ck hb177) ?_
        refine je 2 ?_
        have hF154_L5:∀(n_F154_L5:Nat) (v97:Int) (v98:Int),F154_L5 fuel d1 l20 v66 y147 (F154_L1 fuel d0 d1 n_F154_L1) n_F154_L5 v97 v98=some r→G154 r ⟨mkT [(0,.l 1 d0 e_i64),(1,.l 1 d1 e_i64),(6,.i (IntKind.i64.wrap (((d1.map e_i64).length:Int)-1))),(7,.suf 30 0 0),(8,.l 1 y147 e_i64),(9,.i v66),(13,.i v97),(14,.i v98)],[(30,.buf 0 3 1 (l20.map e_i64))],[kL b154 [1,1,1,1,1,0,1,0,0,1,0,0,1,1,1,1,0,0,0],.inBlock 4,kC b154 [1,1,1,1,1,0,1,0,0,1,0,0,1,1,1,1,1],.inBlock 1,kC b154 [1,1,1,1,1,0,1,0,0,1,1],kL b154 [1,1,1,1,1,0,1,0,0],.inBlock 0,kC b154 [1,1,1,1,1,1]]⟩:=by
         clear hF;intro n_F154_L5
         induction n_F154_L5 with
         |zero=>intro v97 v98 hF;cases hF
         |succ n_F154_L5 ih_F154_L5=>
          intro v97 v98 hF
          rw[F154_L5]at hF
          refine ji 8 94 hF (fun hb182 hF=> ?_) (fun hb182 hF=> ?_)
          ·
           obtain⟨y170,e185,hF⟩:=bnd hF
           refine jc 17 en114 (F114_ok e185) ?_
           obtain⟨y171,e186,hF⟩:=bnd hF
           refine jc 1 en118 (F118_ok e186) ?_
           refine ji 2 106 hF (fun hb183 hF=> ?_) (fun hb183 hF=> ?_)
           ·
            exact ja 6 (ih_F154_L5 _ _ hF)
           ·
            exact ja 7 (ih_F154_L5 _ _ hF)
          ·
           obtain⟨y172,e187,hF⟩:=bnd hF
           refine jo1 7 (gm (f:=e_i64) e187) ?_
           obtain⟨l26,e188,hF⟩:=bnd hF
           have hst:=stm (f:=e_i64) (z:=v97) (k:=0) (xs:=[.int .i64 v97]) (gj e187) rfl
           refine J_adv 0 (J_opt2 (o:=(match(l20.map e_i64)[0+Int.toNat v66]? with|some old=>some ((l20.map e_i64).set (0+Int.toNat v66) (setD old 0 [.int .i64 v97]))|none=>none)) (l26.map e_i64) (by kernel_rfl) (by cases e188;exact hst) ?_)
           refine ji 6 115 hF (fun hb184 hF=> ?_) (fun hb184 hF=> ?_)
           ·
            obtain⟨y173,e189,hF⟩:=bnd hF
            refine jc 6 en114 (F114_ok e189) ?_
            obtain⟨y174,e190,hF⟩:=bnd hF
            refine jc 0 en120 (F120_ok e190) ?_
            exact ja 3 (hF154_A2 _ _ hF)
           ·
            exact ja 3 (hF154_A2 _ _ hF)
        exact ja 3 (hF154_L5 _ _ _ hF)
     exact ja 16 (hF154_L3 _ _ _ _ hF)
    ·
     obtain⟨y175,e191,hF⟩:=bnd hF
     refine jc 5 en152 (F152_ok e191) ?_
     have hF:=oi hF;subst hF
     exact jr 4
  refine J_adv 12 (J_frzS 8 (by kernel_rfl) (by kernel_rfl) ?_)
  exact ja 0 (hF154_L1 _ _ _ _ hF)
def F128(fuel:Nat)(d0:List UInt8):Option (List UInt8):=
 Option.bind (F113 d0) fun y1=>
 Option.bind (F115 fuel d0) fun y2=>
 Option.bind (F112 fuel (!y1) y2) fun y3=>
 some y3
theorem F128_ok{fuel:Nat}{d0:List UInt8}{r:List UInt8}(hF:F128 fuel d0=some r):
 CallF Tryz.prog 128 [.s d0] (.s r):=by
 unfold F128 at hF
 refine cf 9 Tryz.func128 ?_
 obtain⟨y1,e1,hF⟩:=bnd hF
 refine jc 7 en113 (F113_ok e1) ?_
 obtain⟨y2,e2,hF⟩:=bnd hF
 refine jc 2 en115 (F115_ok e2) ?_
 obtain⟨y3,e3,hF⟩:=bnd hF
 refine jc 0 en112 (F112_ok e3) ?_
 have hF:=oi hF;subst hF
 exact jr 2
def F155(fuel:Nat)(d0:List UInt8)(d1:List UInt8):Option (List UInt8):=
 Option.bind (F128 fuel d1) fun y1=>
 Option.bind (F73 fuel d0 y1) fun y2=>
 some y2
theorem F155_ok{fuel:Nat}{d0:List UInt8}{d1:List UInt8}{r:List UInt8}(hF:F155 fuel d0 d1=some r):
 CallF Tryz.prog 155 [.s d0,.s d1] (.s r):=by
 unfold F155 at hF
 refine cf 9 Tryz.func155 ?_
 obtain⟨y1,e1,hF⟩:=bnd hF
 refine jc 8 en128 (F128_ok e1) ?_
 obtain⟨y2,e2,hF⟩:=bnd hF
 refine jc 0 en73 (F73_ok e2) ?_
 have hF:=oi hF;subst hF
 exact jr 2
def F121(fuel:Nat)(d0:List UInt8)(d1:List UInt8):Option (List UInt8×List UInt8):=
 Option.bind (F111 d0 d1) fun y1=>
 bif y1.2.2 then
  (ass (decide (y1.2.1≠0))<|
  Option.bind (
   ass (decide (y1.2.1≠0))<|
   bif (Int.tmod y1.1 y1.2.1) !=0 then
    (some (!((decide (y1.1<0))==(decide (y1.2.1<0)))))
   else
    (some false)) fun o1=>
  bif o1 then
   (Option.bind (F64 (IntKind.i64.wrap ((IntKind.i64.wrap (Int.tdiv y1.1 y1.2.1))-1))) fun y2=>
   Option.bind (F64 (IntKind.i64.wrap (y1.1-(IntKind.i64.wrap (y1.2.1*(IntKind.i64.wrap ((IntKind.i64.wrap (Int.tdiv y1.1 y1.2.1))-1))))))) fun y3=>
   some (y2,y3))
  else
   (Option.bind (F64 (IntKind.i64.wrap (Int.tdiv y1.1 y1.2.1))) fun y4=>
   Option.bind (F64 (IntKind.i64.wrap (y1.1-(IntKind.i64.wrap (y1.2.1*(IntKind.i64.wrap (Int.tdiv y1.1 y1.2.1))))))) fun y5=>
   some (y4,y5)))
 else
  (Option.bind (F115 fuel d0) fun y6=>
  Option.bind (F115 fuel d1) fun y7=>
  Option.bind (F154 fuel y6 y7) fun y8=>
  Option.bind (F113 d0) fun y9=>
  Option.bind (F113 d1) fun y10=>
  Option.bind (F112 fuel (!(y9==y10)) y8.1) fun y11=>
  Option.bind (
   bif decide (((y8.2.map e_i64).length:Int)>0) then
    (Option.bind (F113 d0) fun y21=>
    Option.bind (F113 d1) fun y22=>
    some (!(y21==y22)))
   else
    (some false)) fun o2=>
  bif o2 then
   (Option.bind (F155 fuel y11 [49]) fun y16=>
   Option.bind (F66 fuel y16 d1) fun y17=>
   Option.bind (F155 fuel d0 y17) fun y18=>
   some (y16,y18))
  else
   (Option.bind (F66 fuel y11 d1) fun y19=>
   Option.bind (F155 fuel d0 y19) fun y20=>
   some (y11,y20)))
noncomputable abbrev b121:=bodyOf Tryz.f121
abbrev G121(r:List UInt8×List UInt8):=J none Tryz.prog 78 [] (finF Tryz.prog Tryz.f121 (.tup [.s r.1,.s r.2]))
theorem F121_ok{fuel:Nat}{d0:List UInt8}{d1:List UInt8}{r:List UInt8×List UInt8}(hF:F121 fuel d0 d1=some r):
 CallF Tryz.prog 121 [.s d0,.s d1] (.tup [.s r.1,.s r.2]):=by
 unfold F121 at hF
 refine cf 78 Tryz.func121 ?_
 obtain⟨y1,e1,hF⟩:=bnd hF
 refine jc 10 en111 (F111_ok e1) ?_
 refine ji 12 20 hF (fun hb1 hF=> ?_) (fun hb1 hF=> ?_)
 ·
  obtain⟨hb2,hF⟩:=assd hF
  refine jo1 5 (ck hb2) ?_
  obtain⟨o1,hO,hF⟩:=bnd hF
  have hR1:G121 r ⟨mkT [(6,.i y1.1),(7,.i y1.2.1),(9,.i (IntKind.i64.wrap (Int.tdiv y1.1 y1.2.1))),(34,.b o1)],[],[kO b121 [1,0,1,1,0,1,0,0],kC b121 [1,0,1,1,0,1,0,1],kC b121 [1,0,1,1,0,1,1],kC b121 [1,1]]⟩:=by
   clear hO
   refine ji 1 34 hF (fun hb7 hF=> ?_) (fun hb7 hF=> ?_)
   ·
    obtain⟨y2,e2,hF⟩:=bnd hF
    refine jc 9 en64 (F64_ok e2) ?_
    obtain⟨y3,e3,hF⟩:=bnd hF
    refine jc 5 en64 (F64_ok e3) ?_
    have hF:=oi hF;subst hF
    exact jr 3
   ·
    obtain⟨y4,e4,hF⟩:=bnd hF
    refine jc 5 en64 (F64_ok e4) ?_
    obtain⟨y5,e5,hF⟩:=bnd hF
    refine jc 5 en64 (F64_ok e5) ?_
    have hF:=oi hF;subst hF
    exact jr 3
  clear hF;rename _=some o1=>hF
  obtain⟨hb8,hF⟩:=assd hF
  refine jo1 7 (ck hb8) ?_
  refine ji 2 28 hF (fun hb9 hF=> ?_) (fun hb9 hF=> ?_)
  ·
   have hF:=oi hF;subst hF
   exact ja 6 hR1
  ·
   have hF:=oi hF;subst hF
   exact ja 6 hR1
 ·
  obtain⟨y6,e6,hF⟩:=bnd hF
  refine jc 5 en115 (F115_ok e6) ?_
  obtain⟨y7,e7,hF⟩:=bnd hF
  refine jc 1 en115 (F115_ok e7) ?_
  obtain⟨y8,e8,hF⟩:=bnd hF
  refine jc 0 en154 (F154_ok e8) ?_
  obtain⟨y9,e9,hF⟩:=bnd hF
  refine jc 9 en113 (F113_ok e9) ?_
  obtain⟨y10,e10,hF⟩:=bnd hF
  refine jc 1 en113 (F113_ok e10) ?_
  obtain⟨y11,e11,hF⟩:=bnd hF
  refine jc 2 en112 (F112_ok e11) ?_
  obtain⟨o2,hO,hF⟩:=bnd hF
  have hR2:G121 r ⟨mkT [(0,.s d0),(1,.s d1),(12,.s y11),(69,.b o2)],[],[kO b121 [1,1,1,1,0,0],kC b121 [1,1,1,1,0,1],kC b121 [1,1,1,1,1]]⟩:=by
   clear hO
   refine ji 1 69 hF (fun hb12 hF=> ?_) (fun hb12 hF=> ?_)
   ·
    obtain⟨y16,e16,hF⟩:=bnd hF
    refine jc 3 en155 (F155_ok e16) ?_
    obtain⟨y17,e17,hF⟩:=bnd hF
    refine jc 8 en66 (F66_ok e17) ?_
    obtain⟨y18,e18,hF⟩:=bnd hF
    refine jc 0 en155 (F155_ok e18) ?_
    have hF:=oi hF;subst hF
    exact jr 3
   ·
    obtain⟨y19,e19,hF⟩:=bnd hF
    refine jc 8 en66 (F66_ok e19) ?_
    obtain⟨y20,e20,hF⟩:=bnd hF
    refine jc 0 en155 (F155_ok e20) ?_
    have hF:=oi hF;subst hF
    exact jr 3
  clear hF;rename _=some o2=>hF
  refine ji 9 63 hF (fun hb13 hF=> ?_) (fun hb13 hF=> ?_)
  ·
   obtain⟨y21,e21,hF⟩:=bnd hF
   refine jc 1 en113 (F113_ok e21) ?_
   obtain⟨y22,e22,hF⟩:=bnd hF
   refine jc 1 en113 (F113_ok e22) ?_
   have hF:=oi hF;subst hF
   exact ja 2 hR2
  ·
   have hF:=oi hF;subst hF
   exact ja 6 hR2
def F123_L1:Nat→Int→Int→Option (List UInt8)
 |0,_,_=>none
 |n_F123_L1+1,v3,v4=>
  bif v4 !=0 then
   (ass (decide (v4≠0))<|
   (F123_L1 n_F123_L1) v4 (Int.tmod v3 v4))
  else
   (Option.bind (F64 (bif decide ((IntKind.i64.wrap (0-v3))>v3) then(IntKind.i64.wrap (0-v3)) else v3)) fun y2=>
   some y2)
def F123_L2(fuel:Nat):Nat→(List Int)→(List Int)→Option (List UInt8)
 |0,_,_=>none
 |n_F123_L2+1,l3,l4=>
  bif decide (((l4.map e_i64).length:Int)>0) then
   (Option.bind (F154 fuel l3 l4) fun y7=>
   (F123_L2 fuel n_F123_L2) l4 y7.2)
  else
   (Option.bind (F112 fuel false l3) fun y8=>
   some y8)
def F123(fuel:Nat)(d0:List UInt8)(d1:List UInt8):Option (List UInt8):=
 Option.bind (F111 d0 d1) fun y1=>
 bif y1.2.2 then
  (F123_L1 fuel y1.1 y1.2.1)
 else
  (Option.bind (F115 fuel d0) fun y3=>
  Option.bind (F115 fuel d1) fun y4=>
  F123_L2 fuel fuel y3 y4)
noncomputable abbrev b123:=bodyOf Tryz.f123
abbrev G123(r:List UInt8):=J none Tryz.prog 50 [] (finF Tryz.prog Tryz.f123 (.s r))
theorem F123_ok{fuel:Nat}{d0:List UInt8}{d1:List UInt8}{r:List UInt8}(hF:F123 fuel d0 d1=some r):
 CallF Tryz.prog 123 [.s d0,.s d1] (.s r):=by
 unfold F123 at hF
 refine cf 50 Tryz.func123 ?_
 obtain⟨y1,e1,hF⟩:=bnd hF
 refine jc 9 en111 (F111_ok e1) ?_
 refine ji 12 20 hF (fun hb1 hF=> ?_) (fun hb1 hF=> ?_)
 ·
  have hF123_L1:∀(n_F123_L1:Nat) (v3:Int) (v4:Int),F123_L1 n_F123_L1 v3 v4=some r→G123 r ⟨mkT [(5,.i v3),(6,.i v4)],[],[kL b123 [1,0,1,1,0,0,0,0],.inBlock 0,kC b123 [1,0,1,1,0,1],kC b123 [1,1]]⟩:=by
   clear hF;intro n_F123_L1
   induction n_F123_L1 with
   |zero=>intro v3 v4 hF;cases hF
   |succ n_F123_L1 ih_F123_L1=>
    intro v3 v4 hF
    rw[F123_L1]at hF
    refine ji 7 22 hF (fun hb6 hF=> ?_) (fun hb6 hF=> ?_)
    ·
     obtain⟨hb7,hF⟩:=assd hF
     refine jo1 7 (ck hb7) ?_
     exact ja 12 (ih_F123_L1 _ _ hF)
    ·
     obtain⟨y2,e2,hF⟩:=bnd hF
     refine jc 8 en64 (F64_ok e2) ?_
     have hF:=oi hF;subst hF
     exact jr 2
  exact ja 4 (hF123_L1 _ _ _ hF)
 ·
  obtain⟨y3,e3,hF⟩:=bnd hF
  refine jc 5 en115 (F115_ok e3) ?_
  obtain⟨y4,e4,hF⟩:=bnd hF
  refine jc 1 en115 (F115_ok e4) ?_
  have hF123_L2:∀(n_F123_L2:Nat) (l3:List Int) (l4:List Int),F123_L2 fuel n_F123_L2 l3 l4=some r→G123 r ⟨mkT [(9,.l 1 l3 e_i64),(10,.l 1 l4 e_i64)],[],[kL b123 [1,1,1,0,0,0],.inBlock 2,kC b123 [1,1,1,1]]⟩:=by
   clear hF;intro n_F123_L2
   induction n_F123_L2 with
   |zero=>intro l3 l4 hF;cases hF
   |succ n_F123_L2 ih_F123_L2=>
    intro l3 l4 hF
    rw[F123_L2]at hF
    refine ji 8 39 hF (fun hb10 hF=> ?_) (fun hb10 hF=> ?_)
    ·
     obtain⟨y7,e7,hF⟩:=bnd hF
     refine jc 7 en154 (F154_ok e7) ?_
     exact ja 16 (ih_F123_L2 _ _ hF)
    ·
     obtain⟨y8,e8,hF⟩:=bnd hF
     refine jc 5 en112 (F112_ok e8) ?_
     have hF:=oi hF;subst hF
     exact jr 2
  exact ja 6 (hF123_L2 _ _ _ hF)
def F149_A2(v6:Int)(rec_F149_L1:Int→Int→Option (Int×Bool))(v7:Int):Option (Int×Bool):=
 rec_F149_L1 v7 (IntKind.i64.wrap (v6+1))
def F149_L1(d0:List UInt8):Nat→Int→Int→Option (Int×Bool)
 |0,_,_=>none
 |n_F149_L1+1,v5,v6=>
  bif decide (v6<(d0.length:Int)) then
   (Option.bind (geti d0 v6) fun y15=>
   bif (y15.toNat:Int) !=45 then
    (Option.bind (geti d0 v6) fun y16=>
    F149_A2 v6 (F149_L1 d0 n_F149_L1) (IntKind.i64.wrap ((IntKind.i64.wrap (10*v5))-(IntKind.i64.wrap (IntKind.u8.wrap ((y16.toNat:Int)-48))))))
   else
    (F149_A2 v6 (F149_L1 d0 n_F149_L1) v5))
  else
   (Option.bind (F113 d0) fun y17=>
   bif !y17 then
    (some (IntKind.i64.wrap (0-v5),true))
   else
    (some (v5,true)))
def F149(fuel:Nat)(d0:List UInt8):Option (Int×Bool):=
 Option.bind (
  Option.bind (F72 fuel d0 [45,57,50,50,51,51,55,50,48,51,54,56,53,52,55,55,53,56,48,56]) fun y18=>
  bif decide (y18<0) then
   (some true)
  else
   (Option.bind (F72 fuel d0 [57,50,50,51,51,55,50,48,51,54,56,53,52,55,55,53,56,48,55]) fun y19=>
   some (decide (y19>0)))) fun o1=>
 bif o1 then
  (some (0,false))
 else
  (F149_L1 d0 fuel 0 0)
def F117_L1(d0:List UInt8):Nat→Int→Option (List UInt8×List UInt8×Bool)
 |0,_=>none
 |n_F117_L1+1,v2=>
  bif decide (v2<(d0.length:Int)) then
   (Option.bind (geti d0 v2) fun y3=>
   bif (y3.toNat:Int)==47 then
    (ass (decide (0≤0)&&decide (0≤v2)&&decide (v2≤d0.length))<|
    ass (decide (0≤(IntKind.i64.wrap (v2+1)))&&decide ((IntKind.i64.wrap (v2+1))≤(d0.length:Int))&&decide ((d0.length:Int)≤d0.length))<|
    some ((d0.drop (Int.toNat 0)).take (Int.toNat (v2-0)),(d0.drop (Int.toNat (IntKind.i64.wrap (v2+1)))).take (Int.toNat ((d0.length:Int)-(IntKind.i64.wrap (v2+1)))),true))
   else
    ((F117_L1 d0 n_F117_L1) (IntKind.i64.wrap (v2+1))))
  else
   (some (d0,[49],false))
def F117(fuel:Nat)(d0:List UInt8):Option (List UInt8×List UInt8×Bool):=
 F117_L1 d0 fuel 0
noncomputable abbrev b117:=bodyOf Tryz.f117
abbrev G117(r:List UInt8×List UInt8×Bool):=J none Tryz.prog 24 [] (finF Tryz.prog Tryz.f117 (.tup [.s r.1,.s r.2.1,.b r.2.2]))
theorem F117_ok{fuel:Nat}{d0:List UInt8}{r:List UInt8×List UInt8×Bool}(hF:F117 fuel d0=some r):
 CallF Tryz.prog 117 [.s d0] (.tup [.s r.1,.s r.2.1,.b r.2.2]):=by
 unfold F117 at hF
 refine cf 24 Tryz.func117 ?_
 have hF117_L1:∀(n_F117_L1:Nat) (v2:Int),F117_L1 d0 n_F117_L1 v2=some r→G117 r ⟨mkT [(0,.s d0),(5,.i v2)],[],[kL b117 [1,0,1,0,0],.inBlock 0,kC b117 [1,1]]⟩:=by
  clear hF;intro n_F117_L1
  induction n_F117_L1 with
  |zero=>intro v2 hF;cases hF
  |succ n_F117_L1 ih_F117_L1=>
   intro v2 hF
   rw[F117_L1]at hF
   refine ji 9 9 hF (fun hb9 hF=> ?_) (fun hb9 hF=> ?_)
   ·
    obtain⟨y3,e3,hF⟩:=bnd hF
    refine J_adv 8 (J_opt1 (o:=(match geti d0 v2 with|some c=>some [.int .u8 c.toNat]|none=>none)) [.int .u8 y3.toNat] (by kernel_rfl) (by rw[e3]) ?_)
    refine ji 2 15 hF (fun hb10 hF=> ?_) (fun hb10 hF=> ?_)
    ·
     refine jd 2 ?_
     obtain⟨hb11,hF⟩:=assd hF
     refine do1 2 (ck hb11) ?_
     obtain⟨hb12,hF⟩:=assd hF
     refine do1 3 (ck hb12) ?_
     refine je 3 ?_
     have hF:=oi hF;subst hF
     exact jr 0
    ·
     exact ja 8 (ih_F117_L1 _ hF)
   ·
    have hF:=oi hF;subst hF
    exact jr 9
 exact ja 13 (hF117_L1 _ _ hF)
def F71(fuel:Nat)(d0:List UInt8):Option (List UInt8×List UInt8):=
 Option.bind (F117 fuel d0) fun y1=>
 some (y1.1,y1.2.1)
theorem F71_ok{fuel:Nat}{d0:List UInt8}{r:List UInt8×List UInt8}(hF:F71 fuel d0=some r):
 CallF Tryz.prog 71 [.s d0] (.tup [.s r.1,.s r.2]):=by
 unfold F71 at hF
 refine cf 15 Tryz.func71 ?_
 obtain⟨y1,e1,hF⟩:=bnd hF
 refine jc 8 en117 (F117_ok e1) ?_
 have hF:=oi hF;subst hF
 exact jr 15
def F88(fuel:Nat)(d0:List UInt8)(d1:List UInt8):Option (List UInt8):=
 Option.bind (F123 fuel d0 d1) fun y1=>
 Option.bind (F92 d1) fun y2=>
 bif decide (y2<0) then
  (Option.bind (F128 fuel y1) fun y3=>
  Option.bind (F121 fuel d0 y3) fun y4=>
  Option.bind (F121 fuel d1 y3) fun y5=>
  bif y5.1==[49] then
   (some y4.1)
  else
   (ass (decide (y4.1.length+[47].length≤4611686018427387904))<|
   ass (decide ((y4.1++[47]).length+y5.1.length≤4611686018427387904))<|
   some ((y4.1++[47])++y5.1)))
 else
  (Option.bind (F121 fuel d0 y1) fun y6=>
  Option.bind (F121 fuel d1 y1) fun y7=>
  bif y7.1==[49] then
   (some y6.1)
  else
   (ass (decide (y6.1.length+[47].length≤4611686018427387904))<|
   ass (decide ((y6.1++[47]).length+y7.1.length≤4611686018427387904))<|
   some ((y6.1++[47])++y7.1)))
theorem F88_ok{fuel:Nat}{d0:List UInt8}{d1:List UInt8}{r:List UInt8}(hF:F88 fuel d0 d1=some r):
 CallF Tryz.prog 88 [.s d0,.s d1] (.s r):=by
 unfold F88 at hF
 refine cf 33 Tryz.func88 ?_
 obtain⟨y1,e1,hF⟩:=bnd hF
 refine jc 8 en123 (F123_ok e1) ?_
 obtain⟨y2,e2,hF⟩:=bnd hF
 refine jc 6 en92 (F92_ok e2) ?_
 refine ji 2 11 hF (fun hb1 hF=> ?_) (fun hb1 hF=> ?_)
 ·
  obtain⟨y3,e3,hF⟩:=bnd hF
  refine jc 3 en128 (F128_ok e3) ?_
  obtain⟨y4,e4,hF⟩:=bnd hF
  refine jc 6 en121 (F121_ok e4) ?_
  obtain⟨y5,e5,hF⟩:=bnd hF
  refine jc 9 en121 (F121_ok e5) ?_
  refine ji 11 27 hF (fun hb2 hF=> ?_) (fun hb2 hF=> ?_)
  ·
   have hF:=oi hF;subst hF
   exact jr 6
  ·
   obtain⟨hb3,hF⟩:=assd hF
   refine jo1 5 (ck hb3) ?_
   obtain⟨hb4,hF⟩:=assd hF
   refine jo1 1 (ck hb4) ?_
   have hF:=oi hF;subst hF
   exact jr 2
 ·
  obtain⟨y6,e6,hF⟩:=bnd hF
  refine jc 6 en121 (F121_ok e6) ?_
  obtain⟨y7,e7,hF⟩:=bnd hF
  refine jc 9 en121 (F121_ok e7) ?_
  refine ji 11 27 hF (fun hb5 hF=> ?_) (fun hb5 hF=> ?_)
  ·
   have hF:=oi hF;subst hF
   exact jr 6
  ·
   obtain⟨hb6,hF⟩:=assd hF
   refine jo1 5 (ck hb6) ?_
   obtain⟨hb7,hF⟩:=assd hF
   refine jo1 1 (ck hb7) ?_
   have hF:=oi hF;subst hF
   exact jr 2
def F37(fuel:Nat)(d0:List UInt8)(d1:List UInt8):Option (List UInt8):=
 Option.bind (F71 fuel d0) fun y1=>
 Option.bind (F71 fuel d1) fun y2=>
 Option.bind (
  bif y1.2==[49] then
   (some (y2.2==[49]))
  else
   (some false)) fun o1=>
 bif o1 then
  (Option.bind (F73 fuel y1.1 y2.1) fun y3=>
  some y3)
 else
  (Option.bind (F66 fuel y1.1 y2.2) fun y4=>
  Option.bind (F66 fuel y2.1 y1.2) fun y5=>
  Option.bind (F73 fuel y4 y5) fun y6=>
  Option.bind (F66 fuel y1.2 y2.2) fun y7=>
  Option.bind (F88 fuel y6 y7) fun y8=>
  some y8)
noncomputable abbrev b37:=bodyOf Tryz.f37
abbrev G37(r:List UInt8):=J none Tryz.prog 39 [] (finF Tryz.prog Tryz.f37 (.s r))
theorem F37_ok{fuel:Nat}{d0:List UInt8}{d1:List UInt8}{r:List UInt8}(hF:F37 fuel d0 d1=some r):
 CallF Tryz.prog 37 [.s d0,.s d1] (.s r):=by
 unfold F37 at hF
 refine cf 39 Tryz.func37 ?_
 obtain⟨y1,e1,hF⟩:=bnd hF
 refine jc 7 en71 (F71_ok e1) ?_
 obtain⟨y2,e2,hF⟩:=bnd hF
 refine jc 9 en71 (F71_ok e2) ?_
 obtain⟨o1,hO,hF⟩:=bnd hF
 have hR1:G37 r ⟨mkT [(5,.s y1.1),(6,.s y1.2),(7,.s y2.1),(8,.s y2.2),(24,.b o1)],[],[kO b37 [1,1,1,0,0],kC b37 [1,1,1,0,1],kC b37 [1,1,1,1]]⟩:=by
  clear hO
  refine ji 1 24 hF (fun hb3 hF=> ?_) (fun hb3 hF=> ?_)
  ·
   obtain⟨y3,e3,hF⟩:=bnd hF
   refine jc 5 en73 (F73_ok e3) ?_
   have hF:=oi hF;subst hF
   exact jr 2
  ·
   obtain⟨y4,e4,hF⟩:=bnd hF
   refine jc 6 en66 (F66_ok e4) ?_
   obtain⟨y5,e5,hF⟩:=bnd hF
   refine jc 2 en66 (F66_ok e5) ?_
   obtain⟨y6,e6,hF⟩:=bnd hF
   refine jc 0 en73 (F73_ok e6) ?_
   obtain⟨y7,e7,hF⟩:=bnd hF
   refine jc 2 en66 (F66_ok e7) ?_
   obtain⟨y8,e8,hF⟩:=bnd hF
   refine jc 0 en88 (F88_ok e8) ?_
   have hF:=oi hF;subst hF
   exact jr 2
 clear hF;rename _=some o1=>hF
 refine ji 12 21 hF (fun hb4 hF=> ?_) (fun hb4 hF=> ?_)
 ·
  have hF:=oi hF;subst hF
  exact ja 3 hR1
 ·
  have hF:=oi hF;subst hF
  exact ja 3 hR1
def F38(fuel:Nat)(d0:List UInt8)(d1:List UInt8):Option (List UInt8):=
 Option.bind (F71 fuel d0) fun y1=>
 Option.bind (F71 fuel d1) fun y2=>
 Option.bind (
  bif y1.2==[49] then
   (some (y2.2==[49]))
  else
   (some false)) fun o1=>
 bif o1 then
  (Option.bind (F66 fuel y1.1 y2.1) fun y3=>
  some y3)
 else
  (Option.bind (F66 fuel y1.1 y2.1) fun y4=>
  Option.bind (F66 fuel y1.2 y2.2) fun y5=>
  Option.bind (F88 fuel y4 y5) fun y6=>
  some y6)
noncomputable abbrev b38:=bodyOf Tryz.f38
abbrev G38(r:List UInt8):=J none Tryz.prog 35 [] (finF Tryz.prog Tryz.f38 (.s r))
theorem F38_ok{fuel:Nat}{d0:List UInt8}{d1:List UInt8}{r:List UInt8}(hF:F38 fuel d0 d1=some r):
 CallF Tryz.prog 38 [.s d0,.s d1] (.s r):=by
 unfold F38 at hF
 refine cf 35 Tryz.func38 ?_
 obtain⟨y1,e1,hF⟩:=bnd hF
 refine jc 7 en71 (F71_ok e1) ?_
 obtain⟨y2,e2,hF⟩:=bnd hF
 refine jc 9 en71 (F71_ok e2) ?_
 obtain⟨o1,hO,hF⟩:=bnd hF
 have hR1:G38 r ⟨mkT [(5,.s y1.1),(6,.s y1.2),(7,.s y2.1),(8,.s y2.2),(24,.b o1)],[],[kO b38 [1,1,1,0,0],kC b38 [1,1,1,0,1],kC b38 [1,1,1,1]]⟩:=by
  clear hO
  refine ji 1 24 hF (fun hb3 hF=> ?_) (fun hb3 hF=> ?_)
  ·
   obtain⟨y3,e3,hF⟩:=bnd hF
   refine jc 5 en66 (F66_ok e3) ?_
   have hF:=oi hF;subst hF
   exact jr 2
  ·
   obtain⟨y4,e4,hF⟩:=bnd hF
   refine jc 6 en66 (F66_ok e4) ?_
   obtain⟨y5,e5,hF⟩:=bnd hF
   refine jc 2 en66 (F66_ok e5) ?_
   obtain⟨y6,e6,hF⟩:=bnd hF
   refine jc 0 en88 (F88_ok e6) ?_
   have hF:=oi hF;subst hF
   exact jr 2
 clear hF;rename _=some o1=>hF
 refine ji 12 21 hF (fun hb4 hF=> ?_) (fun hb4 hF=> ?_)
 ·
  have hF:=oi hF;subst hF
  exact ja 3 hR1
 ·
  have hF:=oi hF;subst hF
  exact ja 3 hR1
def F39(fuel:Nat)(d0:Int)(d1:Int):Option (List UInt8):=
 Option.bind (F64 d0) fun y1=>
 Option.bind (F64 d1) fun y2=>
 Option.bind (F88 fuel y1 y2) fun y3=>
 some y3
theorem F39_ok{fuel:Nat}{d0:Int}{d1:Int}{r:List UInt8}(hF:F39 fuel d0 d1=some r):
 CallF Tryz.prog 39 [.i d0,.i d1] (.s r):=by
 unfold F39 at hF
 refine cf 10 Tryz.func39 ?_
 obtain⟨y1,e1,hF⟩:=bnd hF
 refine jc 7 en64 (F64_ok e1) ?_
 obtain⟨y2,e2,hF⟩:=bnd hF
 refine jc 1 en64 (F64_ok e2) ?_
 obtain⟨y3,e3,hF⟩:=bnd hF
 refine jc 0 en88 (F88_ok e3) ?_
 have hF:=oi hF;subst hF
 exact jr 2
def F42(fuel:Nat)(d0:List UInt8)(d1:List UInt8):Option Int:=
 Option.bind (F71 fuel d0) fun y1=>
 Option.bind (F71 fuel d1) fun y2=>
 Option.bind (F66 fuel y1.1 y2.2) fun y3=>
 Option.bind (F66 fuel y2.1 y1.2) fun y4=>
 Option.bind (F72 fuel y3 y4) fun y5=>
 some y5
theorem F42_ok{fuel:Nat}{d0:List UInt8}{d1:List UInt8}{r:Int}(hF:F42 fuel d0 d1=some r):
 CallF Tryz.prog 42 [.s d0,.s d1] (.i r):=by
 unfold F42 at hF
 refine cf 26 Tryz.func42 ?_
 obtain⟨y1,e1,hF⟩:=bnd hF
 refine jc 7 en71 (F71_ok e1) ?_
 obtain⟨y2,e2,hF⟩:=bnd hF
 refine jc 9 en71 (F71_ok e2) ?_
 obtain⟨y3,e3,hF⟩:=bnd hF
 refine jc 10 en66 (F66_ok e3) ?_
 obtain⟨y4,e4,hF⟩:=bnd hF
 refine jc 2 en66 (F66_ok e4) ?_
 obtain⟨y5,e5,hF⟩:=bnd hF
 refine jc 0 en72 (F72_ok e5) ?_
 have hF:=oi hF;subst hF
 exact jr 2
def F80(fuel:Nat)(d0:List UInt8)(d1:List UInt8):Option (List UInt8):=
 Option.bind (F42 fuel d0 d1) fun y1=>
 bif decide (y1>0) then
  (some d1)
 else
  (some d0)
theorem F80_ok{fuel:Nat}{d0:List UInt8}{d1:List UInt8}{r:List UInt8}(hF:F80 fuel d0 d1=some r):
 CallF Tryz.prog 80 [.s d0,.s d1] (.s r):=by
 unfold F80 at hF
 refine cf 11 Tryz.func80 ?_
 obtain⟨y1,e1,hF⟩:=bnd hF
 refine jc 9 en42 (F42_ok e1) ?_
 refine ji 2 8 hF (fun hb1 hF=> ?_) (fun hb1 hF=> ?_)
 ·
  have hF:=oi hF;subst hF
  exact jr 6
 ·
  have hF:=oi hF;subst hF
  exact jr 7
def F81(fuel:Nat)(d0:List UInt8)(d1:List UInt8):Option (List UInt8):=
 Option.bind (F42 fuel d0 d1) fun y1=>
 bif decide (y1<0) then
  (some d1)
 else
  (some d0)
theorem F81_ok{fuel:Nat}{d0:List UInt8}{d1:List UInt8}{r:List UInt8}(hF:F81 fuel d0 d1=some r):
 CallF Tryz.prog 81 [.s d0,.s d1] (.s r):=by
 unfold F81 at hF
 refine cf 11 Tryz.func81 ?_
 obtain⟨y1,e1,hF⟩:=bnd hF
 refine jc 9 en42 (F42_ok e1) ?_
 refine ji 2 8 hF (fun hb1 hF=> ?_) (fun hb1 hF=> ?_)
 ·
  have hF:=oi hF;subst hF
  exact jr 6
 ·
  have hF:=oi hF;subst hF
  exact jr 7
def e_s(x:List UInt8):List Dat:=[.str x]
end Go.Proofs.YtfgbhfphjmmiaaaGreatDoor
end
