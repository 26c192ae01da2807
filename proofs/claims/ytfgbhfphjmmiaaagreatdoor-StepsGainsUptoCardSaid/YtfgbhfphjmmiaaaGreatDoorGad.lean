/- One part of the texts that lead to the theorem; it claims nothing by itself. -/
import Derived.Shelf.Strings.Builder1
import Derived.Shelf.Strings.BuilderF
import Derived.Shelf.Strconv.Atoi
import Derived.Shelf.Strconv.Itoa0
import Derived.Shelf.Strconv.Itoa1
import Derived.Shelf.LaysM
import Derived.Shelf.Strconv.Itoa2
import Derived.Shelf.Strconv.Itoa3
import Derived.Shelf.Strconv.AtoiErrFast
import Derived.Shelf.Strconv.ParseIntEmpty
import Derived.Shelf.Strconv.AtoiFail
import Derived.Shelf.Strconv.Clone
import Derived.Shelf.Strconv.SyntaxError
import Derived.Shelf.LaysC
import Derived.Shelf.Strconv.ToError
import Derived.Shelf.Strconv.Lower
import Derived.Shelf.Strconv.ParseUint10
import Derived.Shelf.Strconv.ParseUint10Empty
import Derived.Shelf.Strconv.ParseUint10Any
import Derived.Shelf.Strconv.ParseInt10
import Derived.Shelf.Strconv.AtoiLong
import Derived.Shelf.Strconv.AtoiInnerAll
import Derived.Shelf.Strconv.RangeError
import Derived.Shelf.Strconv.ToErrorRange
import Derived.Shelf.Strconv.AtoiAll
import Derived.Shelf.Strconv.ErrVarAll
import Derived.Shelf.Strings.Search1
import Derived.Shelf.Strings.Search2
import Derived.Shelf.Strings.Cut
import Derived.Shelf.Strings.Shaped
import Derived.Shelf.Strings.Prefix
import Derived.Shelf.Bits.Mul64
import Derived.Shelf.Slices.Turned
import Derived.Ground.Names2Prog
import Derived.Shelf.Slices.Clone
import Derived.Shelf.Slices.SearchI
import Derived.Ground.SlgnProg
import Derived.Shelf.SlicesE.Clone
import Derived.Test.YtfgbhfphjmmiaaaGreatDoorChecked
import Derived.Lib.ItoaNum
import Derived.Lib.AtoiAll
import Derived.Lib.AtoiErrMem
import Derived.Lib.Repeat
import Derived.Lib.LaidTab
import Derived.Lib.AppendIntMem
import Derived.Lib.Split
import Derived.Lib.SplitLaws
import Derived.Lib.CutLaws
import Derived.Lib.SlicesS
import Derived.Deep.Draws
import Derived.Test.YtfgbhfphjmmiaaaGreatDoorProg
import Derived.Test.YtfgbhfphjmmiaaaGreatDoorGac
open List Go.Proofs.Tryz
section
namespace Go.Proofs
open Go.Shelf
section
def Tryz.laysM171_ren:Go.Shelf.Ren:=⟨fun|171=>110|243=>150|246=>188|283=>234|284=>235|285=>236|286=>237|129=>260|317=>259|318=>261|319=>262|320=>263|337=>275|338=>276|n=>n,fun|3=>3|9=>9|2=>2|4=>4|171=>286|0=>0|53=>39|37=>215|5=>5|173=>289|212=>310|51=>167|20=>20|213=>311|46=>110|232=>338|233=>339|n=>n,fun|17=>3|18=>4|19=>5|n=>n⟩
theorem Tryz.laysM171:Go.Proofs.LaysM.n171 prog Tryz.laysM171_ren:={
 mixed:=by kernel_rfl
 f129:=func260.trans (congrArg some (by kernel_rfl))
 f171:=func110.trans (congrArg some (by kernel_rfl))
 f243:=func150.trans (congrArg some (by kernel_rfl))
 f246:=func188.trans (congrArg some (by kernel_rfl))
 f283:=func234.trans (congrArg some (by kernel_rfl))
 f284:=func235.trans (congrArg some (by kernel_rfl))
 f285:=func236.trans (congrArg some (by kernel_rfl))
 f286:=func237.trans (congrArg some (by kernel_rfl))
 f317:=func259.trans (congrArg some (by kernel_rfl))
 f318:=func261.trans (congrArg some (by kernel_rfl))
 f319:=func262.trans (congrArg some (by kernel_rfl))
 f320:=func263.trans (congrArg some (by kernel_rfl))
 f337:=func275.trans (congrArg some (by kernel_rfl))
 f338:=func276.trans (congrArg some (by kernel_rfl))
 t0:=underlying0
 a0:=isAgg0
 z0:=sizeOf0
 v0:=zeroValue0
 t2:=underlying2
 a2:=isAgg2
 z2:=sizeOf2
 v2:=zeroValue2
 t3:=underlying3
 a3:=isAgg3
 z3:=sizeOf3
 v3:=zeroValue3
 t4:=underlying4
 a4:=isAgg4
 z4:=sizeOf4
 v4:=zeroValue4
 t5:=underlying5
 a5:=isAgg5
 z5:=sizeOf5
 v5:=zeroValue5
 t9:=underlying9
 a9:=isAgg9
 z9:=sizeOf9
 v9:=zeroValue9
 t20:=underlying20
 a20:=isAgg20
 z20:=sizeOf20
 v20:=zeroValue20
 t37:=underlying215
 a37:=isAgg215
 z37:=sizeOf215
 v37:=zeroValue215
 t46:=underlying110
 a46:=isAgg110
 z46:=sizeOf110
 v46:=zeroValue110
 t51:=underlying167
 a51:=isAgg167
 z51:=sizeOf167
 v51:=zeroValue167
 t53:=underlying39
 a53:=isAgg39
 z53:=sizeOf39
 v53:=zeroValue39
 t171:=underlying286
 a171:=isAgg286
 z171:=sizeOf286
 v171:=zeroValue286
 t173:=underlying289
 a173:=isAgg289
 z173:=sizeOf289
 v173:=zeroValue289
 t212:=underlying310
 a212:=isAgg310
 z212:=sizeOf310
 v212:=zeroValue310
 t213:=underlying311
 a213:=isAgg311
 z213:=sizeOf311
 t232:=underlying338
 a232:=isAgg338
 z232:=sizeOf338
 v232:=zeroValue338
 t233:=underlying339
 a233:=isAgg339
 z233:=sizeOf339
 v233:=zeroValue339
 g17:=by kernel_rfl
 g18:=by kernel_rfl
 g19:=by kernel_rfl
 i0:=by kernel_rfl
 i2:=by kernel_rfl
 i3:=by kernel_rfl
 i4:=by kernel_rfl
 i5:=by kernel_rfl
 i9:=by kernel_rfl
 i20:=by kernel_rfl
 i37:=by kernel_rfl
 i46:=by kernel_rfl
 i51:=by kernel_rfl
 i53:=by kernel_rfl
 i171:=by kernel_rfl
 i173:=by kernel_rfl
 i212:=by kernel_rfl
 i232:=by kernel_rfl
 i233:=by kernel_rfl
 m17:=by kernel_rfl
 m18:=by kernel_rfl
 m19:=by kernel_rfl}
open Go.RowKit Go.Sort Go.Lib in
theorem Tryz.strconv_Itoa(n:Int)(h0: -9223372036854775808<=n)(h1:n<=9223372036854775807)(w:World)(htab:Lib.TabIs prog w "internal/strconv.uint64pow10" .u64 Lib.pow10Tab):
 Calls prog 110 #[.int .i64 n] w fun e w'=>e= .returned (.string ⟨(Lib.itoa n).toArray⟩)/\∃k os,w'=grow (w.drewN k) os:=Any.strconv_Itoa Tryz.laysM171 n h0 h1 w htab
def Tryz.laysC172_ren:Go.Shelf.Ren:=⟨fun|172=>151|244=>189|245=>184|247=>238|279=>229|280=>230|281=>231|282=>232|287=>183|316=>257|171=>110|205=>258|321=>227|322=>228|243=>150|246=>188|283=>234|284=>235|285=>236|286=>237|129=>260|317=>259|318=>261|319=>262|320=>263|337=>275|338=>276|n=>n,fun|9=>9|3=>3|75=>203|76=>213|4=>4|5=>5|167=>280|37=>215|0=>0|85=>291|2=>2|168=>282|53=>39|175=>204|46=>110|210=>307|127=>250|145=>326|143=>324|21=>21|171=>286|173=>289|212=>310|51=>167|20=>20|213=>311|232=>338|233=>339|80=>189|n=>n,fun|15=>1|16=>2|17=>3|18=>4|19=>5|n=>n⟩
theorem Tryz.laysC172:Go.Proofs.LaysC.n172 prog Tryz.laysC172_ren:={
 mixed:=by kernel_rfl
 f129:=func260.trans (congrArg some (by kernel_rfl))
 f171:=func110.trans (congrArg some (by kernel_rfl))
 f172:=func151.trans (congrArg some (by kernel_rfl))
 f205:=func258.trans (congrArg some (by kernel_rfl))
 f243:=func150.trans (congrArg some (by kernel_rfl))
 f244:=func189.trans (congrArg some (by kernel_rfl))
 f245:=func184.trans (congrArg some (by kernel_rfl))
 f246:=func188.trans (congrArg some (by kernel_rfl))
 f247:=func238.trans (congrArg some (by kernel_rfl))
 f279:=func229.trans (congrArg some (by kernel_rfl))
 f280:=func230.trans (congrArg some (by kernel_rfl))
 f281:=func231.trans (congrArg some (by kernel_rfl))
 f282:=func232.trans (congrArg some (by kernel_rfl))
 f283:=func234.trans (congrArg some (by kernel_rfl))
 f284:=func235.trans (congrArg some (by kernel_rfl))
 f285:=func236.trans (congrArg some (by kernel_rfl))
 f286:=func237.trans (congrArg some (by kernel_rfl))
 f287:=func183.trans (congrArg some (by kernel_rfl))
 f316:=func257.trans (congrArg some (by kernel_rfl))
 f317:=func259.trans (congrArg some (by kernel_rfl))
 f318:=func261.trans (congrArg some (by kernel_rfl))
 f319:=func262.trans (congrArg some (by kernel_rfl))
 f320:=func263.trans (congrArg some (by kernel_rfl))
 f321:=func227.trans (congrArg some (by kernel_rfl))
 f322:=func228.trans (congrArg some (by kernel_rfl))
 f337:=func275.trans (congrArg some (by kernel_rfl))
 f338:=func276.trans (congrArg some (by kernel_rfl))
 t0:=underlying0
 a0:=isAgg0
 z0:=sizeOf0
 v0:=zeroValue0
 t2:=underlying2
 a2:=isAgg2
 z2:=sizeOf2
 v2:=zeroValue2
 t3:=underlying3
 a3:=isAgg3
 z3:=sizeOf3
 v3:=zeroValue3
 t4:=underlying4
 a4:=isAgg4
 z4:=sizeOf4
 v4:=zeroValue4
 t5:=underlying5
 a5:=isAgg5
 z5:=sizeOf5
 v5:=zeroValue5
 t9:=underlying9
 a9:=isAgg9
 z9:=sizeOf9
 v9:=zeroValue9
 t20:=underlying20
 a20:=isAgg20
 z20:=sizeOf20
 v20:=zeroValue20
 t21:=underlying21
 a21:=isAgg21
 z21:=sizeOf21
 v21:=zeroValue21
 t37:=underlying215
 a37:=isAgg215
 z37:=sizeOf215
 v37:=zeroValue215
 t46:=underlying110
 a46:=isAgg110
 z46:=sizeOf110
 v46:=zeroValue110
 t51:=underlying167
 a51:=isAgg167
 z51:=sizeOf167
 v51:=zeroValue167
 t53:=underlying39
 a53:=isAgg39
 z53:=sizeOf39
 v53:=zeroValue39
 t75:=underlying203
 a75:=isAgg203
 z75:=sizeOf203
 v75:=zeroValue203
 t76:=underlying213
 a76:=isAgg213
 z76:=sizeOf213
 v76:=zeroValue213
 t85:=underlying291
 a85:=isAgg291
 z85:=sizeOf291
 v85:=zeroValue291
 t127:=underlying250
 a127:=isAgg250
 z127:=sizeOf250
 v127:=zeroValue250
 t143:=underlying324
 a143:=isAgg324
 z143:=sizeOf324
 v143:=zeroValue324
 t145:=underlying326
 a145:=isAgg326
 z145:=sizeOf326
 v145:=zeroValue326
 t167:=underlying280
 a167:=isAgg280
 z167:=sizeOf280
 v167:=zeroValue280
 t168:=underlying282
 a168:=isAgg282
 z168:=sizeOf282
 v168:=zeroValue282
 t171:=underlying286
 a171:=isAgg286
 z171:=sizeOf286
 v171:=zeroValue286
 t173:=underlying289
 a173:=isAgg289
 z173:=sizeOf289
 v173:=zeroValue289
 t175:=underlying204
 a175:=isAgg204
 z175:=sizeOf204
 v175:=zeroValue204
 t210:=underlying307
 a210:=isAgg307
 z210:=sizeOf307
 v210:=zeroValue307
 t212:=underlying310
 a212:=isAgg310
 z212:=sizeOf310
 v212:=zeroValue310
 t213:=underlying311
 a213:=isAgg311
 z213:=sizeOf311
 t232:=underlying338
 a232:=isAgg338
 z232:=sizeOf338
 v232:=zeroValue338
 t233:=underlying339
 a233:=isAgg339
 z233:=sizeOf339
 v233:=zeroValue339
 g15:=by kernel_rfl
 g16:=by kernel_rfl
 g17:=by kernel_rfl
 g18:=by kernel_rfl
 g19:=by kernel_rfl
 t80:=underlying189
 a80:=isAgg189
 z80:=sizeOf189
 v80:=zeroValue189
 i0:=by kernel_rfl
 i2:=by kernel_rfl
 i3:=by kernel_rfl
 i4:=by kernel_rfl
 i5:=by kernel_rfl
 i9:=by kernel_rfl
 i20:=by kernel_rfl
 i21:=by kernel_rfl
 i37:=by kernel_rfl
 i46:=by kernel_rfl
 i51:=by kernel_rfl
 i53:=by kernel_rfl
 i75:=by kernel_rfl
 i76:=by kernel_rfl
 i80:=by kernel_rfl
 i85:=by kernel_rfl
 i127:=by kernel_rfl
 i143:=by kernel_rfl
 i145:=by kernel_rfl
 i167:=by kernel_rfl
 i168:=by kernel_rfl
 i171:=by kernel_rfl
 i173:=by kernel_rfl
 i175:=by kernel_rfl
 i210:=by kernel_rfl
 i212:=by kernel_rfl
 i232:=by kernel_rfl
 i233:=by kernel_rfl
 m15:=by kernel_rfl
 m16:=by kernel_rfl
 m17:=by kernel_rfl
 m18:=by kernel_rfl
 m19:=by kernel_rfl
 c0:=by kernel_rfl
 c2:=by kernel_rfl
 c3:=by kernel_rfl
 c4:=by kernel_rfl
 c5:=by kernel_rfl
 c9:=by kernel_rfl
 c20:=by kernel_rfl
 c21:=by kernel_rfl
 c37:=by kernel_rfl
 c46:=by kernel_rfl
 c51:=by kernel_rfl
 c53:=by kernel_rfl
 c75:=by kernel_rfl
 c76:=by kernel_rfl
 c80:=by kernel_rfl
 c85:=by kernel_rfl
 c127:=by kernel_rfl
 c143:=by kernel_rfl
 c145:=by kernel_rfl
 c167:=by kernel_rfl
 c168:=by kernel_rfl
 c171:=by kernel_rfl
 c173:=by kernel_rfl
 c175:=by kernel_rfl
 c210:=by kernel_rfl
 c212:=by kernel_rfl
 c213:=by kernel_rfl
 c232:=by kernel_rfl
 c233:=by kernel_rfl}
open Go.RowKit in
theorem Tryz.strconv_Atoi_ok(s:ByteArray)(hmax:s.size<=9223372036854775806)(v:Int)(h:Lib.atoiAll s.data.toList= .ok v)(w:World):
 Calls prog 151 #[.string s] w fun e w'=>e= .returned (.tuple #[.int .i64 v,.nilIface])/\(w'=w\/∃t,w'=Lib.bytesWorld w 5 t):=Any.strconv_Atoi_ok Tryz.laysC172 s hmax v h w
open Go.RowKit in
theorem Tryz.strconv_Atoi_bad(s:ByteArray)(hlim:s.size<=281474976710656)(h1:∀v,Lib.atoiAll s.data.toList≠ .ok v)(h2:Lib.atoiAll s.data.toList≠ .range)(ev:Value)(w:World)(hv:w.cell? ⟨1,0,none⟩=some ev)(hev:ev= .nilIface\/∃te pe,ev= .iface te pe):
 Calls prog 151 #[.string s] w fun e w'=>∃N,e= .returned (.tuple #[.int .i64 (0),.iface 282 (.pointer (some ⟨N,0,none⟩))])/\w.heap.size<=N/\w'.heap[N]? =some (.cells #[.string ⟨#[65,116,111,105]⟩,.string s,ev] 307 (0,0))/\Below w.heap.size w w':=Any.strconv_Atoi_syntax Tryz.laysC172 s hlim (by cases hx:Lib.atoiAll s.data.toList<;>first|rfl|exact absurd hx (h1 _)|exact absurd hx h2) ev w hv hev
open Go.RowKit in
theorem Tryz.strconv_Atoi_range(s:ByteArray)(hlim:s.size<=281474976710656)(h:Lib.atoiAll s.data.toList= .range)(ev:Value)(w:World)(hv:w.cell? ⟨2,0,none⟩=some ev)(hev:ev= .nilIface\/∃te pe,ev= .iface te pe):
 Calls prog 151 #[.string s] w fun e w'=>∃N,e= .returned (.tuple #[.int .i64 (Lib.atoiSat s.data.toList),.iface 282 (.pointer (some ⟨N,0,none⟩))])/\w.heap.size<=N/\w'.heap[N]? =some (.cells #[.string ⟨#[65,116,111,105]⟩,.string s,ev] 307 (0,0))/\Below w.heap.size w w':=Any.strconv_Atoi_range Tryz.laysC172 s hlim h ev w hv hev
def Tryz.lays145_ren:Go.Shelf.Ren:=⟨fun|145=>97|220=>137|219=>181|217=>222|225=>223|224=>224|267=>225|266=>255|314=>256|n=>n,fun|9=>9|4=>4|59=>160|3=>3|5=>5|46=>110|146=>168|51=>167|n=>n,fun|1=>0|n=>n⟩
theorem Tryz.lays145:Go.Proofs.Lays.n145 prog Tryz.lays145_ren:={
 mixed:=by kernel_rfl
 f145:=func97.trans (congrArg some (by kernel_rfl))
 f217:=func222.trans (congrArg some (by kernel_rfl))
 f219:=func181.trans (congrArg some (by kernel_rfl))
 f220:=func137.trans (congrArg some (by kernel_rfl))
 f224:=func224.trans (congrArg some (by kernel_rfl))
 f225:=func223.trans (congrArg some (by kernel_rfl))
 f266:=func255.trans (congrArg some (by kernel_rfl))
 f267:=func225.trans (congrArg some (by kernel_rfl))
 f314:=func256.trans (congrArg some (by kernel_rfl))
 t3:=underlying3
 a3:=isAgg3
 z3:=sizeOf3
 v3:=zeroValue3
 t4:=underlying4
 a4:=isAgg4
 z4:=sizeOf4
 v4:=zeroValue4
 t5:=underlying5
 a5:=isAgg5
 z5:=sizeOf5
 v5:=zeroValue5
 t9:=underlying9
 a9:=isAgg9
 z9:=sizeOf9
 v9:=zeroValue9
 t46:=underlying110
 a46:=isAgg110
 z46:=sizeOf110
 v46:=zeroValue110
 t51:=underlying167
 a51:=isAgg167
 z51:=sizeOf167
 v51:=zeroValue167
 t59:=underlying160
 a59:=isAgg160
 z59:=sizeOf160
 v59:=zeroValue160
 t146:=underlying168
 a146:=isAgg168
 z146:=sizeOf168
 v146:=zeroValue168
 g1:=by kernel_rfl}
open Go.RowKit Go.Lib in
theorem Tryz.strings_Cut(s sep:ByteArray)(m:Int)(w:World)(hs:s.size<4294967281)(hm:w.cell? ⟨0,0,none⟩=some (.int .i64 m)):
 Calls prog 97 #[.string s,.string sep] w fun e w'=>e= .returned (.tuple #[.string ⟨(Lib.cut s.data.toList sep.data.toList).1.toArray⟩,.string ⟨(Lib.cut s.data.toList sep.data.toList).2.1.toArray⟩,.bool (Lib.cut s.data.toList sep.data.toList).2.2])/\∃n,w'=w.drewN n:=Any.strings_Cut Tryz.lays145 s sep m w hs hm
end
end Go.Proofs
end
section
namespace Go.Proofs.YtfgbhfphjmmiaaaGreatDoor.Kx
open Go Go.RowKit Go.IntKind
section
variable {P:Program} {g:FuncId}
theorem Ay9{args:List V}{v:V}(h:∀M w vals,Af8 M w->GlA M w->B2 M noR args vals->∃u,B8 M noR v u/\Calls P g vals.toArray w (fun e w'=>e= .returned u/\Below w.heap.size w w')):C1 P g args v:=
 fun M w vals hs hg hr=>by
  obtain⟨u,hv,hc⟩:=h M w vals hs hg hr;exact hc.mono fun e w' ⟨he,hb⟩=>⟨u,M,he,Ext.same hs hb,hv⟩
theorem Gd5{M:Mem}{v:V}{vals:List Value}(h:B2 M noR [v] vals):∃a,vals=[a]/\B8 M noR v a:=by
 simp only[B2]at h;obtain⟨a,r,rfl,h1,rfl⟩:=h;exact⟨a,rfl,h1⟩
theorem Gk8{M:Mem}{v u:V}{vals:List Value}(h:B2 M noR [v,u] vals):∃a b,vals=[a,b]/\B8 M noR v a/\B8 M noR u b:=by
 simp only[B2]at h;obtain⟨a,r,rfl,h1,b,r',rfl,h2,rfl⟩:=h;exact⟨a,b,rfl,h1,h2⟩
theorem Cf2(w:World)(n:Nat):Below w.heap.size w (w.drewN n):=⟨rfl,rfl,rfl,ad_ _,fun _ _=>rfl⟩
theorem Am6(s:List UInt8):(⟨s.toArray⟩:ByteArray).size=s.length:=rfl
def Ft2:Nat->Nat->List UInt8->List UInt8
 |0,_,acc=>acc
 |k+1,n,acc=>bif Nat.blt n 10 then UInt8.ofNat (48+n)::acc else Ft2 k (n/10) (UInt8.ofNat (48+n%10)::acc)
theorem Cg3:∀(k n:Nat) (acc:List UInt8),n<10^k->0<k->Ft2 k n acc=Lib.decDigits n++acc
 |0,_,_,_,h=>by omega
 |k+1,n,acc,h,_=>by
  rw[Ft2,Lib.decDigits];by_cases hn:n<10
  .rw[show Nat.blt n 10=true from Nat.ble_eq_true_of_le hn,cond_true,dif_pos hn];rfl
  .have hb:Nat.blt n 10=false:=by
    cases hb:Nat.blt n 10 with
    |false=>rfl
    |true=>exact absurd (Nat.le_of_ble_eq_true hb) hn
   have hk:0<k:=by
    rcases c5_ k with e|e
    .subst e;simp at h;omega
    .exact e
   have hd:n/10<10^k:=by rw[ci_]at h;omega
   rw[hb,cond_false,dif_neg hn,Cg3 k (n/10) _ hd hk,List.append_assoc];rfl
def Ci7(n:Int):Option (List UInt8):=
 bif decide (-9223372036854775808<=n)&&decide (n<=9223372036854775807) then some (match n with| .ofNat m=>Ft2 20 m []| .negSucc m=>45::Ft2 20 (m+1) []) else none
theorem Cr6{n:Int}{r:List UInt8}(h:Ci7 n=some r):(-9223372036854775808<=n/\n<=9223372036854775807)/\r=Lib.itoa n:=by
 unfold Ci7 at h;cases hb:(decide (-9223372036854775808<=n)&&decide (n<=9223372036854775807)) with
 |false=>rw[hb]at h;cases h
 |true=>
  rw[hb,cond_true]at h;rw[Bool.and_eq_true,decide_eq_true_eq,decide_eq_true_eq]at hb;refine⟨hb,?_⟩;unfold Lib.itoa;cases n with
  |ofNat m=>
   have hm:m<10^20:=by have:=hb.2;have:(m:Int)<=9223372036854775807:=this;omega
   have:=ax_ h;rw[<-this];simp only[Cg3 20 m [] hm (by omega),append_nil];rw[if_neg (show¬Int.ofNat m<0 by simp)];rfl
  |negSucc m=>
   have hm:m+1<10^20:=by have:=hb.1;omega
   have:=ax_ h;rw[<-this];simp only[Cg3 20 (m+1) [] hm (by omega),append_nil];rw[if_pos (Int.negSucc_lt_zero m)];rfl
theorem Bj5{M:Mem}{k:IntKind}:∀{zs:List Int} {us:List Value},C9 M (zs.map (Dat.int k)) us->us=zs.map fun z=>Value.int k z
 |[],us,h=>h
 |z::zs,us,⟨u,us',e,r,rs⟩=>by
  subst e;cases r;rw[Bj5 rs];rfl
theorem Fy4{M:Mem}{w:World}{name:String}{gn:Nat}{k:IntKind}{zs:List Int}(hg:P.globalNamed name=some gn)(he:gl gn=some (zs.map (Dat.int k)))(hs:Af8 M w)(ha:GlA M w):Lib.TabIs P w name k zs:=by
 obtain⟨us,⟨c,hc,hcell⟩,hr⟩:=ha.ok.d gn _ he;obtain⟨c',e',z',h1,h2⟩:=hs gn c hc;obtain⟨c2,e2,z2,h3,h4⟩:=ha.sz gn _ he;rw[h1]at h3;cases h3;have hus:=Bj5 hr;unfold Lib.TabIs World.var?;rw[hg,Option.bind_some,h1];show some c'=_;congr 1;refine bh_ ?_;refine b6_ fun j=> ?_
 rw[length_map]at h4;rw[<-hus];have hul:us.length=zs.length:=by rw[hus,length_map]
 by_cases hj:j<us.length
 .have h5:=hcell j hj;rw[Nat.zero_add]at h5;have h6:us[j]? =some us[j]:=aa_ hj;rw[h6]at h5;rw[Array.getElem?_toList,h2 j _ h5,h6]
 .rw[List.getElem?_eq_none (by rw[bi_];omega),List.getElem?_eq_none (by simpa using Nat.le_of_not_lt hj)]
theorem Cy3(w:World)(k:Nat)(os:Array Obj):Below w.heap.size w (Go.Sort.grow (w.drewN k) os):=
 ⟨rfl,rfl,rfl,by show w.heap.size<=(w.heap++os).size;rw[Array.size_append];omega,fun g h=>Lib.heap_grow_old w k os g h⟩
theorem Cz7{gn:Nat}(hg:P.globalNamed "internal/strconv.uint64pow10" =some gn)(he:gl gn=some (Lib.pow10Tab.map (Dat.int .u64)))
 (h:∀(n:Int),-9223372036854775808<=n->n<=9223372036854775807->∀w,Lib.TabIs P w "internal/strconv.uint64pow10" .u64 Lib.pow10Tab->Calls P g #[.int .i64 n] w fun e w'=>e= .returned (.string ⟨(Lib.itoa n).toArray⟩)/\∃k os,w'=Go.Sort.grow (w.drewN k) os) {n:Int} {r:List UInt8} (hF:Ci7 n=some r):C1 P g [.d (.int .i64 n)] (.d (.str r)):=by
 obtain⟨hn,rfl⟩:=Cr6 hF;refine Ay9 fun M w vals hs hgl hr=> ?_
 obtain⟨a,rfl,h1⟩:=Gd5 hr;obtain rfl:=O9 h1;exact⟨_,By5 (s:=Lib.itoa n),(h n hn.1 hn.2 w (Fy4 hg he hs hgl)).mono fun e w' ⟨h2,k,os,h3⟩=>⟨h2,by rw[h3];exact Cy3 w k os⟩⟩
def Eb9(s:List UInt8):Option (Int×Bool):=bif decide (s.length<=2147483648) then some (match Lib.atoiAll s with| .ok v=>(v,false)| .range=>(Lib.atoiSat s,true)|_=>(0,true)) else none
theorem Cr2{M:Mem}{w:World}{n:Nat}(he:gl n=some [.ife true])(hs:Af8 M w)(hg:GlA M w):∃t u,w.cell? ⟨n,0,none⟩=some (.iface t u):=by
 obtain⟨us,⟨c,hc,hcell⟩,u,us',rfl,hr,_⟩:=hg.ok.d n _ he;cases hr with
 |ifc t u=>
  have h0:=hcell 0 (by simp);exact⟨t,u,hs.cell hc (by simpa using h0)⟩
theorem Cy0{bt te tc:TypeId}{gs gr:Nat}(hes:gl gs=some [.ife true])(her:gl gr=some [.ife true])
 (h:∀(s:ByteArray),s.size<=9223372036854775806->∀v:Int,Lib.atoiAll s.data.toList= .ok v->∀w,Calls P g #[.string s] w fun e w'=>e= .returned (.tuple #[.int .i64 v,.nilIface])/\(w'=w\/∃t,w'=Lib.bytesWorld w bt t))
 (hb:∀(s:ByteArray),s.size<=281474976710656->(∀v,Lib.atoiAll s.data.toList≠ .ok v)->Lib.atoiAll s.data.toList≠ .range->∀(ev:Value) (w:World),w.cell? ⟨gs,0,none⟩=some ev->(ev= .nilIface\/∃te pe,ev= .iface te pe)->
  Calls P g #[.string s] w fun e w'=>∃N,e= .returned (.tuple #[.int .i64 (0),.iface te (.pointer (some ⟨N,0,none⟩))])/\w.heap.size<=N/\w'.heap[N]? =some (.cells #[.string ⟨#[65,116,111,105]⟩,.string s,ev] tc (0,0))/\Below w.heap.size w w')
 (hr0:∀(s:ByteArray),s.size<=281474976710656->Lib.atoiAll s.data.toList= .range->∀(ev:Value) (w:World),w.cell? ⟨gr,0,none⟩=some ev->(ev= .nilIface\/∃te pe,ev= .iface te pe)->
  Calls P g #[.string s] w fun e w'=>∃N,e= .returned (.tuple #[.int .i64 (Lib.atoiSat s.data.toList),.iface te (.pointer (some ⟨N,0,none⟩))])/\w.heap.size<=N/\w'.heap[N]? =some (.cells #[.string ⟨#[65,116,111,105]⟩,.string s,ev] tc (0,0))/\Below w.heap.size w w')
 {s:List UInt8} {r:Int×Bool} (hF:Eb9 s=some r):C1 P g [.d (.str s)] (.tup [.d (.int .i64 r.1),.d (.ife r.2)]):=by
 unfold Eb9 at hF;cases hb1:decide (s.length<=2147483648) with
 |false=>rw[hb1]at hF;cases hF
 |true=>
  rw[hb1,cond_true]at hF;have hlen:=of_decide_eq_true hb1;have hr1:=ax_ hF;intro M w vals hs hg hr;obtain⟨a,rfl,h1⟩:=Gd5 hr;obtain rfl:=P0 h1;have pair:∀(n:Int) (N:Nat),B8 M noR (.tup [.d (.int .i64 n),.d (.ife true)]) (.tuple #[.int .i64 n,.iface te (.pointer (some ⟨N,0,none⟩))]):=fun n N=>by
   simp only[B8,B2];exact⟨[.int .i64 n,.iface te (.pointer (some ⟨N,0,none⟩))],rfl,_,_,rfl,.int _ _,_,_,rfl,.ifc _ _,rfl⟩
  split at hr1
  .rename_i v hv;subst hr1;refine(h ⟨s.toArray⟩ (by rw[Am6];omega) v (by simpa using hv) w).mono fun e w' ⟨h2,h3⟩=>⟨_,M,h2,Ext.same hs ?_,?_⟩
   .rcases h3 with rfl|⟨t,rfl⟩
    .exact Below.refl _ _
    .exact Lib.bytesWorld_below _ _ _
   .simp only[B8,B2];exact⟨[.int .i64 v,.nilIface],rfl,_,_,rfl,.int _ _,_,_,rfl,.nili,rfl⟩
  .rename_i hv;subst hr1;obtain⟨t,u,hc⟩:=Cr2 her hs hg;exact(hr0 ⟨s.toArray⟩ (by rw[Am6];omega) (by simpa using hv) _ w hc (.inr ⟨t,u,rfl⟩)).mono fun e w' ⟨N,h2,_,_,h3⟩=>⟨_,M,h2,Ext.same hs h3,by simpa using pair (Lib.atoiSat s) N⟩
  .rename_i hv1 hv2;subst hr1;obtain⟨t,u,hc⟩:=Cr2 hes hs hg;exact(hb ⟨s.toArray⟩ (by rw[Am6];omega) (fun v hv=>hv1 v (by simpa using hv)) (fun hv=>hv2 (by simpa using hv)) _ w hc (.inr ⟨t,u,rfl⟩)).mono fun e w' ⟨N,h2,_,_,h3⟩=>⟨_,M,h2,Ext.same hs h3,pair 0 N⟩
def Be6(c:UInt8):List UInt8->List UInt8×List UInt8×Bool
 |[]=>([],[],false)
 |b::l=>match b==c with
  |true=>([],l,true)
  |false=>match Be6 c l with|(x,y,t)=>(b::x,y,t)
theorem Cz5(b c:UInt8)(l:List UInt8):Lib.index (b::l) [c]=if b=c then 0 else if Lib.index l [c]= -1 then-1 else Lib.index l [c]+1:=by
 rw[Lib.index];by_cases h:b=c
 .subst h;simp[List.isPrefixOf]
 .have hp:([c]:List UInt8).isPrefixOf (b::l)=false:=by simp[List.isPrefixOf,Ne.symm h]
  rw[hp,if_neg h];by_cases h2:Lib.index l [c]= -1<;>simp[h2]
theorem Dk7(c:UInt8):∀l,Lib.cut l [c]=Be6 c l
 |[]=>rfl
 |b::l=>by
  have ih:=Dk7 c l;have hge:=Lib.index_ge l [c];unfold Lib.cut at ih⊢;rw[Cz5];unfold Be6;by_cases h:b=c
  .subst h;simp
  .rw[if_neg h,show(b==c)=false from by simpa using h];dsimp only;rw[<-ih];by_cases h2:Lib.index l [c]= -1
   .simp[h2]
   .rw[if_neg h2];obtain⟨j,hj⟩:∃j:Nat,Lib.index l [c]=j:=⟨(Lib.index l [c]).toNat,by omega⟩
    rw[hj,if_pos (by omega),if_pos (by omega)];have e1:((j:Int)+1).toNat=j+1:=by omega
    rw[e1,Int.toNat_natCast];simp
def Fk9(s p:List UInt8):Option (List UInt8×List UInt8×Bool):=match p with
 |[c]=>bif decide (s.length<=2147483648) then some (Be6 c s) else none
 |_=>none
theorem Dk9{n:Nat}(hx:(n,i64)∈gxT)(h:∀(s sep:ByteArray) (m:Int) (w:World),s.size<4294967281->w.cell? ⟨n,0,none⟩=some (.int .i64 m)->Calls P g #[.string s,.string sep] w fun e w'=>
 e= .returned (.tuple #[.string ⟨(Lib.cut s.data.toList sep.data.toList).1.toArray⟩,.string ⟨(Lib.cut s.data.toList sep.data.toList).2.1.toArray⟩,.bool (Lib.cut s.data.toList sep.data.toList).2.2])/\∃n,w'=w.drewN n)
 {s p:List UInt8} {r:List UInt8×List UInt8×Bool} (hF:Fk9 s p=some r):C1 P g [.d (.str s),.d (.str p)] (.tup [.d (.str r.1),.d (.str r.2.1),.d (.bool r.2.2)]):=by
 unfold Fk9 at hF;split at hF
 .rename_i c;cases hb:decide (s.length<=2147483648) with
  |false=>rw[hb]at hF;cases hF
  |true=>
   rw[hb,cond_true]at hF;cases hF;have hb:=of_decide_eq_true hb;refine Ay9 fun M w vals hs hg hr=> ?_
   obtain⟨a,b,rfl,h1,h2⟩:=Gk8 hr;obtain rfl:=P0 h1;obtain rfl:=P0 h2;obtain⟨m,hm⟩:=hg.ok.x _ _ hx;have hc:=h ⟨s.toArray⟩ ⟨([c]:List UInt8).toArray⟩ m w (by rw[Am6];omega) (hm.cell hs (j:=0) rfl);have e:Lib.cut (⟨s.toArray⟩:ByteArray).data.toList (⟨([c]:List UInt8).toArray⟩:ByteArray).data.toList=Be6 c s:=by rw[<-Dk7]
   rw[e]at hc;refine⟨.tuple #[Z9 (Be6 c s).1,Z9 (Be6 c s).2.1,.bool (Be6 c s).2.2],?_,hc.mono fun e w' ⟨h3,k,h4⟩=>⟨h3,by rw[h4];exact Cf2 _ _⟩⟩;simp only[B8,B2];exact⟨[Z9 (Be6 c s).1,Z9 (Be6 c s).2.1,.bool (Be6 c s).2.2],rfl,_,_,rfl,.str _,_,_,rfl,.str _,_,_,rfl,.bool _,rfl⟩
 .cases hF
end
end Go.Proofs.YtfgbhfphjmmiaaaGreatDoor.Kx
end
section
set_option linter.unusedVariables false
set_option maxRecDepth 100000
namespace Go.Proofs.YtfgbhfphjmmiaaaGreatDoor
open Go Go.RowKit Kx Go.IntKind
section
theorem Ft7:G7 prog 254:=Kx.Az6 func254 (by kernel_rfl) (by kernel_rfl)
structure A5 where
 neg:Bool
 mag:List Int
 deriving DecidableEq
structure A7 where
 n_:A5
 d:A5
 deriving DecidableEq
def A6(x:Int):List Dat:=[.int .u32 x]
def V9(d0:Int):Nat->Int->(List Int)->Option A5
 |0,_,_=>none
 |nL1+1,v2,l4=>
  bif decide (v2>0) then
   ((app l4 [u32.wrap (Int.tmod v2 1000000000)]).bind fun l5=>
   (V9 d0 nL1) (u64.wrap (Int.tdiv v2 1000000000)) l5)
  else
   (some (⟨decide (d0<0),l4⟩:A5))
def Bh2(d0:Int):Nat->Int->(List Int)->Option A5
 |0,_,_=>none
 |nL2+1,v4,l9=>
  bif decide (v4>0) then
   ((app l9 [u32.wrap (Int.tmod v4 1000000000)]).bind fun l10=>
   (Bh2 d0 nL2) (u64.wrap (Int.tdiv v4 1000000000)) l10)
  else
   (some (⟨decide (d0<0),l9⟩:A5))
def F99(fuel:Nat)(d0:Int):Option A5:=
 bif decide (d0<0) then
  (V9 d0 fuel (u64.wrap (0-(u64.wrap d0))) [])
 else
  (Bh2 d0 fuel (u64.wrap d0) [])
noncomputable abbrev b99:=C0 f99
abbrev G99(r:A5):=GJ prog 27 f99 (.agg [.b r.neg,.l 1 r.mag A6])
theorem Bh3{fuel}{d0}{r}(hF:F99 fuel d0=some r):
 C1 prog 99 [.i d0] (.agg [.b r.neg,.l 1 r.mag A6]):=by
 refine cf 27 func99 ?_;refine jI 24 11 hF ?_ ?_<;>intro hF
 .have hL1:∀nL1 v2 l4,V9 d0 nL1 v2 l4=some r->G99 r ⟨mkT [(2,.ptr 2 0),(3,.ptr 3 0),(4,.n v2)],[(2,.box 98 [.b false,.esl 1]),(3,.box 98 [.b (decide (d0<0)),.suf 24 0 0]),(24,.buf 0 167 1 (l4.map A6))],[kL b99 248,.inBlock 0,kC b99 63]⟩:=by
   clear hF;refine lpI (fun _ _ h=>by cases h) fun nL1 iL1 v2 l4 hF=> ?_
   refine jI 7 15 hF ?_ ?_<;>intro hF
   .obtain⟨l5,e3,hF⟩:=bnd hF;refine jo2 11 (am' A6 e3) ?_;exact ja 9 (iL1 _ _ hF)
   .cases hF;exact jr 7
  refine B5 9 (Bh6 (n:=1) 3 1 24 167 1 (by kernel_rfl) (by kernel_rfl) ?_);exact ja 0 (hL1 _ _ _ hF)
 .have hL2:∀nL2 v4 l9,Bh2 d0 nL2 v4 l9=some r->G99 r ⟨mkT [(2,.ptr 2 0),(3,.ptr 3 0),(4,.n v4)],[(2,.box 98 [.b false,.esl 1]),(3,.box 98 [.b (decide (d0<0)),.suf 24 0 0]),(24,.buf 0 167 1 (l9.map A6))],[kL b99 248,.inBlock 0,kC b99 63]⟩:=by
   clear hF;refine lpI (fun _ _ h=>by cases h) fun nL2 iL2 v4 l9 hF=> ?_
   refine jI 7 15 hF ?_ ?_<;>intro hF
   .obtain⟨l10,e6,hF⟩:=bnd hF;refine jo2 11 (am' A6 e6) ?_;exact ja 9 (iL2 _ _ hF)
   .cases hF;exact jr 7
  refine B5 5 (Bh6 (n:=1) 3 1 24 167 1 (by kernel_rfl) (by kernel_rfl) ?_);exact ja 0 (hL2 _ _ _ hF)
def Fn0(d0:Int):Option Bool:=
 some (d0 !=d0)
theorem De8{d0}{r}(hF:Fn0 d0=some r):
 C1 prog 185 [.i d0] (.b r):=by
 unfold Fn0 at hF;refine cf 6 func185 ?_;cases hF;exact jr 11
def Fm4(d0:Int)(d1:Int):Option Int:=
 (Fn0 d0).bind fun y1=>
 (Fn0 d1).bind fun y2=>
 bif y1 then
  (bif y2 then
   (some 0)
  else
   (some (-1)))
 else
  (bif y2 then
   (some 1)
  else
   (bif decide (d0<d1) then
    (some (-1))
   else
    (bif decide (d0>d1) then
     (some 1)
    else
     (some 0))))
theorem Dd5{d0}{d1}{r}(hF:Fm4 d0 d1=some r):
 C1 prog 141 [.i d0,.i d1] (.i r):=by
 refine cf 20 func141 ?_;refine jB 7 hF De8 fun y1 hF=> ?_
 refine jB 5 hF De8 fun y2 hF=> ?_
 refine jI 7 11 hF ?_ ?_<;>intro hF
 .refine jI 6 12 hF ?_ ?_<;>intro hF
  .cases hF;exact jr 5
  .cases hF;exact jr 6
 .refine jI 7 13 hF ?_ ?_<;>intro hF
  .cases hF;exact jr 5
  .refine jI 9 16 hF ?_ ?_<;>intro hF
   .cases hF;exact jr 5
   .refine jI 9 19 hF ?_ ?_<;>intro hF
    .cases hF;exact jr 5
    .cases hF;exact jr 6
def Fn8(d0:Int):Option Bool:=
 some (d0 !=d0)
theorem Df5{d0}{r}(hF:Fn8 d0=some r):
 C1 prog 233 [.w d0] (.b r):=by
 unfold Fn8 at hF;refine cf 6 func233 ?_;cases hF;exact jr 11
def Ga1(d0:Int)(d1:Int):Option Int:=
 (Fn8 d0).bind fun y1=>
 (Fn8 d1).bind fun y2=>
 bif y1 then
  (bif y2 then
   (some 0)
  else
   (some (-1)))
 else
  (bif y2 then
   (some 1)
  else
   (bif decide (d0<d1) then
    (some (-1))
   else
    (bif decide (d0>d1) then
     (some 1)
    else
     (some 0))))
theorem Ew3{d0}{d1}{r}(hF:Ga1 d0 d1=some r):
 C1 prog 186 [.w d0,.w d1] (.i r):=by
 refine cf 20 func186 ?_;refine jB 7 hF Df5 fun y1 hF=> ?_
 refine jB 5 hF Df5 fun y2 hF=> ?_
 refine jI 7 11 hF ?_ ?_<;>intro hF
 .refine jI 6 12 hF ?_ ?_<;>intro hF
  .cases hF;exact jr 5
  .cases hF;exact jr 6
 .refine jI 7 13 hF ?_ ?_<;>intro hF
  .cases hF;exact jr 5
  .refine jI 9 16 hF ?_ ?_<;>intro hF
   .cases hF;exact jr 5
   .refine jI 9 19 hF ?_ ?_<;>intro hF
    .cases hF;exact jr 5
    .cases hF;exact jr 6
def Ao9(d0:List Int)(d1:List Int):Nat->Int->Option Int
 |0,_=>none
 |nL1+1,v2=>
  bif decide (v2>=0) then
   ((C2 d0 v2).bind fun y8=>
   (C2 d1 v2).bind fun y9=>
   (Ga1 y8 y9).bind fun y10=>
   bif y10 !=0 then
    (some y10)
   else
    ((Ao9 d0 d1 nL1) (i64.wrap (v2-1))))
  else
   (some 0)
def Dz1(fuel:Nat)(d0:List Int)(d1:List Int):Option Int:=
 (Fm4 ((d0.map A6).length:Int) ((d1.map A6).length:Int)).bind fun y1=>
 bif y1 !=0 then
  (some y1)
 else
  (Ao9 d0 d1 fuel (i64.wrap (((d0.map A6).length:Int)-1)))
noncomputable abbrev Go1:=C0 f142
abbrev Gs4(r:Int):=GJ prog 35 f142 (.i r)
theorem Bk5{fuel}{d0}{d1}{r}(hF:Dz1 fuel d0 d1=some r):
 C1 prog 142 [.l 1 d0 A6,.l 1 d1 A6] (.i r):=by
 refine cf 35 func142 ?_;refine jB 11 hF Dd5 fun y1 hF=> ?_
 refine jI 7 14 hF ?_ ?_<;>intro hF
 .cases hF;exact jr 6
 .have hL1:∀nL1 v2,Ao9 d0 d1 nL1 v2=some r->Gs4 r ⟨mkT [(0,.l 1 d0 A6),(1,.l 1 d1 A6),(6,.i v2)],[],[kL Go1 116,.inBlock 0,kC Go1 15]⟩:=by
   clear hF;refine lpI (fun _ h=>by cases h) fun nL1 iL1 v2 hF=> ?_
   refine jI 7 20 hF ?_ ?_<;>intro hF
   .refine jd 5 ?_;obtain⟨y8,e8,hF⟩:=bnd hF;refine do1 2 (gm' A6 e8) ?_;obtain⟨y9,e9,hF⟩:=bnd hF;refine do1 3 (gm' A6 e9) ?_;refine dB 1 hF Ew3 fun y10 hF=> ?_
    refine je 1 ?_;refine jI 5 33 hF ?_ ?_<;>intro hF
    .cases hF;exact jr 6
    .exact ja 8 (iL1 _ hF)
   .cases hF;exact jr 6
  exact ja 12 (hL1 _ _ hF)
def Fj9(d0:List Int):Option (List Int):=
 some d0
noncomputable abbrev Gu9:=C0 f221
theorem Df4{d0}{r}(hF:Fj9 d0=some r):
 M4 prog 221 [] [.l 1 d0 A6] [(2000,.box 96 [.l 1 r A6])] (.fn 254 [] [.ptr 2000 0]):=by
 unfold Fj9 at hF;refine cr 4 func221 ?_;refine ja 10 (S0:=[(2,.fn 254 [] [.ptr 1 0])]) (O0:=[(1,.box 96 [.l 1 d0 A6])]) (T0:=[kC Gu9 7]) ?_;refine B5 0 (Ay1 [(1,2000)] (by kernel_rfl) (by kernel_rfl) (by kernel_rfl) (by kernel_rfl) ?_);have hF:=oi hF;subst hF;exact B5 0 (Bl4 (xs:=[.fn 254 [] [.ptr 2000 0]]) [.fn 254 [] [.ptr 2000 0]] rfl (by kernel_rfl) (by kernel_rfl) (R1.refl _) rfl)
def T6(x:Int×Int):List Kx.V:=[.d (.int .i64 x.1),.d (.int .u32 x.2)]
def Ap5(d0:List Int):Nat->Int->Option (List (Int×Int))
 |0,_=>none
 |nL1+1,v2=>
  bif decide (v2>=0) then
   ((C2 d0 v2).bind fun y3=>
   (
    (Ap5 d0 nL1) (i64.wrap (v2-1))).bind fun l3=>
   some ((v2,y3)::l3))
  else
   (some [])
def Fk0(fuel:Nat)(d0:List Int):Option (List (Int×Int)):=
 Ap5 d0 fuel (i64.wrap (((d0.map A6).length:Int)-1))
noncomputable abbrev Gv0:=C0 f254
theorem Df8{fuel}{d0}{r}(hF:Fk0 fuel d0=some r):
 Cx1 prog 254 [(2000,.frn 2000)] [.yl 2000,.rp [.sl 1 (d0.map A6)] 0] (r.map T6) false:=by
 unfold Fk0 at hF;refine Cr5 (N:=19) (b:=C0 f254) func254 (by kernel_rfl) rfl rfl (fun yl_ Inv_ Stop_ Pan_ hR_=> ?_);have hL1:∀nL1 r v2,Ap5 d0 nL1 v2=some r->J none prog 19 [] (Ee7 prog f254 yl_ Inv_ Stop_ Pan_ false (some (r.map T6))) ⟨mkT [(0,.yl 2000),(1,.rp [.sl 1 (d0.map A6)] 0),(3,.i v2)],[(2000,.frn 2000)],[kL Gv0 12,.inBlock 0]⟩:=by
  clear hF;refine lpI (fun _ _ h=>by cases h) fun nL1 iL1 r v2 hF=> ?_
  refine jI 7 8 hF ?_ ?_<;>intro hF
  .obtain⟨y3,e3,hF⟩:=bnd hF;refine jo1 10 (gm' A6 e3) ?_;obtain⟨l3,hY_,hr_⟩:=bnd hF;clear hF;have hr_:=ax_ hr_;subst hr_;have hF:=hY_;clear hY_;refine B5 1 (Di1 hR_ (xs:=[.i v2,.w y3]) [.i v2,.w y3] (ys:=l3.map T6) (by kernel_rfl) (by kernel_rfl) (R1.refl _) ?_ ?_)
   rotate_left
   .exact B5 3 (Bl3 hR_ (.inr rfl) rfl rfl (by kernel_rfl))
   .exact ja 10 (iL1 _ _ hF)
  .have hF:=oi hF;subst hF;exact B5 2 (Bl3 hR_ (.inl ⟨rfl,rfl⟩) rfl rfl (by kernel_rfl))
 exact ja 9 (hL1 _ _ _ hF)
def Ab0(d1:Int):List (Int×Int)->Int->(List Int)->Option (List Int×Int)
 |[],v2,l5=>
  some (l5,u32.wrap v2)
 |y6::ys_F217_L1,v2,l5=>
  ass (decide ((u64.wrap d1)≠0))<|
  ass (decide ((u64.wrap d1)≠0))<|
  (C2 l5 y6.1).bind fun y7=>
  (some (l5.set (0+Int.toNat y6.1) (u32.wrap (u64.wrap (Int.tdiv (u64.wrap ((u64.wrap (v2*1000000000))+(u64.wrap y6.2))) (u64.wrap d1)))))).bind fun l6=>
  (Ab0 d1 ys_F217_L1) (Int.tmod (u64.wrap ((u64.wrap (v2*1000000000))+(u64.wrap y6.2))) (u64.wrap d1)) l6
def Fj7(fuel:Nat)(d0:List Int)(d1:Int):Option (List Int×Int):=
 (mkL ((d0.map A6).length:Int) ((d0.map A6).length:Int) 0).bind fun l1=>
 (Fj9 d0).bind fun y1=>
 (Fk0 fuel y1).bind fun ys1=>
 Ab0 d1 ys1 0 l1
noncomputable abbrev Db9:=C0 f217
theorem Df3{fuel}{d0}{d1}{r}(hF:Fj7 fuel d0 d1=some r):
 C1 prog 217 [.l 1 d0 A6,.w d1] (.tup [.l 1 r.1 A6,.w r.2]):=by
 unfold Fj7 at hF;refine Co3 (N:=38) (b:=C0 f217) func217 (by kernel_rfl) rfl rfl (fun w00_ M00_=> ?_);obtain⟨l1,e1,hF⟩:=bnd hF;refine jo2 10 (mm' A6 e1) ?_;obtain⟨y1,e2,hF⟩:=bnd hF;refine jcr 12 [(15,2000)] (Df4 e2) ?_;refine ja 2 (S0:=[(3,.ptr 3 0),(6,.ptr 6 0),(7,.ptr 7 0),(15,.fn 254 [] [.ptr 15 0])]) (O0:=[(3,.box 167 [.w d1]),(6,.box 96 [.suf 13 0 0]),(7,.box 39 [.n 0]),(13,.buf 0 167 1 (l1.map A6)),(15,.box 96 [.l 1 y1 A6])]) (T0:=[kC Db9 122,.inBlock 0,kC Db9 31]) ?_;refine Ay1 [(13,13),(15,15),(3,2100),(6,2101),(7,2102)] (by kernel_rfl) (by kernel_rfl) (by kernel_rfl) (by kernel_rfl) ?_;refine Dh6 (S0:=[(3,.ptr 2100 0),(6,.ptr 2101 0),(7,.ptr 2102 0),(15,.fn 254 [] [.ptr 15 0])]) (O0:=[(13,.buf 0 167 1 (l1.map A6)),(15,.box 96 [.l 1 y1 A6]),(2100,.box 167 [.w d1]),(2101,.box 96 [.suf 13 0 0]),(2102,.box 39 [.n 0])]) (T0:=[kC Db9 122,.inBlock 0,kC Db9 31]) [3,6,7,15] [13,15,2100,2101,2102] (by kernel_rfl) rfl ?_;obtain⟨ys1,e3,hF⟩:=bnd hF;obtain⟨G_,hG_⟩:∃G:List (List Kx.V)->List (Nat×B9)->Prop,G=(fun yv ob=>∃(yl_:List (Int×Int)) (v2:Int) (l5:List Int),yv=yl_.map T6/\ob=[(13,.buf 0 167 1 (l5.map A6)),(2100,.box 167 [.w d1]),(2101,.box 96 [.suf 13 0 0]),(2102,.box 39 [.n v2])]/\Ab0 d1 yl_ v2 l5=some r):=⟨_,rfl⟩
 obtain⟨GX_,hGX_⟩:∃G:Code->List (Nat×B9)->Prop,G=(fun j ob=>False):=⟨_,rfl⟩
 refine Ay0 (P:=prog) (g:=(.tmp 15)) (ps:= #[16,17]) (asg:=(cAt Db9 [1,1,1,0,1,0,0])) (bo:=(cAt Db9 [1,1,1,0,1,0,1])) (k:=[.inBlock 0,kC Db9 31]) (gf:=254) (first:=[]) (cap:=[.ptr 15 0]) (xs:=[.rp [.sl 1 (y1.map A6)] 0]) (os:=[]) (S1:=[(3,.ptr 2100 0),(6,.ptr 2101 0),(7,.ptr 2102 0)]) (ob0:=[(13,.buf 0 167 1 (l1.map A6)),(2100,.box 167 [.w d1]),(2101,.box 96 [.suf 13 0 0]),(2102,.box 39 [.n 0])]) [] [3,6,7] [13,2100,2101,2102] [.rp [.sl 1 (y1.map A6)] 0] (ysAll:=ys1.map T6) [2100,2101,2102] G_ GX_ rfl (by kernel_rfl) rfl (by kernel_rfl) rfl (by kernel_rfl) (R1.refl _) Ft7 (Df8 e3) (by kernel_rfl) (by kernel_rfl) (by kernel_rfl) ?_ ?_ ?_ ⟨by kernel_rfl,by kernel_rfl⟩ ?_ ?_ ?_
 .rw[hG_];exact⟨ys1,0,l1,rfl,by kernel_rfl,hF⟩
 .intro yv_ ob_ h_;rw[hG_]at h_;obtain⟨_,_,_,_,rfl,_⟩:=h_;kernel_rfl
 .intro j_ ob_ h_;rw[hGX_]at h_;exact h_.elim
 .intro x_ hxa_ hxb_ hxp_ yv_ ysv_ ob_ h_;rw[hG_]at h_;obtain⟨yl_,v2,l5,hy_,rfl,hF⟩:=h_;cases yl_ with
  |nil=>cases hy_
  |cons y6 ys_F217_L1=>
   cases hy_;rw[Ab0]at hF;refine Dp1 (by kernel_rfl) ?_;refine Dh6 (S0:=[(3,.ptr 2100 0),(6,.ptr 2101 0),(7,.ptr 2102 0),(16,.i y6.1),(17,.w y6.2)]) (O0:=[(3000,.raw x_.D (.deferred (some []))),(3001,.raw x_.L (.loop (G2 x_ .ready none))),(13,.buf 0 167 1 (l5.map A6)),(2100,.box 167 [.w d1]),(2101,.box 96 [.suf 13 0 0]),(2102,.box 39 [.n v2])]) (T0:=[kC Db9 244,.begR x_.L,kC Db9 245]) [3,6,7,16,17] [3000,3001,13,2100,2101,2102] (by kernel_rfl) rfl ?_;refine ja 7 (S0:=[(3,.ptr 2100 0),(6,.ptr 2101 0),(7,.ptr 2102 0),(8,.i y6.1),(9,.w y6.2),(16,.i y6.1),(17,.w y6.2)]) (O0:=[(3000,.raw x_.D (.deferred (some []))),(3001,.raw x_.L (.loop (G2 x_ .ready none))),(13,.buf 0 167 1 (l5.map A6)),(2100,.box 167 [.w d1]),(2101,.box 96 [.suf 13 0 0]),(2102,.box 39 [.n v2])]) (T0:=[.begR x_.L,kC Db9 245]) ?_;refine Bs9 (l:=x_.L) (q:=3001) (k:=[kC Db9 245]) (rec:=G2 x_ .ready none) rfl rfl rfl ?_;refine jd 10 ?_;obtain⟨hb5,hF⟩:=O1 hF;refine do1 5 (ck hb5) ?_;obtain⟨hb6,hF⟩:=O1 hF;refine do1 4 (ck hb6) ?_;obtain⟨y7,e8,hF⟩:=bnd hF;refine do1 0 (gm' A6 e8) ?_;obtain⟨l6,e9,hF⟩:=bnd hF;have hst:=stm (f:=A6) (z:=u32.wrap (u64.wrap (Int.tdiv (u64.wrap ((u64.wrap (v2*1000000000))+(u64.wrap y6.2))) (u64.wrap d1)))) (k:=0) (xs:=[.int .u32 (u32.wrap (u64.wrap (Int.tdiv (u64.wrap ((u64.wrap (v2*1000000000))+(u64.wrap y6.2))) (u64.wrap d1))))]) (gj e8) rfl;refine G9 0 (Bl2 (o:=(match(l5.map A6)[0+Int.toNat y6.1]? with|some old=>some ((l5.map A6).set (0+Int.toNat y6.1) (Z1 old 0 [.int .u32 (u32.wrap (u64.wrap (Int.tdiv (u64.wrap ((u64.wrap (v2*1000000000))+(u64.wrap y6.2))) (u64.wrap d1))))]))|none=>none)) (l6.map A6) (by kernel_rfl) (by kernel_rfl) (by cases e9;exact hst) ?_);refine je 1 ?_;refine ja 1 (S0:=[]) (O0:=rob x_ .busy none [(13,.buf 0 167 1 (l6.map A6)),(2100,.box 167 [.w d1]),(2101,.box 96 [.suf 13 0 0]),(2102,.box 39 [.n (Int.tmod (u64.wrap ((u64.wrap (v2*1000000000))+(u64.wrap y6.2))) (u64.wrap d1))])]) (T0:=[]) ?_;exact Bt0 rfl [(13,.buf 0 167 1 (l6.map A6)),(2100,.box 167 [.w d1]),(2101,.box 96 [.suf 13 0 0]),(2102,.box 39 [.n (Int.tmod (u64.wrap ((u64.wrap (v2*1000000000))+(u64.wrap y6.2))) (u64.wrap d1))])] rfl rfl (by kernel_rfl) (by rw[hG_];exact⟨ys_F217_L1,Int.tmod (u64.wrap ((u64.wrap (v2*1000000000))+(u64.wrap y6.2))) (u64.wrap d1),l6,rfl,rfl,hF⟩)
 .intro D_ ob_ h_;rw[hG_]at h_;obtain⟨yl_,v2,l5,hy_,rfl,hF⟩:=h_;cases yl_ with
  |cons _ _=>cases hy_
  |nil=>
   clear hy_;rw[Ab0]at hF;refine El9 [(2100,3),(2101,6),(2102,7),(13,13)] (by kernel_rfl) (by kernel_rfl) (by kernel_rfl) ?_;refine ja 0 (S0:=[(6,.ptr 6 0),(7,.ptr 7 0)]) (O0:=[(6,.box 96 [.suf 13 0 0]),(7,.box 39 [.n v2]),(13,.buf 0 167 1 (l5.map A6))]) (T0:=[.inBlock 0,kC Db9 31]) ?_;refine jd 2 ?_;refine je 5 ?_;have hF:=oi hF;subst hF;exact B5 0 (Em0 (xs:=[.l 1 l5 A6,.w (u32.wrap v2)]) [.l 1 l5 A6,.w (u32.wrap v2)] rfl rfl (by kernel_rfl) (R1.refl _) rfl (by kernel_rfl))
 .intro D_ ob_ j_ h_;rw[hGX_]at h_;exact h_.elim
def Ab1(d0:List Int)(d1:Int):Nat->Int->Int->(List Int)->Option (List Int)
 |0,_,_,_=>none
 |nL1+1,v3,v4,l5=>
  bif decide (v4<((d0.map A6).length:Int)) then
   ((C2 d0 v4).bind fun y3=>
   (app l5 [u32.wrap (Int.tmod (u64.wrap ((u64.wrap ((u64.wrap y3)*(u64.wrap d1)))+v3)) 1000000000)]).bind fun l6=>
   (Ab1 d0 d1 nL1) (u64.wrap (Int.tdiv (u64.wrap ((u64.wrap ((u64.wrap y3)*(u64.wrap d1)))+v3)) 1000000000)) (i64.wrap (v4+1)) l6)
  else
   ((app l5 [u32.wrap v3]).bind fun l7=>
   some l7)
def Ex3(fuel:Nat)(d0:List Int)(d1:Int):Option (List Int):=
 (mkL 0 (i64.wrap (((d0.map A6).length:Int)+1)) 0).bind fun l1=>
 Ab1 d0 d1 fuel 0 0 l1
noncomputable abbrev Fs3:=C0 f218
abbrev Gt3(r:List Int):=J none prog 41 [] (Do2 prog f218 [(2000,.buf 0 167 1 (r.map A6))] (.suf 2000 0 0))
theorem Ex4{fuel}{d0}{d1}{r}(hF:Ex3 fuel d0 d1=some r):
 M4 prog 218 [] [.l 1 d0 A6,.w d1] [(2000,.buf 0 167 1 (r.map A6))] (.suf 2000 0 0):=by
 unfold Ex3 at hF;refine cr 41 func218 ?_;obtain⟨l1,e1,hF⟩:=bnd hF;refine jo2 9 (mm' A6 e1) ?_;have hL1:∀nL1 v3 v4 l5,Ab1 d0 d1 nL1 v3 v4 l5=some r->Gt3 r ⟨mkT [(1,.w d1),(5,.suf 13 0 0),(6,.n v3),(14,.l 1 d0 A6),(15,.i ((d0.map A6).length:Int)),(16,.i v4)],[(13,.buf 0 167 1 (l5.map A6))],[kL Fs3 244,.inBlock 0,kC Fs3 31]⟩:=by
  clear hF;refine lpI (fun _ _ _ h=>by cases h) fun nL1 iL1 v3 v4 l5 hF=> ?_
  refine jI 6 17 hF ?_ ?_<;>intro hF
  .obtain⟨y3,e6,hF⟩:=bnd hF;refine jo1 6 (gm' A6 e6) ?_;obtain⟨l6,e7,hF⟩:=bnd hF;refine jo2 20 (am' A6 e7) ?_;exact ja 10 (iL1 _ _ _ hF)
  .obtain⟨l7,e8,hF⟩:=bnd hF;refine jo2 8 (am' A6 e8) ?_;refine ja 2 (S0:=[(4,.suf 13 0 0)]) (O0:=[(13,.buf 0 167 1 (l7.map A6))]) (T0:=[kC Fs3 63]) ?_;refine B5 0 (Ay1 [(13,2000)] (by kernel_rfl) (by kernel_rfl) (by kernel_rfl) (by kernel_rfl) ?_);have hF:=oi hF;subst hF;exact B5 0 (Bl4 (xs:=[.suf 2000 0 0]) [.suf 2000 0 0] rfl (by kernel_rfl) (by kernel_rfl) (R1.refl _) rfl)
 exact ja 15 (hL1 _ _ _ _ hF)
def Aj4(d0:List Int)(d1:Int):Nat->Int->Int->(List Int)->Option (List Int)
 |0,_,_,_=>none
 |nL1+1,v3,v4,l5=>
  bif decide (v4<((d0.map A6).length:Int)) then
   ((C2 d0 v4).bind fun y3=>
   (app l5 [u32.wrap (Int.tmod (u64.wrap ((u64.wrap ((u64.wrap y3)*(u64.wrap d1)))+v3)) 1000000000)]).bind fun l6=>
   (Aj4 d0 d1 nL1) (u64.wrap (Int.tdiv (u64.wrap ((u64.wrap ((u64.wrap y3)*(u64.wrap d1)))+v3)) 1000000000)) (i64.wrap (v4+1)) l6)
  else
   ((app l5 [u32.wrap v3]).bind fun l7=>
   some l7)
def Ea9(fuel:Nat)(d0:List Int)(d1:Int):Option (List Int):=
 (mkL 0 (i64.wrap (((d0.map A6).length:Int)+1)) 0).bind fun l1=>
 Aj4 d0 d1 fuel 0 0 l1
abbrev Gg2(r:List Int):=GJ prog 41 f218 (.l 1 r A6)
theorem Eb0{fuel}{d0}{d1}{r}(hF:Ea9 fuel d0 d1=some r):
 C1 prog 218 [.l 1 d0 A6,.w d1] (.l 1 r A6):=by
 refine cf 41 func218 ?_;obtain⟨l1,e1,hF⟩:=bnd hF;refine jo2 9 (mm' A6 e1) ?_;have hL1:∀nL1 v3 v4 l5,Aj4 d0 d1 nL1 v3 v4 l5=some r->Gg2 r ⟨mkT [(1,.w d1),(5,.suf 13 0 0),(6,.n v3),(14,.l 1 d0 A6),(15,.i ((d0.map A6).length:Int)),(16,.i v4)],[(13,.buf 0 167 1 (l5.map A6))],[kL Fs3 244,.inBlock 0,kC Fs3 31]⟩:=by
  clear hF;refine lpI (fun _ _ _ h=>by cases h) fun nL1 iL1 v3 v4 l5 hF=> ?_
  refine jI 6 17 hF ?_ ?_<;>intro hF
  .obtain⟨y3,e6,hF⟩:=bnd hF;refine jo1 6 (gm' A6 e6) ?_;obtain⟨l6,e7,hF⟩:=bnd hF;refine jo2 20 (am' A6 e7) ?_;exact ja 10 (iL1 _ _ _ hF)
  .obtain⟨l7,e8,hF⟩:=bnd hF;refine jo2 8 (am' A6 e8) ?_;cases hF;exact jr 2
 exact ja 15 (hL1 _ _ _ _ hF)
def Q2(d0:Nat)(d1:List Int)(d2:Int):Nat->Int->Int->Int->(List Int)->Option (Bool×List Int)
 |0,_,_,_,_=>none
 |nL1+1,v4,v5,v6,l10=>
  bif decide (v6<(i64.wrap (((d1.map A6).length:Int)+1))) then
   (bif decide (v6<((d1.map A6).length:Int)) then
    ((C2 d1 v6).bind fun y15=>
    (C2 (l10.drop d0) v6).bind fun y16=>
    bif decide ((i64.wrap ((i64.wrap ((i64.wrap y16)-(i64.wrap (Int.tmod (u64.wrap (v4+(u64.wrap (d2*(u64.wrap y15))))) 1000000000))))-v5))<0) then
     ((C2 (l10.drop d0) v6).bind fun y17=>
     (some (l10.set (d0+Int.toNat v6) (u32.wrap (i64.wrap ((i64.wrap ((i64.wrap ((i64.wrap y16)-(i64.wrap (Int.tmod (u64.wrap (v4+(u64.wrap (d2*(u64.wrap y15))))) 1000000000))))-v5))+1000000000))))).bind fun l11=>
     (Q2 d0 d1 d2 nL1) (u64.wrap (Int.tdiv (u64.wrap (v4+(u64.wrap (d2*(u64.wrap y15))))) 1000000000)) 1 (i64.wrap (v6+1)) l11)
    else
     ((C2 (l10.drop d0) v6).bind fun y18=>
     (some (l10.set (d0+Int.toNat v6) (u32.wrap (i64.wrap ((i64.wrap ((i64.wrap y16)-(i64.wrap (Int.tmod (u64.wrap (v4+(u64.wrap (d2*(u64.wrap y15))))) 1000000000))))-v5))))).bind fun l12=>
     (Q2 d0 d1 d2 nL1) (u64.wrap (Int.tdiv (u64.wrap (v4+(u64.wrap (d2*(u64.wrap y15))))) 1000000000)) 0 (i64.wrap (v6+1)) l12))
   else
    ((C2 (l10.drop d0) v6).bind fun y19=>
    bif decide ((i64.wrap ((i64.wrap ((i64.wrap y19)-(i64.wrap (Int.tmod v4 1000000000))))-v5))<0) then
     ((C2 (l10.drop d0) v6).bind fun y20=>
     (some (l10.set (d0+Int.toNat v6) (u32.wrap (i64.wrap ((i64.wrap ((i64.wrap ((i64.wrap y19)-(i64.wrap (Int.tmod v4 1000000000))))-v5))+1000000000))))).bind fun l13=>
     (Q2 d0 d1 d2 nL1) (u64.wrap (Int.tdiv v4 1000000000)) 1 (i64.wrap (v6+1)) l13)
    else
     ((C2 (l10.drop d0) v6).bind fun y21=>
     (some (l10.set (d0+Int.toNat v6) (u32.wrap (i64.wrap ((i64.wrap ((i64.wrap y19)-(i64.wrap (Int.tmod v4 1000000000))))-v5))))).bind fun l14=>
     (Q2 d0 d1 d2 nL1) (u64.wrap (Int.tdiv v4 1000000000)) 0 (i64.wrap (v6+1)) l14)))
  else
   (some (decide (v5>0),l10))
def Fj8(fuel:Nat)(d0:Nat)(d1:List Int)(d2:Int)(d3:List Int):Option (Bool×List Int):=
 Q2 d0 d1 d2 fuel 0 0 0 d3
noncomputable abbrev Go9:=C0 f219
abbrev Gt4(r:Bool×List Int):=J none prog 57 [] (Do2 prog f219 [(2000,.buf 0 167 1 (r.2.map A6))] (.b r.1))
theorem Ex5{fuel}{d0}{d1}{d2}{d3}{r}(hF:Fj8 fuel d0 d1 d2 d3=some r):
 M4 prog 219 [(2000,.buf 0 167 1 (d3.map A6))] [.suf 2000 0 d0,.l 1 d1 A6,.n d2] [(2000,.buf 0 167 1 (r.2.map A6))] (.b r.1):=by
 unfold Fj8 at hF;refine cr 57 func219 ?_;have hL1:∀nL1 v4 v5 v6 l10,Q2 d0 d1 d2 nL1 v4 v5 v6 l10=some r->Gt4 r ⟨mkT [(0,.suf 2000 0 d0),(1,.l 1 d1 A6),(2,.n d2),(7,.n v4),(8,.i v5),(14,.i (i64.wrap (((d1.map A6).length:Int)+1))),(15,.i v6)],[(2000,.buf 0 167 1 (l10.map A6))],[kL Go9 116,.inBlock 0,kC Go9 15]⟩:=by
  clear hF;refine lpI (fun _ _ _ _ h=>by cases h) fun nL1 iL1 v4 v5 v6 l10 hF=> ?_
  refine jI 6 16 hF ?_ ?_<;>intro hF
  .refine jI 22 22 hF ?_ ?_<;>intro hF
   .obtain⟨y15,e23,hF⟩:=bnd hF;refine jo1 6 (gm' A6 e23) ?_;obtain⟨y16,e24,hF⟩:=bnd hF;refine jo1 16 (gmd (f:=A6) e24) ?_;refine jo1 0 (gjm (f:=A6) (gjd e24)) ?_;refine jI 19 46 hF ?_ ?_<;>intro hF
    .obtain⟨y17,e25,hF⟩:=bnd hF;refine jo1 12 (gmd (f:=A6) e25) ?_;obtain⟨l11,e26,hF⟩:=bnd hF;have hst:=stm (f:=A6) (z:=u32.wrap (i64.wrap ((i64.wrap ((i64.wrap ((i64.wrap y16)-(i64.wrap (Int.tmod (u64.wrap (v4+(u64.wrap (d2*(u64.wrap y15))))) 1000000000))))-v5))+1000000000))) (k:=0) (xs:=[.int .u32 (u32.wrap (i64.wrap ((i64.wrap ((i64.wrap ((i64.wrap y16)-(i64.wrap (Int.tmod (u64.wrap (v4+(u64.wrap (d2*(u64.wrap y15))))) 1000000000))))-v5))+1000000000)))]) (gjd e25) rfl;refine B5 0 (G0 (o:=(match(l10.map A6)[d0+Int.toNat v6]? with|some old=>some ((l10.map A6).set (d0+Int.toNat v6) (Z1 old 0 [.int .u32 (u32.wrap (i64.wrap ((i64.wrap ((i64.wrap ((i64.wrap y16)-(i64.wrap (Int.tmod (u64.wrap (v4+(u64.wrap (d2*(u64.wrap y15))))) 1000000000))))-v5))+1000000000)))]))|none=>none)) (l11.map A6) (by kernel_rfl) (by cases e26;exact hst) ?_);exact ja 6 (iL1 _ _ _ _ hF)
    .obtain⟨y18,e27,hF⟩:=bnd hF;refine jo1 7 (gmd (f:=A6) e27) ?_;obtain⟨l12,e28,hF⟩:=bnd hF;have hst:=stm (f:=A6) (z:=u32.wrap (i64.wrap ((i64.wrap ((i64.wrap y16)-(i64.wrap (Int.tmod (u64.wrap (v4+(u64.wrap (d2*(u64.wrap y15))))) 1000000000))))-v5))) (k:=0) (xs:=[.int .u32 (u32.wrap (i64.wrap ((i64.wrap ((i64.wrap y16)-(i64.wrap (Int.tmod (u64.wrap (v4+(u64.wrap (d2*(u64.wrap y15))))) 1000000000))))-v5)))]) (gjd e27) rfl;refine B5 0 (G0 (o:=(match(l10.map A6)[d0+Int.toNat v6]? with|some old=>some ((l10.map A6).set (d0+Int.toNat v6) (Z1 old 0 [.int .u32 (u32.wrap (i64.wrap ((i64.wrap ((i64.wrap y16)-(i64.wrap (Int.tmod (u64.wrap (v4+(u64.wrap (d2*(u64.wrap y15))))) 1000000000))))-v5)))]))|none=>none)) (l12.map A6) (by kernel_rfl) (by cases e28;exact hst) ?_);exact ja 6 (iL1 _ _ _ _ hF)
   .obtain⟨y19,e29,hF⟩:=bnd hF;refine jo1 12 (gmd (f:=A6) e29) ?_;refine jo1 0 (gjm (f:=A6) (gjd e29)) ?_;refine jI 19 46 hF ?_ ?_<;>intro hF
    .obtain⟨y20,e30,hF⟩:=bnd hF;refine jo1 12 (gmd (f:=A6) e30) ?_;obtain⟨l13,e31,hF⟩:=bnd hF;have hst:=stm (f:=A6) (z:=u32.wrap (i64.wrap ((i64.wrap ((i64.wrap ((i64.wrap y19)-(i64.wrap (Int.tmod v4 1000000000))))-v5))+1000000000))) (k:=0) (xs:=[.int .u32 (u32.wrap (i64.wrap ((i64.wrap ((i64.wrap ((i64.wrap y19)-(i64.wrap (Int.tmod v4 1000000000))))-v5))+1000000000)))]) (gjd e30) rfl;refine B5 0 (G0 (o:=(match(l10.map A6)[d0+Int.toNat v6]? with|some old=>some ((l10.map A6).set (d0+Int.toNat v6) (Z1 old 0 [.int .u32 (u32.wrap (i64.wrap ((i64.wrap ((i64.wrap ((i64.wrap y19)-(i64.wrap (Int.tmod v4 1000000000))))-v5))+1000000000)))]))|none=>none)) (l13.map A6) (by kernel_rfl) (by cases e31;exact hst) ?_);exact ja 6 (iL1 _ _ _ _ hF)
    .obtain⟨y21,e32,hF⟩:=bnd hF;refine jo1 7 (gmd (f:=A6) e32) ?_;obtain⟨l14,e33,hF⟩:=bnd hF;have hst:=stm (f:=A6) (z:=u32.wrap (i64.wrap ((i64.wrap ((i64.wrap y19)-(i64.wrap (Int.tmod v4 1000000000))))-v5))) (k:=0) (xs:=[.int .u32 (u32.wrap (i64.wrap ((i64.wrap ((i64.wrap y19)-(i64.wrap (Int.tmod v4 1000000000))))-v5)))]) (gjd e32) rfl;refine B5 0 (G0 (o:=(match(l10.map A6)[d0+Int.toNat v6]? with|some old=>some ((l10.map A6).set (d0+Int.toNat v6) (Z1 old 0 [.int .u32 (u32.wrap (i64.wrap ((i64.wrap ((i64.wrap y19)-(i64.wrap (Int.tmod v4 1000000000))))-v5)))]))|none=>none)) (l14.map A6) (by kernel_rfl) (by cases e33;exact hst) ?_);exact ja 6 (iL1 _ _ _ _ hF)
  .cases hF;exact jrr 8
 exact ja 19 (hL1 _ _ _ _ _ hF)
def Ab2(d0:Nat)(d1:List Int):Nat->Int->Int->(List Int)->Option (List Int)
 |0,_,_,_=>none
 |nL1+1,v3,v4,l6=>
  bif decide (v4<(i64.wrap (((d1.map A6).length:Int)+1))) then
   ((C2 (l6.drop d0) v4).bind fun y9=>
   bif decide (v4<((d1.map A6).length:Int)) then
    ((C2 d1 v4).bind fun y10=>
    (C2 (l6.drop d0) v4).bind fun y11=>
    (some (l6.set (d0+Int.toNat v4) (Int.tmod (u32.wrap ((u32.wrap (y9+v3))+y10)) 1000000000))).bind fun l7=>
    (Ab2 d0 d1 nL1) (u32.wrap (Int.tdiv (u32.wrap ((u32.wrap (y9+v3))+y10)) 1000000000)) (i64.wrap (v4+1)) l7)
   else
    ((C2 (l6.drop d0) v4).bind fun y12=>
    (some (l6.set (d0+Int.toNat v4) (Int.tmod (u32.wrap (y9+v3)) 1000000000))).bind fun l8=>
    (Ab2 d0 d1 nL1) (u32.wrap (Int.tdiv (u32.wrap (y9+v3)) 1000000000)) (i64.wrap (v4+1)) l8))
  else
   (some l6)
def Fn5(fuel:Nat)(d0:Nat)(d1:List Int)(d2:List Int):Option (List Int):=
 Ab2 d0 d1 fuel 0 0 d2
noncomputable abbrev Gu8:=C0 f220
abbrev Gt5(r:List Int):=J none prog 37 [] (Do2 prog f220 [(2000,.buf 0 167 1 (r.map A6))] (.tup []))
theorem Ex6{fuel}{d0}{d1}{d2}{r}(hF:Fn5 fuel d0 d1 d2=some r):
 M4 prog 220 [(2000,.buf 0 167 1 (d2.map A6))] [.suf 2000 0 d0,.l 1 d1 A6] [(2000,.buf 0 167 1 (r.map A6))] (.tup []):=by
 unfold Fn5 at hF;refine cr 37 func220 ?_;have hL1:∀nL1 v3 v4 l6,Ab2 d0 d1 nL1 v3 v4 l6=some r->Gt5 r ⟨mkT [(0,.suf 2000 0 d0),(1,.l 1 d1 A6),(4,.w v3),(9,.i (i64.wrap (((d1.map A6).length:Int)+1))),(10,.i v4)],[(2000,.buf 0 167 1 (l6.map A6))],[kL Gu8 28,.inBlock 0]⟩:=by
  clear hF;refine lpI (fun _ _ _ h=>by cases h) fun nL1 iL1 v3 v4 l6 hF=> ?_
  refine jI 6 11 hF ?_ ?_<;>intro hF
  .obtain⟨y9,e13,hF⟩:=bnd hF;refine jo1 13 (gmd (f:=A6) e13) ?_;refine jo1 0 (gjm (f:=A6) (gjd e13)) ?_;refine jI 12 22 hF ?_ ?_<;>intro hF
   .obtain⟨y10,e14,hF⟩:=bnd hF;refine jo1 5 (gm' A6 e14) ?_;obtain⟨y11,e15,hF⟩:=bnd hF;refine jo1 11 (gmd (f:=A6) e15) ?_;obtain⟨l7,e16,hF⟩:=bnd hF;have hst:=stm (f:=A6) (z:=Int.tmod (u32.wrap ((u32.wrap (y9+v3))+y10)) 1000000000) (k:=0) (xs:=[.int .u32 (Int.tmod (u32.wrap ((u32.wrap (y9+v3))+y10)) 1000000000)]) (gjd e15) rfl;refine B5 0 (G0 (o:=(match(l6.map A6)[d0+Int.toNat v4]? with|some old=>some ((l6.map A6).set (d0+Int.toNat v4) (Z1 old 0 [.int .u32 (Int.tmod (u32.wrap ((u32.wrap (y9+v3))+y10)) 1000000000)]))|none=>none)) (l7.map A6) (by kernel_rfl) (by cases e16;exact hst) ?_);exact ja 7 (iL1 _ _ _ hF)
   .obtain⟨y12,e17,hF⟩:=bnd hF;refine jo1 9 (gmd (f:=A6) e17) ?_;obtain⟨l8,e18,hF⟩:=bnd hF;have hst:=stm (f:=A6) (z:=Int.tmod (u32.wrap (y9+v3)) 1000000000) (k:=0) (xs:=[.int .u32 (Int.tmod (u32.wrap (y9+v3)) 1000000000)]) (gjd e17) rfl;refine B5 0 (G0 (o:=(match(l6.map A6)[d0+Int.toNat v4]? with|some old=>some ((l6.map A6).set (d0+Int.toNat v4) (Z1 old 0 [.int .u32 (Int.tmod (u32.wrap (y9+v3)) 1000000000)]))|none=>none)) (l8.map A6) (by kernel_rfl) (by cases e18;exact hst) ?_);exact ja 7 (iL1 _ _ _ hF)
  .cases hF;exact jrr 2
 exact ja 13 (hL1 _ _ _ _ hF)
def Ax2(d0:Bool):Nat->(List Int)->Option A5
 |0,_=>none
 |nL1+1,l4=>
  (
   bif decide (((l4.map A6).length:Int)>0) then
    ((C2 l4 (i64.wrap (((l4.map A6).length:Int)-1))).bind fun y9=>
    some (y9==0))
   else
    (some false)).bind fun o3=>
  bif o3 then
   ((slc l4 0 (i64.wrap (((l4.map A6).length:Int)-1))).bind fun l5=>
   (Ax2 d0 nL1) l5)
  else
   ((
    bif d0 then
     (some (decide (((l4.map A6).length:Int)>0)))
    else
     (some false)).bind fun o4=>
   some (⟨o4,l4⟩:A5))
def Be1(fuel:Nat)(d0:Bool)(d1:List Int):Option A5:=
 Ax2 d0 fuel d1
noncomputable abbrev Ec0:=C0 f140
abbrev Gf8(r:A5):=GJ prog 30 f140 (.agg [.b r.neg,.l 1 r.mag A6])
theorem Q1{fuel}{d0}{d1}{r}(hF:Be1 fuel d0 d1=some r):
 C1 prog 140 [.b d0,.l 1 d1 A6] (.agg [.b r.neg,.l 1 r.mag A6]):=by
 unfold Be1 at hF;refine cf 30 func140 ?_;have hL1:∀nL1 l4,Ax2 d0 nL1 l4=some r->Gf8 r ⟨mkT [(0,.b d0),(1,.l 1 l4 A6),(4,.ptr 4 0)],[(4,.box 98 [.b false,.esl 1])],[kL Ec0 24,.inBlock 0,kC Ec0 7]⟩:=by
  clear hF;refine lpI (fun _ h=>by cases h) fun nL1 iL1 l4 hF=> ?_
  obtain⟨o3,hO,hF⟩:=bnd hF;have hR3:Gf8 r ⟨mkT [(0,.b d0),(1,.l 1 l4 A6),(4,.ptr 4 0),(16,.b o3)],[(4,.box 98 [.b false,.esl 1])],[kO Ec0 96,kC Ec0 97,kC Ec0 49,kL Ec0 24,.inBlock 0,kC Ec0 7]⟩:=by
   clear hO;refine jI 1 16 hF ?_ ?_<;>intro hF
   .obtain⟨l5,e11,hF⟩:=bnd hF;refine jo2 8 (sm' A6 e11) ?_;exact ja 3 (iL1 _ hF)
   .obtain⟨o4,hO,hF⟩:=bnd hF;have hR4:Gf8 r ⟨mkT [(4,.ptr 4 0)],[(4,.box 98 [.b o4,.l 1 l4 A6])],[kO Ec0 14,kC Ec0 15]⟩:=by
     clear hO;cases hF;exact jr 1
    clear hF;rename _=some o4=>hF
    refine jI 6 23 hF ?_ ?_<;>intro hF
    .cases hF;exact ja 7 hR4
    .cases hF;exact ja 7 hR4
  clear hF;rename _=some o3=>hF
  refine jI 8 8 hF ?_ ?_<;>intro hF
  .obtain⟨y9,e12,hF⟩:=bnd hF;refine jo1 4 (gm' A6 e12) ?_;cases hF;exact ja 3 hR3
  .cases hF;exact ja 8 hR3
 exact ja 7 (hL1 _ _ hF)
def Ax6(fuel:Nat)(l1:List Int)(l9:List Int)(l10:List Int)(v6:Int)(y93:Int)(y94:Int)(cL1:Int->(List Int)->(List Int)->Option (List Int×List Int)):Nat->Int->Option (List Int×List Int)
 |0,_=>none
 |nL2+1,v8=>
  (
   (C2 l1 (i64.wrap (((l1.map A6).length:Int)-2))).bind fun y132=>
   (C2 l1 (i64.wrap (((l1.map A6).length:Int)-1))).bind fun y133=>
   (C2 l10 (i64.wrap ((i64.wrap (v6+((l1.map A6).length:Int)))-2))).bind fun y134=>
   bif decide ((u64.wrap (v8*(u64.wrap y132)))>(u64.wrap ((u64.wrap ((u64.wrap ((u64.wrap ((u64.wrap ((u64.wrap y93)*1000000000))+(u64.wrap y94)))-(u64.wrap (v8*(u64.wrap y133)))))*1000000000))+(u64.wrap y134)))) then
    ((C2 l1 (i64.wrap (((l1.map A6).length:Int)-1))).bind fun y135=>
    some (decide ((u64.wrap ((u64.wrap ((u64.wrap ((u64.wrap y93)*1000000000))+(u64.wrap y94)))-(u64.wrap (v8*(u64.wrap y135)))))<1000000000)))
   else
    (some false)).bind fun o9=>
  bif o9 then
   ((Ax6 fuel l1 l9 l10 v6 y93 y94 cL1 nL2) (u64.wrap (v8-1)))
  else
   (ass (decide ((0:Int)<=v6)&&decide (v6<=(((l10.map A6).drop 0).length:Int)))<|
   (Fj8 fuel (0+Int.toNat v6) l1 v8 l10).bind fun y128=>
   bif y128.1 then
    (ass (decide ((0:Int)<=v6)&&decide (v6<=(((y128.2.map A6).drop 0).length:Int)))<|
    (Fn5 fuel (0+Int.toNat v6) l1 y128.2).bind fun y129=>
    (C2 l9 v6).bind fun y130=>
    (some (l9.set (0+Int.toNat v6) (u32.wrap (u64.wrap (v8-1))))).bind fun l11=>
    cL1 (i64.wrap (v6-1)) l11 y129)
   else
    ((C2 l9 v6).bind fun y131=>
    (some (l9.set (0+Int.toNat v6) (u32.wrap v8))).bind fun l12=>
    cL1 (i64.wrap (v6-1)) l12 y128.2))
def Aa7(fuel:Nat)(l1:List Int)(y4:Int):Nat->Int->(List Int)->(List Int)->Option (List Int×List Int)
 |0,_,_,_=>none
 |nL1+1,v6,l9,l10=>
  bif decide (v6>=0) then
   ((C2 l10 (i64.wrap (v6+((l1.map A6).length:Int)))).bind fun y93=>
   (C2 l10 (i64.wrap ((i64.wrap (v6+((l1.map A6).length:Int)))-1))).bind fun y94=>
   (C2 l1 (i64.wrap (((l1.map A6).length:Int)-1))).bind fun y95=>
   ass (decide ((u64.wrap y95)≠0))<|
   Ax6 fuel l1 l9 l10 v6 y93 y94 (Aa7 fuel l1 y4 nL1) fuel (bif decide (999999999<(u64.wrap (Int.tdiv (u64.wrap ((u64.wrap ((u64.wrap y93)*1000000000))+(u64.wrap y94))) (u64.wrap y95)))) then 999999999 else(u64.wrap (Int.tdiv (u64.wrap ((u64.wrap ((u64.wrap y93)*1000000000))+(u64.wrap y94))) (u64.wrap y95)))))
  else
   ((slc l10 0 ((l1.map A6).length:Int)).bind fun l13=>
   (Be1 fuel false l13).bind fun y136=>
   (Fj7 fuel y136.mag (u32.wrap (u64.wrap (Int.tdiv 1000000000 (u64.wrap ((u64.wrap y4)+1)))))).bind fun y137=>
   some (l9,y137.1))
def Ew0(fuel:Nat)(d0:List Int)(d1:List Int):Option (List Int×List Int):=
 (Dz1 fuel d0 d1).bind fun y1=>
 bif decide (y1<0) then
  (some ([],d0))
 else
  (bif ((d1.map A6).length:Int)==1 then
   ((C2 d1 0).bind fun y2=>
   (Fj7 fuel d0 y2).bind fun y3=>
   some (y3.1,[y3.2]))
  else
   ((C2 d1 (i64.wrap (((d1.map A6).length:Int)-1))).bind fun y4=>
   ass (decide ((u64.wrap ((u64.wrap y4)+1))≠0))<|
   (Ex3 fuel d0 (u32.wrap (u64.wrap (Int.tdiv 1000000000 (u64.wrap ((u64.wrap y4)+1)))))).bind fun y5=>
   (Ea9 fuel d1 (u32.wrap (u64.wrap (Int.tdiv 1000000000 (u64.wrap ((u64.wrap y4)+1)))))).bind fun y6=>
   (slc y6 0 ((d1.map A6).length:Int)).bind fun l1=>
   (mkL (i64.wrap (((y5.map A6).length:Int)-((l1.map A6).length:Int))) (i64.wrap (((y5.map A6).length:Int)-((l1.map A6).length:Int))) 0).bind fun l2=>
   Aa7 fuel l1 y4 fuel (i64.wrap ((i64.wrap (((y5.map A6).length:Int)-((l1.map A6).length:Int)))-1)) l2 y5))
noncomputable abbrev Cn9:=C0 f178
abbrev Gg1(r:List Int×List Int):=GJ prog 172 f178 (.tup [.l 1 r.1 A6,.l 1 r.2 A6])
theorem Cd6{fuel}{d0}{d1}{r}(hF:Ew0 fuel d0 d1=some r):
 C1 prog 178 [.l 1 d0 A6,.l 1 d1 A6] (.tup [.l 1 r.1 A6,.l 1 r.2 A6]):=by
 refine cf 172 func178 ?_;refine jB 10 hF Bk5 fun y1 hF=> ?_
 refine jI 2 21 hF ?_ ?_<;>intro hF
 .cases hF;exact jr 7
 .refine jI 9 25 hF ?_ ?_<;>intro hF
  .obtain⟨y2,e2,hF⟩:=bnd hF;refine jo1 5 (gm' A6 e2) ?_;refine jB 1 hF Df3 fun y3 hF=> ?_
   cases hF;exact jr 14
  .obtain⟨y4,e4,hF⟩:=bnd hF;refine jo1 8 (gm' A6 e4) ?_;obtain⟨hb3,hF⟩:=O1 hF;refine jo1 3 (ck hb3) ?_;refine jd 4 ?_;obtain⟨y5,e5,hF⟩:=bnd hF;refine dcr 2 [(49,2000)] (Ex4 e5) ?_;refine dB 2 hF Eb0 fun y6 hF=> ?_
   obtain⟨l1,e7,hF⟩:=bnd hF;refine do2 2 (sm' A6 e7) ?_;refine je 2 ?_;obtain⟨l2,e8,hF⟩:=bnd hF;refine jo2 12 (mm' A6 e8) ?_;have hL1:∀nL1 v6 l9 l10,Aa7 fuel l1 y4 nL1 v6 l9 l10=some r->Gg1 r ⟨mkT [(8,.w (u32.wrap (u64.wrap (Int.tdiv 1000000000 (u64.wrap ((u64.wrap y4)+1)))))),(9,.suf 49 0 0),(10,.l 1 l1 A6),(11,.i ((l1.map A6).length:Int)),(12,.suf 62 0 0),(13,.i v6)],[(49,.buf 0 167 1 (l10.map A6)),(62,.buf 0 167 1 (l9.map A6))],[kL Cn9 4084,.inBlock 0,kC Cn9 511]⟩:=by
    clear hF;refine lpI (fun _ _ _ h=>by cases h) fun nL1 iL1 v6 l9 l10 hF=> ?_
    refine jI 7 69 hF ?_ ?_<;>intro hF
    .refine jd 5 ?_;obtain⟨y93,e99,hF⟩:=bnd hF;refine do1 4 (gm' A6 e99) ?_;refine do1 0 (gjm (f:=A6) (gj e99)) ?_;obtain⟨y94,e100,hF⟩:=bnd hF;refine do1 7 (gm' A6 e100) ?_;refine do1 0 (gjm (f:=A6) (gj e100)) ?_;refine je 3 ?_;obtain⟨y95,e101,hF⟩:=bnd hF;refine jo1 6 (gm' A6 e101) ?_;obtain⟨hb39,hF⟩:=O1 hF;refine jo1 2 (ck hb39) ?_;have hL2:∀nL2 v8,Ax6 fuel l1 l9 l10 v6 y93 y94 (Aa7 fuel l1 y4 nL1) nL2 v8=some r->Gg1 r ⟨mkT [(8,.w (u32.wrap (u64.wrap (Int.tdiv 1000000000 (u64.wrap ((u64.wrap y4)+1)))))),(9,.suf 49 0 0),(10,.l 1 l1 A6),(11,.i ((l1.map A6).length:Int)),(12,.suf 62 0 0),(13,.i v6),(14,.n (u64.wrap ((u64.wrap ((u64.wrap y93)*1000000000))+(u64.wrap y94)))),(15,.n v8)],[(49,.buf 0 167 1 (l10.map A6)),(62,.buf 0 167 1 (l9.map A6))],[kL Cn9 1045656,.inBlock 2,kC Cn9 261415,.inBlock 1,kC Cn9 16339,kL Cn9 4084,.inBlock 0,kC Cn9 511]⟩:=by
      clear hF;refine lpI (fun _ h=>by cases h) fun nL2 iL2 v8 hF=> ?_
      obtain⟨o9,hO,hF⟩:=bnd hF;have hR9:Gg1 r ⟨mkT [(8,.w (u32.wrap (u64.wrap (Int.tdiv 1000000000 (u64.wrap ((u64.wrap y4)+1)))))),(9,.suf 49 0 0),(10,.l 1 l1 A6),(11,.i ((l1.map A6).length:Int)),(12,.suf 62 0 0),(13,.i v6),(14,.n (u64.wrap ((u64.wrap ((u64.wrap y93)*1000000000))+(u64.wrap y94)))),(15,.n v8),(139,.b o9)],[(49,.buf 0 167 1 (l10.map A6)),(62,.buf 0 167 1 (l9.map A6))],[kC Cn9 4182625,kC Cn9 2091313,kL Cn9 1045656,.inBlock 2,kC Cn9 261415,.inBlock 1,kC Cn9 16339,kL Cn9 4084,.inBlock 0,kC Cn9 511]⟩:=by
       clear hO;refine jI 0 139 hF ?_ ?_<;>intro hF
       .exact ja 9 (iL2 _ hF)
       .obtain⟨hb51,hF⟩:=O1 hF;refine jo1 7 (ck hb51) ?_;obtain⟨y128,e134,hF⟩:=bnd hF;refine jcr 2 [(49,2000)] (Ex5 e134) ?_;refine jI 1 147 hF ?_ ?_<;>intro hF
        .obtain⟨hb53,hF⟩:=O1 hF;refine jo1 10 (ck hb53) ?_;obtain⟨y129,e135,hF⟩:=bnd hF;refine jcr 1 [(49,2000)] (Ex6 e135) ?_;obtain⟨y130,e136,hF⟩:=bnd hF;refine jo1 6 (gm' A6 e136) ?_;obtain⟨l11,e137,hF⟩:=bnd hF;have hst:=stm (f:=A6) (z:=u32.wrap (u64.wrap (v8-1))) (k:=0) (xs:=[.int .u32 (u32.wrap (u64.wrap (v8-1)))]) (gj e136) rfl;refine B5 0 (G0 (o:=(match(l9.map A6)[0+Int.toNat v6]? with|some old=>some ((l9.map A6).set (0+Int.toNat v6) (Z1 old 0 [.int .u32 (u32.wrap (u64.wrap (v8-1)))]))|none=>none)) (l11.map A6) (by kernel_rfl) (by cases e137;exact hst) ?_);exact ja 7 (iL1 _ _ _ hF)
        .obtain⟨y131,e138,hF⟩:=bnd hF;refine jo1 7 (gm' A6 e138) ?_;obtain⟨l12,e139,hF⟩:=bnd hF;have hst:=stm (f:=A6) (z:=u32.wrap v8) (k:=0) (xs:=[.int .u32 (u32.wrap v8)]) (gj e138) rfl;refine B5 0 (G0 (o:=(match(l9.map A6)[0+Int.toNat v6]? with|some old=>some ((l9.map A6).set (0+Int.toNat v6) (Z1 old 0 [.int .u32 (u32.wrap v8)]))|none=>none)) (l12.map A6) (by kernel_rfl) (by cases e139;exact hst) ?_);exact ja 7 (iL1 _ _ _ hF)
      clear hF;rename _=some o9=>hF
      refine jd 3 ?_;obtain⟨y132,e140,hF⟩:=bnd hF;refine do1 4 (gm' A6 e140) ?_;obtain⟨y133,e141,hF⟩:=bnd hF;refine do1 8 (gm' A6 e141) ?_;obtain⟨y134,e142,hF⟩:=bnd hF;refine do1 10 (gm' A6 e142) ?_;refine do1 0 (gjm (f:=A6) (gj e142)) ?_;refine dI 4 127 hF ?_ ?_<;>intro hF
      .obtain⟨y135,e143,hF⟩:=bnd hF;refine do1 5 (gm' A6 e143) ?_;refine je 6 ?_;cases hF;exact ja 0 hR9
      .refine je 12 ?_;cases hF;exact ja 0 hR9
     exact ja 6 (hL2 _ _ hF)
    .refine B5 3 (Dh7 9 (by kernel_rfl) (by kernel_rfl) ?_);obtain⟨l13,e144,hF⟩:=bnd hF;refine jo2 3 (sm' A6 e144) ?_;refine jB 0 hF Q1 fun y136 hF=> ?_
     refine jB 2 hF Df3 fun y137 hF=> ?_
     cases hF;exact jr 13
   exact ja 14 (hL1 _ _ _ _ hF)
def Aa8:List (Int×Int)->Int->Option Int
 |[],v2=>
  some v2
 |y4::ys_F179_L1,v2=>
  (Aa8 ys_F179_L1) (u64.wrap ((u64.wrap (v2*1000000000))+(u64.wrap y4.2)))
def Fj5(fuel:Nat)(d0:List Int):Option Int:=
 (Fj9 d0).bind fun y1=>
 (Fk0 fuel y1).bind fun ys1=>
 Aa8 ys1 0
noncomputable abbrev Db8:=C0 f179
theorem De5{fuel}{d0}{r}(hF:Fj5 fuel d0=some r):
 C1 prog 179 [.l 1 d0 A6] (.n r):=by
 unfold Fj5 at hF;refine Co3 (N:=16) (b:=C0 f179) func179 (by kernel_rfl) rfl rfl (fun w00_ M00_=> ?_);obtain⟨y1,e1,hF⟩:=bnd hF;refine jcr 13 [(7,2000)] (Df4 e1) ?_;refine ja 2 (S0:=[(3,.ptr 3 0),(7,.fn 254 [] [.ptr 7 0])]) (O0:=[(3,.box 39 [.n 0]),(7,.box 96 [.l 1 y1 A6])]) (T0:=[kC Db8 58,.inBlock 0,kC Db8 15]) ?_;refine Ay1 [(7,7),(3,2100)] (by kernel_rfl) (by kernel_rfl) (by kernel_rfl) (by kernel_rfl) ?_;refine Dh6 (S0:=[(3,.ptr 2100 0),(7,.fn 254 [] [.ptr 7 0])]) (O0:=[(7,.box 96 [.l 1 y1 A6]),(2100,.box 39 [.n 0])]) (T0:=[kC Db8 58,.inBlock 0,kC Db8 15]) [3,7] [7,2100] (by kernel_rfl) rfl ?_;obtain⟨ys1,e2,hF⟩:=bnd hF;obtain⟨G_,hG_⟩:∃G:List (List Kx.V)->List (Nat×B9)->Prop,G=(fun yv ob=>∃(yl_:List (Int×Int)) (v2:Int),yv=yl_.map T6/\ob=[(2100,.box 39 [.n v2])]/\Aa8 yl_ v2=some r):=⟨_,rfl⟩
 obtain⟨GX_,hGX_⟩:∃G:Code->List (Nat×B9)->Prop,G=(fun j ob=>False):=⟨_,rfl⟩
 refine Ay0 (P:=prog) (g:=(.tmp 7)) (ps:= #[8,9]) (asg:=(cAt Db8 [1,1,0,1,0,0])) (bo:=(cAt Db8 [1,1,0,1,0,1])) (k:=[.inBlock 0,kC Db8 15]) (gf:=254) (first:=[]) (cap:=[.ptr 7 0]) (xs:=[.rp [.sl 1 (y1.map A6)] 0]) (os:=[]) (S1:=[(3,.ptr 2100 0)]) (ob0:=[(2100,.box 39 [.n 0])]) [] [3] [2100] [.rp [.sl 1 (y1.map A6)] 0] (ysAll:=ys1.map T6) [2100] G_ GX_ rfl (by kernel_rfl) rfl (by kernel_rfl) rfl (by kernel_rfl) (R1.refl _) Ft7 (Df8 e2) (by kernel_rfl) (by kernel_rfl) (by kernel_rfl) ?_ ?_ ?_ ⟨by kernel_rfl,by kernel_rfl⟩ ?_ ?_ ?_
 .rw[hG_];exact⟨ys1,0,rfl,by kernel_rfl,hF⟩
 .intro yv_ ob_ h_;rw[hG_]at h_;obtain⟨_,_,_,rfl,_⟩:=h_;kernel_rfl
 .intro j_ ob_ h_;rw[hGX_]at h_;exact h_.elim
 .intro x_ hxa_ hxb_ hxp_ yv_ ysv_ ob_ h_;rw[hG_]at h_;obtain⟨yl_,v2,hy_,rfl,hF⟩:=h_;cases yl_ with
  |nil=>cases hy_
  |cons y4 ys_F179_L1=>
   cases hy_;rw[Aa8]at hF;refine Dp1 (by kernel_rfl) ?_;refine Dh6 (S0:=[(3,.ptr 2100 0),(8,.i y4.1),(9,.w y4.2)]) (O0:=[(3000,.raw x_.D (.deferred (some []))),(3001,.raw x_.L (.loop (G2 x_ .ready none))),(2100,.box 39 [.n v2])]) (T0:=[kC Db8 116,.begR x_.L,kC Db8 117]) [3,8,9] [3000,3001,2100] (by kernel_rfl) rfl ?_;refine ja 3 (S0:=[(3,.ptr 2100 0),(5,.w y4.2),(8,.i y4.1),(9,.w y4.2)]) (O0:=[(3000,.raw x_.D (.deferred (some []))),(3001,.raw x_.L (.loop (G2 x_ .ready none))),(2100,.box 39 [.n v2])]) (T0:=[.begR x_.L,kC Db8 117]) ?_;refine Bs9 (l:=x_.L) (q:=3001) (k:=[kC Db8 117]) (rec:=G2 x_ .ready none) rfl rfl rfl ?_;refine ja 10 (S0:=[]) (O0:=rob x_ .busy none [(2100,.box 39 [.n (u64.wrap ((u64.wrap (v2*1000000000))+(u64.wrap y4.2)))])]) (T0:=[]) ?_;exact Bt0 rfl [(2100,.box 39 [.n (u64.wrap ((u64.wrap (v2*1000000000))+(u64.wrap y4.2)))])] rfl rfl (by kernel_rfl) (by rw[hG_];exact⟨ys_F179_L1,u64.wrap ((u64.wrap (v2*1000000000))+(u64.wrap y4.2)),rfl,rfl,hF⟩)
 .intro D_ ob_ h_;rw[hG_]at h_;obtain⟨yl_,v2,hy_,rfl,hF⟩:=h_;cases yl_ with
  |cons _ _=>cases hy_
  |nil=>
   clear hy_;rw[Aa8]at hF;refine El9 [(2100,3)] (by kernel_rfl) (by kernel_rfl) (by kernel_rfl) ?_;refine ja 0 (S0:=[(3,.ptr 3 0)]) (O0:=[(3,.box 39 [.n v2])]) (T0:=[.inBlock 0,kC Db8 15]) ?_;have hF:=oi hF;subst hF;exact B5 6 (Em0 (xs:=[.n v2]) [.n v2] rfl rfl (by kernel_rfl) (R1.refl _) rfl (by kernel_rfl))
 .intro D_ ob_ j_ h_;rw[hGX_]at h_;exact h_.elim
def Ah0:Nat->Int->(List Int)->Option A5
 |0,_,_=>none
 |nL3+1,v6,l8=>
  bif decide (v6>0) then
   ((app l8 [u32.wrap (Int.tmod v6 1000000000)]).bind fun l9=>
   (Ah0 nL3) (u64.wrap (Int.tdiv v6 1000000000)) l9)
  else
   (some (⟨false,l8⟩:A5))
def Ax1(fuel:Nat):Nat->Int->Int->Option A5
 |0,_,_=>none
 |nL2+1,v3,v4=>
  bif decide (v4>0) then
   (ass (decide (v4≠0))<|
   (Ax1 fuel nL2) v4 (Int.tmod v3 v4))
  else
   (Ah0 fuel v3 [])
def Ao8(fuel:Nat):Nat->(List Int)->(List Int)->Option A5
 |0,_,_=>none
 |nL1+1,l3,l4=>
  bif decide (((l4.map A6).length:Int)>2) then
   ((Ew0 fuel l3 l4).bind fun y5=>
   (Be1 fuel false y5.2).bind fun y6=>
   (Ao8 fuel nL1) l4 y6.mag)
  else
   (bif ((l4.map A6).length:Int)==0 then
    ((Be1 fuel false l3).bind fun y7=>
    some y7)
   else
    ((Ew0 fuel l3 l4).bind fun y8=>
    (Fj5 fuel l4).bind fun y9=>
    (Be1 fuel false y8.2).bind fun y10=>
    (Fj5 fuel y10.mag).bind fun y11=>
    Ax1 fuel fuel y9 y11))
def Eu5(fuel:Nat)(d0:A5)(d1:A5):Option A5:=
 Ao8 fuel fuel d0.mag d1.mag
noncomputable abbrev Fk7:=C0 f135
abbrev Gf7(r:A5):=GJ prog 68 f135 (.agg [.b r.neg,.l 1 r.mag A6])
theorem Cd1{fuel}{d0}{d1}{r}(hF:Eu5 fuel d0 d1=some r):
 C1 prog 135 [.agg [.b d0.neg,.l 1 d0.mag A6],.agg [.b d1.neg,.l 1 d1.mag A6]] (.agg [.b r.neg,.l 1 r.mag A6]):=by
 unfold Eu5 at hF;refine cf 68 func135 ?_;refine jd 7 ?_;refine je 6 ?_;have hL1:∀nL1 l3 l4,Ao8 fuel nL1 l3 l4=some r->Gf7 r ⟨mkT [(4,.ptr 4 0),(5,.l 1 l3 A6),(6,.l 1 l4 A6)],[(4,.box 98 [.b false,.esl 1])],[kL Fk7 56,.inBlock 0,kC Fk7 15]⟩:=by
  clear hF;refine lpI (fun _ _ h=>by cases h) fun nL1 iL1 l3 l4 hF=> ?_
  refine jI 8 20 hF ?_ ?_<;>intro hF
  .refine jB 7 hF Cd6 fun y5 hF=> ?_
   refine jB 9 hF Q1 fun y6 hF=> ?_
   exact ja 5 (iL1 _ _ hF)
  .refine jI 9 33 hF ?_ ?_<;>intro hF
   .refine jB 4 hF Q1 fun y7 hF=> ?_
    cases hF;exact jr 2
   .refine jB 6 hF Cd6 fun y8 hF=> ?_
    refine jB 9 hF De5 fun y9 hF=> ?_
    refine jB 1 hF Q1 fun y10 hF=> ?_
    refine jB 1 hF De5 fun y11 hF=> ?_
    have hL2:∀nL2 v3 v4,Ax1 fuel nL2 v3 v4=some r->Gf7 r ⟨mkT [(4,.ptr 4 0),(11,.n v3),(12,.n v4)],[(4,.box 98 [.b false,.esl 1])],[kL Fk7 1016,.inBlock 2,kC Fk7 255]⟩:=by
     clear hF;refine lpI (fun _ _ h=>by cases h) fun nL2 iL2 v3 v4 hF=> ?_
     refine jI 7 49 hF ?_ ?_<;>intro hF
     .refine jd 3 ?_;obtain⟨hb10,hF⟩:=O1 hF;refine do1 3 (ck hb10) ?_;refine je 2 ?_;exact ja 1 (iL2 _ _ hF)
     .have hL3:∀nL3 v6 l8,Ah0 nL3 v6 l8=some r->Gf7 r ⟨mkT [(4,.ptr 4 0),(11,.n v6),(13,.ptr 13 0)],[(4,.box 98 [.b false,.esl 1]),(13,.box 98 [.b false,.suf 65 0 0]),(65,.buf 0 167 1 (l8.map A6))],[kL Fk7 4088,.inBlock 4,kC Fk7 1023]⟩:=by
       clear hF;refine lpI (fun _ _ h=>by cases h) fun nL3 iL3 v6 l8 hF=> ?_
       refine jI 7 56 hF ?_ ?_<;>intro hF
       .obtain⟨l9,e14,hF⟩:=bnd hF;refine jo2 11 (am' A6 e14) ?_;exact ja 9 (iL3 _ _ hF)
       .cases hF;exact jr 7
      refine B5 11 (Bh6 (n:=1) 13 1 65 167 1 (by kernel_rfl) (by kernel_rfl) ?_);exact ja 0 (hL3 _ _ _ hF)
    exact ja 6 (hL2 _ _ _ hF)
 exact ja 3 (hL1 _ _ _ hF)
def Ge4(fuel:Nat)(d0:A5):Option A5:=
 (Be1 fuel (!d0.neg) d0.mag).bind fun y1=>
 some y1
theorem Dd6{fuel}{d0}{r}(hF:Ge4 fuel d0=some r):
 C1 prog 143 [.agg [.b d0.neg,.l 1 d0.mag A6]] (.agg [.b r.neg,.l 1 r.mag A6]):=by
 refine cf 9 func143 ?_;refine jB 12 hF Q1 fun y1 hF=> ?_
 cases hF;exact jr 2
def Et3(d0:A5):Option Int:=
 bif ((d0.mag.map A6).length:Int)==0 then
  (some 0)
 else
  (bif d0.neg then
   (some (-1))
  else
   (some 1))
theorem Bk0{d0}{r}(hF:Et3 d0=some r):
 C1 prog 100 [.agg [.b d0.neg,.l 1 d0.mag A6]] (.i r):=by
 refine cf 11 func100 ?_;refine jI 15 3 hF ?_ ?_<;>intro hF
 .cases hF;exact jr 5
 .refine jI 7 8 hF ?_ ?_<;>intro hF
  .cases hF;exact jr 5
  .cases hF;exact jr 7
def Ap0(d0:List Int)(d1:List Int):Nat->Int->Int->(List Int)->Option (List Int)
 |0,_,_,_=>none
 |nL1+1,v3,v4,l7=>
  bif decide (v4<((d1.map A6).length:Int)) then
   ((C2 d1 v4).bind fun y5=>
   bif decide (v4<((d0.map A6).length:Int)) then
    ((C2 d0 v4).bind fun y6=>
    (app l7 [Int.tmod (u32.wrap ((u32.wrap (y5+v3))+y6)) 1000000000]).bind fun l8=>
    (Ap0 d0 d1 nL1) (u32.wrap (Int.tdiv (u32.wrap ((u32.wrap (y5+v3))+y6)) 1000000000)) (i64.wrap (v4+1)) l8)
   else
    ((app l7 [Int.tmod (u32.wrap (y5+v3)) 1000000000]).bind fun l9=>
    (Ap0 d0 d1 nL1) (u32.wrap (Int.tdiv (u32.wrap (y5+v3)) 1000000000)) (i64.wrap (v4+1)) l9))
  else
   (bif decide (v3>0) then
    ((app l7 [v3]).bind fun l10=>
    some l10)
   else
    (some l7))
def X6(d0:List Int)(d1:List Int):Nat->Int->Int->(List Int)->Option (List Int)
 |0,_,_,_=>none
 |nL2+1,v7,v8,l17=>
  bif decide (v8<((d0.map A6).length:Int)) then
   ((C2 d0 v8).bind fun y11=>
   bif decide (v8<((d1.map A6).length:Int)) then
    ((C2 d1 v8).bind fun y12=>
    (app l17 [Int.tmod (u32.wrap ((u32.wrap (y11+v7))+y12)) 1000000000]).bind fun l18=>
    (X6 d0 d1 nL2) (u32.wrap (Int.tdiv (u32.wrap ((u32.wrap (y11+v7))+y12)) 1000000000)) (i64.wrap (v8+1)) l18)
   else
    ((app l17 [Int.tmod (u32.wrap (y11+v7)) 1000000000]).bind fun l19=>
    (X6 d0 d1 nL2) (u32.wrap (Int.tdiv (u32.wrap (y11+v7)) 1000000000)) (i64.wrap (v8+1)) l19))
  else
   (bif decide (v7>0) then
    ((app l17 [v7]).bind fun l20=>
    some l20)
   else
    (some l17))
def Fm5(fuel:Nat)(d0:List Int)(d1:List Int):Option (List Int):=
 bif decide (((d0.map A6).length:Int)<((d1.map A6).length:Int)) then
  ((mkL 0 (i64.wrap (((d1.map A6).length:Int)+1)) 0).bind fun l1=>
  Ap0 d0 d1 fuel 0 0 l1)
 else
  ((mkL 0 (i64.wrap (((d0.map A6).length:Int)+1)) 0).bind fun l11=>
  X6 d0 d1 fuel 0 0 l11)
noncomputable abbrev Gb9:=C0 f145
abbrev Gm5(r:List Int):=GJ prog 56 f145 (.l 1 r A6)
theorem Eu9{fuel}{d0}{d1}{r}(hF:Fm5 fuel d0 d1=some r):
 C1 prog 145 [.l 1 d0 A6,.l 1 d1 A6] (.l 1 r A6):=by
 refine cf 56 func145 ?_;refine jI 13 14 hF ?_ ?_<;>intro hF
 .obtain⟨l1,e1,hF⟩:=bnd hF;refine jo2 12 (mm' A6 e1) ?_;have hL1:∀nL1 v3 v4 l7,Ap0 d0 d1 nL1 v3 v4 l7=some r->Gm5 r ⟨mkT [(1,.l 1 d0 A6),(5,.suf 20 0 0),(6,.w v3),(21,.l 1 d1 A6),(22,.i ((d1.map A6).length:Int)),(23,.i v4)],[(20,.buf 0 167 1 (l7.map A6))],[kL Gb9 500,.inBlock 0,kC Gb9 63]⟩:=by
   clear hF;refine lpI (fun _ _ _ h=>by cases h) fun nL1 iL1 v3 v4 l7 hF=> ?_
   refine jI 6 24 hF ?_ ?_<;>intro hF
   .obtain⟨y5,e10,hF⟩:=bnd hF;refine jo1 7 (gm' A6 e10) ?_;refine jI 19 34 hF ?_ ?_<;>intro hF
    .obtain⟨y6,e11,hF⟩:=bnd hF;refine jo1 5 (gm' A6 e11) ?_;obtain⟨l8,e12,hF⟩:=bnd hF;refine jo2 15 (am' A6 e12) ?_;exact ja 7 (iL1 _ _ _ hF)
    .obtain⟨l9,e13,hF⟩:=bnd hF;refine jo2 13 (am' A6 e13) ?_;exact ja 7 (iL1 _ _ _ hF)
   .refine jI 8 50 hF ?_ ?_<;>intro hF
    .obtain⟨l10,e14,hF⟩:=bnd hF;refine jo2 5 (am' A6 e14) ?_;cases hF;exact jr 7
    .cases hF;exact jr 7
  exact ja 15 (hL1 _ _ _ _ hF)
 .obtain⟨l11,e15,hF⟩:=bnd hF;refine jo2 7 (mm' A6 e15) ?_;have hL2:∀nL2 v7 v8 l17,X6 d0 d1 nL2 v7 v8 l17=some r->Gm5 r ⟨mkT [(1,.l 1 d1 A6),(5,.suf 20 0 0),(6,.w v7),(21,.l 1 d0 A6),(22,.i ((d0.map A6).length:Int)),(23,.i v8)],[(20,.buf 0 167 1 (l17.map A6))],[kL Gb9 500,.inBlock 0,kC Gb9 63]⟩:=by
   clear hF;refine lpI (fun _ _ _ h=>by cases h) fun nL2 iL2 v7 v8 l17 hF=> ?_
   refine jI 6 24 hF ?_ ?_<;>intro hF
   .obtain⟨y11,e24,hF⟩:=bnd hF;refine jo1 7 (gm' A6 e24) ?_;refine jI 19 34 hF ?_ ?_<;>intro hF
    .obtain⟨y12,e25,hF⟩:=bnd hF;refine jo1 5 (gm' A6 e25) ?_;obtain⟨l18,e26,hF⟩:=bnd hF;refine jo2 15 (am' A6 e26) ?_;exact ja 7 (iL2 _ _ _ hF)
    .obtain⟨l19,e27,hF⟩:=bnd hF;refine jo2 13 (am' A6 e27) ?_;exact ja 7 (iL2 _ _ _ hF)
   .refine jI 8 50 hF ?_ ?_<;>intro hF
    .obtain⟨l20,e28,hF⟩:=bnd hF;refine jo2 5 (am' A6 e28) ?_;cases hF;exact jr 7
    .cases hF;exact jr 7
  exact ja 15 (hL2 _ _ _ _ hF)
def U8(d0:List Int)(d1:List Int):Nat->Int->Int->(List Int)->Option (List Int)
 |0,_,_,_=>none
 |nL1+1,v3,v4,l11=>
  bif decide (v4<((d0.map A6).length:Int)) then
   ((C2 d0 v4).bind fun y5=>
   bif decide (v4<((d1.map A6).length:Int)) then
    ((C2 d1 v4).bind fun y6=>
    bif decide ((i64.wrap ((i64.wrap ((i64.wrap y5)-v3))-(i64.wrap y6)))<0) then
     ((app l11 [u32.wrap (i64.wrap ((i64.wrap ((i64.wrap ((i64.wrap y5)-v3))-(i64.wrap y6)))+1000000000))]).bind fun l12=>
     (U8 d0 d1 nL1) 1 (i64.wrap (v4+1)) l12)
    else
     ((app l11 [u32.wrap (i64.wrap ((i64.wrap ((i64.wrap y5)-v3))-(i64.wrap y6)))]).bind fun l13=>
     (U8 d0 d1 nL1) 0 (i64.wrap (v4+1)) l13))
   else
    (bif decide ((i64.wrap ((i64.wrap y5)-v3))<0) then
     ((app l11 [u32.wrap (i64.wrap ((i64.wrap ((i64.wrap y5)-v3))+1000000000))]).bind fun l14=>
     (U8 d0 d1 nL1) 1 (i64.wrap (v4+1)) l14)
    else
     ((app l11 [u32.wrap (i64.wrap ((i64.wrap y5)-v3))]).bind fun l15=>
     (U8 d0 d1 nL1) 0 (i64.wrap (v4+1)) l15)))
  else
   (some l11)
def Ev0(fuel:Nat)(d0:List Int)(d1:List Int):Option (List Int):=
 (mkL 0 ((d0.map A6).length:Int) 0).bind fun l1=>
 U8 d0 d1 fuel 0 0 l1
noncomputable abbrev Go2:=C0 f146
abbrev Gs6(r:List Int):=GJ prog 46 f146 (.l 1 r A6)
theorem Dd7{fuel}{d0}{d1}{r}(hF:Ev0 fuel d0 d1=some r):
 C1 prog 146 [.l 1 d0 A6,.l 1 d1 A6] (.l 1 r A6):=by
 refine cf 46 func146 ?_;obtain⟨l1,e1,hF⟩:=bnd hF;refine jo2 8 (mm' A6 e1) ?_;have hL1:∀nL1 v3 v4 l11,U8 d0 d1 nL1 v3 v4 l11=some r->Gs6 r ⟨mkT [(1,.l 1 d1 A6),(5,.suf 12 0 0),(6,.i v3),(13,.l 1 d0 A6),(14,.i ((d0.map A6).length:Int)),(15,.i v4)],[(12,.buf 0 167 1 (l11.map A6))],[kL Go2 244,.inBlock 0,kC Go2 31]⟩:=by
  clear hF;refine lpI (fun _ _ _ h=>by cases h) fun nL1 iL1 v3 v4 l11 hF=> ?_
  refine jI 6 16 hF ?_ ?_<;>intro hF
  .obtain⟨y5,e14,hF⟩:=bnd hF;refine jo1 7 (gm' A6 e14) ?_;refine jI 20 27 hF ?_ ?_<;>intro hF
   .obtain⟨y6,e15,hF⟩:=bnd hF;refine jo1 5 (gm' A6 e15) ?_;refine jI 15 36 hF ?_ ?_<;>intro hF
    .obtain⟨l12,e16,hF⟩:=bnd hF;refine jo2 12 (am' A6 e16) ?_;exact ja 7 (iL1 _ _ _ hF)
    .obtain⟨l13,e17,hF⟩:=bnd hF;refine jo2 7 (am' A6 e17) ?_;exact ja 7 (iL1 _ _ _ hF)
   .refine jI 12 36 hF ?_ ?_<;>intro hF
    .obtain⟨l14,e18,hF⟩:=bnd hF;refine jo2 12 (am' A6 e18) ?_;exact ja 7 (iL1 _ _ _ hF)
    .obtain⟨l15,e19,hF⟩:=bnd hF;refine jo2 7 (am' A6 e19) ?_;exact ja 7 (iL1 _ _ _ hF)
  .cases hF;exact jr 7
 exact ja 15 (hL1 _ _ _ _ hF)
def Et4(fuel:Nat)(d0:A5)(d1:A5):Option A5:=
 bif d0.neg==d1.neg then
  ((Fm5 fuel d0.mag d1.mag).bind fun y3=>
  (Be1 fuel d0.neg y3).bind fun y4=>
  some y4)
 else
  ((Dz1 fuel d0.mag d1.mag).bind fun y5=>
  bif decide (y5<0) then
   ((Ev0 fuel d1.mag d0.mag).bind fun y8=>
   (Be1 fuel d1.neg y8).bind fun y9=>
   some y9)
  else
   ((Ev0 fuel d0.mag d1.mag).bind fun y12=>
   (Be1 fuel d0.neg y12).bind fun y13=>
   some y13))
theorem Cc7{fuel}{d0}{d1}{r}(hF:Et4 fuel d0 d1=some r):
 C1 prog 104 [.agg [.b d0.neg,.l 1 d0.mag A6],.agg [.b d1.neg,.l 1 d1.mag A6]] (.agg [.b r.neg,.l 1 r.mag A6]):=by
 refine cf 42 func104 ?_;refine jI 17 5 hF ?_ ?_<;>intro hF
 .refine jd 2 ?_;refine dB 6 hF Eu9 fun y3 hF=> ?_
  refine dB 0 hF Q1 fun y4 hF=> ?_
  refine je 1 ?_;cases hF;exact jr 0
 .refine jB 7 hF Bk5 fun y5 hF=> ?_
  refine jI 3 19 hF ?_ ?_<;>intro hF
  .refine jd 2 ?_;refine dB 6 hF Dd7 fun y8 hF=> ?_
   refine dB 0 hF Q1 fun y9 hF=> ?_
   refine je 1 ?_;cases hF;exact jr 0
  .refine jd 4 ?_;refine dB 6 hF Dd7 fun y12 hF=> ?_
   refine dB 0 hF Q1 fun y13 hF=> ?_
   refine je 1 ?_;cases hF;exact jr 0
def Ge8(fuel:Nat)(d0:A5)(d1:A5):Option A5:=
 (Ge4 fuel d1).bind fun y3=>
 (Et4 fuel d0 y3).bind fun y4=>
 some y4
theorem Ew4{fuel}{d0}{d1}{r}(hF:Ge8 fuel d0 d1=some r):
 C1 prog 187 [.agg [.b d0.neg,.l 1 d0.mag A6],.agg [.b d1.neg,.l 1 d1.mag A6]] (.agg [.b r.neg,.l 1 r.mag A6]):=by
 unfold Ge8 at hF;refine cf 9 func187 ?_;refine jd 7 ?_;refine dB 2 hF Dd6 fun y3 hF=> ?_
 refine dB 0 hF Cc7 fun y4 hF=> ?_
 refine je 1 ?_;cases hF;exact jr 0
def Eu8(fuel:Nat)(d0:A5)(d1:A5):Option (A5×A5):=
 (Ew0 fuel d0.mag d1.mag).bind fun y1=>
 (Be1 fuel (!(d0.neg==d1.neg)) y1.1).bind fun y4=>
 (Be1 fuel d0.neg y1.2).bind fun y5=>
 (
  (Et3 y5).bind fun y14=>
  bif y14 !=0 then
   (some (!(d0.neg==d1.neg)))
  else
   (some false)).bind fun o1=>
 bif o1 then
  ((F99 fuel 1).bind fun y11=>
  (Ge8 fuel y4 y11).bind fun y12=>
  (Et4 fuel y5 d1).bind fun y13=>
  some (y12,y13))
 else
  (some (y4,y5))
noncomputable abbrev Gh7:=C0 f144
abbrev Gs5(r:A5×A5):=GJ prog 47 f144 (.tup [.agg [.b r.1.neg,.l 1 r.1.mag A6],.agg [.b r.2.neg,.l 1 r.2.mag A6]])
theorem Bk6{fuel}{d0}{d1}{r}(hF:Eu8 fuel d0 d1=some r):
 C1 prog 144 [.agg [.b d0.neg,.l 1 d0.mag A6],.agg [.b d1.neg,.l 1 d1.mag A6]] (.tup [.agg [.b r.1.neg,.l 1 r.1.mag A6],.agg [.b r.2.neg,.l 1 r.2.mag A6]]):=by
 refine cf 47 func144 ?_;refine jB 13 hF Cd6 fun y1 hF=> ?_
 refine jd 7 ?_;refine dB 6 hF Q1 fun y4 hF=> ?_
 refine dB 3 hF Q1 fun y5 hF=> ?_
 refine je 4 ?_;obtain⟨o1,hO,hF⟩:=bnd hF;have hR1:Gs5 r ⟨mkT [(3,.ptr 3 0),(4,.ptr 4 0),(5,.ptr 5 0),(8,.ptr 8 0),(9,.ptr 9 0),(38,.b o1)],[(3,.box 98 [.b d1.neg,.l 1 d1.mag A6]),(4,.box 98 [.b false,.esl 1]),(5,.box 98 [.b false,.esl 1]),(8,.box 98 [.b y4.neg,.l 1 y4.mag A6]),(9,.box 98 [.b y5.neg,.l 1 y5.mag A6])],[kO Gh7 60,kC Gh7 61,kC Gh7 31]⟩:=by
  clear hO;refine jI 1 38 hF ?_ ?_<;>intro hF
  .refine jd 1 ?_;refine dB 1 hF Bh3 fun y11 hF=> ?_
   refine dB 0 hF Ew4 fun y12 hF=> ?_
   refine dB 2 hF Cc7 fun y13 hF=> ?_
   refine je 2 ?_;refine jd 1 ?_;refine je 4 ?_;cases hF;exact jr 0
  .refine jd 3 ?_;refine je 4 ?_;cases hF;exact jr 0
 clear hF;rename _=some o1=>hF
 refine jB 4 hF Bk0 fun y14 hF=> ?_
 refine jI 2 32 hF ?_ ?_<;>intro hF
 .cases hF;exact ja 6 hR1
 .cases hF;exact ja 6 hR1
def Ej7(fuel:Nat)(d0:A5)(d1:A5):Option A7:=
 (Eu5 fuel d0 d1).bind fun y1=>
 bif d1.neg then
  ((Ge4 fuel y1).bind fun y2=>
  (
   bif decide (((y2.mag.map A6).length:Int)>1) then
    (some true)
   else
    (bif y2.neg then
     (some true)
    else
     ((C2 y2.mag 0).bind fun y7=>
     some (y7 !=1)))).bind fun o1=>
  bif o1 then
   ((Eu8 fuel d0 y2).bind fun y5=>
   (Eu8 fuel d1 y2).bind fun y6=>
   some (⟨y5.1,y6.1⟩:A7))
  else
   (some (⟨d0,d1⟩:A7)))
 else
  ((
   bif decide (((y1.mag.map A6).length:Int)>1) then
    (some true)
   else
    (bif y1.neg then
     (some true)
    else
     ((C2 y1.mag 0).bind fun y12=>
     some (y12 !=1)))).bind fun o2=>
  bif o2 then
   ((Eu8 fuel d0 y1).bind fun y10=>
   (Eu8 fuel d1 y1).bind fun y11=>
   some (⟨y10.1,y11.1⟩:A7))
  else
   (some (⟨d0,d1⟩:A7)))
noncomputable abbrev Fk6:=C0 f103
abbrev Gm1(r:A7):=GJ prog 43 f103 (.agg [.b r.n_.neg,.l 1 r.n_.mag A6,.b r.d.neg,.l 1 r.d.mag A6])
theorem Cc6{fuel}{d0}{d1}{r}(hF:Ej7 fuel d0 d1=some r):
 C1 prog 103 [.agg [.b d0.neg,.l 1 d0.mag A6],.agg [.b d1.neg,.l 1 d1.mag A6]] (.agg [.b r.n_.neg,.l 1 r.n_.mag A6,.b r.d.neg,.l 1 r.d.mag A6]):=by
 refine cf 43 func103 ?_;refine jB 10 hF Cd1 fun y1 hF=> ?_
 refine jI 9 10 hF ?_ ?_<;>intro hF
 .refine jB 3 hF Dd6 fun y2 hF=> ?_
  obtain⟨o1,hO,hF⟩:=bnd hF;have hR1:Gm1 r ⟨mkT [(2,.ptr 2 0),(3,.ptr 3 0),(4,.ptr 4 0),(5,.ptr 5 0),(27,.b o1)],[(2,.box 98 [.b d0.neg,.l 1 d0.mag A6]),(3,.box 98 [.b d1.neg,.l 1 d1.mag A6]),(4,.box 100 [.b false,.esl 1,.b false,.esl 1]),(5,.box 98 [.b y2.neg,.l 1 y2.mag A6])],[kO Fk6 60,kC Fk6 61,kC Fk6 31]⟩:=by
   clear hO;refine jI 1 27 hF ?_ ?_<;>intro hF
   .refine jB 5 hF Bk6 fun y5 hF=> ?_
    refine jB 8 hF Bk6 fun y6 hF=> ?_
    cases hF;exact jr 12
   .cases hF;exact jr 9
  clear hF;rename _=some o1=>hF
  refine jI 10 17 hF ?_ ?_<;>intro hF
  .cases hF;exact ja 10 hR1
  .refine jI 4 21 hF ?_ ?_<;>intro hF
   .cases hF;exact ja 6 hR1
   .obtain⟨y7,e7,hF⟩:=bnd hF;refine jo1 2 (gm' A6 e7) ?_;cases hF;exact ja 3 hR1
 .obtain⟨o2,hO,hF⟩:=bnd hF;have hR2:Gm1 r ⟨mkT [(2,.ptr 2 0),(3,.ptr 3 0),(4,.ptr 4 0),(5,.ptr 5 0),(27,.b o2)],[(2,.box 98 [.b d0.neg,.l 1 d0.mag A6]),(3,.box 98 [.b d1.neg,.l 1 d1.mag A6]),(4,.box 100 [.b false,.esl 1,.b false,.esl 1]),(5,.box 98 [.b y1.neg,.l 1 y1.mag A6])],[kO Fk6 60,kC Fk6 61,kC Fk6 31]⟩:=by
   clear hO;refine jI 1 27 hF ?_ ?_<;>intro hF
   .refine jB 5 hF Bk6 fun y10 hF=> ?_
    refine jB 8 hF Bk6 fun y11 hF=> ?_
    cases hF;exact jr 12
   .cases hF;exact jr 9
  clear hF;rename _=some o2=>hF
  refine jI 10 17 hF ?_ ?_<;>intro hF
  .cases hF;exact ja 10 hR2
  .refine jI 4 21 hF ?_ ?_<;>intro hF
   .cases hF;exact ja 6 hR2
   .obtain⟨y12,e12,hF⟩:=bnd hF;refine jo1 2 (gm' A6 e12) ?_;cases hF;exact ja 3 hR2
def F51(fuel:Nat)(d0:Int)(d1:Int):Option A7:=
 (F99 fuel d0).bind fun y1=>
 (F99 fuel d1).bind fun y2=>
 (Ej7 fuel y1 y2).bind fun y3=>
 some y3
theorem Cm5{fuel}{d0}{d1}{r}(hF:F51 fuel d0 d1=some r):
 C1 prog 51 [.i d0,.i d1] (.agg [.b r.n_.neg,.l 1 r.n_.mag A6,.b r.d.neg,.l 1 r.d.mag A6]):=by
 refine cf 10 func51 ?_;refine jB 7 hF Bh3 fun y1 hF=> ?_
 refine jB 1 hF Bh3 fun y2 hF=> ?_
 refine jB 0 hF Cc6 fun y3 hF=> ?_
 cases hF;exact jr 2
def F97(d0:List UInt8)(d1:List UInt8):Option (List UInt8×List UInt8×Bool):=Fk9 d0 d1
theorem El7{d0:List UInt8}{d1:List UInt8}{r:List UInt8×List UInt8×Bool}(hF:F97 d0 d1=some r):C1 prog 97 [.d (.str d0),.d (.str d1)] (.tup [.d (.str r.1),.d (.str r.2.1),.d (.bool r.2.2)]):=Dk9 (List.Mem.head _) Tryz.strings_Cut hF
def Ga7(d0:List UInt8)(d1:List UInt8):Option Bool:=
 (
  bif decide ((d0.length:Int)>=(d1.length:Int)) then
   (ass (decide (0<=0)&&decide (0<=(d1.length:Int))&&decide ((d1.length:Int)<=d0.length))<|
   some (((d0.drop (Int.toNat 0)).take (Int.toNat ((d1.length:Int)-0)))==d1))
  else
   (some false)).bind fun o1=>
 some o1
noncomputable abbrev Gp0:=C0 f226
abbrev Gt6(r:Bool):=GJ prog 18 f226 (.b r)
theorem Ex7{d0}{d1}{r}(hF:Ga7 d0 d1=some r):
 C1 prog 226 [.s d0,.s d1] (.b r):=by
 refine cf 18 func226 ?_;obtain⟨o1,hO,hF⟩:=bnd hF;have hR1:Gt6 r ⟨mkT [(4,.b o1)],[],[kO Gp0 6,kC Gp0 7]⟩:=by
  clear hO;cases hF;exact jr 1
 clear hF;rename _=some o1=>hF
 refine jI 12 10 hF ?_ ?_<;>intro hF
 .obtain⟨hb6,hF⟩:=O1 hF;refine jo1 3 (ck hb6) ?_;cases hF;exact ja 4 hR1
 .cases hF;exact ja 8 hR1
def Ge6(d0:List UInt8)(d1:List UInt8):Option (List UInt8):=
 (Ga7 d0 d1).bind fun y1=>
 bif y1 then
  (ass (decide (0<=(d1.length:Int))&&decide ((d1.length:Int)<=(d0.length:Int))&&decide ((d0.length:Int)<=d0.length))<|
  some ((d0.drop (Int.toNat (d1.length:Int))).take (Int.toNat ((d0.length:Int)-(d1.length:Int)))))
 else
  (some d0)
theorem Ew1{d0}{d1}{r}(hF:Ge6 d0 d1=some r):
 C1 prog 182 [.s d0,.s d1] (.s r):=by
 refine cf 13 func182 ?_;refine jB 9 hF Ex7 fun y1 hF=> ?_
 refine jI 1 7 hF ?_ ?_<;>intro hF
 .obtain⟨hb2,hF⟩:=O1 hF;refine jo1 6 (ck hb2) ?_;cases hF;exact jr 2
 .cases hF;exact jr 7
def Fj3(d0:List UInt8)(d1:List UInt8):Option (List UInt8):=
 (Ge6 d0 d1).bind fun y1=>
 some y1
theorem Dd3{d0}{d1}{r}(hF:Fj3 d0 d1=some r):
 C1 prog 138 [.s d0,.s d1] (.s r):=by
 refine cf 8 func138 ?_;refine jB 8 hF Ew1 fun y1 hF=> ?_
 cases hF;exact jr 2
def L2(x:Int):List Dat:=[.int .u8 x]
def Fn6(d0:Int):Option Int:=
 some (IntKind.u8.wrap (BitVec.ofInt IntKind.u8.bits d0|||BitVec.ofInt IntKind.u8.bits 32).toNat)
theorem Ce0{d0}{r}(hF:Fn6 d0=some r):
 C1 prog 227 [.y d0] (.y r):=by
 unfold Fn6 at hF;refine cf 5 func227 ?_;cases hF;exact jr 10
def Bl0(v7:Int)(v8:Int)(cL1:Int->Int->Option (Int×Bool))(v10:Int):Option (Int×Bool):=
 bif decide (v10>=(IntKind.u8.wrap 10)) then
  (some (0,true))
 else
  (bif decide (v7>=1844674407370955162) then
   (some (u64.wrap ((u64.wrap (1*2^(min (Int.toNat (u64.wrap 32)) u64.bits)))-1),true))
  else
   ((
    bif decide ((u64.wrap ((u64.wrap (v7*(u64.wrap 10)))+(u64.wrap v10)))<(u64.wrap (v7*(u64.wrap 10)))) then
     (some true)
    else
     (some (decide ((u64.wrap ((u64.wrap (v7*(u64.wrap 10)))+(u64.wrap v10)))>(u64.wrap ((u64.wrap (1*2^(min (Int.toNat (u64.wrap 32)) u64.bits)))-1)))))).bind fun o39=>
   bif o39 then
    (some (u64.wrap ((u64.wrap (1*2^(min (Int.toNat (u64.wrap 32)) u64.bits)))-1),true))
   else
    (cL1 (u64.wrap ((u64.wrap (v7*(u64.wrap 10)))+(u64.wrap v10))) (i64.wrap (v8+1)))))
def Aa9(d0:List UInt8):Nat->Int->Int->Option (Int×Bool)
 |0,_,_=>none
 |nL1+1,v7,v8=>
  bif decide (v8<(((d0.map toI).map L2).length:Int)) then
   ((C2 (d0.map toI) v8).bind fun y76=>
   (
    bif y76==95 then
     (some ())
    else
     (some ())).bind fun o40=>
   (
    bif decide (48<=y76) then
     (some (decide (y76<=57)))
    else
     (some false)).bind fun o41=>
   bif o41 then
    (Bl0 v7 v8 (Aa9 d0 nL1) (IntKind.u8.wrap (y76-48)))
   else
    ((
     (Fn6 y76).bind fun y89=>
     bif decide (97<=y89) then
      ((Fn6 y76).bind fun y90=>
      some (decide (y90<=122)))
     else
      (some false)).bind fun o42=>
    bif o42 then
     ((Fn6 y76).bind fun y88=>
     Bl0 v7 v8 (Aa9 d0 nL1) (IntKind.u8.wrap ((IntKind.u8.wrap (y88-97))+10)))
    else
     (some (0,true))))
  else
   (some (v7,false))
def Ge7(fuel:Nat)(d0:List UInt8):Option (Int×Bool):=
 bif d0==[] then
  (some (0,true))
 else
  (ass (decide (0<=(u64.wrap 32)))<|
  Aa9 d0 fuel 0 0)
noncomputable abbrev Aj0:=C0 f183
abbrev Fk2(r:Int×Bool):=GJ prog 172 f183 (.tup [.n r.1,.d (.ife r.2)])
theorem Ew2{fuel}{d0}{r}(hF:Ge7 fuel d0=some r):
 C1 prog 183 [.s d0,.i 10,.i 32] (.tup [.n r.1,.d (.ife r.2)]):=by
 refine cf 172 func183 ?_;refine jI 11 19 hF ?_ ?_<;>intro hF
 .cases hF;exact jr 7
 .obtain⟨hb2,hF⟩:=O1 hF;refine jo1 70 (ck hb2) ?_;refine B5 15 (G0 (o:=some (d0.map Aj9)) ((d0.map toI).map L2) (by kernel_rfl) (bym (f:=L2) (fun _=>rfl)) ?_);have hL1:∀nL1 v7 v8,Aa9 d0 nL1 v7 v8=some r->Fk2 r ⟨mkT [(1,.i 10),(8,.b false),(9,.s d0),(10,.n 1844674407370955162),(11,.n (u64.wrap ((u64.wrap (1*2^(min (Int.toNat (u64.wrap 32)) u64.bits)))-1))),(12,.b false),(13,.n v7),(99,.l 1 (d0.map toI) L2),(100,.i (((d0.map toI).map L2).length:Int)),(101,.i v8)],[],[kL Aj0 65524,.inBlock 3,kC Aj0 8191]⟩:=by
   clear hF;refine lpI (fun _ _ h=>by cases h) fun nL1 iL1 v7 v8 hF=> ?_
   refine jI 6 102 hF ?_ ?_<;>intro hF
   .obtain⟨y76,e76,hF⟩:=bnd hF;refine jo1 6 (gm' L2 e76) ?_;have hA2:∀v10,Bl0 v7 v8 (Aa9 d0 nL1) v10=some r->Fk2 r ⟨mkT [(1,.i 10),(8,.b false),(9,.s d0),(10,.n 1844674407370955162),(11,.n (u64.wrap ((u64.wrap (1*2^(min (Int.toNat (u64.wrap 32)) u64.bits)))-1))),(12,.b false),(13,.n v7),(16,.y v10),(99,.l 1 (d0.map toI) L2),(100,.i (((d0.map toI).map L2).length:Int)),(101,.i v8)],[],[kC Aj0 8387175,.inBlock 4,kC Aj0 524199,kL Aj0 65524,.inBlock 3,kC Aj0 8191]⟩:=by
     intro v10 hF;refine jI 8 137 hF ?_ ?_<;>intro hF
     .cases hF;exact jr 7
     .refine jI 9 141 hF ?_ ?_<;>intro hF
      .cases hF;exact jr 8
      .obtain⟨o39,hO,hF⟩:=bnd hF;have hR39:Fk2 r ⟨mkT [(1,.i 10),(8,.b false),(9,.s d0),(10,.n 1844674407370955162),(11,.n (u64.wrap ((u64.wrap (1*2^(min (Int.toNat (u64.wrap 32)) u64.bits)))-1))),(12,.b false),(17,.n (u64.wrap ((u64.wrap (v7*(u64.wrap 10)))+(u64.wrap v10)))),(99,.l 1 (d0.map toI) L2),(100,.i (((d0.map toI).map L2).length:Int)),(101,.i v8),(159,.b o39)],[],[kO Aj0 536779260,kC Aj0 536779261,kC Aj0 268389631,.inBlock 4,kC Aj0 524199,kL Aj0 65524,.inBlock 3,kC Aj0 8191]⟩:=by
        clear hO;refine jI 1 159 hF ?_ ?_<;>intro hF
        .cases hF;exact jr 8
        .exact ja 11 (iL1 _ _ hF)
       clear hF;rename _=some o39=>hF
       refine jI 25 155 hF ?_ ?_<;>intro hF
       .cases hF;exact ja 4 hR39
       .cases hF;exact ja 4 hR39
    obtain⟨o40,hO,hF⟩:=bnd hF;have hR40:Fk2 r ⟨mkT [(1,.i 10),(8,.b false),(9,.s d0),(10,.n 1844674407370955162),(11,.n (u64.wrap ((u64.wrap (1*2^(min (Int.toNat (u64.wrap 32)) u64.bits)))-1))),(12,.b false),(13,.n v7),(15,.y y76),(99,.l 1 (d0.map toI) L2),(100,.i (((d0.map toI).map L2).length:Int)),(101,.i v8),(106,.b false)],[],[kO Aj0 33548696,kC Aj0 33548697,.inBlock 5,kC Aj0 8387175,.inBlock 4,kC Aj0 524199,kL Aj0 65524,.inBlock 3,kC Aj0 8191]⟩:=by
     clear hO;obtain⟨o41,hO,hF⟩:=bnd hF;have hR41:Fk2 r ⟨mkT [(1,.i 10),(8,.b false),(9,.s d0),(10,.n 1844674407370955162),(11,.n (u64.wrap ((u64.wrap (1*2^(min (Int.toNat (u64.wrap 32)) u64.bits)))-1))),(12,.b false),(13,.n v7),(15,.y y76),(99,.l 1 (d0.map toI) L2),(100,.i (((d0.map toI).map L2).length:Int)),(101,.i v8),(112,.b o41)],[],[kO Aj0 134194790,kC Aj0 134194791,.inBlock 5,kC Aj0 8387175,.inBlock 4,kC Aj0 524199,kL Aj0 65524,.inBlock 3,kC Aj0 8191]⟩:=by
      clear hO;refine jI 1 112 hF ?_ ?_<;>intro hF
      .exact ja 7 (hA2 _ hF)
      .obtain⟨o42,hO,hF⟩:=bnd hF;have hR42:Fk2 r ⟨mkT [(1,.i 10),(8,.b false),(9,.s d0),(10,.n 1844674407370955162),(11,.n (u64.wrap ((u64.wrap (1*2^(min (Int.toNat (u64.wrap 32)) u64.bits)))-1))),(12,.b false),(13,.n v7),(15,.y y76),(99,.l 1 (d0.map toI) L2),(100,.i (((d0.map toI).map L2).length:Int)),(101,.i v8),(121,.b o42)],[],[kO Aj0 536779166,kC Aj0 536779167,.inBlock 5,kC Aj0 8387175,.inBlock 4,kC Aj0 524199,kL Aj0 65524,.inBlock 3,kC Aj0 8191]⟩:=by
        clear hO;refine jI 1 121 hF ?_ ?_<;>intro hF
        .refine jB 3 hF Ce0 fun y88 hF=> ?_
         exact ja 5 (hA2 _ hF)
        .cases hF;exact jr 7
       clear hF;rename _=some o42=>hF
       refine jB 4 hF Ce0 fun y89 hF=> ?_
       refine jI 2 125 hF ?_ ?_<;>intro hF
       .refine jB 1 hF Ce0 fun y90 hF=> ?_
        cases hF;exact ja 3 hR42
       .cases hF;exact ja 5 hR42
     clear hF;rename _=some o41=>hF
     refine jI 7 115 hF ?_ ?_<;>intro hF
     .cases hF;exact ja 4 hR41
     .cases hF;exact ja 4 hR41
    clear hF;rename _=some o40=>hF
    refine jI 14 109 hF ?_ ?_<;>intro hF
    .cases hF;exact ja 3 hR40
    .cases hF;exact ja 3 hR40
   .cases hF;exact jr 20
  exact ja 5 (hL1 _ _ _ hF)
def Fz8(fuel:Nat)(d0:List UInt8):Option (Int×Bool):=
 (Ge7 fuel d0).bind fun y1=>
 bif !!y1.2 then
  (none)
 else
  (some (y1.1,false))
theorem Eu7{fuel}{d0}{r}(hF:Fz8 fuel d0=some r):
 C1 prog 139 [.s d0,.i 10,.i 32] (.tup [.n r.1,.d (.ife r.2)]):=by
 refine cf 26 func139 ?_;refine jB 10 hF Ew2 fun y1 hF=> ?_
 refine jI 12 18 hF ?_ ?_<;>intro hF
 .cases hF
 .cases hF;exact jr 8
def Ax9(fuel:Nat)(d0:List UInt8)(y1:List UInt8):Nat->Int->(List Int)->Option A5
 |0,_,_=>none
 |nL1+1,v2,l4=>
  bif decide (v2>0) then
   (ass (decide (0<=(bif decide ((i64.wrap (v2-9))>0) then(i64.wrap (v2-9)) else 0))&&decide ((bif decide ((i64.wrap (v2-9))>0) then(i64.wrap (v2-9)) else 0)<=v2)&&decide (v2<=y1.length))<|
   (Fz8 fuel ((y1.drop (Int.toNat (bif decide ((i64.wrap (v2-9))>0) then(i64.wrap (v2-9)) else 0))).take (Int.toNat (v2-(bif decide ((i64.wrap (v2-9))>0) then(i64.wrap (v2-9)) else 0))))).bind fun y4=>
   (app l4 [u32.wrap y4.1]).bind fun l5=>
   (Ax9 fuel d0 y1 nL1) (i64.wrap (v2-9)) l5)
  else
   ((Be1 fuel (decide ((y1.length:Int)<(d0.length:Int))) l4).bind fun y5=>
   some y5)
def F98(fuel:Nat)(d0:List UInt8):Option A5:=
 (Fj3 d0 [45]).bind fun y1=>
 Ax9 fuel d0 y1 fuel (y1.length:Int) []
noncomputable abbrev b98:=C0 f98
abbrev G98(r:A5):=GJ prog 44 f98 (.agg [.b r.neg,.l 1 r.mag A6])
theorem Dh1{fuel}{d0}{r}(hF:F98 fuel d0=some r):
 C1 prog 98 [.s d0] (.agg [.b r.neg,.l 1 r.mag A6]):=by
 refine cf 44 func98 ?_;refine jB 7 hF Dd3 fun y1 hF=> ?_
 have hL1:∀nL1 v2 l4,Ax9 fuel d0 y1 nL1 v2 l4=some r->G98 r ⟨mkT [(2,.ptr 2 0),(3,.s y1),(4,.ptr 4 0),(5,.i v2)],[(2,.box 98 [.b false,.esl 1]),(4,.box 98 [.b (decide ((y1.length:Int)<(d0.length:Int))),.suf 37 0 0]),(37,.buf 0 167 1 (l4.map A6))],[kL b98 244,.inBlock 0,kC b98 31]⟩:=by
  clear hF;refine lpI (fun _ _ h=>by cases h) fun nL1 iL1 v2 l4 hF=> ?_
  refine jI 7 19 hF ?_ ?_<;>intro hF
  .obtain⟨hb6,hF⟩:=O1 hF;refine jo1 11 (ck hb6) ?_;refine jB 0 hF Eu7 fun y4 hF=> ?_
   obtain⟨l5,e7,hF⟩:=bnd hF;refine jo2 12 (am' A6 e7) ?_;exact ja 9 (iL1 _ _ hF)
  .refine jB 8 hF Q1 fun y5 hF=> ?_
   cases hF;exact jr 2
 refine B5 22 (Bh6 (n:=1) 4 1 37 167 1 (by kernel_rfl) (by kernel_rfl) ?_);exact ja 0 (hL1 _ _ _ hF)
def F48(fuel:Nat)(d0:List UInt8):Option A7:=
 (F97 d0 [47]).bind fun y1=>
 bif !y1.2.2 then
  ((F98 fuel y1.1).bind fun y2=>
  (F99 fuel 1).bind fun y3=>
  some (⟨y2,y3⟩:A7))
 else
  ((F98 fuel y1.1).bind fun y4=>
  (F98 fuel y1.2.1).bind fun y5=>
  some (⟨y4,y5⟩:A7))
theorem Bs0{fuel}{d0}{r}(hF:F48 fuel d0=some r):
 C1 prog 48 [.s d0] (.agg [.b r.n_.neg,.l 1 r.n_.mag A6,.b r.d.neg,.l 1 r.d.mag A6]):=by
 refine cf 23 func48 ?_;refine jB 7 hF El7 fun y1 hF=> ?_
 refine jI 14 13 hF ?_ ?_<;>intro hF
 .refine jB 4 hF Dh1 fun y2 hF=> ?_
  refine jB 0 hF Bh3 fun y3 hF=> ?_
  cases hF;exact jr 3
 .refine jB 5 hF Dh1 fun y4 hF=> ?_
  refine jB 1 hF Dh1 fun y5 hF=> ?_
  cases hF;exact jr 3
def An8(d1:A5)(v10:Int)(y23:Int)(cL1:Int->(List Int)->Option A5):Nat->Int->Int->(List Int)->Option A5
 |0,_,_,_=>none
 |nL2+1,v13,v14,l19=>
  bif decide (v14<((d1.mag.map A6).length:Int)) then
   ((C2 d1.mag v14).bind fun y30=>
   (C2 l19 (i64.wrap (v10+v14))).bind fun y31=>
   (C2 l19 (i64.wrap (v10+v14))).bind fun y32=>
   (some (l19.set (0+Int.toNat (i64.wrap (v10+v14))) (u32.wrap (Int.tmod (u64.wrap ((u64.wrap ((u64.wrap ((u64.wrap y23)*(u64.wrap y30)))+(u64.wrap y31)))+v13)) 1000000000)))).bind fun l20=>
   (An8 d1 v10 y23 cL1 nL2) (u64.wrap (Int.tdiv (u64.wrap ((u64.wrap ((u64.wrap ((u64.wrap y23)*(u64.wrap y30)))+(u64.wrap y31)))+v13)) 1000000000)) (i64.wrap (v14+1)) l20)
  else
   ((C2 l19 (i64.wrap (v10+((d1.mag.map A6).length:Int)))).bind fun y33=>
   (some (l19.set (0+Int.toNat (i64.wrap (v10+((d1.mag.map A6).length:Int)))) (u32.wrap v13))).bind fun l21=>
   cL1 (i64.wrap (v10+1)) l21)
def Aa0(fuel:Nat)(d0:A5)(d1:A5):Nat->Int->(List Int)->Option A5
 |0,_,_=>none
 |nL1+1,v10,l15=>
  bif decide (v10<((d0.mag.map A6).length:Int)) then
   ((C2 d0.mag v10).bind fun y23=>
   An8 d1 v10 y23 (Aa0 fuel d0 d1 nL1) fuel 0 0 l15)
  else
   ((Be1 fuel (!(d0.neg==d1.neg)) l15).bind fun y34=>
   some y34)
def Br7(fuel:Nat)(d0:A5)(d1:A5):Option A5:=
 (mkL (i64.wrap (((d0.mag.map A6).length:Int)+((d1.mag.map A6).length:Int))) (i64.wrap (((d0.mag.map A6).length:Int)+((d1.mag.map A6).length:Int))) 0).bind fun l1=>
 Aa0 fuel d0 d1 fuel 0 l1
noncomputable abbrev Fa2:=C0 f101
abbrev Gm0(r:A5):=GJ prog 79 f101 (.agg [.b r.neg,.l 1 r.mag A6])
theorem Ag7{fuel}{d0}{d1}{r}(hF:Br7 fuel d0 d1=some r):
 C1 prog 101 [.agg [.b d0.neg,.l 1 d0.mag A6],.agg [.b d1.neg,.l 1 d1.mag A6]] (.agg [.b r.neg,.l 1 r.mag A6]):=by
 refine cf 79 func101 ?_;obtain⟨l1,e1,hF⟩:=bnd hF;refine jo2 15 (mm' A6 e1) ?_;have hL1:∀nL1 v10 l15,Aa0 fuel d0 d1 nL1 v10 l15=some r->Gm0 r ⟨mkT [(2,.ptr 2 0),(3,.ptr 3 0),(4,.ptr 4 0),(5,.suf 19 0 0),(21,.l 1 d0.mag A6),(22,.i ((d0.mag.map A6).length:Int)),(23,.i v10)],[(2,.box 98 [.b d0.neg,.l 1 d0.mag A6]),(3,.box 98 [.b d1.neg,.l 1 d1.mag A6]),(4,.box 98 [.b false,.esl 1]),(19,.buf 0 167 1 (l15.map A6))],[kL Fa2 116,.inBlock 0,kC Fa2 15]⟩:=by
  clear hF;refine lpI (fun _ _ h=>by cases h) fun nL1 iL1 v10 l15 hF=> ?_
  refine jI 6 24 hF ?_ ?_<;>intro hF
  .obtain⟨y23,e32,hF⟩:=bnd hF;refine jo1 7 (gm' A6 e32) ?_;have hL2:∀nL2 v13 v14 l19,An8 d1 v10 y23 (Aa0 fuel d0 d1 nL1) nL2 v13 v14 l19=some r->Gm0 r ⟨mkT [(2,.ptr 2 0),(3,.ptr 3 0),(4,.ptr 4 0),(5,.suf 19 0 0),(6,.i v10),(7,.w y23),(8,.n v13),(21,.l 1 d0.mag A6),(22,.i ((d0.mag.map A6).length:Int)),(23,.i v10),(29,.l 1 d1.mag A6),(30,.i ((d1.mag.map A6).length:Int)),(31,.i v14)],[(2,.box 98 [.b d0.neg,.l 1 d0.mag A6]),(3,.box 98 [.b d1.neg,.l 1 d1.mag A6]),(4,.box 98 [.b false,.esl 1]),(19,.buf 0 167 1 (l19.map A6))],[kL Fa2 119604,.inBlock 2,kC Fa2 14951,.inBlock 1,kC Fa2 935,kL Fa2 116,.inBlock 0,kC Fa2 15]⟩:=by
    clear hF;refine lpI (fun _ _ _ h=>by cases h) fun nL2 iL2 v13 v14 l19 hF=> ?_
    refine jI 6 32 hF ?_ ?_<;>intro hF
    .obtain⟨y30,e41,hF⟩:=bnd hF;refine jo1 7 (gm' A6 e41) ?_;obtain⟨y31,e42,hF⟩:=bnd hF;refine jo1 15 (gm' A6 e42) ?_;refine jo1 0 (gjm (f:=A6) (gj e42)) ?_;obtain⟨y32,e43,hF⟩:=bnd hF;refine jo1 16 (gm' A6 e43) ?_;obtain⟨l20,e44,hF⟩:=bnd hF;have hst:=stm (f:=A6) (z:=u32.wrap (Int.tmod (u64.wrap ((u64.wrap ((u64.wrap ((u64.wrap y23)*(u64.wrap y30)))+(u64.wrap y31)))+v13)) 1000000000)) (k:=0) (xs:=[.int .u32 (u32.wrap (Int.tmod (u64.wrap ((u64.wrap ((u64.wrap ((u64.wrap y23)*(u64.wrap y30)))+(u64.wrap y31)))+v13)) 1000000000))]) (gj e43) rfl;refine B5 0 (G0 (o:=(match(l19.map A6)[0+Int.toNat (i64.wrap (v10+v14))]? with|some old=>some ((l19.map A6).set (0+Int.toNat (i64.wrap (v10+v14))) (Z1 old 0 [.int .u32 (u32.wrap (Int.tmod (u64.wrap ((u64.wrap ((u64.wrap ((u64.wrap y23)*(u64.wrap y30)))+(u64.wrap y31)))+v13)) 1000000000))]))|none=>none)) (l20.map A6) (by kernel_rfl) (by cases e44;exact hst) ?_);exact ja 7 (iL2 _ _ _ hF)
    .obtain⟨y33,e45,hF⟩:=bnd hF;refine jo1 11 (gm' A6 e45) ?_;obtain⟨l21,e46,hF⟩:=bnd hF;have hst:=stm (f:=A6) (z:=u32.wrap v13) (k:=0) (xs:=[.int .u32 (u32.wrap v13)]) (gj e45) rfl;refine B5 0 (G0 (o:=(match(l19.map A6)[0+Int.toNat (i64.wrap (v10+((d1.mag.map A6).length:Int)))]? with|some old=>some ((l19.map A6).set (0+Int.toNat (i64.wrap (v10+((d1.mag.map A6).length:Int)))) (Z1 old 0 [.int .u32 (u32.wrap v13)]))|none=>none)) (l21.map A6) (by kernel_rfl) (by cases e46;exact hst) ?_);exact ja 6 (iL1 _ _ hF)
   exact ja 18 (hL2 _ _ _ _ hF)
  .refine jB 10 hF Q1 fun y34 hF=> ?_
   cases hF;exact jr 2
 exact ja 12 (hL1 _ _ _ hF)
def Dy9(fuel:Nat)(d0:A5)(d1:A5):Option Int:=
 (Et3 d0).bind fun y4=>
 (Et3 d1).bind fun y5=>
 (Fm4 y4 y5).bind fun y6=>
 (
  bif y6 !=0 then
   (some true)
  else
   (some (((d0.mag.map A6).length:Int)==0))).bind fun o1=>
 bif o1 then
  (some y6)
 else
  (bif d0.neg then
   ((Dz1 fuel d1.mag d0.mag).bind fun y7=>
   some y7)
  else
   ((Dz1 fuel d0.mag d1.mag).bind fun y8=>
   some y8))
noncomputable abbrev Gh4:=C0 f102
abbrev Gr5(r:Int):=GJ prog 32 f102 (.i r)
theorem Aw3{fuel}{d0}{d1}{r}(hF:Dy9 fuel d0 d1=some r):
 C1 prog 102 [.agg [.b d0.neg,.l 1 d0.mag A6],.agg [.b d1.neg,.l 1 d1.mag A6]] (.i r):=by
 unfold Dy9 at hF;refine cf 32 func102 ?_;refine jd 8 ?_;refine dB 1 hF Bk0 fun y4 hF=> ?_
 refine dB 1 hF Bk0 fun y5 hF=> ?_
 refine dB 0 hF Dd5 fun y6 hF=> ?_
 refine je 1 ?_;obtain⟨o1,hO,hF⟩:=bnd hF;have hR1:Gr5 r ⟨mkT [(2,.ptr 2 0),(3,.ptr 3 0),(5,.i y6),(18,.b o1)],[(2,.box 98 [.b d0.neg,.l 1 d0.mag A6]),(3,.box 98 [.b d1.neg,.l 1 d1.mag A6])],[kO Gh4 26,kC Gh4 27,kC Gh4 7]⟩:=by
  clear hO;refine jI 1 18 hF ?_ ?_<;>intro hF
  .cases hF;exact jr 6
  .refine jI 8 21 hF ?_ ?_<;>intro hF
   .refine jB 7 hF Bk5 fun y7 hF=> ?_
    cases hF;exact jr 2
   .refine jB 8 hF Bk5 fun y8 hF=> ?_
    cases hF;exact jr 2
 clear hF;rename _=some o1=>hF
 refine jI 5 13 hF ?_ ?_<;>intro hF
 .cases hF;exact ja 5 hR1
 .cases hF;exact ja 5 hR1
def F50(fuel:Nat)(d0:A7)(d1:A7):Option Int:=
 (Br7 fuel d0.n_ d1.d).bind fun y4=>
 (Br7 fuel d1.n_ d0.d).bind fun y5=>
 (Dy9 fuel y4 y5).bind fun y6=>
 some y6
theorem Cm4{fuel}{d0}{d1}{r}(hF:F50 fuel d0 d1=some r):
 C1 prog 50 [.agg [.b d0.n_.neg,.l 1 d0.n_.mag A6,.b d0.d.neg,.l 1 d0.d.mag A6],.agg [.b d1.n_.neg,.l 1 d1.n_.mag A6,.b d1.d.neg,.l 1 d1.d.mag A6]] (.i r):=by
 unfold F50 at hF;refine cf 16 func50 ?_;refine jd 7 ?_;refine dB 4 hF Ag7 fun y4 hF=> ?_
 refine dB 4 hF Ag7 fun y5 hF=> ?_
 refine dB 0 hF Aw3 fun y6 hF=> ?_
 refine je 1 ?_;cases hF;exact jr 0
def F54(fuel:Nat)(d0:A7)(d1:A7):Option A7:=
 (Br7 fuel d0.n_ d1.d).bind fun y6=>
 (Br7 fuel d1.n_ d0.d).bind fun y7=>
 (Et4 fuel y6 y7).bind fun y8=>
 (Br7 fuel d0.d d1.d).bind fun y9=>
 (Ej7 fuel y8 y9).bind fun y10=>
 some y10
theorem El1{fuel}{d0}{d1}{r}(hF:F54 fuel d0 d1=some r):
 C1 prog 54 [.agg [.b d0.n_.neg,.l 1 d0.n_.mag A6,.b d0.d.neg,.l 1 d0.d.mag A6],.agg [.b d1.n_.neg,.l 1 d1.n_.mag A6,.b d1.d.neg,.l 1 d1.d.mag A6]] (.agg [.b r.n_.neg,.l 1 r.n_.mag A6,.b r.d.neg,.l 1 r.d.mag A6]):=by
 unfold F54 at hF;refine cf 22 func54 ?_;refine jd 7 ?_;refine dB 4 hF Ag7 fun y6 hF=> ?_
 refine dB 4 hF Ag7 fun y7 hF=> ?_
 refine dB 0 hF Cc7 fun y8 hF=> ?_
 refine dB 4 hF Ag7 fun y9 hF=> ?_
 refine dB 0 hF Cc6 fun y10 hF=> ?_
 refine je 1 ?_;cases hF;exact jr 0
def F86(fuel:Nat)(d0:A7)(d1:A7):Option A7:=
 (Br7 fuel d0.n_ d1.n_).bind fun y4=>
 (Br7 fuel d0.d d1.d).bind fun y5=>
 (Ej7 fuel y4 y5).bind fun y6=>
 some y6
theorem Fp5{fuel}{d0}{d1}{r}(hF:F86 fuel d0 d1=some r):
 C1 prog 86 [.agg [.b d0.n_.neg,.l 1 d0.n_.mag A6,.b d0.d.neg,.l 1 d0.d.mag A6],.agg [.b d1.n_.neg,.l 1 d1.n_.mag A6,.b d1.d.neg,.l 1 d1.d.mag A6]] (.agg [.b r.n_.neg,.l 1 r.n_.mag A6,.b r.d.neg,.l 1 r.d.mag A6]):=by
 unfold F86 at hF;refine cf 16 func86 ?_;refine jd 7 ?_;refine dB 4 hF Ag7 fun y4 hF=> ?_
 refine dB 4 hF Ag7 fun y5 hF=> ?_
 refine dB 0 hF Cc6 fun y6 hF=> ?_
 refine je 1 ?_;cases hF;exact jr 0
def F49(d0:A7):Option Int:=
 (Et3 d0.n_).bind fun y1=>
 some y1
theorem Fo5{d0}{r}(hF:F49 d0=some r):
 C1 prog 49 [.agg [.b d0.n_.neg,.l 1 d0.n_.mag A6,.b d0.d.neg,.l 1 d0.d.mag A6]] (.i r):=by
 refine cf 6 func49 ?_;refine jB 9 hF Bk0 fun y1 hF=> ?_
 cases hF;exact jr 2
def e_s(x:List UInt8):List Dat:=[.str x]
def A8(x:A7):List Dat:=[.bool x.n_.neg,.sl 1 (x.n_.mag.map A6),.bool x.d.neg,.sl 1 (x.d.mag.map A6)]
def Ej8(d0:Int):Option (List UInt8):=Ci7 d0
theorem Ao0{d0:Int}{r:List UInt8}(hF:Ej8 d0=some r):C1 prog 110 [.d (.int .i64 d0)] (.d (.str r)):=Cz7 (gn:=3) (by kernel_rfl) (by kernel_rfl) Tryz.strconv_Itoa hF
def Fm9(d0:A5):Option Int:=
 bif ((d0.mag.map A6).length:Int)==0 then
  (some 1)
 else
  ((C2 d0.mag (i64.wrap (((d0.mag.map A6).length:Int)-1))).bind fun y1=>
  (Ej8 (i64.wrap y1)).bind fun y2=>
  some (i64.wrap ((i64.wrap (9*(i64.wrap (((d0.mag.map A6).length:Int)-1))))+(y2.length:Int))))
theorem De7{d0}{r}(hF:Fm9 d0=some r):
 C1 prog 180 [.agg [.b d0.neg,.l 1 d0.mag A6]] (.i r):=by
 refine cf 22 func180 ?_;refine jI 18 8 hF ?_ ?_<;>intro hF
 .cases hF;exact jr 5
 .obtain⟨y1,e1,hF⟩:=bnd hF;refine jo1 11 (gm' A6 e1) ?_;refine jB 2 hF Ao0 fun y2 hF=> ?_
  cases hF;exact jr 4
def Eu6(d0:A7)(d1:Int):Option Bool:=
 (
  (Fm9 d0.n_).bind fun y5=>
  bif decide (y5<=d1) then
   ((Fm9 d0.d).bind fun y6=>
   some (decide (y6<=d1)))
  else
   (some false)).bind fun o1=>
 some o1
noncomputable abbrev Go0:=C0 f136
abbrev Gs3(r:Bool):=GJ prog 17 f136 (.b r)
theorem Cd2{d0}{d1}{r}(hF:Eu6 d0 d1=some r):
 C1 prog 136 [.agg [.b d0.n_.neg,.l 1 d0.n_.mag A6,.b d0.d.neg,.l 1 d0.d.mag A6],.i d1] (.b r):=by
 refine cf 17 func136 ?_;obtain⟨o1,hO,hF⟩:=bnd hF;have hR1:Gs3 r ⟨mkT [(4,.b o1)],[],[kO Go0 6,kC Go0 7]⟩:=by
  clear hO;cases hF;exact jr 1
 clear hF;rename _=some o1=>hF
 refine jB 9 hF De7 fun y5 hF=> ?_
 refine jI 3 10 hF ?_ ?_<;>intro hF
 .refine jB 2 hF De7 fun y6 hF=> ?_
  cases hF;exact ja 4 hR1
 .cases hF;exact ja 7 hR1
def Fz7(d0:A7):Option Bool:=
 (
  bif ((d0.d.mag.map A6).length:Int)==1 then
   ((C2 d0.d.mag 0).bind fun y3=>
   some (y3==1))
  else
   (some false)).bind fun o1=>
 some o1
noncomputable abbrev Gn9:=C0 f126
abbrev Gs1(r:Bool):=GJ prog 16 f126 (.b r)
theorem Eu3{d0}{r}(hF:Fz7 d0=some r):
 C1 prog 126 [.agg [.b d0.n_.neg,.l 1 d0.n_.mag A6,.b d0.d.neg,.l 1 d0.d.mag A6]] (.b r):=by
 refine cf 16 func126 ?_;obtain⟨o1,hO,hF⟩:=bnd hF;have hR1:Gs1 r ⟨mkT [(2,.b o1)],[],[kO Gn9 6,kC Gn9 7]⟩:=by
  clear hO;cases hF;exact jr 1
 clear hF;rename _=some o1=>hF
 refine jI 13 8 hF ?_ ?_<;>intro hF
 .obtain⟨y3,e3,hF⟩:=bnd hF;refine jo1 3 (gm' A6 e3) ?_;cases hF;exact ja 4 hR1
 .cases hF;exact ja 8 hR1
def Fj6:Option Unit:=
 some ()
theorem De9{r}(hF:Fj6=some r):
 M4 prog 194 [(2000,.box 224 [.d .nilp,.esl 1])] [.ptr 2000 0] [(2000,.box 224 [.ptr 2000 0,.esl 1])] (.tup []):=by
 unfold Fj6 at hF;refine cr 20 func194 ?_;refine B5 13 (Ez0 (xs:=[.ptr 2000 0]) (.ptr 2000 0) (by kernel_rfl) (Be4 func239 (by kernel_rfl) (by kernel_rfl) (by kernel_rfl) rfl _) ?_);cases hF;exact jrr 5
def Ga0(d0:Int):Option (Bool×List Int):=
 (Fj6).bind fun y1=>
 (app [] [d0]).bind fun l1=>
 some (false,l1)
noncomputable abbrev Gu4:=C0 f159
theorem Ev4{d0}{r}(hF:Ga0 d0=some r):
 M4 prog 159 [(2000,.box 224 [.d .nilp,.esl 1])] [.ptr 2000 0,.y d0] [(2000,.box 224 [.ptr 2000 0,.suf 2001 0 0]),(2001,.buf 0 5 1 (r.2.map L2))] (.d (.ife r.1)):=by
 unfold Ga0 at hF;refine cr 17 func159 ?_;obtain⟨y1,e1,hF⟩:=bnd hF;refine jcr 7 [(2000,2000)] (De9 e1) ?_;obtain⟨l1,e2,hF⟩:=bnd hF;refine jo2 10 (am' L2 e2) ?_;refine ja 8 (S0:=[(4,.d (.ife false))]) (O0:=[(14,.buf 0 5 1 (l1.map L2)),(2000,.box 224 [.ptr 2000 0,.suf 14 0 0])]) (T0:=[kC Gu4 31]) ?_;refine B5 0 (Ay1 [(2000,2000),(14,2001)] (by kernel_rfl) (by kernel_rfl) (by kernel_rfl) (by kernel_rfl) ?_);cases hF;exact jrr 0
def Ea4(d0:List Int):Option Unit:=
 some ()
theorem Ea5{d0}{r}(hF:Ea4 d0=some r):
 M4 prog 194 [(2000,.box 224 [.ptr 2000 0,.suf 2001 0 0]),(2001,.buf 0 5 1 (d0.map L2))] [.ptr 2000 0] [(2000,.box 224 [.ptr 2000 0,.suf 2001 0 0]),(2001,.buf 0 5 1 (d0.map L2))] (.tup []):=by
 unfold Ea4 at hF;refine cr 20 func194 ?_;cases hF;exact jrr 20
def Cl7(d0:List UInt8)(d1:List Int):Option (Int×Bool×List Int):=
 (Ea4 d1).bind fun y1=>
 (app d1 (d0.map toI)).bind fun l1=>
 some ((d0.length:Int),false,l1)
theorem V0{d0}{d1}{r}(hF:Cl7 d0 d1=some r):
 M4 prog 160 [(2000,.box 224 [.ptr 2000 0,.suf 2001 0 0]),(2001,.buf 0 5 1 (d1.map L2))] [.ptr 2000 0,.s d0] [(2000,.box 224 [.ptr 2000 0,.suf 2001 1 0]),(2001,.buf 1 5 1 (r.2.2.map L2))] (.tup [.i r.1,.d (.ife r.2.1)]):=by
 unfold Cl7 at hF;refine cr 19 func160 ?_;obtain⟨y1,e1,hF⟩:=bnd hF;refine jcr 8 [(2000,2000),(2001,2001)] (Ea5 e1) ?_;obtain⟨l1,e2,hF⟩:=bnd hF;refine B5 9 (G0 (o:=Gb8 ((d1.map L2).drop 0) (d0.map Aj9)) (l1.map L2) (by kernel_rfl) (ams (f:=L2) (fun _=>rfl) e2) ?_);cases hF;exact jrr 11
def Ev5(d0:List Int):Option (List UInt8):=
 ass (decide (0<(d0.map L2).length))<|
 (Fz0 d0 0 ((d0.map L2).length:Int)).bind fun x2=>
 some x2
theorem Cd4{d0}{r}(hF:Ev5 d0=some r):
 M4 prog 161 [(2000,.box 224 [.ptr 2000 0,.suf 2001 0 0]),(2001,.buf 0 5 1 (d0.map L2))] [.ptr 2000 0] [(2000,.box 224 [.ptr 2000 0,.suf 2001 0 0]),(2001,.fzs 0 1 (d0.map L2))] (.s r):=by
 unfold Ev5 at hF;refine cr 14 func161 ?_;refine jd 5 ?_;obtain⟨hb2,hF⟩:=O1 hF;refine do1 4 (ck hb2) ?_;obtain⟨x2,e2,hF⟩:=bnd hF;refine G9 5 (H8 (o:=usd (d0.map L2) 0 ((d0.map L2).length:Int)) [.str x2] (by kernel_rfl) (by kernel_rfl) (usm (f:=L2) (fun _=>rfl) e2) ?_);refine je 1 ?_;cases hF;exact jrr 0
def De4(d0:List UInt8):Option (Int×Bool×List Int):=
 (Fj6).bind fun y1=>
 (app [] (d0.map toI)).bind fun l1=>
 some ((d0.length:Int),false,l1)
noncomputable abbrev Gu5:=C0 f160
theorem Cl8{d0}{r}(hF:De4 d0=some r):
 M4 prog 160 [(2000,.box 224 [.d .nilp,.esl 1])] [.ptr 2000 0,.s d0] [(2000,.box 224 [.ptr 2000 0,.suf 2001 0 0]),(2001,.buf 0 5 1 (r.2.2.map L2))] (.tup [.i r.1,.d (.ife r.2.1)]):=by
 unfold De4 at hF;refine cr 19 func160 ?_;obtain⟨y1,e1,hF⟩:=bnd hF;refine jcr 8 [(2000,2000)] (De9 e1) ?_;obtain⟨l1,e2,hF⟩:=bnd hF;refine B5 9 (G0 (o:=Gb8 [] (d0.map Aj9)) (l1.map L2) (by kernel_rfl) (ams (f:=L2) (fun _=>rfl) e2) ?_);refine ja 11 (S0:=[(4,.i (d0.length:Int)),(5,.d (.ife false))]) (O0:=[(14,.buf 0 5 1 (l1.map L2)),(2000,.box 224 [.ptr 2000 0,.suf 14 0 0])]) (T0:=[kC Gu5 31]) ?_;refine B5 0 (Ay1 [(2000,2000),(14,2001)] (by kernel_rfl) (by kernel_rfl) (by kernel_rfl) (by kernel_rfl) ?_);cases hF;exact jrr 0
def Q0(d0:A5):Nat->Int->(List Int)->Option (List UInt8)
 |0,_,_=>none
 |nL1+1,v2,l2=>
  bif decide (v2>=0) then
   ((C2 d0.mag v2).bind fun y12=>
   (Ej8 (i64.wrap y12)).bind fun y13=>
   bif decide (v2<(i64.wrap (((d0.mag.map A6).length:Int)-1))) then
    (ass (decide (0<=(y13.length:Int))&&decide ((y13.length:Int)<=([48,48,48,48,48,48,48,48,48].length:Int))&&decide (([48,48,48,48,48,48,48,48,48].length:Int)<=[48,48,48,48,48,48,48,48,48].length))<|
    (Cl7 (([48,48,48,48,48,48,48,48,48].drop (Int.toNat (y13.length:Int))).take (Int.toNat (([48,48,48,48,48,48,48,48,48].length:Int)-(y13.length:Int)))) l2).bind fun y14=>
    (Cl7 y13 y14.2.2).bind fun y15=>
    (Q0 d0 nL1) (i64.wrap (v2-1)) y15.2.2)
   else
    ((Cl7 y13 l2).bind fun y16=>
    (Q0 d0 nL1) (i64.wrap (v2-1)) y16.2.2))
  else
   ((Ev5 l2).bind fun y17=>
   some y17)
def Ao5(d0:A5):Nat->Int->(List Int)->Option (List UInt8)
 |0,_,_=>none
 |nL2+1,v5,l5=>
  bif decide (v5>=0) then
   ((C2 d0.mag v5).bind fun y39=>
   (Ej8 (i64.wrap y39)).bind fun y40=>
   bif decide (v5<(i64.wrap (((d0.mag.map A6).length:Int)-1))) then
    (ass (decide (0<=(y40.length:Int))&&decide ((y40.length:Int)<=([48,48,48,48,48,48,48,48,48].length:Int))&&decide (([48,48,48,48,48,48,48,48,48].length:Int)<=[48,48,48,48,48,48,48,48,48].length))<|
    (Cl7 (([48,48,48,48,48,48,48,48,48].drop (Int.toNat (y40.length:Int))).take (Int.toNat (([48,48,48,48,48,48,48,48,48].length:Int)-(y40.length:Int)))) l5).bind fun y41=>
    (Cl7 y40 y41.2.2).bind fun y42=>
    (Ao5 d0 nL2) (i64.wrap (v5-1)) y42.2.2)
   else
    ((Cl7 y40 l5).bind fun y43=>
    (Ao5 d0 nL2) (i64.wrap (v5-1)) y43.2.2))
  else
   ((Ev5 l5).bind fun y44=>
   some y44)
def Ao6(d0:A5):Nat->Int->(List Int)->Option (List UInt8)
 |0,_,_=>none
 |nL3+1,v7,l7=>
  bif decide (v7>=0) then
   ((C2 d0.mag v7).bind fun y56=>
   (Ej8 (i64.wrap y56)).bind fun y57=>
   bif decide (v7<(i64.wrap (((d0.mag.map A6).length:Int)-1))) then
    (ass (decide (0<=(y57.length:Int))&&decide ((y57.length:Int)<=([48,48,48,48,48,48,48,48,48].length:Int))&&decide (([48,48,48,48,48,48,48,48,48].length:Int)<=[48,48,48,48,48,48,48,48,48].length))<|
    (Cl7 (([48,48,48,48,48,48,48,48,48].drop (Int.toNat (y57.length:Int))).take (Int.toNat (([48,48,48,48,48,48,48,48,48].length:Int)-(y57.length:Int)))) l7).bind fun y58=>
    (Cl7 y57 y58.2.2).bind fun y59=>
    (Ao6 d0 nL3) (i64.wrap (v7-1)) y59.2.2)
   else
    ((Cl7 y57 l7).bind fun y60=>
    (Ao6 d0 nL3) (i64.wrap (v7-1)) y60.2.2))
  else
   ((Ev5 l7).bind fun y61=>
   some y61)
def Ek1(fuel:Nat)(d0:A5):Option (List UInt8):=
 bif ((d0.mag.map A6).length:Int)==0 then
  (some [48])
 else
  (bif d0.neg then
   ((Ga0 45).bind fun y1=>
   Q0 d0 fuel (i64.wrap (((d0.mag.map A6).length:Int)-1)) y1.2)
  else
   (bif decide ((i64.wrap (((d0.mag.map A6).length:Int)-1))>=0) then
    ((C2 d0.mag (i64.wrap (((d0.mag.map A6).length:Int)-1))).bind fun y25=>
    (Ej8 (i64.wrap y25)).bind fun y26=>
    bif decide ((i64.wrap (((d0.mag.map A6).length:Int)-1))<(i64.wrap (((d0.mag.map A6).length:Int)-1))) then
     (ass (decide (0<=(y26.length:Int))&&decide ((y26.length:Int)<=([48,48,48,48,48,48,48,48,48].length:Int))&&decide (([48,48,48,48,48,48,48,48,48].length:Int)<=[48,48,48,48,48,48,48,48,48].length))<|
     (De4 (([48,48,48,48,48,48,48,48,48].drop (Int.toNat (y26.length:Int))).take (Int.toNat (([48,48,48,48,48,48,48,48,48].length:Int)-(y26.length:Int))))).bind fun y27=>
     (Cl7 y26 y27.2.2).bind fun y28=>
     Ao5 d0 fuel (i64.wrap ((i64.wrap (((d0.mag.map A6).length:Int)-1))-1)) y28.2.2)
    else
     ((De4 y26).bind fun y45=>
     Ao6 d0 fuel (i64.wrap ((i64.wrap (((d0.mag.map A6).length:Int)-1))-1)) y45.2.2))
   else
    (none)))
noncomputable abbrev Br3:=C0 f127
abbrev Gf6(r:List UInt8):=GJ prog 41 f127 (.s r)
theorem Ax0{fuel}{d0}{r}(hF:Ek1 fuel d0=some r):
 C1 prog 127 [.agg [.b d0.neg,.l 1 d0.mag A6]] (.s r):=by
 refine cf 41 func127 ?_;refine jI 13 9 hF ?_ ?_<;>intro hF
 .cases hF;exact jr 5
 .refine jI 12 11 hF ?_ ?_<;>intro hF
  .obtain⟨y1,e1,hF⟩:=bnd hF;refine jcr 2 [(3,2000),(12,2001)] (Ev4 e1) ?_;have hL1:∀nL1 v2 l2,Q0 d0 nL1 v2 l2=some r->Gf6 r ⟨mkT [(1,.ptr 1 0),(3,.ptr 3 0),(4,.i v2)],[(1,.box 98 [.b d0.neg,.l 1 d0.mag A6]),(3,.box 224 [.ptr 3 0,.suf 12 0 0]),(12,.buf 0 5 1 (l2.map L2))],[kL Br3 500,.inBlock 0,kC Br3 63]⟩:=by
    clear hF;refine lpI (fun _ _ h=>by cases h) fun nL1 iL1 v2 l2 hF=> ?_
    refine jI 7 18 hF ?_ ?_<;>intro hF
    .obtain⟨y12,e12,hF⟩:=bnd hF;refine jo1 9 (gm' A6 e12) ?_;refine jB 2 hF Ao0 fun y13 hF=> ?_
     refine jI 12 33 hF ?_ ?_<;>intro hF
     .obtain⟨hb11,hF⟩:=O1 hF;refine jo1 4 (ck hb11) ?_;obtain⟨y14,e14,hF⟩:=bnd hF;refine jcr 0 [(3,2000),(12,2001)] (V0 e14) ?_;refine ja 1 (S0:=[(1,.ptr 1 0),(3,.ptr 3 0),(4,.i v2),(5,.s y13)]) (O0:=[(1,.box 98 [.b d0.neg,.l 1 d0.mag A6]),(3,.box 224 [.ptr 3 0,.suf 12 0 0]),(12,.buf 0 5 1 (y14.2.2.map L2))]) (T0:=[kC Br3 16019,.inBlock 1,kC Br3 2003,kL Br3 500,.inBlock 0,kC Br3 63]) ?_;obtain⟨y15,e15,hF⟩:=bnd hF;refine jcr 2 [(3,2000),(12,2001)] (V0 e15) ?_;exact ja 7 (iL1 _ _ hF)
     .obtain⟨y16,e16,hF⟩:=bnd hF;refine jcr 4 [(3,2000),(12,2001)] (V0 e16) ?_;exact ja 7 (iL1 _ _ hF)
    .obtain⟨y17,e17,hF⟩:=bnd hF;refine jcr 4 [(3,2000),(12,2001)] (Cd4 e17) ?_;cases hF;exact jr 2
   exact ja 12 (hL1 _ _ _ hF)
  .refine jI 20 18 hF ?_ ?_<;>intro hF
   .obtain⟨y25,e25,hF⟩:=bnd hF;refine jo1 9 (gm' A6 e25) ?_;refine jB 2 hF Ao0 fun y26 hF=> ?_
    refine jI 12 33 hF ?_ ?_<;>intro hF
    .obtain⟨hb20,hF⟩:=O1 hF;refine jo1 4 (ck hb20) ?_;obtain⟨y27,e27,hF⟩:=bnd hF;refine jcr 0 [(3,2000),(37,2001)] (Cl8 e27) ?_;obtain⟨y28,e28,hF⟩:=bnd hF;refine jcr 3 [(3,2000),(37,2001)] (V0 e28) ?_;have hL2:∀nL2 v5 l5,Ao5 d0 nL2 v5 l5=some r->Gf6 r ⟨mkT [(1,.ptr 1 0),(3,.ptr 3 0),(4,.i v5)],[(1,.box 98 [.b d0.neg,.l 1 d0.mag A6]),(3,.box 224 [.ptr 3 0,.suf 37 0 0]),(37,.buf 0 5 1 (l5.map L2))],[kL Br3 500,.inBlock 0,kC Br3 63]⟩:=by
      clear hF;refine lpI (fun _ _ h=>by cases h) fun nL2 iL2 v5 l5 hF=> ?_
      refine jI 7 18 hF ?_ ?_<;>intro hF
      .obtain⟨y39,e39,hF⟩:=bnd hF;refine jo1 9 (gm' A6 e39) ?_;refine jB 2 hF Ao0 fun y40 hF=> ?_
       refine jI 12 33 hF ?_ ?_<;>intro hF
       .obtain⟨hb29,hF⟩:=O1 hF;refine jo1 4 (ck hb29) ?_;obtain⟨y41,e41,hF⟩:=bnd hF;refine jcr 0 [(3,2000),(37,2001)] (V0 e41) ?_;refine ja 1 (S0:=[(1,.ptr 1 0),(3,.ptr 3 0),(4,.i v5),(5,.s y40)]) (O0:=[(1,.box 98 [.b d0.neg,.l 1 d0.mag A6]),(3,.box 224 [.ptr 3 0,.suf 37 0 0]),(37,.buf 0 5 1 (y41.2.2.map L2))]) (T0:=[kC Br3 16019,.inBlock 1,kC Br3 2003,kL Br3 500,.inBlock 0,kC Br3 63]) ?_;obtain⟨y42,e42,hF⟩:=bnd hF;refine jcr 2 [(3,2000),(37,2001)] (V0 e42) ?_;exact ja 7 (iL2 _ _ hF)
       .obtain⟨y43,e43,hF⟩:=bnd hF;refine jcr 4 [(3,2000),(37,2001)] (V0 e43) ?_;exact ja 7 (iL2 _ _ hF)
      .obtain⟨y44,e44,hF⟩:=bnd hF;refine jcr 4 [(3,2000),(37,2001)] (Cd4 e44) ?_;cases hF;exact jr 2
     exact ja 7 (hL2 _ _ _ hF)
    .obtain⟨y45,e45,hF⟩:=bnd hF;refine jcr 4 [(3,2000),(39,2001)] (Cl8 e45) ?_;have hL3:∀nL3 v7 l7,Ao6 d0 nL3 v7 l7=some r->Gf6 r ⟨mkT [(1,.ptr 1 0),(3,.ptr 3 0),(4,.i v7)],[(1,.box 98 [.b d0.neg,.l 1 d0.mag A6]),(3,.box 224 [.ptr 3 0,.suf 39 0 0]),(39,.buf 0 5 1 (l7.map L2))],[kL Br3 500,.inBlock 0,kC Br3 63]⟩:=by
      clear hF;refine lpI (fun _ _ h=>by cases h) fun nL3 iL3 v7 l7 hF=> ?_
      refine jI 7 18 hF ?_ ?_<;>intro hF
      .obtain⟨y56,e56,hF⟩:=bnd hF;refine jo1 9 (gm' A6 e56) ?_;refine jB 2 hF Ao0 fun y57 hF=> ?_
       refine jI 12 33 hF ?_ ?_<;>intro hF
       .obtain⟨hb38,hF⟩:=O1 hF;refine jo1 4 (ck hb38) ?_;obtain⟨y58,e58,hF⟩:=bnd hF;refine jcr 0 [(3,2000),(39,2001)] (V0 e58) ?_;refine ja 1 (S0:=[(1,.ptr 1 0),(3,.ptr 3 0),(4,.i v7),(5,.s y57)]) (O0:=[(1,.box 98 [.b d0.neg,.l 1 d0.mag A6]),(3,.box 224 [.ptr 3 0,.suf 39 0 0]),(39,.buf 0 5 1 (y58.2.2.map L2))]) (T0:=[kC Br3 16019,.inBlock 1,kC Br3 2003,kL Br3 500,.inBlock 0,kC Br3 63]) ?_;obtain⟨y59,e59,hF⟩:=bnd hF;refine jcr 2 [(3,2000),(39,2001)] (V0 e59) ?_;exact ja 7 (iL3 _ _ hF)
       .obtain⟨y60,e60,hF⟩:=bnd hF;refine jcr 4 [(3,2000),(39,2001)] (V0 e60) ?_;exact ja 7 (iL3 _ _ hF)
      .obtain⟨y61,e61,hF⟩:=bnd hF;refine jcr 4 [(3,2000),(39,2001)] (Cd4 e61) ?_;cases hF;exact jr 2
     exact ja 7 (hL3 _ _ _ hF)
   .cases hF
def F87(fuel:Nat)(d0:A7):Option (List UInt8):=
 (Fz7 d0).bind fun y1=>
 bif y1 then
  ((Ek1 fuel d0.n_).bind fun y2=>
  some y2)
 else
  ((Ek1 fuel d0.n_).bind fun y5=>
  ass (decide (y5.length+[47].length<=4611686018427387904))<|
  (Ek1 fuel d0.d).bind fun y6=>
  ass (decide ((y5++[47]).length+y6.length<=4611686018427387904))<|
  some ((y5++[47])++y6))
theorem Fp6{fuel}{d0}{r}(hF:F87 fuel d0=some r):
 C1 prog 87 [.agg [.b d0.n_.neg,.l 1 d0.n_.mag A6,.b d0.d.neg,.l 1 d0.d.mag A6]] (.s r):=by
 refine cf 16 func87 ?_;refine jB 9 hF Eu3 fun y1 hF=> ?_
 refine jI 1 4 hF ?_ ?_<;>intro hF
 .refine jB 5 hF Ax0 fun y2 hF=> ?_
  cases hF;exact jr 2
 .refine jd 3 ?_;refine dB 2 hF Ax0 fun y5 hF=> ?_
  obtain⟨hb4,hF⟩:=O1 hF;refine do1 0 (ck hb4) ?_;refine dB 2 hF Ax0 fun y6 hF=> ?_
  obtain⟨hb5,hF⟩:=O1 hF;refine do1 0 (ck hb5) ?_;refine je 1 ?_;cases hF;exact jr 0
structure D0 where
 Num:A7
 e:Int
 deriving DecidableEq
def Ag9(v3:Int):Option Int:=
 some v3
def Ao7(y1:List UInt8):Nat->Int->Option Int
 |0,_=>none
 |nL2+1,v5=>
  bif decide (v5<(((y1.map toI).map L2).length:Int)) then
   ((C2 (y1.map toI) v5).bind fun y12=>
   (
    bif decide (y12<48) then
     (some true)
    else
     (some (decide (y12>57)))).bind fun o8=>
   bif o8 then
    (Ag9 5)
   else
    ((Ao7 y1 nL2) (i64.wrap (v5+1))))
  else
   (bif decide ((y1.length:Int)>2000) then
    (Ag9 6)
   else
    (Ag9 0))
def Ek3(fuel:Nat)(d0:List UInt8):Option Int:=
 (Fj3 d0 [45]).bind fun y1=>
 bif d0==[48] then
  (Ag9 0)
 else
  ((
   bif y1==[] then
    (some true)
   else
    ((C2 y1 0).bind fun y13=>
    some ((y13.toNat:Int)==48))).bind fun o5=>
  bif o5 then
   (Ag9 5)
  else
   (Ao7 y1 fuel 0))
noncomputable abbrev Bu0:=C0 f133
abbrev Gb5(r:Int):=GJ prog 38 f133 (.i r)
theorem Bk4{fuel}{d0}{r}(hF:Ek3 fuel d0=some r):
 C1 prog 133 [.s d0] (.i r):=by
 refine cf 38 func133 ?_;refine jB 8 hF Dd3 fun y1 hF=> ?_
 have hA1:∀v3,Ag9 v3=some r->Gb5 r ⟨mkT [(4,.i v3)],[],[kC Bu0 111,.inScope (cAt Bu0 [1,0])]⟩:=by
  intro v3 hF;unfold Ag9 at hF;cases hF;exact jr 5
 refine jI 16 26 hF ?_ ?_<;>intro hF
 .exact ja 3 (hA1 _ hF)
 .obtain⟨o5,hO,hF⟩:=bnd hF;have hR5:Gb5 r ⟨mkT [(3,.s y1),(4,.i 0),(29,.b o5)],[],[kO Bu0 1766,kC Bu0 1767,.inBlock 0,kC Bu0 111,.inScope (cAt Bu0 [1,0])]⟩:=by
   clear hO;refine jI 1 29 hF ?_ ?_<;>intro hF
   .exact ja 5 (hA1 _ hF)
   .refine B5 5 (G0 (o:=some (y1.map Aj9)) ((y1.map toI).map L2) (by kernel_rfl) (bym (f:=L2) (fun _=>rfl)) ?_);have hL2:∀nL2 v5,Ao7 y1 nL2 v5=some r->Gb5 r ⟨mkT [(3,.s y1),(4,.i 0),(10,.l 1 (y1.map toI) L2),(11,.i (((y1.map toI).map L2).length:Int)),(12,.i v5)],[],[kL Bu0 56564,.inBlock 1,kC Bu0 7071,.inBlock 0,kC Bu0 111,.inScope (cAt Bu0 [1,0])]⟩:=by
     clear hF;refine lpI (fun _ h=>by cases h) fun nL2 iL2 v5 hF=> ?_
     refine jI 6 13 hF ?_ ?_<;>intro hF
     .obtain⟨y12,e12,hF⟩:=bnd hF;refine jo1 6 (gm' L2 e12) ?_;obtain⟨o8,hO,hF⟩:=bnd hF;have hR8:Gb5 r ⟨mkT [(3,.s y1),(4,.i 0),(10,.l 1 (y1.map toI) L2),(11,.i (((y1.map toI).map L2).length:Int)),(12,.i v5),(21,.b o8)],[],[kO Bu0 3620146,kC Bu0 3620147,.inBlock 2,kC Bu0 452519,kL Bu0 56564,.inBlock 1,kC Bu0 7071,.inBlock 0,kC Bu0 111,.inScope (cAt Bu0 [1,0])]⟩:=by
       clear hO;refine jI 1 21 hF ?_ ?_<;>intro hF
       .exact ja 6 (hA1 _ hF)
       .exact ja 7 (iL2 _ hF)
      clear hF;rename _=some o8=>hF
      refine jI 8 18 hF ?_ ?_<;>intro hF
      .cases hF;exact ja 3 hR8
      .cases hF;exact ja 3 hR8
     .refine jI 8 25 hF ?_ ?_<;>intro hF
      .exact ja 5 (hA1 _ hF)
      .exact ja 3 (hA1 _ hF)
    exact ja 5 (hL2 _ _ hF)
  clear hF;rename _=some o5=>hF
  refine jI 6 32 hF ?_ ?_<;>intro hF
  .cases hF;exact ja 5 hR5
  .obtain⟨y13,e13,hF⟩:=bnd hF;refine jo1 1 (gs e13) ?_;cases hF;exact ja 3 hR5
def Ek4(d0:A7):Option (A5×A5):=
 some (d0.n_,d0.d)
theorem Cd0{d0}{r}(hF:Ek4 d0=some r):
 C1 prog 134 [.agg [.b d0.n_.neg,.l 1 d0.n_.mag A6,.b d0.d.neg,.l 1 d0.d.mag A6]] (.tup [.agg [.b r.1.neg,.l 1 r.1.mag A6],.agg [.b r.2.neg,.l 1 r.2.mag A6]]):=by
 unfold Ek4 at hF;refine cf 8 func134 ?_;refine jd 7 ?_;refine je 6 ?_;cases hF;exact jr 0
def F96(fuel:Nat)(d0:List UInt8):Option D0:=
 (F97 d0 [47]).bind fun y1=>
 bif !y1.2.2 then
  ((
   (Ek3 fuel y1.1).bind fun y19=>
   bif y19==5 then
    (some true)
   else
    ((Ek3 fuel [49]).bind fun y20=>
    some (y20==5))).bind fun o1=>
  bif o1 then
   (some (⟨(⟨(⟨false,[]⟩:A5),(⟨false,[]⟩:A5)⟩:A7),5⟩:D0))
  else
   ((F48 fuel d0).bind fun y6=>
   (Ek4 y6).bind fun y7=>
   (F99 fuel 1).bind fun y8=>
   (
    bif y1.2.2 then
     ((Dy9 fuel y7.2 y8).bind fun y16=>
     bif decide (y16<=0) then
      (some true)
     else
      ((Eu5 fuel y7.1 y7.2).bind fun y17=>
      (Dy9 fuel y17 y8).bind fun y18=>
      some (y18 !=0)))
    else
     (some false)).bind fun o2=>
   bif o2 then
    (some (⟨(⟨(⟨false,[]⟩:A5),(⟨false,[]⟩:A5)⟩:A7),5⟩:D0))
   else
    ((Eu6 y6 2000).bind fun y15=>
    bif !y15 then
     (some (⟨(⟨(⟨false,[]⟩:A5),(⟨false,[]⟩:A5)⟩:A7),6⟩:D0))
    else
     (some (⟨y6,0⟩:D0)))))
 else
  ((
   (Ek3 fuel y1.1).bind fun y38=>
   bif y38==5 then
    (some true)
   else
    ((Ek3 fuel y1.2.1).bind fun y39=>
    some (y39==5))).bind fun o3=>
  bif o3 then
   (some (⟨(⟨(⟨false,[]⟩:A5),(⟨false,[]⟩:A5)⟩:A7),5⟩:D0))
  else
   ((F48 fuel d0).bind fun y25=>
   (Ek4 y25).bind fun y26=>
   (F99 fuel 1).bind fun y27=>
   (
    bif y1.2.2 then
     ((Dy9 fuel y26.2 y27).bind fun y35=>
     bif decide (y35<=0) then
      (some true)
     else
      ((Eu5 fuel y26.1 y26.2).bind fun y36=>
      (Dy9 fuel y36 y27).bind fun y37=>
      some (y37 !=0)))
    else
     (some false)).bind fun o4=>
   bif o4 then
    (some (⟨(⟨(⟨false,[]⟩:A5),(⟨false,[]⟩:A5)⟩:A7),5⟩:D0))
   else
    ((Eu6 y25 2000).bind fun y34=>
    bif !y34 then
     (some (⟨(⟨(⟨false,[]⟩:A5),(⟨false,[]⟩:A5)⟩:A7),6⟩:D0))
    else
     (some (⟨y25,0⟩:D0)))))
noncomputable abbrev b96:=C0 f96
abbrev G96(r:D0):=GJ prog 61 f96 (.agg [.b r.Num.n_.neg,.l 1 r.Num.n_.mag A6,.b r.Num.d.neg,.l 1 r.Num.d.mag A6,.i r.e])
theorem Dh0{fuel}{d0}{r}(hF:F96 fuel d0=some r):
 C1 prog 96 [.s d0] (.agg [.b r.Num.n_.neg,.l 1 r.Num.n_.mag A6,.b r.Num.d.neg,.l 1 r.Num.d.mag A6,.i r.e]):=by
 refine cf 61 func96 ?_;refine jB 7 hF El7 fun y1 hF=> ?_
 refine jI 14 17 hF ?_ ?_<;>intro hF
 .obtain⟨o1,hO,hF⟩:=bnd hF;have hR1:G96 r ⟨mkT [(0,.s d0),(2,.ptr 2 0),(5,.b y1.2.2),(25,.b o1)],[(2,.box 158 [.b false,.esl 1,.b false,.esl 1,.i 0])],[kO b96 60,kC b96 61,kC b96 31]⟩:=by
   clear hO;refine jI 1 25 hF ?_ ?_<;>intro hF
   .cases hF;exact jr 6
   .refine jB 5 hF Bs0 fun y6 hF=> ?_
    refine jB 8 hF Cd0 fun y7 hF=> ?_
    refine jB 10 hF Bh3 fun y8 hF=> ?_
    obtain⟨o2,hO,hF⟩:=bnd hF;have hR2:G96 r ⟨mkT [(2,.ptr 2 0),(6,.ptr 6 0),(37,.b o2)],[(2,.box 158 [.b false,.esl 1,.b false,.esl 1,.i 0]),(6,.box 158 [.b y6.n_.neg,.l 1 y6.n_.mag A6,.b y6.d.neg,.l 1 y6.d.mag A6,.i 0])],[kC b96 2041,.inBlock 0,kC b96 511]⟩:=by
     clear hO;refine jI 0 37 hF ?_ ?_<;>intro hF
     .cases hF;exact jr 6
     .refine jB 5 hF Cd2 fun y15 hF=> ?_
      refine jI 3 54 hF ?_ ?_<;>intro hF
      .cases hF;exact jr 6
      .cases hF;exact jr 8
    clear hF;rename _=some o2=>hF
    refine jd 6 ?_;refine dI 2 39 hF ?_ ?_<;>intro hF
    .refine dB 2 hF Aw3 fun y16 hF=> ?_
     refine dI 2 44 hF ?_ ?_<;>intro hF
     .refine je 9 ?_;cases hF;exact ja 0 hR2
     .refine dB 2 hF Cd1 fun y17 hF=> ?_
      refine dB 1 hF Aw3 fun y18 hF=> ?_
      refine je 4 ?_;cases hF;exact ja 0 hR2
    .refine je 14 ?_;cases hF;exact ja 0 hR2
  clear hF;rename _=some o1=>hF
  refine jB 8 hF Bk4 fun y19 hF=> ?_
  refine jI 2 21 hF ?_ ?_<;>intro hF
  .cases hF;exact ja 4 hR1
  .refine jB 1 hF Bk4 fun y20 hF=> ?_
   cases hF;exact ja 2 hR1
 .obtain⟨o3,hO,hF⟩:=bnd hF;have hR3:G96 r ⟨mkT [(0,.s d0),(2,.ptr 2 0),(5,.b y1.2.2),(25,.b o3)],[(2,.box 158 [.b false,.esl 1,.b false,.esl 1,.i 0])],[kO b96 60,kC b96 61,kC b96 31]⟩:=by
   clear hO;refine jI 1 25 hF ?_ ?_<;>intro hF
   .cases hF;exact jr 6
   .refine jB 5 hF Bs0 fun y25 hF=> ?_
    refine jB 8 hF Cd0 fun y26 hF=> ?_
    refine jB 10 hF Bh3 fun y27 hF=> ?_
    obtain⟨o4,hO,hF⟩:=bnd hF;have hR4:G96 r ⟨mkT [(2,.ptr 2 0),(6,.ptr 6 0),(37,.b o4)],[(2,.box 158 [.b false,.esl 1,.b false,.esl 1,.i 0]),(6,.box 158 [.b y25.n_.neg,.l 1 y25.n_.mag A6,.b y25.d.neg,.l 1 y25.d.mag A6,.i 0])],[kC b96 2041,.inBlock 0,kC b96 511]⟩:=by
     clear hO;refine jI 0 37 hF ?_ ?_<;>intro hF
     .cases hF;exact jr 6
     .refine jB 5 hF Cd2 fun y34 hF=> ?_
      refine jI 3 54 hF ?_ ?_<;>intro hF
      .cases hF;exact jr 6
      .cases hF;exact jr 8
    clear hF;rename _=some o4=>hF
    refine jd 6 ?_;refine dI 2 39 hF ?_ ?_<;>intro hF
    .refine dB 2 hF Aw3 fun y35 hF=> ?_
     refine dI 2 44 hF ?_ ?_<;>intro hF
     .refine je 9 ?_;cases hF;exact ja 0 hR4
     .refine dB 2 hF Cd1 fun y36 hF=> ?_
      refine dB 1 hF Aw3 fun y37 hF=> ?_
      refine je 4 ?_;cases hF;exact ja 0 hR4
    .refine je 14 ?_;cases hF;exact ja 0 hR4
  clear hF;rename _=some o3=>hF
  refine jB 6 hF Bk4 fun y38 hF=> ?_
  refine jI 2 21 hF ?_ ?_<;>intro hF
  .cases hF;exact ja 4 hR3
  .refine jB 1 hF Bk4 fun y39 hF=> ?_
   cases hF;exact ja 2 hR3
def F47(fuel:Nat)(d0:List UInt8):Option Int:=
 (F96 fuel d0).bind fun y1=>
 some y1.e
theorem Fo4{fuel}{d0}{r}(hF:F47 fuel d0=some r):
 C1 prog 47 [.s d0] (.i r):=by
 refine cf 6 func47 ?_;refine jB 7 hF Dh0 fun y1 hF=> ?_
 cases hF;exact jr 3
def Fn1(fuel:Nat)(d0:List UInt8):Option Bool:=
 (F96 fuel d0).bind fun y1=>
 (
  bif y1.e==0 then
   ((Eu6 y1.Num 4).bind fun y4=>
   some y4)
  else
   (some false)).bind fun o1=>
 some o1
noncomputable abbrev Go5:=C0 f191
abbrev Gs9(r:Bool):=GJ prog 14 f191 (.b r)
theorem Ew6{fuel}{d0}{r}(hF:Fn1 fuel d0=some r):
 C1 prog 191 [.s d0] (.b r):=by
 refine cf 14 func191 ?_;refine jB 7 hF Dh0 fun y1 hF=> ?_
 obtain⟨o1,hO,hF⟩:=bnd hF;have hR1:Gs9 r ⟨mkT [(2,.b o1)],[],[kO Go5 14,kC Go5 15]⟩:=by
  clear hO;cases hF;exact jr 1
 clear hF;rename _=some o1=>hF
 refine jI 9 9 hF ?_ ?_<;>intro hF
 .refine jB 2 hF Cd2 fun y4 hF=> ?_
  cases hF;exact ja 2 hR1
 .cases hF;exact ja 5 hR1
def Gf1(fuel:Nat)(d0:List UInt8):Option (List UInt8×List UInt8×Int):=
 (F96 fuel d0).bind fun y1=>
 bif y1.e !=0 then
  (some ([],[],y1.e))
 else
  ((Ek4 y1.Num).bind fun y2=>
  (Ek1 fuel y2.1).bind fun y5=>
  (Ek1 fuel y2.2).bind fun y6=>
  some (y5,y6,0))
theorem Ey1{fuel}{d0}{r}(hF:Gf1 fuel d0=some r):
 C1 prog 251 [.s d0] (.tup [.s r.1,.s r.2.1,.i r.2.2]):=by
 refine cf 25 func251 ?_;refine jB 9 hF Dh0 fun y1 hF=> ?_
 refine jI 10 12 hF ?_ ?_<;>intro hF
 .refine jd 2 ?_;refine je 5 ?_;cases hF;exact jr 0
 .refine jB 6 hF Cd0 fun y2 hF=> ?_
  refine jd 9 ?_;refine dB 1 hF Ax0 fun y5 hF=> ?_
  refine dB 1 hF Ax0 fun y6 hF=> ?_
  refine je 3 ?_;cases hF;exact jr 0
end
section
def Bg2(d0:List (List UInt8))(d1:List (List UInt8)):Nat->Int->Option Bool
 |0,_=>none
 |nL1+1,v2=>
  bif decide (v2<((d0.map e_s).length:Int)) then
   ((C2 d0 v2).bind fun y5=>
   (C2 d1 v2).bind fun y6=>
   bif !(y5==y6) then
    (some false)
   else
    ((Bg2 d0 d1 nL1) (i64.wrap (v2+1))))
  else
   (some true)
def F25(fuel:Nat)(d0:List (List UInt8))(d1:List (List UInt8)):Option Bool:=
 bif ((d0.map e_s).length:Int) !=((d1.map e_s).length:Int) then
  (some false)
 else
  (Bg2 d0 d1 fuel 0)
noncomputable abbrev b25:=C0 f25
abbrev G25(r:Bool):=GJ prog 26 f25 (.b r)
theorem Fo0{fuel}{d0}{d1}{r}(hF:F25 fuel d0 d1=some r):
 C1 prog 25 [.l 1 d0 e_s,.l 1 d1 e_s] (.b r):=by
 refine cf 26 func25 ?_;refine jI 13 10 hF ?_ ?_<;>intro hF
 .cases hF;exact jr 5
 .have hL1:∀nL1 v2,Bg2 d0 d1 nL1 v2=some r->G25 r ⟨mkT [(0,.l 1 d0 e_s),(1,.l 1 d1 e_s),(5,.i v2)],[],[kL b25 116,.inBlock 0,kC b25 15]⟩:=by
   clear hF;refine lpI (fun _ h=>by cases h) fun nL1 iL1 v2 hF=> ?_
   refine jI 9 14 hF ?_ ?_<;>intro hF
   .refine jd 5 ?_;obtain⟨y5,e5,hF⟩:=bnd hF;refine do1 2 (gm' e_s e5) ?_;obtain⟨y6,e6,hF⟩:=bnd hF;refine do1 3 (gm' e_s e6) ?_;refine je 2 ?_;refine jI 0 25 hF ?_ ?_<;>intro hF
    .cases hF;exact jr 5
    .exact ja 8 (iL1 _ hF)
   .cases hF;exact jr 6
  exact ja 9 (hL1 _ _ hF)
def F64(d0:Int):Option (List UInt8):=
 (Ej8 d0).bind fun y1=>
 some y1
theorem Ab5{d0}{r}(hF:F64 d0=some r):
 C1 prog 64 [.i d0] (.s r):=by
 refine cf 5 func64 ?_;refine jB 7 hF Ao0 fun y1 hF=> ?_
 cases hF;exact jr 2
def Fm6(d0:List UInt8):Option (Int×Bool):=Eb9 d0
theorem Dd9{d0:List UInt8}{r:Int×Bool}(hF:Fm6 d0=some r):C1 prog 151 [.d (.str d0)] (.tup [.d (.int .i64 r.1),.d (.ife r.2)]):=Cy0 (gs:=1) (gr:=2) (by kernel_rfl) (by kernel_rfl) Tryz.strconv_Atoi_ok Tryz.strconv_Atoi_bad Tryz.strconv_Atoi_range hF
def Et8(d0:List UInt8)(d1:List UInt8):Option (Int×Int×Bool):=
 (
  bif decide ((d0.length:Int)>9) then
   (some true)
  else
   (some (decide ((d1.length:Int)>9)))).bind fun o1=>
 bif o1 then
  (some (0,0,false))
 else
  ((Fm6 d0).bind fun y1=>
  (Fm6 d1).bind fun y2=>
  some (y1.1,y2.1,true))
noncomputable abbrev Gh5:=C0 f111
abbrev Gr6(r:Int×Int×Bool):=GJ prog 31 f111 (.tup [.i r.1,.i r.2.1,.b r.2.2])
theorem Bk1{d0}{d1}{r}(hF:Et8 d0 d1=some r):
 C1 prog 111 [.s d0,.s d1] (.tup [.i r.1,.i r.2.1,.b r.2.2]):=by
 refine cf 31 func111 ?_;obtain⟨o1,hO,hF⟩:=bnd hF;have hR1:Gr6 r ⟨mkT [(0,.s d0),(1,.s d1),(18,.b o1)],[],[kO Gh5 12,kC Gh5 13,kC Gh5 7]⟩:=by
  clear hO;refine jI 1 18 hF ?_ ?_<;>intro hF
  .cases hF;exact jr 7
  .refine jB 5 hF Dd9 fun y1 hF=> ?_
   refine jB 9 hF Dd9 fun y2 hF=> ?_
   cases hF;exact jr 14
 clear hF;rename _=some o1=>hF
 refine jI 13 14 hF ?_ ?_<;>intro hF
 .cases hF;exact ja 4 hR1
 .cases hF;exact ja 4 hR1
def A3(x:Int):List Dat:=[.int .i64 x]
def Ax4:Nat->(List Int)->Option (List Int)
 |0,_=>none
 |nL1+1,l4=>
  (
   bif decide (((l4.map A3).length:Int)>0) then
    ((C2 l4 (i64.wrap (((l4.map A3).length:Int)-1))).bind fun y9=>
    some (y9==0))
   else
    (some false)).bind fun o3=>
  bif o3 then
   ((slc l4 0 (i64.wrap (((l4.map A3).length:Int)-1))).bind fun l5=>
   (Ax4 nL1) l5)
  else
   (some l4)
def Dz3(fuel:Nat)(d0:List Int):Option (List Int):=
 Ax4 fuel d0
noncomputable abbrev Fa6:=C0 f152
abbrev Gm7(r:List Int):=GJ prog 21 f152 (.l 1 r A3)
theorem Ap2{fuel}{d0}{r}(hF:Dz3 fuel d0=some r):
 C1 prog 152 [.l 1 d0 A3] (.l 1 r A3):=by
 unfold Dz3 at hF;refine cf 21 func152 ?_;have hL1:∀nL1 l4,Ax4 nL1 l4=some r->Gm7 r ⟨mkT [(0,.l 1 l4 A3)],[],[kL Fa6 24,.inBlock 0,kC Fa6 7]⟩:=by
  clear hF;refine lpI (fun _ h=>by cases h) fun nL1 iL1 l4 hF=> ?_
  obtain⟨o3,hO,hF⟩:=bnd hF;have hR3:Gm7 r ⟨mkT [(0,.l 1 l4 A3),(14,.b o3)],[],[kO Fa6 96,kC Fa6 97,kC Fa6 49,kL Fa6 24,.inBlock 0,kC Fa6 7]⟩:=by
   clear hO;refine jI 1 14 hF ?_ ?_<;>intro hF
   .obtain⟨l5,e11,hF⟩:=bnd hF;refine jo2 8 (sm' A3 e11) ?_;exact ja 3 (iL1 _ hF)
   .cases hF;exact jr 7
  clear hF;rename _=some o3=>hF
  refine jI 8 6 hF ?_ ?_<;>intro hF
  .obtain⟨y9,e12,hF⟩:=bnd hF;refine jo1 4 (gm' A3 e12) ?_;cases hF;exact ja 3 hR3
  .cases hF;exact ja 8 hR3
 exact ja 7 (hL1 _ _ hF)
def Aw6(d0:List UInt8)(l4:List Int)(v10:Int)(cL1:Int->(List Int)->Option (List Int)):Nat->Int->Int->Option (List Int)
 |0,_,_=>none
 |nL2+1,v13,v14=>
  bif decide (v14<v10) then
   ((C2 ((d0.drop (Int.toNat 1)).take (Int.toNat ((d0.length:Int)-1))) v14).bind fun y10=>
   (Aw6 d0 l4 v10 cL1 nL2) (i64.wrap ((i64.wrap (10*v13))+(i64.wrap (IntKind.u8.wrap ((y10.toNat:Int)-48))))) (i64.wrap (v14+1)))
  else
   ((app l4 [v13]).bind fun l5=>
   cL1 (i64.wrap (v10-4)) l5)
def Ao1(fuel:Nat)(d0:List UInt8):Nat->Int->(List Int)->Option (List Int)
 |0,_,_=>none
 |nL1+1,v10,l4=>
  bif decide (v10>0) then
   (Aw6 d0 l4 v10 (Ao1 fuel d0 nL1) fuel 0 (bif decide ((i64.wrap (v10-4))>0) then(i64.wrap (v10-4)) else 0))
  else
   ((Dz3 fuel l4).bind fun y11=>
   some y11)
def Aa5(d0:List UInt8)(l9:List Int)(v24:Int)(cL3:Int->(List Int)->Option (List Int)):Nat->Int->Int->Option (List Int)
 |0,_,_=>none
 |nL4+1,v27,v28=>
  bif decide (v28<v24) then
   ((C2 d0 v28).bind fun y20=>
   (Aa5 d0 l9 v24 cL3 nL4) (i64.wrap ((i64.wrap (10*v27))+(i64.wrap (IntKind.u8.wrap ((y20.toNat:Int)-48))))) (i64.wrap (v28+1)))
  else
   ((app l9 [v27]).bind fun l10=>
   cL3 (i64.wrap (v24-4)) l10)
def U6(fuel:Nat)(d0:List UInt8):Nat->Int->(List Int)->Option (List Int)
 |0,_,_=>none
 |nL3+1,v24,l9=>
  bif decide (v24>0) then
   (Aa5 d0 l9 v24 (U6 fuel d0 nL3) fuel 0 (bif decide ((i64.wrap (v24-4))>0) then(i64.wrap (v24-4)) else 0))
  else
   ((Dz3 fuel l9).bind fun y21=>
   some y21)
def Cc0(fuel:Nat)(d0:List UInt8):Option (List Int):=
 (C2 d0 0).bind fun y1=>
 bif (y1.toNat:Int)==45 then
  (ass (decide (0<=1)&&decide (1<=(d0.length:Int))&&decide ((d0.length:Int)<=d0.length))<|
  Ao1 fuel d0 fuel (((d0.drop (Int.toNat 1)).take (Int.toNat ((d0.length:Int)-1))).length:Int) [])
 else
  (U6 fuel d0 fuel (d0.length:Int) [])
noncomputable abbrev Cn8:=C0 f115
abbrev Gb4(r:List Int):=GJ prog 40 f115 (.l 1 r A3)
theorem N9{fuel}{d0}{r}(hF:Cc0 fuel d0=some r):
 C1 prog 115 [.s d0] (.l 1 r A3):=by
 refine cf 40 func115 ?_;obtain⟨y1,e1,hF⟩:=bnd hF;refine jo1 8 (gs e1) ?_;refine jI 2 9 hF ?_ ?_<;>intro hF
 .obtain⟨hb2,hF⟩:=O1 hF;refine jo1 3 (ck hb2) ?_;have hL1:∀nL1 v10 l4,Ao1 fuel d0 nL1 v10 l4=some r->Gb4 r ⟨mkT [(0,.s ((d0.drop (Int.toNat 1)).take (Int.toNat ((d0.length:Int)-1)))),(3,.suf 37 0 0),(4,.i v10)],[(37,.buf 0 3 1 (l4.map A3))],[kL Cn8 244,.inBlock 0,kC Cn8 31]⟩:=by
   clear hF;refine lpI (fun _ _ h=>by cases h) fun nL1 iL1 v10 l4 hF=> ?_
   refine jI 7 15 hF ?_ ?_<;>intro hF
   .have hL2:∀nL2 v13 v14,Aw6 d0 l4 v10 (Ao1 fuel d0 nL1) nL2 v13 v14=some r->Gb4 r ⟨mkT [(0,.s ((d0.drop (Int.toNat 1)).take (Int.toNat ((d0.length:Int)-1)))),(3,.suf 37 0 0),(4,.i v10),(5,.i v13),(6,.i v14)],[(37,.buf 0 3 1 (l4.map A3))],[kL Cn8 62612,.inBlock 2,kC Cn8 7827,.inBlock 1,kC Cn8 979,kL Cn8 244,.inBlock 0,kC Cn8 31]⟩:=by
     clear hF;refine lpI (fun _ _ h=>by cases h) fun nL2 iL2 v13 v14 hF=> ?_
     refine jI 8 23 hF ?_ ?_<;>intro hF
     .obtain⟨y10,e12,hF⟩:=bnd hF;refine jo1 9 (gs e12) ?_;exact ja 11 (iL2 _ _ hF)
     .obtain⟨l5,e13,hF⟩:=bnd hF;refine jo2 6 (am' A3 e13) ?_;exact ja 8 (iL1 _ _ hF)
    exact ja 18 (hL2 _ _ _ hF)
   .refine jB 5 hF Ap2 fun y11 hF=> ?_
    cases hF;exact jr 2
  refine B5 15 (At7 (n:=1) 3 37 3 1 (by kernel_rfl) (by kernel_rfl) ?_);exact ja 0 (hL1 _ _ _ hF)
 .have hL3:∀nL3 v24 l9,U6 fuel d0 nL3 v24 l9=some r->Gb4 r ⟨mkT [(0,.s d0),(3,.suf 37 0 0),(4,.i v24)],[(37,.buf 0 3 1 (l9.map A3))],[kL Cn8 244,.inBlock 0,kC Cn8 31]⟩:=by
   clear hF;refine lpI (fun _ _ h=>by cases h) fun nL3 iL3 v24 l9 hF=> ?_
   refine jI 7 15 hF ?_ ?_<;>intro hF
   .have hL4:∀nL4 v27 v28,Aa5 d0 l9 v24 (U6 fuel d0 nL3) nL4 v27 v28=some r->Gb4 r ⟨mkT [(0,.s d0),(3,.suf 37 0 0),(4,.i v24),(5,.i v27),(6,.i v28)],[(37,.buf 0 3 1 (l9.map A3))],[kL Cn8 62612,.inBlock 2,kC Cn8 7827,.inBlock 1,kC Cn8 979,kL Cn8 244,.inBlock 0,kC Cn8 31]⟩:=by
     clear hF;refine lpI (fun _ _ h=>by cases h) fun nL4 iL4 v27 v28 hF=> ?_
     refine jI 8 23 hF ?_ ?_<;>intro hF
     .obtain⟨y20,e25,hF⟩:=bnd hF;refine jo1 9 (gs e25) ?_;exact ja 11 (iL4 _ _ hF)
     .obtain⟨l10,e26,hF⟩:=bnd hF;refine jo2 6 (am' A3 e26) ?_;exact ja 8 (iL3 _ _ hF)
    exact ja 18 (hL4 _ _ _ hF)
   .refine jB 5 hF Ap2 fun y21 hF=> ?_
    cases hF;exact jr 2
  refine B5 15 (At7 (n:=1) 3 37 3 1 (by kernel_rfl) (by kernel_rfl) ?_);exact ja 0 (hL3 _ _ _ hF)
def Aa4(d0:List Int)(d1:List Int)(v10:Int)(cL1:Int->(List Int)->Option (List Int)):Nat->Int->Int->(List Int)->Option (List Int)
 |0,_,_,_=>none
 |nL2+1,v13,v14,l25=>
  (
   bif decide (v14<((d1.map A3).length:Int)) then
    (some true)
   else
    (some (decide (v13>0)))).bind fun o9=>
  bif o9 then
   ((C2 l25 (i64.wrap (v10+v14))).bind fun y41=>
   bif decide (v14<((d1.map A3).length:Int)) then
    ((C2 d0 v10).bind fun y42=>
    (C2 d1 v14).bind fun y43=>
    (C2 l25 (i64.wrap (v10+v14))).bind fun y44=>
    (some (l25.set (0+Int.toNat (i64.wrap (v10+v14))) (Int.tmod (i64.wrap ((i64.wrap (y41+v13))+(i64.wrap (y42*y43)))) 10000))).bind fun l26=>
    (Aa4 d0 d1 v10 cL1 nL2) (i64.wrap (Int.tdiv (i64.wrap ((i64.wrap (y41+v13))+(i64.wrap (y42*y43)))) 10000)) (i64.wrap (v14+1)) l26)
   else
    ((C2 l25 (i64.wrap (v10+v14))).bind fun y45=>
    (some (l25.set (0+Int.toNat (i64.wrap (v10+v14))) (Int.tmod (i64.wrap (y41+v13)) 10000))).bind fun l27=>
    (Aa4 d0 d1 v10 cL1 nL2) (i64.wrap (Int.tdiv (i64.wrap (y41+v13)) 10000)) (i64.wrap (v14+1)) l27))
  else
   (cL1 (i64.wrap (v10+1)) l25)
def Aa3(fuel:Nat)(d0:List Int)(d1:List Int):Nat->Int->(List Int)->Option (List Int)
 |0,_,_=>none
 |nL1+1,v10,l19=>
  bif decide (v10<((d0.map A3).length:Int)) then
   (Aa4 d0 d1 v10 (Aa3 fuel d0 d1 nL1) fuel 0 0 l19)
  else
   ((Dz3 fuel l19).bind fun y46=>
   some y46)
def Ej9(fuel:Nat)(d0:List Int)(d1:List Int):Option (List Int):=
 (mkL (i64.wrap (((d0.map A3).length:Int)+((d1.map A3).length:Int))) (i64.wrap (((d0.map A3).length:Int)+((d1.map A3).length:Int))) 0).bind fun l1=>
 Aa3 fuel d0 d1 fuel 0 l1
noncomputable abbrev Cy1:=C0 f114
abbrev Gf5(r:List Int):=GJ prog 66 f114 (.l 1 r A3)
theorem Cc8{fuel}{d0}{d1}{r}(hF:Ej9 fuel d0 d1=some r):
 C1 prog 114 [.l 1 d0 A3,.l 1 d1 A3] (.l 1 r A3):=by
 refine cf 66 func114 ?_;obtain⟨l1,e1,hF⟩:=bnd hF;refine jo2 11 (mm' A3 e1) ?_;have hL1:∀nL1 v10 l19,Aa3 fuel d0 d1 nL1 v10 l19=some r->Gf5 r ⟨mkT [(0,.l 1 d0 A3),(1,.l 1 d1 A3),(5,.suf 15 0 0),(6,.i v10)],[(15,.buf 0 3 1 (l19.map A3))],[kL Cy1 116,.inBlock 0,kC Cy1 15]⟩:=by
  clear hF;refine lpI (fun _ _ h=>by cases h) fun nL1 iL1 v10 l19 hF=> ?_
  refine jI 9 19 hF ?_ ?_<;>intro hF
  .have hL2:∀nL2 v13 v14 l25,Aa4 d0 d1 v10 (Aa3 fuel d0 d1 nL1) nL2 v13 v14 l25=some r->Gf5 r ⟨mkT [(0,.l 1 d0 A3),(1,.l 1 d1 A3),(5,.suf 15 0 0),(6,.i v10),(7,.i v13),(8,.i v14)],[(15,.buf 0 3 1 (l25.map A3))],[kL Cy1 14924,.inBlock 2,.inBlock 1,kC Cy1 467,kL Cy1 116,.inBlock 0,kC Cy1 15]⟩:=by
    clear hF;refine lpI (fun _ _ _ h=>by cases h) fun nL2 iL2 v13 v14 l25 hF=> ?_
    obtain⟨o9,hO,hF⟩:=bnd hF;have hR9:Gf5 r ⟨mkT [(0,.l 1 d0 A3),(1,.l 1 d1 A3),(5,.suf 15 0 0),(6,.i v10),(7,.i v13),(8,.i v14),(29,.b o9)],[(15,.buf 0 3 1 (l25.map A3))],[kO Cy1 59696,kC Cy1 59697,kC Cy1 29849,kL Cy1 14924,.inBlock 2,.inBlock 1,kC Cy1 467,kL Cy1 116,.inBlock 0,kC Cy1 15]⟩:=by
     clear hO;refine jI 1 29 hF ?_ ?_<;>intro hF
     .obtain⟨y41,e58,hF⟩:=bnd hF;refine jo1 10 (gm' A3 e58) ?_;refine jo1 0 (gjm (f:=A3) (gj e58)) ?_;refine jI 12 43 hF ?_ ?_<;>intro hF
      .refine jd 1 ?_;obtain⟨y42,e59,hF⟩:=bnd hF;refine do1 3 (gm' A3 e59) ?_;obtain⟨y43,e60,hF⟩:=bnd hF;refine do1 3 (gm' A3 e60) ?_;refine je 4 ?_;obtain⟨y44,e61,hF⟩:=bnd hF;refine jo1 8 (gm' A3 e61) ?_;obtain⟨l26,e62,hF⟩:=bnd hF;have hst:=stm (f:=A3) (z:=Int.tmod (i64.wrap ((i64.wrap (y41+v13))+(i64.wrap (y42*y43)))) 10000) (k:=0) (xs:=[.int .i64 (Int.tmod (i64.wrap ((i64.wrap (y41+v13))+(i64.wrap (y42*y43)))) 10000)]) (gj e61) rfl;refine B5 0 (G0 (o:=(match(l25.map A3)[0+Int.toNat (i64.wrap (v10+v14))]? with|some old=>some ((l25.map A3).set (0+Int.toNat (i64.wrap (v10+v14))) (Z1 old 0 [.int .i64 (Int.tmod (i64.wrap ((i64.wrap (y41+v13))+(i64.wrap (y42*y43)))) 10000)]))|none=>none)) (l26.map A3) (by kernel_rfl) (by cases e62;exact hst) ?_);exact ja 12 (iL2 _ _ _ hF)
      .obtain⟨y45,e63,hF⟩:=bnd hF;refine jo1 10 (gm' A3 e63) ?_;obtain⟨l27,e64,hF⟩:=bnd hF;have hst:=stm (f:=A3) (z:=Int.tmod (i64.wrap (y41+v13)) 10000) (k:=0) (xs:=[.int .i64 (Int.tmod (i64.wrap (y41+v13)) 10000)]) (gj e63) rfl;refine B5 0 (G0 (o:=(match(l25.map A3)[0+Int.toNat (i64.wrap (v10+v14))]? with|some old=>some ((l25.map A3).set (0+Int.toNat (i64.wrap (v10+v14))) (Z1 old 0 [.int .i64 (Int.tmod (i64.wrap (y41+v13)) 10000)]))|none=>none)) (l27.map A3) (by kernel_rfl) (by cases e64;exact hst) ?_);exact ja 12 (iL2 _ _ _ hF)
     .exact ja 8 (iL1 _ _ hF)
    clear hF;rename _=some o9=>hF
    refine jI 9 26 hF ?_ ?_<;>intro hF
    .cases hF;exact ja 3 hR9
    .cases hF;exact ja 3 hR9
   exact ja 14 (hL2 _ _ _ _ hF)
  .refine jB 5 hF Ap2 fun y46 hF=> ?_
   cases hF;exact jr 2
 exact ja 9 (hL1 _ _ _ hF)
def Ao2(d0:List Int)(d1:List Int):Nat->Int->Option Int
 |0,_=>none
 |nL1+1,v2=>
  bif decide (v2>=0) then
   ((C2 d0 v2).bind fun y9=>
   (C2 d1 v2).bind fun y10=>
   bif y9 !=y10 then
    ((C2 d0 v2).bind fun y11=>
    (C2 d1 v2).bind fun y12=>
    bif decide (y11<y12) then
     (some (-1))
    else
     (some 1))
   else
    ((Ao2 d0 d1 nL1) (i64.wrap (v2-1))))
  else
   (some 0)
def Eu0(fuel:Nat)(d0:List Int)(d1:List Int):Option Int:=
 bif ((d0.map A3).length:Int) !=((d1.map A3).length:Int) then
  (bif decide (((d0.map A3).length:Int)<((d1.map A3).length:Int)) then
   (some (-1))
  else
   (some 1))
 else
  (Ao2 d0 d1 fuel (i64.wrap (((d0.map A3).length:Int)-1)))
noncomputable abbrev Gn7:=C0 f118
abbrev Gr9(r:Int):=GJ prog 41 f118 (.i r)
theorem Bk3{fuel}{d0}{d1}{r}(hF:Eu0 fuel d0 d1=some r):
 C1 prog 118 [.l 1 d0 A3,.l 1 d1 A3] (.i r):=by
 refine cf 41 func118 ?_;refine jI 13 10 hF ?_ ?_<;>intro hF
 .refine jI 10 15 hF ?_ ?_<;>intro hF
  .cases hF;exact jr 5
  .cases hF;exact jr 6
 .have hL1:∀nL1 v2,Ao2 d0 d1 nL1 v2=some r->Gr9 r ⟨mkT [(0,.l 1 d0 A3),(1,.l 1 d1 A3),(5,.i v2)],[],[kL Gn7 116,.inBlock 0,kC Gn7 15]⟩:=by
   clear hF;refine lpI (fun _ h=>by cases h) fun nL1 iL1 v2 hF=> ?_
   refine jI 7 20 hF ?_ ?_<;>intro hF
   .refine jd 5 ?_;obtain⟨y9,e9,hF⟩:=bnd hF;refine do1 2 (gm' A3 e9) ?_;obtain⟨y10,e10,hF⟩:=bnd hF;refine do1 3 (gm' A3 e10) ?_;refine je 2 ?_;refine jI 0 31 hF ?_ ?_<;>intro hF
    .refine jd 3 ?_;obtain⟨y11,e11,hF⟩:=bnd hF;refine do1 2 (gm' A3 e11) ?_;obtain⟨y12,e12,hF⟩:=bnd hF;refine do1 3 (gm' A3 e12) ?_;refine je 2 ?_;refine jI 0 40 hF ?_ ?_<;>intro hF
     .cases hF;exact jr 5
     .cases hF;exact jr 6
    .exact ja 8 (iL1 _ hF)
   .cases hF;exact jr 6
  exact ja 12 (hL1 _ _ hF)
def U7(fuel:Nat)(d0:List Int)(d1:List Int):Nat->Int->Int->(List Int)->Option (List Int)
 |0,_,_,_=>none
 |nL1+1,v3,v4,l10=>
  bif decide (v4<((d0.map A3).length:Int)) then
   ((C2 d0 v4).bind fun y5=>
   bif decide (v4<((d1.map A3).length:Int)) then
    ((C2 d1 v4).bind fun y6=>
    bif decide ((i64.wrap ((i64.wrap (y5-v3))-y6))<0) then
     ((app l10 [i64.wrap ((i64.wrap ((i64.wrap (y5-v3))-y6))+10000)]).bind fun l11=>
     (U7 fuel d0 d1 nL1) 1 (i64.wrap (v4+1)) l11)
    else
     ((app l10 [i64.wrap ((i64.wrap (y5-v3))-y6)]).bind fun l12=>
     (U7 fuel d0 d1 nL1) 0 (i64.wrap (v4+1)) l12))
   else
    (bif decide ((i64.wrap (y5-v3))<0) then
     ((app l10 [i64.wrap ((i64.wrap (y5-v3))+10000)]).bind fun l13=>
     (U7 fuel d0 d1 nL1) 1 (i64.wrap (v4+1)) l13)
    else
     ((app l10 [i64.wrap (y5-v3)]).bind fun l14=>
     (U7 fuel d0 d1 nL1) 0 (i64.wrap (v4+1)) l14)))
  else
   ((Dz3 fuel l10).bind fun y7=>
   some y7)
def Eu2(fuel:Nat)(d0:List Int)(d1:List Int):Option (List Int):=
 U7 fuel d0 d1 fuel 0 0 []
noncomputable abbrev Gn8:=C0 f120
abbrev Gs0(r:List Int):=GJ prog 41 f120 (.l 1 r A3)
theorem Cc9{fuel}{d0}{d1}{r}(hF:Eu2 fuel d0 d1=some r):
 C1 prog 120 [.l 1 d0 A3,.l 1 d1 A3] (.l 1 r A3):=by
 unfold Eu2 at hF;refine cf 41 func120 ?_;have hL1:∀nL1 v3 v4 l10,U7 fuel d0 d1 nL1 v3 v4 l10=some r->Gs0 r ⟨mkT [(0,.l 1 d0 A3),(1,.l 1 d1 A3),(5,.suf 38 0 0),(6,.i v3),(7,.i v4)],[(38,.buf 0 3 1 (l10.map A3))],[kL Gn8 244,.inBlock 0,kC Gn8 31]⟩:=by
  clear hF;refine lpI (fun _ _ _ h=>by cases h) fun nL1 iL1 v3 v4 l10 hF=> ?_
  refine jI 9 12 hF ?_ ?_<;>intro hF
  .obtain⟨y5,e13,hF⟩:=bnd hF;refine jo1 8 (gm' A3 e13) ?_;refine jI 13 24 hF ?_ ?_<;>intro hF
   .obtain⟨y6,e14,hF⟩:=bnd hF;refine jo1 5 (gm' A3 e14) ?_;refine jI 14 32 hF ?_ ?_<;>intro hF
    .obtain⟨l11,e15,hF⟩:=bnd hF;refine jo2 14 (am' A3 e15) ?_;exact ja 8 (iL1 _ _ _ hF)
    .obtain⟨l12,e16,hF⟩:=bnd hF;refine jo2 6 (am' A3 e16) ?_;exact ja 8 (iL1 _ _ _ hF)
   .refine jI 12 32 hF ?_ ?_<;>intro hF
    .obtain⟨l13,e17,hF⟩:=bnd hF;refine jo2 14 (am' A3 e17) ?_;exact ja 8 (iL1 _ _ _ hF)
    .obtain⟨l14,e18,hF⟩:=bnd hF;refine jo2 6 (am' A3 e18) ?_;exact ja 8 (iL1 _ _ _ hF)
  .refine jB 5 hF Ap2 fun y7 hF=> ?_
   cases hF;exact jr 2
 refine B5 19 (At7 (n:=1) 5 38 3 1 (by kernel_rfl) (by kernel_rfl) ?_);exact ja 0 (hL1 _ _ _ _ hF)
def Ah1(v92:Int)(cL3:Int->Int->Int->Option (List Int×List Int))(v93:Int)(v94:Int):Option (List Int×List Int):=
 cL3 v93 v94 (i64.wrap (v92-1))
def Ax5(v66:Int)(cL1:(List Int)->Int->(List Int)->Option (List Int×List Int))(l23:List Int)(l24:List Int):Option (List Int×List Int):=
 cL1 l23 (i64.wrap (v66-1)) l24
def Ah2(fuel:Nat)(d1:List Int)(l20:List Int)(v66:Int)(y147:List Int)(cL1:(List Int)->Int->(List Int)->Option (List Int×List Int)):Nat->Int->Int->Option (List Int×List Int)
 |0,_,_=>none
 |nL5+1,v97,v98=>
  bif decide (v97<v98) then
   ((Ej9 fuel d1 [i64.wrap (Int.tdiv (i64.wrap ((i64.wrap (v97+v98))+1)) 2)]).bind fun y170=>
   (Eu0 fuel y170 y147).bind fun y171=>
   bif decide (y171<=0) then
    ((Ah2 fuel d1 l20 v66 y147 cL1 nL5) (i64.wrap (Int.tdiv (i64.wrap ((i64.wrap (v97+v98))+1)) 2)) v98)
   else
    ((Ah2 fuel d1 l20 v66 y147 cL1 nL5) v97 (i64.wrap ((i64.wrap (Int.tdiv (i64.wrap ((i64.wrap (v97+v98))+1)) 2))-1))))
  else
   ((C2 l20 v66).bind fun y172=>
   (some (l20.set (0+Int.toNat v66) v97)).bind fun l26=>
   bif decide (v97>0) then
    ((Ej9 fuel d1 [v97]).bind fun y173=>
    (Eu2 fuel y147 y173).bind fun y174=>
    Ax5 v66 cL1 y174 l26)
   else
    (Ax5 v66 cL1 y147 l26))
def M5(fuel:Nat)(d1:List Int)(l20:List Int)(v66:Int)(y147:List Int)(cL1:(List Int)->Int->(List Int)->Option (List Int×List Int)):Nat->Int->Int->Int->Option (List Int×List Int)
 |0,_,_,_=>none
 |nL3+1,v90,v91,v92=>
  bif decide (v92>=(bif decide ((i64.wrap ((i64.wrap (((d1.map A3).length:Int)-1))-1))>0) then(i64.wrap ((i64.wrap (((d1.map A3).length:Int)-1))-1)) else 0)) then
   (bif decide (v92<((y147.map A3).length:Int)) then
    ((C2 y147 v92).bind fun y163=>
    bif decide (v92<=(i64.wrap (((d1.map A3).length:Int)-1))) then
     ((C2 d1 v92).bind fun y164=>
     Ah1 v92 (M5 fuel d1 l20 v66 y147 cL1 nL3) (i64.wrap ((i64.wrap (v90*10000))+y164)) (i64.wrap ((i64.wrap (v91*10000))+y163)))
    else
     (Ah1 v92 (M5 fuel d1 l20 v66 y147 cL1 nL3) v90 (i64.wrap ((i64.wrap (v91*10000))+y163))))
   else
    (bif decide (v92<=(i64.wrap (((d1.map A3).length:Int)-1))) then
     ((C2 d1 v92).bind fun y165=>
     Ah1 v92 (M5 fuel d1 l20 v66 y147 cL1 nL3) (i64.wrap ((i64.wrap (v90*10000))+y165)) (i64.wrap (v91*10000)))
    else
     (Ah1 v92 (M5 fuel d1 l20 v66 y147 cL1 nL3) v90 (i64.wrap (v91*10000)))))
  else
   (ass (decide ((i64.wrap (v90+1))≠0))<|
   ass (decide (v90≠0))<|
   Ah2 fuel d1 l20 v66 y147 cL1 fuel (i64.wrap (Int.tdiv v91 (i64.wrap (v90+1)))) (i64.wrap (Int.tdiv v91 v90)))
def U9(fuel:Nat)(d0:List Int)(d1:List Int):Nat->(List Int)->Int->(List Int)->Option (List Int×List Int)
 |0,_,_,_=>none
 |nL1+1,l19,v66,l20=>
  bif decide (v66>=0) then
   ((C2 d0 v66).bind fun y146=>
   (app [y146] l19).bind fun l25=>
   (Dz3 fuel l25).bind fun y147=>
   M5 fuel d1 l20 v66 y147 (U9 fuel d0 d1 nL1) fuel 0 0 (i64.wrap ((i64.wrap (((d1.map A3).length:Int)-1))+1)))
  else
   ((Dz3 fuel l20).bind fun y175=>
   some (y175,l19))
def Fm8(fuel:Nat)(d0:List Int)(d1:List Int):Option (List Int×List Int):=
 bif decide (((d0.map A3).length:Int)<=(i64.wrap (((d1.map A3).length:Int)-1))) then
  ((app [] d0).bind fun l1=>
  some ([],l1))
 else
  ((mkL (i64.wrap (((d0.map A3).length:Int)-(i64.wrap (((d1.map A3).length:Int)-1)))) (i64.wrap (((d0.map A3).length:Int)-(i64.wrap (((d1.map A3).length:Int)-1)))) 0).bind fun l2=>
  (slc d0 (i64.wrap (((d0.map A3).length:Int)-(i64.wrap (((d1.map A3).length:Int)-1)))) (d0.length:Int)).bind fun l3=>
  (app [] l3).bind fun l4=>
  U9 fuel d0 d1 fuel l4 (i64.wrap (((l2.map A3).length:Int)-1)) l2)
noncomputable abbrev Be3:=C0 f154
abbrev Fp8(r:List Int×List Int):=GJ prog 125 f154 (.tup [.l 1 r.1 A3,.l 1 r.2 A3])
theorem De1{fuel}{d0}{d1}{r}(hF:Fm8 fuel d0 d1=some r):
 C1 prog 154 [.l 1 d0 A3,.l 1 d1 A3] (.tup [.l 1 r.1 A3,.l 1 r.2 A3]):=by
 refine cf 125 func154 ?_;refine jI 20 22 hF ?_ ?_<;>intro hF
 .obtain⟨l1,e1,hF⟩:=bnd hF;refine jo2 5 (am' A3 e1) ?_;cases hF;exact jr 3
 .obtain⟨l2,e2,hF⟩:=bnd hF;refine jo2 8 (mm' A3 e2) ?_;obtain⟨l3,e3,hF⟩:=bnd hF;refine jo2 10 (smh (f:=A3) e3) ?_;obtain⟨l4,e4,hF⟩:=bnd hF;refine jo2 0 (am' A3 e4) ?_;have hL1:∀nL1 l19 v66 l20,U9 fuel d0 d1 nL1 l19 v66 l20=some r->Fp8 r ⟨mkT [(0,.l 1 d0 A3),(1,.l 1 d1 A3),(6,.i (i64.wrap (((d1.map A3).length:Int)-1))),(7,.suf 30 0 0),(8,.l 1 l19 A3),(9,.i v66)],[(30,.buf 0 3 1 (l20.map A3))],[kL Be3 1012,.inBlock 0,kC Be3 127]⟩:=by
   clear hF;refine lpI (fun _ _ _ h=>by cases h) fun nL1 iL1 l19 v66 l20 hF=> ?_
   refine jI 7 43 hF ?_ ?_<;>intro hF
   .have hA2:∀l23 l24,Ax5 v66 (U9 fuel d0 d1 nL1) l23 l24=some r->Fp8 r ⟨mkT [(0,.l 1 d0 A3),(1,.l 1 d1 A3),(6,.i (i64.wrap (((d1.map A3).length:Int)-1))),(7,.suf 30 0 0),(8,.l 1 l23 A3),(9,.i v66)],[(30,.buf 0 3 1 (l24.map A3))],[kC Be3 4051,kL Be3 1012,.inBlock 0,kC Be3 127]⟩:=by
     intro l23 l24 hF;unfold Ax5 at hF;exact ja 5 (iL1 _ _ _ hF)
    obtain⟨y146,e160,hF⟩:=bnd hF;refine jo1 8 (gm' A3 e160) ?_;obtain⟨l25,e161,hF⟩:=bnd hF;refine jo2 3 (am' A3 e161) ?_;refine jB 0 hF Ap2 fun y147 hF=> ?_
    have hL3:∀nL3 v90 v91 v92,M5 fuel d1 l20 v66 y147 (U9 fuel d0 d1 nL1) nL3 v90 v91 v92=some r->Fp8 r ⟨mkT [(0,.l 1 d0 A3),(1,.l 1 d1 A3),(6,.i (i64.wrap (((d1.map A3).length:Int)-1))),(7,.suf 30 0 0),(8,.l 1 y147 A3),(9,.i v66),(10,.i v90),(11,.i v91),(12,.i v92)],[(30,.buf 0 3 1 (l20.map A3))],[kL Be3 518452,.inBlock 2,kC Be3 64807,.inBlock 1,kC Be3 4051,kL Be3 1012,.inBlock 0,kC Be3 127]⟩:=by
     clear hF;refine lpI (fun _ _ _ h=>by cases h) fun nL3 iL3 v90 v91 v92 hF=> ?_
     refine jI 10 60 hF ?_ ?_<;>intro hF
     .have hA4:∀v93 v94,Ah1 v92 (M5 fuel d1 l20 v66 y147 (U9 fuel d0 d1 nL1) nL3) v93 v94=some r->Fp8 r ⟨mkT [(0,.l 1 d0 A3),(1,.l 1 d1 A3),(6,.i (i64.wrap (((d1.map A3).length:Int)-1))),(7,.suf 30 0 0),(8,.l 1 y147 A3),(9,.i v66),(10,.i v93),(11,.i v94),(12,.i v92)],[(30,.buf 0 3 1 (l20.map A3))],[kC Be3 2073811,kL Be3 518452,.inBlock 2,kC Be3 64807,.inBlock 1,kC Be3 4051,kL Be3 1012,.inBlock 0,kC Be3 127]⟩:=by
       intro v93 v94 hF;unfold Ah1 at hF;exact ja 5 (iL3 _ _ _ hF)
      refine jI 18 68 hF ?_ ?_<;>intro hF
      .obtain⟨y163,e178,hF⟩:=bnd hF;refine jo1 5 (gm' A3 e178) ?_;refine jI 10 77 hF ?_ ?_<;>intro hF
       .obtain⟨y164,e179,hF⟩:=bnd hF;refine jo1 6 (gm' A3 e179) ?_;exact ja 5 (hA4 _ _ hF)
       .exact ja 3 (hA4 _ _ hF)
      .refine jI 8 77 hF ?_ ?_<;>intro hF
       .obtain⟨y165,e180,hF⟩:=bnd hF;refine jo1 6 (gm' A3 e180) ?_;exact ja 5 (hA4 _ _ hF)
       .exact ja 3 (hA4 _ _ hF)
     .refine jd 3 ?_;obtain⟨hb176,hF⟩:=O1 hF;refine do1 3 (ck hb176) ?_;obtain⟨hb177,hF⟩:=O1 hF;refine do1 2 (ck hb177) ?_;refine je 2 ?_;have hL5:∀nL5 v97 v98,Ah2 fuel d1 l20 v66 y147 (U9 fuel d0 d1 nL1) nL5 v97 v98=some r->Fp8 r ⟨mkT [(0,.l 1 d0 A3),(1,.l 1 d1 A3),(6,.i (i64.wrap (((d1.map A3).length:Int)-1))),(7,.suf 30 0 0),(8,.l 1 y147 A3),(9,.i v66),(13,.i v97),(14,.i v98)],[(30,.buf 0 3 1 (l20.map A3))],[kL Be3 1036920,.inBlock 4,kC Be3 259231,.inBlock 1,kC Be3 4051,kL Be3 1012,.inBlock 0,kC Be3 127]⟩:=by
       clear hF;refine lpI (fun _ _ h=>by cases h) fun nL5 iL5 v97 v98 hF=> ?_
       refine jI 8 94 hF ?_ ?_<;>intro hF
       .refine jB 17 hF Cc8 fun y170 hF=> ?_
        refine jB 1 hF Bk3 fun y171 hF=> ?_
        refine jI 2 106 hF ?_ ?_<;>intro hF
        .exact ja 6 (iL5 _ _ hF)
        .exact ja 7 (iL5 _ _ hF)
       .obtain⟨y172,e187,hF⟩:=bnd hF;refine jo1 7 (gm' A3 e187) ?_;obtain⟨l26,e188,hF⟩:=bnd hF;have hst:=stm (f:=A3) (z:=v97) (k:=0) (xs:=[.int .i64 v97]) (gj e187) rfl;refine B5 0 (G0 (o:=(match(l20.map A3)[0+Int.toNat v66]? with|some old=>some ((l20.map A3).set (0+Int.toNat v66) (Z1 old 0 [.int .i64 v97]))|none=>none)) (l26.map A3) (by kernel_rfl) (by cases e188;exact hst) ?_);refine jI 6 115 hF ?_ ?_<;>intro hF
        .refine jB 6 hF Cc8 fun y173 hF=> ?_
         refine jB 0 hF Cc9 fun y174 hF=> ?_
         exact ja 3 (hA2 _ _ hF)
        .exact ja 3 (hA2 _ _ hF)
      exact ja 3 (hL5 _ _ _ hF)
    exact ja 16 (hL3 _ _ _ _ hF)
   .refine jB 5 hF Ap2 fun y175 hF=> ?_
    cases hF;exact jr 4
  refine B5 12 (Dh7 8 (by kernel_rfl) (by kernel_rfl) ?_);exact ja 0 (hL1 _ _ _ _ hF)
def Aw5(v9:Int)(cL2:Int->(List Int)->Option (List UInt8))(l34:List Int):Option (List UInt8):=
 cL2 (i64.wrap (Int.tdiv v9 10)) l34
def P9(d1:List Int)(v7:Int)(cL1:Int->(List Int)->Option (List UInt8)):Nat->Int->(List Int)->Option (List UInt8)
 |0,_,_=>none
 |nL2+1,v9,l32=>
  bif decide (v9>0) then
   ((C2 d1 v7).bind fun y18=>
   ass (decide (v9≠0))<|
   (
    bif decide (((l32.map L2).length:Int)>0) then
     (some true)
    else
     (some ((IntKind.u8.wrap (i64.wrap (48+(Int.tmod (i64.wrap (Int.tdiv y18 v9)) 10)))) !=48))).bind fun o16=>
   bif o16 then
    ((app l32 [IntKind.u8.wrap (i64.wrap (48+(Int.tmod (i64.wrap (Int.tdiv y18 v9)) 10)))]).bind fun l35=>
    Aw5 v9 (P9 d1 v7 cL1 nL2) l35)
   else
    (Aw5 v9 (P9 d1 v7 cL1 nL2) l32))
  else
   (cL1 (i64.wrap (v7-1)) l32)
def X4(fuel:Nat)(d0:Bool)(d1:List Int):Nat->Int->(List Int)->Option (List UInt8)
 |0,_,_=>none
 |nL1+1,v7,l24=>
  bif decide (v7>=0) then
   (P9 d1 v7 (X4 fuel d0 d1 nL1) fuel 1000 l24)
  else
   (bif d0 then
    (ass (decide ([45].length+(l24.map toB).length<=4611686018427387904))<|
    some ([45]++(l24.map toB)))
   else
    (some (l24.map toB)))
def Dz0(fuel:Nat)(d0:Bool)(d1:List Int):Option (List UInt8):=
 bif ((d1.map A3).length:Int)==0 then
  (some [48])
 else
  (X4 fuel d0 d1 fuel (i64.wrap (((d1.map A3).length:Int)-1)) [])
noncomputable abbrev Br2:=C0 f112
abbrev Gb3(r:List UInt8):=GJ prog 49 f112 (.s r)
theorem Ag8{fuel}{d0}{d1}{r}(hF:Dz0 fuel d0 d1=some r):
 C1 prog 112 [.b d0,.l 1 d1 A3] (.s r):=by
 refine cf 49 func112 ?_;refine jI 11 11 hF ?_ ?_<;>intro hF
 .cases hF;exact jr 5
 .have hL1:∀nL1 v7 l24,X4 fuel d0 d1 nL1 v7 l24=some r->Gb3 r ⟨mkT [(0,.b d0),(1,.l 1 d1 A3),(5,.suf 42 0 0),(6,.i v7)],[(42,.buf 0 5 1 (l24.map L2))],[kL Br2 244,.inBlock 0,kC Br2 31]⟩:=by
   clear hF;refine lpI (fun _ _ h=>by cases h) fun nL1 iL1 v7 l24 hF=> ?_
   refine jI 7 16 hF ?_ ?_<;>intro hF
   .have hL2:∀nL2 v9 l32,P9 d1 v7 (X4 fuel d0 d1 nL1) nL2 v9 l32=some r->Gb3 r ⟨mkT [(0,.b d0),(1,.l 1 d1 A3),(5,.suf 42 0 0),(6,.i v7),(7,.i v9)],[(42,.buf 0 5 1 (l32.map L2))],[kL Br2 15652,.inBlock 2,.inBlock 1,kC Br2 979,kL Br2 244,.inBlock 0,kC Br2 31]⟩:=by
     clear hF;refine lpI (fun _ _ h=>by cases h) fun nL2 iL2 v9 l32 hF=> ?_
     refine jI 7 20 hF ?_ ?_<;>intro hF
     .have hA3:∀l34,Aw5 v9 (P9 d1 v7 (X4 fuel d0 d1 nL1) nL2) l34=some r->Gb3 r ⟨mkT [(0,.b d0),(1,.l 1 d1 A3),(5,.suf 42 0 0),(6,.i v7),(7,.i v9)],[(42,.buf 0 5 1 (l34.map L2))],[kC Br2 62611,kL Br2 15652,.inBlock 2,.inBlock 1,kC Br2 979,kL Br2 244,.inBlock 0,kC Br2 31]⟩:=by
       intro l34 hF;unfold Aw5 at hF;exact ja 5 (iL2 _ _ hF)
      obtain⟨y18,e35,hF⟩:=bnd hF;refine jo1 8 (gm' A3 e35) ?_;obtain⟨hb90,hF⟩:=O1 hF;refine jo1 2 (ck hb90) ?_;obtain⟨o16,hO,hF⟩:=bnd hF;have hR16:Gb3 r ⟨mkT [(0,.b d0),(1,.l 1 d1 A3),(5,.suf 42 0 0),(6,.i v7),(7,.i v9),(8,.y (IntKind.u8.wrap (i64.wrap (48+(Int.tmod (i64.wrap (Int.tdiv y18 v9)) 10))))),(38,.b o16)],[(42,.buf 0 5 1 (l32.map L2))],[kO Br2 500882,kC Br2 500883,.inBlock 3,kC Br2 62611,kL Br2 15652,.inBlock 2,.inBlock 1,kC Br2 979,kL Br2 244,.inBlock 0,kC Br2 31]⟩:=by
       clear hO;refine jI 1 38 hF ?_ ?_<;>intro hF
       .obtain⟨l35,e36,hF⟩:=bnd hF;refine jo2 5 (am' L2 e36) ?_;exact ja 3 (hA3 _ hF)
       .exact ja 3 (hA3 _ hF)
      clear hF;rename _=some o16=>hF
      refine jI 11 35 hF ?_ ?_<;>intro hF
      .cases hF;exact ja 3 hR16
      .cases hF;exact ja 3 hR16
     .exact ja 8 (iL1 _ _ hF)
    exact ja 10 (hL2 _ _ _ hF)
   .refine jI 7 43 hF ?_ ?_<;>intro hF
    .refine B5 4 (J3 (o:=Fl5 (l24.map L2)) [.str (l24.map toB)] (by kernel_rfl) (Gr0 (fun _=>rfl) l24) ?_);obtain⟨hb96,hF⟩:=O1 hF;refine jo1 0 (ck hb96) ?_;cases hF;exact jr 2
    .refine B5 5 (J3 (o:=Fl5 (l24.map L2)) [.str (l24.map toB)] (by kernel_rfl) (Gr0 (fun _=>rfl) l24) ?_);cases hF;exact jr 2
  refine B5 16 (At7 (n:=1) 5 42 5 1 (by kernel_rfl) (by kernel_rfl) ?_);exact ja 0 (hL1 _ _ _ hF)
def Aw8:Nat->Int->Int->Option (List UInt8)
 |0,_,_=>none
 |nL1+1,v3,v4=>
  bif v4 !=0 then
   (ass (decide (v4≠0))<|
   (Aw8 nL1) v4 (Int.tmod v3 v4))
  else
   ((F64 (bif decide ((i64.wrap (0-v3))>v3) then(i64.wrap (0-v3)) else v3)).bind fun y2=>
   some y2)
def Aw9(fuel:Nat):Nat->(List Int)->(List Int)->Option (List UInt8)
 |0,_,_=>none
 |nL2+1,l3,l4=>
  bif decide (((l4.map A3).length:Int)>0) then
   ((Fm8 fuel l3 l4).bind fun y7=>
   (Aw9 fuel nL2) l4 y7.2)
  else
   ((Dz0 fuel false l3).bind fun y8=>
   some y8)
def Fm1(fuel:Nat)(d0:List UInt8)(d1:List UInt8):Option (List UInt8):=
 (Et8 d0 d1).bind fun y1=>
 bif y1.2.2 then
  (Aw8 fuel y1.1 y1.2.1)
 else
  ((Cc0 fuel d0).bind fun y3=>
  (Cc0 fuel d1).bind fun y4=>
  Aw9 fuel fuel y3 y4)
noncomputable abbrev Fs2:=C0 f123
abbrev Gm4(r:List UInt8):=GJ prog 50 f123 (.s r)
theorem Dc9{fuel}{d0}{d1}{r}(hF:Fm1 fuel d0 d1=some r):
 C1 prog 123 [.s d0,.s d1] (.s r):=by
 refine cf 50 func123 ?_;refine jB 9 hF Bk1 fun y1 hF=> ?_
 refine jI 12 20 hF ?_ ?_<;>intro hF
 .have hL1:∀nL1 v3 v4,Aw8 nL1 v3 v4=some r->Gm4 r ⟨mkT [(5,.i v3),(6,.i v4)],[],[kL Fs2 432,.inBlock 0,kC Fs2 109,kC Fs2 7]⟩:=by
   clear hF;refine lpI (fun _ _ h=>by cases h) fun nL1 iL1 v3 v4 hF=> ?_
   refine jI 7 22 hF ?_ ?_<;>intro hF
   .obtain⟨hb7,hF⟩:=O1 hF;refine jo1 7 (ck hb7) ?_;exact ja 12 (iL1 _ _ hF)
   .refine jB 8 hF Ab5 fun y2 hF=> ?_
    cases hF;exact jr 2
  exact ja 4 (hL1 _ _ _ hF)
 .refine jB 5 hF N9 fun y3 hF=> ?_
  refine jB 1 hF N9 fun y4 hF=> ?_
  have hL2:∀nL2 l3 l4,Aw9 fuel nL2 l3 l4=some r->Gm4 r ⟨mkT [(9,.l 1 l3 A3),(10,.l 1 l4 A3)],[],[kL Fs2 120,.inBlock 2,kC Fs2 31]⟩:=by
   clear hF;refine lpI (fun _ _ h=>by cases h) fun nL2 iL2 l3 l4 hF=> ?_
   refine jI 8 39 hF ?_ ?_<;>intro hF
   .refine jB 7 hF De1 fun y7 hF=> ?_
    exact ja 16 (iL2 _ _ hF)
   .refine jB 5 hF Ag8 fun y8 hF=> ?_
    cases hF;exact jr 2
  exact ja 6 (hL2 _ _ _ hF)
def Bk2(d0:List UInt8):Option Bool:=
 (C2 d0 0).bind fun y1=>
 some ((y1.toNat:Int)==45)
theorem L6{d0}{r}(hF:Bk2 d0=some r):
 C1 prog 113 [.s d0] (.b r):=by
 refine cf 6 func113 ?_;obtain⟨y1,e1,hF⟩:=bnd hF;refine jo1 7 (gs e1) ?_;cases hF;exact jr 3
def F92(d0:List UInt8):Option Int:=
 bif d0==[48] then
  (some 0)
 else
  ((Bk2 d0).bind fun y1=>
  bif y1 then
   (some (-1))
  else
   (some 1))
theorem Bh1{d0}{r}(hF:F92 d0=some r):
 C1 prog 92 [.s d0] (.i r):=by
 refine cf 7 func92 ?_;refine jI 10 4 hF ?_ ?_<;>intro hF
 .cases hF;exact jr 5
 .refine jB 6 hF L6 fun y1 hF=> ?_
  refine jI 1 6 hF ?_ ?_<;>intro hF
  .cases hF;exact jr 5
  .cases hF;exact jr 6
def Fm2(fuel:Nat)(d0:List UInt8):Option (List UInt8):=
 (Bk2 d0).bind fun y1=>
 (Cc0 fuel d0).bind fun y2=>
 (Dz0 fuel (!y1) y2).bind fun y3=>
 some y3
theorem Dd0{fuel}{d0}{r}(hF:Fm2 fuel d0=some r):
 C1 prog 128 [.s d0] (.s r):=by
 refine cf 9 func128 ?_;refine jB 7 hF L6 fun y1 hF=> ?_
 refine jB 2 hF N9 fun y2 hF=> ?_
 refine jB 0 hF Ag8 fun y3 hF=> ?_
 cases hF;exact jr 2
def R4(d0:List Int)(d1:List Int):Nat->Int->Int->(List Int)->Option (List Int)
 |0,_,_,_=>none
 |nL1+1,v3,v4,l10=>
  (
   bif decide (v4<((d0.map A3).length:Int)) then
    (some true)
   else
    (bif decide (v4<((d1.map A3).length:Int)) then
     (some true)
    else
     (some (decide (v3>0))))).bind fun o3=>
  bif o3 then
   (bif decide (v4<((d0.map A3).length:Int)) then
    ((C2 d0 v4).bind fun y7=>
    bif decide (v4<((d1.map A3).length:Int)) then
     ((C2 d1 v4).bind fun y8=>
     (app l10 [Int.tmod (i64.wrap ((i64.wrap (v3+y7))+y8)) 10000]).bind fun l11=>
     (R4 d0 d1 nL1) (i64.wrap (Int.tdiv (i64.wrap ((i64.wrap (v3+y7))+y8)) 10000)) (i64.wrap (v4+1)) l11)
    else
     ((app l10 [Int.tmod (i64.wrap (v3+y7)) 10000]).bind fun l12=>
     (R4 d0 d1 nL1) (i64.wrap (Int.tdiv (i64.wrap (v3+y7)) 10000)) (i64.wrap (v4+1)) l12))
   else
    (bif decide (v4<((d1.map A3).length:Int)) then
     ((C2 d1 v4).bind fun y9=>
     (app l10 [Int.tmod (i64.wrap (v3+y9)) 10000]).bind fun l13=>
     (R4 d0 d1 nL1) (i64.wrap (Int.tdiv (i64.wrap (v3+y9)) 10000)) (i64.wrap (v4+1)) l13)
    else
     ((app l10 [Int.tmod v3 10000]).bind fun l14=>
     (R4 d0 d1 nL1) (i64.wrap (Int.tdiv v3 10000)) (i64.wrap (v4+1)) l14)))
  else
   (some l10)
def Fl9(fuel:Nat)(d0:List Int)(d1:List Int):Option (List Int):=
 R4 d0 d1 fuel 0 0 []
noncomputable abbrev Fa3:=C0 f119
abbrev Gm2(r:List Int):=GJ prog 54 f119 (.l 1 r A3)
theorem Eu1{fuel}{d0}{d1}{r}(hF:Fl9 fuel d0 d1=some r):
 C1 prog 119 [.l 1 d0 A3,.l 1 d1 A3] (.l 1 r A3):=by
 unfold Fl9 at hF;refine cf 54 func119 ?_;have hL1:∀nL1 v3 v4 l10,R4 d0 d1 nL1 v3 v4 l10=some r->Gm2 r ⟨mkT [(0,.l 1 d0 A3),(1,.l 1 d1 A3),(5,.suf 50 0 0),(6,.i v3),(7,.i v4)],[(50,.buf 0 3 1 (l10.map A3))],[kL Fa3 244,.inBlock 0,kC Fa3 31]⟩:=by
  clear hF;refine lpI (fun _ _ _ h=>by cases h) fun nL1 iL1 v3 v4 l10 hF=> ?_
  obtain⟨o3,hO,hF⟩:=bnd hF;have hR3:Gm2 r ⟨mkT [(0,.l 1 d0 A3),(1,.l 1 d1 A3),(5,.suf 50 0 0),(6,.i v3),(7,.i v4),(22,.b o3)],[(50,.buf 0 3 1 (l10.map A3))],[kO Fa3 976,kC Fa3 977,kC Fa3 489,kL Fa3 244,.inBlock 0,kC Fa3 31]⟩:=by
   clear hO;refine jI 1 22 hF ?_ ?_<;>intro hF
   .refine jI 17 29 hF ?_ ?_<;>intro hF
    .obtain⟨y7,e15,hF⟩:=bnd hF;refine jo1 5 (gm' A3 e15) ?_;refine jI 12 39 hF ?_ ?_<;>intro hF
     .obtain⟨y8,e16,hF⟩:=bnd hF;refine jo1 5 (gm' A3 e16) ?_;obtain⟨l11,e17,hF⟩:=bnd hF;refine jo2 10 (am' A3 e17) ?_;exact ja 13 (iL1 _ _ _ hF)
     .obtain⟨l12,e18,hF⟩:=bnd hF;refine jo2 8 (am' A3 e18) ?_;exact ja 13 (iL1 _ _ _ hF)
    .refine jI 10 39 hF ?_ ?_<;>intro hF
     .obtain⟨y9,e19,hF⟩:=bnd hF;refine jo1 5 (gm' A3 e19) ?_;obtain⟨l13,e20,hF⟩:=bnd hF;refine jo2 10 (am' A3 e20) ?_;exact ja 13 (iL1 _ _ _ hF)
     .obtain⟨l14,e21,hF⟩:=bnd hF;refine jo2 8 (am' A3 e21) ?_;exact ja 13 (iL1 _ _ _ hF)
   .cases hF;exact jr 7
  clear hF;rename _=some o3=>hF
  refine jI 9 13 hF ?_ ?_<;>intro hF
  .cases hF;exact ja 9 hR3
  .refine jI 6 19 hF ?_ ?_<;>intro hF
   .cases hF;exact ja 3 hR3
   .cases hF;exact ja 3 hR3
 refine B5 19 (At7 (n:=1) 5 50 3 1 (by kernel_rfl) (by kernel_rfl) ?_);exact ja 0 (hL1 _ _ _ _ hF)
def F73(fuel:Nat)(d0:List UInt8)(d1:List UInt8):Option (List UInt8):=
 (Et8 d0 d1).bind fun y1=>
 bif y1.2.2 then
  ((F64 (i64.wrap (y1.1+y1.2.1))).bind fun y2=>
  some y2)
 else
  ((Cc0 fuel d0).bind fun y3=>
  (Cc0 fuel d1).bind fun y4=>
  (Bk2 d0).bind fun y5=>
  (Bk2 d1).bind fun y6=>
  bif y5==y6 then
   ((Bk2 d0).bind fun y7=>
   (Fl9 fuel y3 y4).bind fun y8=>
   (Dz0 fuel y7 y8).bind fun y9=>
   some y9)
  else
   ((Eu0 fuel y3 y4).bind fun y10=>
   bif decide (y10>=0) then
    ((Bk2 d0).bind fun y11=>
    (Eu2 fuel y3 y4).bind fun y12=>
    (Dz0 fuel y11 y12).bind fun y13=>
    some y13)
   else
    ((Bk2 d1).bind fun y14=>
    (Eu2 fuel y4 y3).bind fun y15=>
    (Dz0 fuel y14 y15).bind fun y16=>
    some y16)))
theorem Bs5{fuel}{d0}{d1}{r}(hF:F73 fuel d0 d1=some r):
 C1 prog 73 [.s d0,.s d1] (.s r):=by
 refine cf 53 func73 ?_;refine jB 9 hF Bk1 fun y1 hF=> ?_
 refine jI 12 17 hF ?_ ?_<;>intro hF
 .refine jB 6 hF Ab5 fun y2 hF=> ?_
  cases hF;exact jr 2
 .refine jB 5 hF N9 fun y3 hF=> ?_
  refine jB 1 hF N9 fun y4 hF=> ?_
  refine jB 7 hF L6 fun y5 hF=> ?_
  refine jB 1 hF L6 fun y6 hF=> ?_
  refine jI 2 30 hF ?_ ?_<;>intro hF
  .refine jB 4 hF L6 fun y7 hF=> ?_
   refine jB 2 hF Eu1 fun y8 hF=> ?_
   refine jB 0 hF Ag8 fun y9 hF=> ?_
   cases hF;exact jr 2
  .refine jB 7 hF Bk3 fun y10 hF=> ?_
   refine jI 2 40 hF ?_ ?_<;>intro hF
   .refine jB 4 hF L6 fun y11 hF=> ?_
    refine jB 2 hF Cc9 fun y12 hF=> ?_
    refine jB 0 hF Ag8 fun y13 hF=> ?_
    cases hF;exact jr 2
   .refine jB 5 hF L6 fun y14 hF=> ?_
    refine jB 2 hF Cc9 fun y15 hF=> ?_
    refine jB 0 hF Ag8 fun y16 hF=> ?_
    cases hF;exact jr 2
def Fj4(fuel:Nat)(d0:List UInt8)(d1:List UInt8):Option (List UInt8):=
 (Fm2 fuel d1).bind fun y1=>
 (F73 fuel d0 y1).bind fun y2=>
 some y2
theorem Cd3{fuel}{d0}{d1}{r}(hF:Fj4 fuel d0 d1=some r):
 C1 prog 155 [.s d0,.s d1] (.s r):=by
 refine cf 9 func155 ?_;refine jB 8 hF Dd0 fun y1 hF=> ?_
 refine jB 0 hF Bs5 fun y2 hF=> ?_
 cases hF;exact jr 2
def F66(fuel:Nat)(d0:List UInt8)(d1:List UInt8):Option (List UInt8):=
 (Et8 d0 d1).bind fun y1=>
 bif y1.2.2 then
  ((F64 (i64.wrap (y1.1*y1.2.1))).bind fun y2=>
  some y2)
 else
  ((Bk2 d0).bind fun y3=>
  (Bk2 d1).bind fun y4=>
  (Cc0 fuel d0).bind fun y5=>
  (Cc0 fuel d1).bind fun y6=>
  (Ej9 fuel y5 y6).bind fun y7=>
  (Dz0 fuel (!(y3==y4)) y7).bind fun y8=>
  some y8)
theorem As5{fuel}{d0}{d1}{r}(hF:F66 fuel d0 d1=some r):
 C1 prog 66 [.s d0,.s d1] (.s r):=by
 refine cf 31 func66 ?_;refine jB 9 hF Bk1 fun y1 hF=> ?_
 refine jI 12 15 hF ?_ ?_<;>intro hF
 .refine jB 6 hF Ab5 fun y2 hF=> ?_
  cases hF;exact jr 2
 .refine jB 5 hF L6 fun y3 hF=> ?_
  refine jB 1 hF L6 fun y4 hF=> ?_
  refine jB 2 hF N9 fun y5 hF=> ?_
  refine jB 1 hF N9 fun y6 hF=> ?_
  refine jB 0 hF Cc8 fun y7 hF=> ?_
  refine jB 0 hF Ag8 fun y8 hF=> ?_
  cases hF;exact jr 2
def Ek0(fuel:Nat)(d0:List UInt8)(d1:List UInt8):Option (List UInt8×List UInt8):=
 (Et8 d0 d1).bind fun y1=>
 bif y1.2.2 then
  (ass (decide (y1.2.1≠0))<|
  (
   ass (decide (y1.2.1≠0))<|
   bif (Int.tmod y1.1 y1.2.1) !=0 then
    (some (!((decide (y1.1<0))==(decide (y1.2.1<0)))))
   else
    (some false)).bind fun o1=>
  bif o1 then
   ((F64 (i64.wrap ((i64.wrap (Int.tdiv y1.1 y1.2.1))-1))).bind fun y2=>
   (F64 (i64.wrap (y1.1-(i64.wrap (y1.2.1*(i64.wrap ((i64.wrap (Int.tdiv y1.1 y1.2.1))-1))))))).bind fun y3=>
   some (y2,y3))
  else
   ((F64 (i64.wrap (Int.tdiv y1.1 y1.2.1))).bind fun y4=>
   (F64 (i64.wrap (y1.1-(i64.wrap (y1.2.1*(i64.wrap (Int.tdiv y1.1 y1.2.1))))))).bind fun y5=>
   some (y4,y5)))
 else
  ((Cc0 fuel d0).bind fun y6=>
  (Cc0 fuel d1).bind fun y7=>
  (Fm8 fuel y6 y7).bind fun y8=>
  (Bk2 d0).bind fun y9=>
  (Bk2 d1).bind fun y10=>
  (Dz0 fuel (!(y9==y10)) y8.1).bind fun y11=>
  (
   bif decide (((y8.2.map A3).length:Int)>0) then
    ((Bk2 d0).bind fun y21=>
    (Bk2 d1).bind fun y22=>
    some (!(y21==y22)))
   else
    (some false)).bind fun o2=>
  bif o2 then
   ((Fj4 fuel y11 [49]).bind fun y16=>
   (F66 fuel y16 d1).bind fun y17=>
   (Fj4 fuel d0 y17).bind fun y18=>
   some (y16,y18))
  else
   ((F66 fuel y11 d1).bind fun y19=>
   (Fj4 fuel d0 y19).bind fun y20=>
   some (y11,y20)))
noncomputable abbrev Fa4:=C0 f121
abbrev Gm3(r:List UInt8×List UInt8):=GJ prog 78 f121 (.tup [.s r.1,.s r.2])
theorem Aw7{fuel}{d0}{d1}{r}(hF:Ek0 fuel d0 d1=some r):
 C1 prog 121 [.s d0,.s d1] (.tup [.s r.1,.s r.2]):=by
 refine cf 78 func121 ?_;refine jB 10 hF Bk1 fun y1 hF=> ?_
 refine jI 12 20 hF ?_ ?_<;>intro hF
 .obtain⟨hb2,hF⟩:=O1 hF;refine jo1 5 (ck hb2) ?_;obtain⟨o1,hO,hF⟩:=bnd hF;have hR1:Gm3 r ⟨mkT [(6,.i y1.1),(7,.i y1.2.1),(9,.i (i64.wrap (Int.tdiv y1.1 y1.2.1))),(34,.b o1)],[],[kO Fa4 436,kC Fa4 437,kC Fa4 219,kC Fa4 7]⟩:=by
   clear hO;refine jI 1 34 hF ?_ ?_<;>intro hF
   .refine jB 9 hF Ab5 fun y2 hF=> ?_
    refine jB 5 hF Ab5 fun y3 hF=> ?_
    cases hF;exact jr 3
   .refine jB 5 hF Ab5 fun y4 hF=> ?_
    refine jB 5 hF Ab5 fun y5 hF=> ?_
    cases hF;exact jr 3
  clear hF;rename _=some o1=>hF
  obtain⟨hb8,hF⟩:=O1 hF;refine jo1 7 (ck hb8) ?_;refine jI 2 28 hF ?_ ?_<;>intro hF
  .cases hF;exact ja 6 hR1
  .cases hF;exact ja 6 hR1
 .refine jB 5 hF N9 fun y6 hF=> ?_
  refine jB 1 hF N9 fun y7 hF=> ?_
  refine jB 0 hF De1 fun y8 hF=> ?_
  refine jB 9 hF L6 fun y9 hF=> ?_
  refine jB 1 hF L6 fun y10 hF=> ?_
  refine jB 2 hF Ag8 fun y11 hF=> ?_
  obtain⟨o2,hO,hF⟩:=bnd hF;have hR2:Gm3 r ⟨mkT [(0,.s d0),(1,.s d1),(12,.s y11),(69,.b o2)],[],[kO Fa4 124,kC Fa4 125,kC Fa4 63]⟩:=by
   clear hO;refine jI 1 69 hF ?_ ?_<;>intro hF
   .refine jB 3 hF Cd3 fun y16 hF=> ?_
    refine jB 8 hF As5 fun y17 hF=> ?_
    refine jB 0 hF Cd3 fun y18 hF=> ?_
    cases hF;exact jr 3
   .refine jB 8 hF As5 fun y19 hF=> ?_
    refine jB 0 hF Cd3 fun y20 hF=> ?_
    cases hF;exact jr 3
  clear hF;rename _=some o2=>hF
  refine jI 9 63 hF ?_ ?_<;>intro hF
  .refine jB 1 hF L6 fun y21 hF=> ?_
   refine jB 1 hF L6 fun y22 hF=> ?_
   cases hF;exact ja 2 hR2
  .cases hF;exact ja 6 hR2
def F88(fuel:Nat)(d0:List UInt8)(d1:List UInt8):Option (List UInt8):=
 (Fm1 fuel d0 d1).bind fun y1=>
 (F92 d1).bind fun y2=>
 bif decide (y2<0) then
  ((Fm2 fuel y1).bind fun y3=>
  (Ek0 fuel d0 y3).bind fun y4=>
  (Ek0 fuel d1 y3).bind fun y5=>
  bif y5.1==[49] then
   (some y4.1)
  else
   (ass (decide (y4.1.length+[47].length<=4611686018427387904))<|
   ass (decide ((y4.1++[47]).length+y5.1.length<=4611686018427387904))<|
   some ((y4.1++[47])++y5.1)))
 else
  ((Ek0 fuel d0 y1).bind fun y6=>
  (Ek0 fuel d1 y1).bind fun y7=>
  bif y7.1==[49] then
   (some y6.1)
  else
   (ass (decide (y6.1.length+[47].length<=4611686018427387904))<|
   ass (decide ((y6.1++[47]).length+y7.1.length<=4611686018427387904))<|
   some ((y6.1++[47])++y7.1)))
theorem Dg8{fuel}{d0}{d1}{r}(hF:F88 fuel d0 d1=some r):
 C1 prog 88 [.s d0,.s d1] (.s r):=by
 refine cf 33 func88 ?_;refine jB 8 hF Dc9 fun y1 hF=> ?_
 refine jB 6 hF Bh1 fun y2 hF=> ?_
 refine jI 2 11 hF ?_ ?_<;>intro hF
 .refine jB 3 hF Dd0 fun y3 hF=> ?_
  refine jB 6 hF Aw7 fun y4 hF=> ?_
  refine jB 9 hF Aw7 fun y5 hF=> ?_
  refine jI 11 27 hF ?_ ?_<;>intro hF
  .cases hF;exact jr 6
  .obtain⟨hb3,hF⟩:=O1 hF;refine jo1 5 (ck hb3) ?_;obtain⟨hb4,hF⟩:=O1 hF;refine jo1 1 (ck hb4) ?_;cases hF;exact jr 2
 .refine jB 6 hF Aw7 fun y6 hF=> ?_
  refine jB 9 hF Aw7 fun y7 hF=> ?_
  refine jI 11 27 hF ?_ ?_<;>intro hF
  .cases hF;exact jr 6
  .obtain⟨hb6,hF⟩:=O1 hF;refine jo1 5 (ck hb6) ?_;obtain⟨hb7,hF⟩:=O1 hF;refine jo1 1 (ck hb7) ?_;cases hF;exact jr 2
def F39(fuel:Nat)(d0:Int)(d1:Int):Option (List UInt8):=
 (F64 d0).bind fun y1=>
 (F64 d1).bind fun y2=>
 (F88 fuel y1 y2).bind fun y3=>
 some y3
theorem Ek9{fuel}{d0}{d1}{r}(hF:F39 fuel d0 d1=some r):
 C1 prog 39 [.i d0,.i d1] (.s r):=by
 refine cf 10 func39 ?_;refine jB 7 hF Ab5 fun y1 hF=> ?_
 refine jB 1 hF Ab5 fun y2 hF=> ?_
 refine jB 0 hF Dg8 fun y3 hF=> ?_
 cases hF;exact jr 2
def X5(d0:List UInt8):Nat->Int->Option (List UInt8×List UInt8×Bool)
 |0,_=>none
 |nL1+1,v2=>
  bif decide (v2<(d0.length:Int)) then
   ((C2 d0 v2).bind fun y3=>
   bif (y3.toNat:Int)==47 then
    (ass (decide (0<=0)&&decide (0<=v2)&&decide (v2<=d0.length))<|
    ass (decide (0<=(i64.wrap (v2+1)))&&decide ((i64.wrap (v2+1))<=(d0.length:Int))&&decide ((d0.length:Int)<=d0.length))<|
    some ((d0.drop (Int.toNat 0)).take (Int.toNat (v2-0)),(d0.drop (Int.toNat (i64.wrap (v2+1)))).take (Int.toNat ((d0.length:Int)-(i64.wrap (v2+1)))),true))
   else
    ((X5 d0 nL1) (i64.wrap (v2+1))))
  else
   (some (d0,[49],false))
def Dz8(fuel:Nat)(d0:List UInt8):Option (List UInt8×List UInt8×Bool):=
 X5 d0 fuel 0
noncomputable abbrev Gn6:=C0 f117
abbrev Gr8(r:List UInt8×List UInt8×Bool):=GJ prog 24 f117 (.tup [.s r.1,.s r.2.1,.b r.2.2])
theorem Dc7{fuel}{d0}{r}(hF:Dz8 fuel d0=some r):
 C1 prog 117 [.s d0] (.tup [.s r.1,.s r.2.1,.b r.2.2]):=by
 unfold Dz8 at hF;refine cf 24 func117 ?_;have hL1:∀nL1 v2,X5 d0 nL1 v2=some r->Gr8 r ⟨mkT [(0,.s d0),(5,.i v2)],[],[kL Gn6 52,.inBlock 0,kC Gn6 7]⟩:=by
  clear hF;refine lpI (fun _ h=>by cases h) fun nL1 iL1 v2 hF=> ?_
  refine jI 9 9 hF ?_ ?_<;>intro hF
  .obtain⟨y3,e3,hF⟩:=bnd hF;refine jo1 8 (gs e3) ?_;refine jI 2 15 hF ?_ ?_<;>intro hF
   .refine jd 2 ?_;obtain⟨hb11,hF⟩:=O1 hF;refine do1 2 (ck hb11) ?_;obtain⟨hb12,hF⟩:=O1 hF;refine do1 3 (ck hb12) ?_;refine je 3 ?_;cases hF;exact jr 0
   .exact ja 8 (iL1 _ hF)
  .cases hF;exact jr 9
 exact ja 13 (hL1 _ _ hF)
def F71(fuel:Nat)(d0:List UInt8):Option (List UInt8×List UInt8):=
 (Dz8 fuel d0).bind fun y1=>
 some (y1.1,y1.2.1)
theorem Bg9{fuel}{d0}{r}(hF:F71 fuel d0=some r):
 C1 prog 71 [.s d0] (.tup [.s r.1,.s r.2]):=by
 refine cf 15 func71 ?_;refine jB 8 hF Dc7 fun y1 hF=> ?_
 cases hF;exact jr 15
def F72(fuel:Nat)(d0:List UInt8)(d1:List UInt8):Option Int:=
 (F92 d0).bind fun y1=>
 (F92 d1).bind fun y2=>
 bif y1 !=y2 then
  ((F92 d0).bind fun y3=>
  (F92 d1).bind fun y4=>
  bif decide (y3<y4) then
   (some (-1))
  else
   (some 1))
 else
  ((Bk2 d0).bind fun y5=>
  bif y5 then
   ((Cc0 fuel d1).bind fun y6=>
   (Cc0 fuel d0).bind fun y7=>
   (Eu0 fuel y6 y7).bind fun y8=>
   some y8)
  else
   ((Cc0 fuel d0).bind fun y9=>
   (Cc0 fuel d1).bind fun y10=>
   (Eu0 fuel y9 y10).bind fun y11=>
   some y11))
theorem Cm8{fuel}{d0}{d1}{r}(hF:F72 fuel d0 d1=some r):
 C1 prog 72 [.s d0,.s d1] (.i r):=by
 refine cf 27 func72 ?_;refine jB 8 hF Bh1 fun y1 hF=> ?_
 refine jB 1 hF Bh1 fun y2 hF=> ?_
 refine jI 2 9 hF ?_ ?_<;>intro hF
 .refine jB 5 hF Bh1 fun y3 hF=> ?_
  refine jB 1 hF Bh1 fun y4 hF=> ?_
  refine jI 2 14 hF ?_ ?_<;>intro hF
  .cases hF;exact jr 5
  .cases hF;exact jr 6
 .refine jB 6 hF L6 fun y5 hF=> ?_
  refine jI 1 16 hF ?_ ?_<;>intro hF
  .refine jB 4 hF N9 fun y6 hF=> ?_
   refine jB 1 hF N9 fun y7 hF=> ?_
   refine jB 0 hF Bk3 fun y8 hF=> ?_
   cases hF;exact jr 2
  .refine jB 5 hF N9 fun y9 hF=> ?_
   refine jB 1 hF N9 fun y10 hF=> ?_
   refine jB 0 hF Bk3 fun y11 hF=> ?_
   cases hF;exact jr 2
def F42(fuel:Nat)(d0:List UInt8)(d1:List UInt8):Option Int:=
 (F71 fuel d0).bind fun y1=>
 (F71 fuel d1).bind fun y2=>
 (F66 fuel y1.1 y2.2).bind fun y3=>
 (F66 fuel y2.1 y1.2).bind fun y4=>
 (F72 fuel y3 y4).bind fun y5=>
 some y5
def F37(fuel:Nat)(d0:List UInt8)(d1:List UInt8):Option (List UInt8):=
 (F71 fuel d0).bind fun y1=>
 (F71 fuel d1).bind fun y2=>
 (
  bif y1.2==[49] then
   (some (y2.2==[49]))
  else
   (some false)).bind fun o1=>
 bif o1 then
  ((F73 fuel y1.1 y2.1).bind fun y3=>
  some y3)
 else
  ((F66 fuel y1.1 y2.2).bind fun y4=>
  (F66 fuel y2.1 y1.2).bind fun y5=>
  (F73 fuel y4 y5).bind fun y6=>
  (F66 fuel y1.2 y2.2).bind fun y7=>
  (F88 fuel y6 y7).bind fun y8=>
  some y8)
noncomputable abbrev b37:=C0 f37
abbrev G37(r:List UInt8):=GJ prog 39 f37 (.s r)
theorem Fo3{fuel}{d0}{d1}{r}(hF:F37 fuel d0 d1=some r):
 C1 prog 37 [.s d0,.s d1] (.s r):=by
 refine cf 39 func37 ?_;refine jB 7 hF Bg9 fun y1 hF=> ?_
 refine jB 9 hF Bg9 fun y2 hF=> ?_
 obtain⟨o1,hO,hF⟩:=bnd hF;have hR1:G37 r ⟨mkT [(5,.s y1.1),(6,.s y1.2),(7,.s y2.1),(8,.s y2.2),(24,.b o1)],[],[kO b37 60,kC b37 61,kC b37 31]⟩:=by
  clear hO;refine jI 1 24 hF ?_ ?_<;>intro hF
  .refine jB 5 hF Bs5 fun y3 hF=> ?_
   cases hF;exact jr 2
  .refine jB 6 hF As5 fun y4 hF=> ?_
   refine jB 2 hF As5 fun y5 hF=> ?_
   refine jB 0 hF Bs5 fun y6 hF=> ?_
   refine jB 2 hF As5 fun y7 hF=> ?_
   refine jB 0 hF Dg8 fun y8 hF=> ?_
   cases hF;exact jr 2
 clear hF;rename _=some o1=>hF
 refine jI 12 21 hF ?_ ?_<;>intro hF
 .cases hF;exact ja 3 hR1
 .cases hF;exact ja 3 hR1
def F41(fuel:Nat)(d0:List UInt8):Option Int:=
 (F71 fuel d0).bind fun y1=>
 (F92 y1.1).bind fun y2=>
 some y2
theorem El0{fuel}{d0}{r}(hF:F41 fuel d0=some r):
 C1 prog 41 [.s d0] (.i r):=by
 refine cf 12 func41 ?_;refine jB 7 hF Bg9 fun y1 hF=> ?_
 refine jB 9 hF Bh1 fun y2 hF=> ?_
 cases hF;exact jr 2
end
section
theorem Fc6:G7 prog 240:=Kx.Az6 func240 (by kernel_rfl) (by kernel_rfl)
structure Dc5 where
 a0:Int
 a1:Int
 a2:Int
 deriving DecidableEq
structure Dc4 where
 a0:Int
 a1:Int
 deriving DecidableEq
structure C8 where
 State:Int
 Act:Int
 Gain:Int
 To:Dc5
 Part:Dc4
 deriving DecidableEq
structure B4 where
 States:Int
 Owners:Int
 Grain:Int
 Cents:Int
 Picks:List C8
 deriving DecidableEq
structure B7 where
 To:Int
 P:List UInt8
 deriving DecidableEq
structure A2 where
 Act:List UInt8
 Gain:List UInt8
 Next:List B7
 deriving DecidableEq
structure A9 where
 Owner:List Int
 Choices:List (List A2)
 deriving DecidableEq
def A4(x:B7):List Dat:=[.int .i64 x.To,.str x.P]
def A1(x:A2):List Dat:=[.str x.Act,.str x.Gain,.sl 2 (x.Next.map A4)]
def A0(x:List A2):List Dat:=[.sl 3 (x.map A1)]
def B6(x:C8):List Dat:=[.int .u8 x.State,.int .u8 x.Act,.int .u8 x.Gain,.int .u8 x.To.a0,.int .u8 x.To.a1,.int .u8 x.To.a2,.int .u8 x.Part.a0,.int .u8 x.Part.a1]
def F60(d0:B4):Option Int:=
 some (i64.wrap (1+(i64.wrap (Int.tmod d0.States 5))))
theorem El3{d0}{r}(hF:F60 d0=some r):
 C1 prog 60 [.agg [.y d0.States,.y d0.Owners,.y d0.Grain,.y d0.Cents,.l 8 d0.Picks B6]] (.i r):=by
 unfold F60 at hF;refine cf 8 func60 ?_;cases hF;exact jr 14
def Bg7(v2:Int)(cL1:Int->(List B7)->Option A2)(l19:List B7):Option A2:=
 cL1 (i64.wrap (v2+1)) l19
def Aj6(fuel:Nat)(l4:List Int)(y1:Int)(y2:Int)(y9:List UInt8)(y11:List UInt8):Nat->Int->(List B7)->Option A2
 |0,_,_=>none
 |nL1+1,v2,l16=>
  bif decide (v2<y1) then
   ((C2 l4 v2).bind fun y37=>
   bif decide (y37>0) then
    ((C2 l4 v2).bind fun y40=>
    (F39 fuel y40 y2).bind fun y41=>
    (app l16 [(⟨v2,y41⟩:B7)]).bind fun l21=>
    Bg7 v2 (Aj6 fuel l4 y1 y2 y9 y11 nL1) l21)
   else
    (Bg7 v2 (Aj6 fuel l4 y1 y2 y9 y11 nL1) l16))
  else
   (some (⟨y9,y11,l16⟩:A2))
def F61(fuel:Nat)(d0:B4)(d1:C8):Option A2:=
 (F60 d0).bind fun y1=>
 (C2 [1,2,3,4,6,10,100,5] (Int.tmod d0.Grain 8)).bind fun y2=>
 ass (decide ((i64.wrap (y2+1))≠0))<|
 ass (decide ((i64.wrap ((i64.wrap (y2-(Int.tmod (i64.wrap d1.Part.a0) (i64.wrap (y2+1)))))+1))≠0))<|
 (mkL y1 y1 0).bind fun l1=>
 ass (decide (y1≠0))<|
 (C2 l1 (Int.tmod (i64.wrap d1.To.a0) y1)).bind fun y3=>
 (C2 l1 (Int.tmod (i64.wrap d1.To.a0) y1)).bind fun y4=>
 (some (l1.set (0+Int.toNat (Int.tmod (i64.wrap d1.To.a0) y1)) (i64.wrap (y3+(Int.tmod (i64.wrap d1.Part.a0) (i64.wrap (y2+1))))))).bind fun l2=>
 ass (decide (y1≠0))<|
 (C2 l2 (Int.tmod (i64.wrap d1.To.a1) y1)).bind fun y5=>
 (C2 l2 (Int.tmod (i64.wrap d1.To.a1) y1)).bind fun y6=>
 (some (l2.set (0+Int.toNat (Int.tmod (i64.wrap d1.To.a1) y1)) (i64.wrap (y5+(Int.tmod (i64.wrap d1.Part.a1) (i64.wrap ((i64.wrap (y2-(Int.tmod (i64.wrap d1.Part.a0) (i64.wrap (y2+1)))))+1))))))).bind fun l3=>
 ass (decide (y1≠0))<|
 (C2 l3 (Int.tmod (i64.wrap d1.To.a2) y1)).bind fun y7=>
 (C2 l3 (Int.tmod (i64.wrap d1.To.a2) y1)).bind fun y8=>
 (some (l3.set (0+Int.toNat (Int.tmod (i64.wrap d1.To.a2) y1)) (i64.wrap (y7+(i64.wrap ((i64.wrap (y2-(Int.tmod (i64.wrap d1.Part.a0) (i64.wrap (y2+1)))))-(Int.tmod (i64.wrap d1.Part.a1) (i64.wrap ((i64.wrap (y2-(Int.tmod (i64.wrap d1.Part.a0) (i64.wrap (y2+1)))))+1))))))))).bind fun l4=>
 (C2 [[],[97],[103,111],[97,98,99,100,101,102,103,104]] (Int.tmod d1.Act 4)).bind fun y9=>
 (C2 [1,2,3,1] (Int.tmod d0.Cents 4)).bind fun y10=>
 (F39 fuel (i64.wrap (Int.tmod d1.Gain 20)) y10).bind fun y11=>
 Aj6 fuel l4 y1 y2 y9 y11 fuel 0 []
noncomputable abbrev b61:=C0 f61
abbrev G61(r:A2):=GJ prog 117 f61 (.agg [.s r.Act,.s r.Gain,.l 2 r.Next A4])
theorem Fo7{fuel}{d0}{d1}{r}(hF:F61 fuel d0 d1=some r):
 C1 prog 61 [.agg [.y d0.States,.y d0.Owners,.y d0.Grain,.y d0.Cents,.l 8 d0.Picks B6],.agg [.y d1.State,.y d1.Act,.y d1.Gain,.y d1.To.a0,.y d1.To.a1,.y d1.To.a2,.y d1.Part.a0,.y d1.Part.a1]] (.agg [.s r.Act,.s r.Gain,.l 2 r.Next A4]):=by
 refine cf 117 func61 ?_;refine jB 9 hF El3 fun y1 hF=> ?_
 obtain⟨y2,e2,hF⟩:=bnd hF;refine jo1 8 (gm' A3 e2) ?_;obtain⟨hb1,hF⟩:=O1 hF;refine jo1 10 (ck hb1) ?_;obtain⟨hb2,hF⟩:=O1 hF;refine jo1 12 (ck hb2) ?_;obtain⟨l1,e3,hF⟩:=bnd hF;refine jo2 5 (mm' A3 e3) ?_;obtain⟨hb3,hF⟩:=O1 hF;refine jo1 10 (ck hb3) ?_;obtain⟨y3,e4,hF⟩:=bnd hF;refine jo1 0 (gm' A3 e4) ?_;refine jo1 0 (gjm (f:=A3) (gj e4)) ?_;obtain⟨y4,e5,hF⟩:=bnd hF;refine jo1 2 (gm' A3 e5) ?_;obtain⟨l2,e6,hF⟩:=bnd hF;have hst:=stm (f:=A3) (z:=i64.wrap (y3+(Int.tmod (i64.wrap d1.Part.a0) (i64.wrap (y2+1))))) (k:=0) (xs:=[.int .i64 (i64.wrap (y3+(Int.tmod (i64.wrap d1.Part.a0) (i64.wrap (y2+1)))))]) (gj e5) rfl;refine B5 0 (G0 (o:=(match(l1.map A3)[0+Int.toNat (Int.tmod (i64.wrap d1.To.a0) y1)]? with|some old=>some ((l1.map A3).set (0+Int.toNat (Int.tmod (i64.wrap d1.To.a0) y1)) (Z1 old 0 [.int .i64 (i64.wrap (y3+(Int.tmod (i64.wrap d1.Part.a0) (i64.wrap (y2+1)))))]))|none=>none)) (l2.map A3) (by kernel_rfl) (by cases e6;exact hst) ?_);obtain⟨hb4,hF⟩:=O1 hF;refine jo1 9 (ck hb4) ?_;obtain⟨y5,e7,hF⟩:=bnd hF;refine jo1 0 (gm' A3 e7) ?_;refine jo1 0 (gjm (f:=A3) (gj e7)) ?_;obtain⟨y6,e8,hF⟩:=bnd hF;refine jo1 2 (gm' A3 e8) ?_;obtain⟨l3,e9,hF⟩:=bnd hF;have hst:=stm (f:=A3) (z:=i64.wrap (y5+(Int.tmod (i64.wrap d1.Part.a1) (i64.wrap ((i64.wrap (y2-(Int.tmod (i64.wrap d1.Part.a0) (i64.wrap (y2+1)))))+1))))) (k:=0) (xs:=[.int .i64 (i64.wrap (y5+(Int.tmod (i64.wrap d1.Part.a1) (i64.wrap ((i64.wrap (y2-(Int.tmod (i64.wrap d1.Part.a0) (i64.wrap (y2+1)))))+1)))))]) (gj e8) rfl;refine B5 0 (G0 (o:=(match(l2.map A3)[0+Int.toNat (Int.tmod (i64.wrap d1.To.a1) y1)]? with|some old=>some ((l2.map A3).set (0+Int.toNat (Int.tmod (i64.wrap d1.To.a1) y1)) (Z1 old 0 [.int .i64 (i64.wrap (y5+(Int.tmod (i64.wrap d1.Part.a1) (i64.wrap ((i64.wrap (y2-(Int.tmod (i64.wrap d1.Part.a0) (i64.wrap (y2+1)))))+1)))))]))|none=>none)) (l3.map A3) (by kernel_rfl) (by cases e9;exact hst) ?_);obtain⟨hb5,hF⟩:=O1 hF;refine jo1 9 (ck hb5) ?_;obtain⟨y7,e10,hF⟩:=bnd hF;refine jo1 0 (gm' A3 e10) ?_;refine jo1 0 (gjm (f:=A3) (gj e10)) ?_;obtain⟨y8,e11,hF⟩:=bnd hF;refine jo1 6 (gm' A3 e11) ?_;obtain⟨l4,e12,hF⟩:=bnd hF;have hst:=stm (f:=A3) (z:=i64.wrap (y7+(i64.wrap ((i64.wrap (y2-(Int.tmod (i64.wrap d1.Part.a0) (i64.wrap (y2+1)))))-(Int.tmod (i64.wrap d1.Part.a1) (i64.wrap ((i64.wrap (y2-(Int.tmod (i64.wrap d1.Part.a0) (i64.wrap (y2+1)))))+1))))))) (k:=0) (xs:=[.int .i64 (i64.wrap (y7+(i64.wrap ((i64.wrap (y2-(Int.tmod (i64.wrap d1.Part.a0) (i64.wrap (y2+1)))))-(Int.tmod (i64.wrap d1.Part.a1) (i64.wrap ((i64.wrap (y2-(Int.tmod (i64.wrap d1.Part.a0) (i64.wrap (y2+1)))))+1)))))))]) (gj e11) rfl;refine B5 0 (G0 (o:=(match(l3.map A3)[0+Int.toNat (Int.tmod (i64.wrap d1.To.a2) y1)]? with|some old=>some ((l3.map A3).set (0+Int.toNat (Int.tmod (i64.wrap d1.To.a2) y1)) (Z1 old 0 [.int .i64 (i64.wrap (y7+(i64.wrap ((i64.wrap (y2-(Int.tmod (i64.wrap d1.Part.a0) (i64.wrap (y2+1)))))-(Int.tmod (i64.wrap d1.Part.a1) (i64.wrap ((i64.wrap (y2-(Int.tmod (i64.wrap d1.Part.a0) (i64.wrap (y2+1)))))+1)))))))]))|none=>none)) (l4.map A3) (by kernel_rfl) (by cases e12;exact hst) ?_);refine jd 2 ?_;obtain⟨y9,e13,hF⟩:=bnd hF;refine do1 4 (gm' e_s e13) ?_;obtain⟨y10,e14,hF⟩:=bnd hF;refine do1 8 (gm' A3 e14) ?_;refine dB 0 hF Ek9 fun y11 hF=> ?_
 refine je 3 ?_;have hL1:∀nL1 v2 l16,Aj6 fuel l4 y1 y2 y9 y11 nL1 v2 l16=some r->G61 r ⟨mkT [(4,.ptr 4 0),(5,.i y1),(6,.i y2),(9,.suf 36 0 0),(10,.ptr 10 0),(11,.i v2)],[(4,.box 26 [.s [],.s [],.esl 2]),(10,.box 26 [.s y9,.s y11,.suf 114 0 0]),(36,.buf 0 3 1 (l4.map A3)),(114,.buf 0 29 2 (l16.map A4))],[kL b61 32756,.inBlock 0,kC b61 4095]⟩:=by
  clear hF;refine lpI (fun _ _ h=>by cases h) fun nL1 iL1 v2 l16 hF=> ?_
  refine jI 8 95 hF ?_ ?_<;>intro hF
  .have hA2:∀l19,Bg7 v2 (Aj6 fuel l4 y1 y2 y9 y11 nL1) l19=some r->G61 r ⟨mkT [(4,.ptr 4 0),(5,.i y1),(6,.i y2),(9,.suf 36 0 0),(10,.ptr 10 0),(11,.i v2)],[(4,.box 26 [.s [],.s [],.esl 2]),(10,.box 26 [.s y9,.s y11,.suf 114 0 0]),(36,.buf 0 3 1 (l4.map A3)),(114,.buf 0 29 2 (l19.map A4))],[kC b61 131027,kL b61 32756,.inBlock 0,kC b61 4095]⟩:=by
    intro l19 hF;unfold Bg7 at hF;exact ja 5 (iL1 _ _ hF)
   obtain⟨y37,e51,hF⟩:=bnd hF;refine jo1 8 (gm' A3 e51) ?_;refine jo1 0 (gjm (f:=A3) (gj e51)) ?_;refine jI 2 102 hF ?_ ?_<;>intro hF
   .refine jd 1 ?_;obtain⟨y40,e55,hF⟩:=bnd hF;refine do1 5 (gm' A3 e55) ?_;refine do1 0 (gjm (f:=A3) (gj e55)) ?_;refine dB 1 hF Ek9 fun y41 hF=> ?_
    obtain⟨l21,e57,hF⟩:=bnd hF;refine do2 2 (am' A4 e57) ?_;refine je 2 ?_;exact ja 1 (hA2 _ hF)
   .exact ja 3 (hA2 _ hF)
  .cases hF;exact jr 7
 refine B5 7 (Bh6 (n:=2) 10 2 114 29 2 (by kernel_rfl) (by kernel_rfl) ?_);exact ja 0 (hL1 _ _ _ hF)
def Bf7(v2:Int)(cL1:Int->(List Int)->Option A9)(l17:List Int):Option A9:=
 cL1 (i64.wrap (v2+1)) l17
def As2(v4:Int)(cL3:Int->(List (List A2))->Option A9)(l44:List (List A2)):Option A9:=
 cL3 (i64.wrap (v4+1)) l44
def Bf8(v6:Int)(cL5:Int->(List (List A2))->Option A9)(l63:List (List A2)):Option A9:=
 cL5 (i64.wrap (v6+1)) l63
def Aj3(l14:List Int)(y1:Int):Nat->Int->(List (List A2))->Option A9
 |0,_,_=>none
 |nL5+1,v6,l60=>
  bif decide (v6<y1) then
   ((C2 l60 v6).bind fun y72=>
   (some (l60.set (Int.toNat v6) y72)).bind fun l64=>
   bif ((y72.map A1).length:Int)==0 then
    ((C2 l64 v6).bind fun y73=>
    (some (l64.set (Int.toNat v6) [(⟨[],[48],[(⟨v6,[49]⟩:B7)]⟩:A2)])).bind fun l65=>
    Bf8 v6 (Aj3 l14 y1 nL5) l65)
   else
    (Bf8 v6 (Aj3 l14 y1 nL5) l64))
  else
   (some (⟨l14,l60⟩:A9))
def V8(fuel:Nat)(d0:B4)(l14:List Int)(y1:Int):Nat->Int->(List (List A2))->Option A9
 |0,_,_=>none
 |nL3+1,v4,l39=>
  (
   bif decide (v4<((d0.Picks.map B6).length:Int)) then
    (some (decide (v4<20)))
   else
    (some false)).bind fun o3=>
  bif o3 then
   ((C2 d0.Picks v4).bind fun y55=>
   ass (decide (y1≠0))<|
   (C2 l39 (Int.tmod (i64.wrap y55.State) y1)).bind fun y56=>
   (some (l39.set (Int.toNat (Int.tmod (i64.wrap y55.State) y1)) y56)).bind fun l45=>
   bif decide (((y56.map A1).length:Int)<3) then
    ((C2 l45 (Int.tmod (i64.wrap y55.State) y1)).bind fun y57=>
    (C2 d0.Picks v4).bind fun y60=>
    (F61 fuel d0 y60).bind fun y61=>
    (app y57 [y61]).bind fun l47=>
    (some (l45.set (Int.toNat (Int.tmod (i64.wrap y55.State) y1)) l47)).bind fun l48=>
    As2 v4 (V8 fuel d0 l14 y1 nL3) l48)
   else
    (As2 v4 (V8 fuel d0 l14 y1 nL3) l45))
  else
   (Aj3 l14 y1 fuel 0 l39)
def As3(fuel:Nat)(d0:B4)(l2:List (List A2))(y1:Int):Nat->Int->(List Int)->Option A9
 |0,_,_=>none
 |nL1+1,v2,l14=>
  bif decide (v2<y1) then
   (ass (decide (0<=v2))<|
   bif (IntKind.u8.wrap (BitVec.ofInt IntKind.u8.bits (Int.fdiv d0.Owners (2^(min (Int.toNat v2) IntKind.u8.bits)))&&&BitVec.ofInt IntKind.u8.bits 1).toNat)==1 then
    ((C2 l14 v2).bind fun y13=>
    (some (l14.set (0+Int.toNat v2) 1)).bind fun l19=>
    Bf7 v2 (As3 fuel d0 l2 y1 nL1) l19)
   else
    (Bf7 v2 (As3 fuel d0 l2 y1 nL1) l14))
  else
   (V8 fuel d0 l14 y1 fuel 0 l2)
def F20(fuel:Nat)(d0:B4):Option A9:=
 (F60 d0).bind fun y1=>
 (mkL y1 y1 0).bind fun l1=>
 (mkL y1 y1 []).bind fun l2=>
 As3 fuel d0 l2 y1 fuel 0 l1
noncomputable abbrev b20:=C0 f20
abbrev G20(r:A9):=GJ prog 98 f20 (.agg [.l 1 r.Owner A3,.l 1 r.Choices A0])
theorem Fn3{fuel}{d0}{r}(hF:F20 fuel d0=some r):
 C1 prog 20 [.agg [.y d0.States,.y d0.Owners,.y d0.Grain,.y d0.Cents,.l 8 d0.Picks B6]] (.agg [.l 1 r.Owner A3,.l 1 r.Choices A0]):=by
 refine cf 98 func20 ?_;refine jB 8 hF El3 fun y1 hF=> ?_
 refine jd 3 ?_;obtain⟨l1,e2,hF⟩:=bnd hF;refine do2 1 (mm' A3 e2) ?_;obtain⟨l2,e3,hF⟩:=bnd hF;refine do2 1 (mm' A0 e3) ?_;refine je 3 ?_;have hL1:∀nL1 v2 l14,As3 fuel d0 l2 y1 nL1 v2 l14=some r->G20 r ⟨mkT [(1,.ptr 1 0),(2,.ptr 2 0),(3,.i y1),(4,.ptr 4 0),(5,.i v2)],[(1,.box 53 [.y d0.States,.y d0.Owners,.y d0.Grain,.y d0.Cents,.l 8 d0.Picks B6]),(2,.box 34 [.esl 1,.esl 1]),(4,.box 34 [.suf 12 0 0,.suf 14 0 0]),(12,.buf 0 3 1 (l14.map A3)),(14,.tree 0 31 1 [.o 26 3 [.z,.z,.z]] (l2.map A0) none)],[kL b20 244,.inBlock 0,kC b20 31]⟩:=by
  clear hF;refine lpI (fun _ _ h=>by cases h) fun nL1 iL1 v2 l14 hF=> ?_
  refine jI 8 18 hF ?_ ?_<;>intro hF
  .have hA2:∀l17,Bf7 v2 (As3 fuel d0 l2 y1 nL1) l17=some r->G20 r ⟨mkT [(1,.ptr 1 0),(2,.ptr 2 0),(3,.i y1),(4,.ptr 4 0),(5,.i v2)],[(1,.box 53 [.y d0.States,.y d0.Owners,.y d0.Grain,.y d0.Cents,.l 8 d0.Picks B6]),(2,.box 34 [.esl 1,.esl 1]),(4,.box 34 [.suf 12 0 0,.suf 14 0 0]),(12,.buf 0 3 1 (l17.map A3)),(14,.tree 0 31 1 [.o 26 3 [.z,.z,.z]] (l2.map A0) none)],[kC b20 979,kL b20 244,.inBlock 0,kC b20 31]⟩:=by
    intro l17 hF;unfold Bf7 at hF;exact ja 5 (iL1 _ _ hF)
   obtain⟨hb20,hF⟩:=O1 hF;refine jo1 9 (ck hb20) ?_;refine jI 3 26 hF ?_ ?_<;>intro hF
   .obtain⟨y13,e26,hF⟩:=bnd hF;refine jo1 5 (gm' A3 e26) ?_;obtain⟨l19,e27,hF⟩:=bnd hF;have hst:=stm (f:=A3) (z:=1) (k:=0) (xs:=[.int .i64 1]) (gj e26) rfl;refine B5 0 (G0 (o:=(match(l14.map A3)[0+Int.toNat v2]? with|some old=>some ((l14.map A3).set (0+Int.toNat v2) (Z1 old 0 [.int .i64 1]))|none=>none)) (l19.map A3) (by kernel_rfl) (by cases e27;exact hst) ?_);exact ja 2 (hA2 _ hF)
   .exact ja 3 (hA2 _ hF)
  .have hL3:∀nL3 v4 l39,V8 fuel d0 l14 y1 nL3 v4 l39=some r->G20 r ⟨mkT [(1,.ptr 1 0),(2,.ptr 2 0),(3,.i y1),(4,.ptr 4 0),(6,.i v4)],[(1,.box 53 [.y d0.States,.y d0.Owners,.y d0.Grain,.y d0.Cents,.l 8 d0.Picks B6]),(2,.box 34 [.esl 1,.esl 1]),(4,.box 34 [.suf 12 0 0,.suf 14 0 0]),(12,.buf 0 3 1 (l14.map A3)),(14,.tree 0 31 1 [.o 26 3 [.z,.z,.z]] (l39.map A0) none)],[kL b20 500,.inBlock 2,kC b20 63]⟩:=by
    clear hF;refine lpI (fun _ _ h=>by cases h) fun nL3 iL3 v4 l39 hF=> ?_
    obtain⟨o3,hO,hF⟩:=bnd hF;have hR3:G20 r ⟨mkT [(1,.ptr 1 0),(2,.ptr 2 0),(3,.i y1),(4,.ptr 4 0),(6,.i v4),(39,.b o3)],[(1,.box 53 [.y d0.States,.y d0.Owners,.y d0.Grain,.y d0.Cents,.l 8 d0.Picks B6]),(2,.box 34 [.esl 1,.esl 1]),(4,.box 34 [.suf 12 0 0,.suf 14 0 0]),(12,.buf 0 3 1 (l14.map A3)),(14,.tree 0 31 1 [.o 26 3 [.z,.z,.z]] (l39.map A0) none)],[kO b20 2000,kC b20 2001,kC b20 1001,kL b20 500,.inBlock 2,kC b20 63]⟩:=by
     clear hO;refine jI 1 39 hF ?_ ?_<;>intro hF
     .have hA4:∀l44,As2 v4 (V8 fuel d0 l14 y1 nL3) l44=some r->G20 r ⟨mkT [(1,.ptr 1 0),(2,.ptr 2 0),(3,.i y1),(4,.ptr 4 0),(6,.i v4)],[(1,.box 53 [.y d0.States,.y d0.Owners,.y d0.Grain,.y d0.Cents,.l 8 d0.Picks B6]),(2,.box 34 [.esl 1,.esl 1]),(4,.box 34 [.suf 12 0 0,.suf 14 0 0]),(12,.buf 0 3 1 (l14.map A3)),(14,.tree 0 31 1 [.o 26 3 [.z,.z,.z]] (l44.map A0) none)],[kC b20 2003,kL b20 500,.inBlock 2,kC b20 63]⟩:=by
       intro l44 hF;unfold As2 at hF;exact ja 5 (iL3 _ _ hF)
      obtain⟨y55,e89,hF⟩:=bnd hF;refine jo1 9 (gm' B6 e89) ?_;obtain⟨hb52,hF⟩:=O1 hF;refine jo1 4 (ck hb52) ?_;obtain⟨y56,e90,hF⟩:=bnd hF;refine B5 3 (Bh5 (g:=0) (e:=31) (e2:=26) (n:=3) (es:=l39.map A0) 14 1200 (Int.toNat (Int.tmod (i64.wrap y55.State) y1)) (y56.map A1) (by kernel_rfl) (by kernel_rfl) (by kernel_rfl) (gjo (f:=A0) e90) ?_);refine B5 4 (J3 (o:=chk (decide (0<=(Int.tmod (i64.wrap y55.State) y1))&&(decide (0+Int.toNat (Int.tmod (i64.wrap y55.State) y1)=Int.toNat (Int.tmod (i64.wrap y55.State) y1))&&decide (Int.toNat (Int.tmod (i64.wrap y55.State) y1)<(l39.map A0).length)))) [] (by kernel_rfl) (ckI e90) ?_);refine B5 0 (J3 (o:=chk (decide ((Int.toNat (Int.tmod (i64.wrap y55.State) y1))=(Int.toNat (Int.tmod (i64.wrap y55.State) y1)))&&decide ((Int.toNat (Int.tmod (i64.wrap y55.State) y1))<(l39.map A0).length))) [] (by kernel_rfl) (ckE e90) ?_);obtain⟨l45,e91,hF⟩:=bnd hF;refine B5 3 (Ap8 (g:=0) (gd:=0) (e:=31) (e2:=26) (n:=3) (es:=l39.map A0) (ds:=y56.map A1) 14 1200 (Int.toNat (Int.tmod (i64.wrap y55.State) y1)) (l45.map A0) (by kernel_rfl) (by kernel_rfl) (by kernel_rfl) (by kernel_rfl) (glt (f:=A0) e90) (by cases e91;exact shm (f:=A0) (z:=y56)) ?_);refine ja 0 (S0:=[(1,.ptr 1 0),(2,.ptr 2 0),(3,.i y1),(4,.ptr 4 0),(6,.i v4),(7,.i (Int.tmod (i64.wrap y55.State) y1)),(57,.b (decide (((y56.map A1).length:Int)<3)))]) (O0:=[(1,.box 53 [.y d0.States,.y d0.Owners,.y d0.Grain,.y d0.Cents,.l 8 d0.Picks B6]),(2,.box 34 [.esl 1,.esl 1]),(4,.box 34 [.suf 12 0 0,.suf 14 0 0]),(12,.buf 0 3 1 (l14.map A3)),(14,.tree 0 31 1 [.o 26 3 [.z,.z,.z]] (l45.map A0) none)]) (T0:=[kC b20 16019,.inBlock 3,kC b20 2003,kL b20 500,.inBlock 2,kC b20 63]) ?_;refine jI 0 57 hF ?_ ?_<;>intro hF
      .obtain⟨y57,e92,hF⟩:=bnd hF;refine B5 1 (Bh5 (g:=0) (e:=31) (e2:=26) (n:=3) (es:=l45.map A0) 14 1200 (Int.toNat (Int.tmod (i64.wrap y55.State) y1)) (y57.map A1) (by kernel_rfl) (by kernel_rfl) (by kernel_rfl) (gjo (f:=A0) e92) ?_);refine jd 0 ?_;refine G9 6 (H8 (o:=chk (decide (0<=(Int.tmod (i64.wrap y55.State) y1))&&(decide (0+Int.toNat (Int.tmod (i64.wrap y55.State) y1)=Int.toNat (Int.tmod (i64.wrap y55.State) y1))&&decide (Int.toNat (Int.tmod (i64.wrap y55.State) y1)<(l45.map A0).length)))) [] (by kernel_rfl) (by kernel_rfl) (ckI e92) ?_);refine G9 0 (H8 (o:=chk (decide ((Int.toNat (Int.tmod (i64.wrap y55.State) y1))=(Int.toNat (Int.tmod (i64.wrap y55.State) y1)))&&decide ((Int.toNat (Int.tmod (i64.wrap y55.State) y1))<(l45.map A0).length))) [] (by kernel_rfl) (by kernel_rfl) (ckE e92) ?_);obtain⟨y60,e96,hF⟩:=bnd hF;refine do1 4 (gm' B6 e96) ?_;refine dB 1 hF Fo7 fun y61 hF=> ?_
       obtain⟨l47,e98,hF⟩:=bnd hF;refine do2 1 (am' A1 e98) ?_;refine G9 0 (H8 (o:=chk (decide (0<=(Int.tmod (i64.wrap y55.State) y1))&&(decide (0+Int.toNat (Int.tmod (i64.wrap y55.State) y1)=Int.toNat (Int.tmod (i64.wrap y55.State) y1))&&decide (Int.toNat (Int.tmod (i64.wrap y55.State) y1)<(l45.map A0).length)))) [] (by kernel_rfl) (by kernel_rfl) (ckI e92) ?_);refine G9 0 (H8 (o:=chk (decide ((Int.toNat (Int.tmod (i64.wrap y55.State) y1))=(Int.toNat (Int.tmod (i64.wrap y55.State) y1)))&&decide ((Int.toNat (Int.tmod (i64.wrap y55.State) y1))<(l45.map A0).length))) [] (by kernel_rfl) (by kernel_rfl) (ckE e92) ?_);refine je 0 ?_;obtain⟨l48,e99,hF⟩:=bnd hF;refine B5 0 (Ap8 (g:=0) (gd:=1) (e:=31) (e2:=26) (n:=3) (es:=l45.map A0) (ds:=l47.map A1) 14 1200 (Int.toNat (Int.tmod (i64.wrap y55.State) y1)) (l48.map A0) (by kernel_rfl) (by kernel_rfl) (by kernel_rfl) (by kernel_rfl) (glt (f:=A0) e92) (by cases e99;exact shm (f:=A0) (z:=l47)) ?_);refine ja 0 (S0:=[(1,.ptr 1 0),(2,.ptr 2 0),(3,.i y1),(4,.ptr 4 0),(6,.i v4)]) (O0:=[(1,.box 53 [.y d0.States,.y d0.Owners,.y d0.Grain,.y d0.Cents,.l 8 d0.Picks B6]),(2,.box 34 [.esl 1,.esl 1]),(4,.box 34 [.suf 12 0 0,.suf 14 0 0]),(12,.buf 0 3 1 (l14.map A3)),(14,.tree 0 31 1 [.o 26 3 [.z,.z,.z]] (l48.map A0) none)]) (T0:=[.inBlock 3,kC b20 2003,kL b20 500,.inBlock 2,kC b20 63]) ?_;exact ja 1 (hA4 _ hF)
      .exact ja 3 (hA4 _ hF)
     .have hL5:∀nL5 v6 l60,Aj3 l14 y1 nL5 v6 l60=some r->G20 r ⟨mkT [(2,.ptr 2 0),(3,.i y1),(4,.ptr 4 0),(8,.i v6)],[(2,.box 34 [.esl 1,.esl 1]),(4,.box 34 [.suf 12 0 0,.suf 14 0 0]),(12,.buf 0 3 1 (l14.map A3)),(14,.tree 0 31 1 [.o 26 3 [.z,.z,.z]] (l60.map A0) none)],[kL b20 1012,.inBlock 4,kC b20 127]⟩:=by
       clear hF;refine lpI (fun _ _ h=>by cases h) fun nL5 iL5 v6 l60 hF=> ?_
       refine jI 8 78 hF ?_ ?_<;>intro hF
       .have hA6:∀l63,Bf8 v6 (Aj3 l14 y1 nL5) l63=some r->G20 r ⟨mkT [(2,.ptr 2 0),(3,.i y1),(4,.ptr 4 0),(8,.i v6)],[(2,.box 34 [.esl 1,.esl 1]),(4,.box 34 [.suf 12 0 0,.suf 14 0 0]),(12,.buf 0 3 1 (l14.map A3)),(14,.tree 0 31 1 [.o 26 3 [.z,.z,.z]] (l63.map A0) none)],[kC b20 4051,kL b20 1012,.inBlock 4,kC b20 127]⟩:=by
         intro l63 hF;unfold Bf8 at hF;exact ja 5 (iL5 _ _ hF)
        obtain⟨y72,e120,hF⟩:=bnd hF;refine B5 5 (Bh5 (g:=0) (e:=31) (e2:=26) (n:=3) (es:=l60.map A0) 14 1200 (Int.toNat v6) (y72.map A1) (by kernel_rfl) (by kernel_rfl) (by kernel_rfl) (gjo (f:=A0) e120) ?_);refine B5 4 (J3 (o:=chk (decide (0<=v6)&&(decide (0+Int.toNat v6=Int.toNat v6)&&decide (Int.toNat v6<(l60.map A0).length)))) [] (by kernel_rfl) (ckI e120) ?_);refine B5 0 (J3 (o:=chk (decide ((Int.toNat v6)=(Int.toNat v6))&&decide ((Int.toNat v6)<(l60.map A0).length))) [] (by kernel_rfl) (ckE e120) ?_);obtain⟨l64,e121,hF⟩:=bnd hF;refine B5 3 (Ap8 (g:=0) (gd:=0) (e:=31) (e2:=26) (n:=3) (es:=l60.map A0) (ds:=y72.map A1) 14 1200 (Int.toNat v6) (l64.map A0) (by kernel_rfl) (by kernel_rfl) (by kernel_rfl) (by kernel_rfl) (glt (f:=A0) e120) (by cases e121;exact shm (f:=A0) (z:=y72)) ?_);refine ja 0 (S0:=[(2,.ptr 2 0),(3,.i y1),(4,.ptr 4 0),(8,.i v6),(87,.b (((y72.map A1).length:Int)==0))]) (O0:=[(2,.box 34 [.esl 1,.esl 1]),(4,.box 34 [.suf 12 0 0,.suf 14 0 0]),(12,.buf 0 3 1 (l14.map A3)),(14,.tree 0 31 1 [.o 26 3 [.z,.z,.z]] (l64.map A0) none)]) (T0:=[kC b20 16201,.inBlock 5,kC b20 4051,kL b20 1012,.inBlock 4,kC b20 127]) ?_;refine jI 0 87 hF ?_ ?_<;>intro hF
        .obtain⟨y73,e122,hF⟩:=bnd hF;refine B5 1 (Bh5 (g:=0) (e:=31) (e2:=26) (n:=3) (es:=l64.map A0) 14 1200 (Int.toNat v6) (y73.map A1) (by kernel_rfl) (by kernel_rfl) (by kernel_rfl) (gjo (f:=A0) e122) ?_);refine B5 9 (J3 (o:=chk (decide (0<=v6)&&(decide (0+Int.toNat v6=Int.toNat v6)&&decide (Int.toNat v6<(l64.map A0).length)))) [] (by kernel_rfl) (ckI e122) ?_);refine B5 0 (J3 (o:=chk (decide ((Int.toNat v6)=(Int.toNat v6))&&decide ((Int.toNat v6)<(l64.map A0).length))) [] (by kernel_rfl) (ckE e122) ?_);obtain⟨l65,e123,hF⟩:=bnd hF;refine B5 1 (Ap8 (g:=0) (gd:=0) (e:=31) (e2:=26) (n:=3) (es:=l64.map A0) (ds:=[(⟨[],[48],[(⟨v6,[49]⟩:B7)]⟩:A2)].map A1) 14 95 (Int.toNat v6) (l65.map A0) (by kernel_rfl) (by kernel_rfl) (by kernel_rfl) (by kernel_rfl) (glt (f:=A0) e122) (by cases e123;exact shm (f:=A0) (z:=[(⟨[],[48],[(⟨v6,[49]⟩:B7)]⟩:A2)])) ?_);refine ja 0 (S0:=[(2,.ptr 2 0),(3,.i y1),(4,.ptr 4 0),(8,.i v6)]) (O0:=[(2,.box 34 [.esl 1,.esl 1]),(4,.box 34 [.suf 12 0 0,.suf 14 0 0]),(12,.buf 0 3 1 (l14.map A3)),(14,.tree 0 31 1 [.o 26 3 [.z,.z,.z]] (l65.map A0) none)]) (T0:=[.inBlock 5,kC b20 4051,kL b20 1012,.inBlock 4,kC b20 127]) ?_;exact ja 1 (hA6 _ hF)
        .exact ja 3 (hA6 _ hF)
       .refine B5 7 (U0 (g:=0) (sz:=1) (e:=31) (shs:=[.o 26 3 [.z,.z,.z]]) (es:=l60.map A0) 14 (by kernel_rfl) ?_);cases hF;exact jr 0
      exact ja 9 (hL5 _ _ _ hF)
    clear hF;rename _=some o3=>hF
    refine jI 10 36 hF ?_ ?_<;>intro hF
    .cases hF;exact ja 3 hR3
    .cases hF;exact ja 3 hR3
   exact ja 9 (hL3 _ _ _ hF)
 exact ja 7 (hL1 _ _ _ hF)
structure B1 where
 Model:A9
 p:Int
 gains:Int
 deriving DecidableEq
def Ga3(d0:List A2):Option Bool:=
 (
  bif decide (((d0.map A1).length:Int)<1) then
   (some true)
  else
   (some (decide (((d0.map A1).length:Int)>4)))).bind fun o1=>
 some o1
noncomputable abbrev Go6:=C0 f209
abbrev Gt0(r:Bool):=GJ prog 11 f209 (.b r)
theorem Ew7{d0}{r}(hF:Ga3 d0=some r):
 C1 prog 209 [.l 3 d0 A1] (.b r):=by
 refine cf 11 func209 ?_;obtain⟨o1,hO,hF⟩:=bnd hF;have hR1:Gt0 r ⟨mkT [(2,.b o1)],[],[kO Go6 6,kC Go6 7]⟩:=by
  clear hO;cases hF;exact jr 1
 clear hF;rename _=some o1=>hF
 refine jI 10 6 hF ?_ ?_<;>intro hF
 .cases hF;exact ja 5 hR1
 .cases hF;exact ja 5 hR1
def Ah3(d0:List (List A2)):Nat->Int->Option Int
 |0,_=>none
 |nL1+1,v2=>
  bif decide (v2<((d0.map A0).length:Int)) then
   ((C2 d0 v2).bind fun y5=>
   (Ga3 y5).bind fun y6=>
   bif y6 then
    (some v2)
   else
    ((Ah3 d0 nL1) (i64.wrap (v2+1))))
  else
   (some (-1))
def Ga2(fuel:Nat)(d0:List (List A2)):Option Int:=
 Ah3 d0 fuel 0
noncomputable abbrev Go4:=C0 f190
abbrev Gs8(r:Int):=GJ prog 19 f190 (.i r)
theorem Ew5{fuel}{d0}{r}(hF:Ga2 fuel d0=some r):
 C1 prog 190 [.l 1 d0 A0,.d (.fnc 209)] (.i r):=by
 unfold Ga2 at hF;refine cf 19 func190 ?_;have hL1:∀nL1 v2,Ah3 d0 nL1 v2=some r->Gs8 r ⟨mkT [(0,.l 1 d0 A0),(1,.d (.fnc 209)),(7,.i ((d0.map A0).length:Int)),(8,.i v2)],[],[kL Go4 52,.inBlock 0,kC Go4 7]⟩:=by
  clear hF;refine lpI (fun _ h=>by cases h) fun nL1 iL1 v2 hF=> ?_
  refine jI 6 9 hF ?_ ?_<;>intro hF
  .obtain⟨y5,e5,hF⟩:=bnd hF;refine jo1 14 (gm' A0 e5) ?_;refine jB 1 hF Ew7 fun y6 hF=> ?_
   refine jI 1 16 hF ?_ ?_<;>intro hF
   .cases hF;exact jr 6
   .exact ja 7 (iL1 _ hF)
  .cases hF;exact jr 6
 exact ja 13 (hL1 _ _ hF)
def Ge5(fuel:Nat)(d0:List (List A2)):Option Bool:=
 (Ga2 fuel d0).bind fun y1=>
 some (decide (y1>=0))
theorem Ev3{fuel}{d0}{r}(hF:Ge5 fuel d0=some r):
 C1 prog 156 [.l 1 d0 A0,.d (.fnc 209)] (.b r):=by
 refine cf 9 func156 ?_;refine jB 8 hF Ew5 fun y1 hF=> ?_
 cases hF;exact jr 3
noncomputable abbrev Gu6:=C0 f173
def Ga4(d0:Int):Option Bool:=
 (
  bif d0 !=0 then
   (some (d0 !=1))
  else
   (some false)).bind fun o1=>
 some o1
noncomputable abbrev Go7:=C0 f211
abbrev Gt1(r:Bool):=GJ prog 9 f211 (.b r)
theorem Ew9{d0}{r}(hF:Ga4 d0=some r):
 C1 prog 211 [.i d0] (.b r):=by
 refine cf 9 func211 ?_;obtain⟨o1,hO,hF⟩:=bnd hF;have hR1:Gt1 r ⟨mkT [(2,.b o1)],[],[kO Go7 6,kC Go7 7]⟩:=by
  clear hO;cases hF;exact jr 1
 clear hF;rename _=some o1=>hF
 refine jI 9 5 hF ?_ ?_<;>intro hF
 .cases hF;exact ja 4 hR1
 .cases hF;exact ja 4 hR1
def Ah4(d0:List Int):Nat->Int->Option Int
 |0,_=>none
 |nL1+1,v2=>
  bif decide (v2<((d0.map A3).length:Int)) then
   ((C2 d0 v2).bind fun y5=>
   (Ga4 y5).bind fun y6=>
   bif y6 then
    (some v2)
   else
    ((Ah4 d0 nL1) (i64.wrap (v2+1))))
  else
   (some (-1))
def Ga8(fuel:Nat)(d0:List Int):Option Int:=
 Ah4 d0 fuel 0
noncomputable abbrev Gp1:=C0 f249
abbrev Gt7(r:Int):=GJ prog 19 f249 (.i r)
theorem Ex9{fuel}{d0}{r}(hF:Ga8 fuel d0=some r):
 C1 prog 249 [.l 1 d0 A3,.d (.fnc 211)] (.i r):=by
 unfold Ga8 at hF;refine cf 19 func249 ?_;have hL1:∀nL1 v2,Ah4 d0 nL1 v2=some r->Gt7 r ⟨mkT [(0,.l 1 d0 A3),(1,.d (.fnc 211)),(7,.i ((d0.map A3).length:Int)),(8,.i v2)],[],[kL Gp1 52,.inBlock 0,kC Gp1 7]⟩:=by
  clear hF;refine lpI (fun _ h=>by cases h) fun nL1 iL1 v2 hF=> ?_
  refine jI 6 9 hF ?_ ?_<;>intro hF
  .obtain⟨y5,e5,hF⟩:=bnd hF;refine jo1 14 (gm' A3 e5) ?_;refine jB 1 hF Ew9 fun y6 hF=> ?_
   refine jI 1 16 hF ?_ ?_<;>intro hF
   .cases hF;exact jr 6
   .exact ja 7 (iL1 _ hF)
  .cases hF;exact jr 6
 exact ja 13 (hL1 _ _ hF)
def Ge9(fuel:Nat)(d0:List Int):Option Bool:=
 (Ga8 fuel d0).bind fun y1=>
 some (decide (y1>=0))
theorem Ew8{fuel}{d0}{r}(hF:Ge9 fuel d0=some r):
 C1 prog 210 [.l 1 d0 A3,.d (.fnc 211)] (.b r):=by
 refine cf 9 func210 ?_;refine jB 8 hF Ex9 fun y1 hF=> ?_
 cases hF;exact jr 3
def Cm0(d0:A9):Option (List Int×List (List A2)):=
 some (d0.Owner,d0.Choices)
noncomputable abbrev Gu7:=C0 f196
theorem Cd7{d0}{r}(hF:Cm0 d0=some r):
 M4 prog 196 [] [.agg [.l 1 d0.Owner A3,.l 1 d0.Choices A0]] [(2000,.box 34 [.l 1 r.1 A3,.l 1 r.2 A0])] (.fn 240 [] [.ptr 2000 0]):=by
 unfold Cm0 at hF;refine cr 4 func196 ?_;refine ja 10 (S0:=[(2,.fn 240 [] [.ptr 1 0])]) (O0:=[(1,.box 34 [.l 1 d0.Owner A3,.l 1 d0.Choices A0])]) (T0:=[kC Gu7 7]) ?_;refine B5 0 (Ay1 [(1,2000)] (by kernel_rfl) (by kernel_rfl) (by kernel_rfl) (by kernel_rfl) ?_);have hF:=oi hF;subst hF;exact B5 0 (Bl4 (xs:=[.fn 240 [] [.ptr 2000 0]]) [.fn 240 [] [.ptr 2000 0]] rfl (by kernel_rfl) (by kernel_rfl) (R1.refl _) rfl)
def C7(x:Int×A2):List Kx.V:=[.d (.int .i64 x.1),.agg [.d (.str x.2.Act),.d (.str x.2.Gain),.d (.sl 2 (x.2.Next.map A4))]]
def Ap3(v6:Int)(y9:List A2)(cL1:Int->Option (List (Int×A2))):Nat->Int->Option (List (Int×A2))
 |0,_=>none
 |nL2+1,v8=>
  bif decide (v8<((y9.map A1).length:Int)) then
   ((C2 y9 v8).bind fun y12=>
   (
    (Ap3 v6 y9 cL1 nL2) (i64.wrap (v8+1))).bind fun l9=>
   some ((v6,y12)::l9))
  else
   (cL1 (i64.wrap (v6+1)))
def Ab3(fuel:Nat)(d1:List (List A2)):Nat->Int->Option (List (Int×A2))
 |0,_=>none
 |nL1+1,v6=>
  bif decide (v6<((d1.map A0).length:Int)) then
   ((C2 d1 v6).bind fun y9=>
   Ap3 v6 y9 (Ab3 fuel d1 nL1) fuel 0)
  else
   (some [])
def Ex8(fuel:Nat)(d0:List Int)(d1:List (List A2)):Option (List (Int×A2)):=
 Ab3 fuel d1 fuel 0
noncomputable abbrev Gc0:=C0 f240
theorem Ce1{fuel}{d0}{d1}{r}(hF:Ex8 fuel d0 d1=some r):
 Cx1 prog 240 [(2000,.frn 2000)] [.yl 2000,.rp [.sl 1 (d0.map A3),.sl 1 (d1.map A0)] 0] (r.map C7) false:=by
 unfold Ex8 at hF;refine Cr5 (N:=28) (b:=C0 f240) func240 (by kernel_rfl) rfl rfl (fun yl_ Inv_ Stop_ Pan_ hR_=> ?_);have hL1:∀nL1 r v6,Ab3 fuel d1 nL1 v6=some r->J none prog 28 [] (Ee7 prog f240 yl_ Inv_ Stop_ Pan_ false (some (r.map C7))) ⟨mkT [(0,.yl 2000),(8,.l 1 d1 A0),(9,.i ((d1.map A0).length:Int)),(10,.i v6)],[(2000,.frn 2000)],[kL Gc0 12,.inBlock 0]⟩:=by
  clear hF;refine lpI (fun _ _ h=>by cases h) fun nL1 iL1 r v6 hF=> ?_
  refine jI 6 11 hF ?_ ?_<;>intro hF
  .obtain⟨y9,e9,hF⟩:=bnd hF;refine jo1 7 (gm' A0 e9) ?_;have hL2:∀nL2 r v8,Ap3 v6 y9 (Ab3 fuel d1 nL1) nL2 v8=some r->J none prog 28 [] (Ee7 prog f240 yl_ Inv_ Stop_ Pan_ false (some (r.map C7))) ⟨mkT [(0,.yl 2000),(3,.i v6),(8,.l 1 d1 A0),(9,.i ((d1.map A0).length:Int)),(10,.i v6),(15,.l 3 y9 A1),(16,.i ((y9.map A1).length:Int)),(17,.i v8)],[(2000,.frn 2000)],[kL Gc0 3276,.inBlock 2,.inBlock 1,kC Gc0 103,kL Gc0 12,.inBlock 0]⟩:=by
    clear hF;refine lpI (fun _ _ h=>by cases h) fun nL2 iL2 r v8 hF=> ?_
    refine jI 6 18 hF ?_ ?_<;>intro hF
    .obtain⟨y12,e12,hF⟩:=bnd hF;refine jo1 6 (gm' A1 e12) ?_;obtain⟨l9,hY_,hr_⟩:=bnd hF;clear hF;have hr_:=ax_ hr_;subst hr_;have hF:=hY_;clear hY_;refine B5 9 (Di1 hR_ (xs:=[.i v6,.agg [.s y12.Act,.s y12.Gain,.l 2 y12.Next A4]]) [.i v6,.agg [.s y12.Act,.s y12.Gain,.l 2 y12.Next A4]] (ys:=l9.map C7) (by kernel_rfl) (by kernel_rfl) (R1.refl _) ?_ ?_)
     rotate_left
     .exact B5 3 (Bl3 hR_ (.inr rfl) rfl rfl (by kernel_rfl))
     .exact ja 9 (iL2 _ _ hF)
    .exact ja 7 (iL1 _ _ hF)
   exact ja 12 (hL2 _ _ _ hF)
  .have hF:=oi hF;subst hF;exact B5 2 (Bl3 hR_ (.inl ⟨rfl,rfl⟩) rfl rfl (by kernel_rfl))
 exact ja 9 (hL1 _ _ _ hF)
def Ga6(d0:Int):Option Bool:=
 (
  bif decide (d0<97) then
   (some true)
  else
   (some (decide (d0>122)))).bind fun o1=>
 some o1
noncomputable abbrev Go8:=C0 f213
abbrev Gt2(r:Bool):=GJ prog 9 f213 (.b r)
theorem Ex1{d0}{r}(hF:Ga6 d0=some r):
 C1 prog 213 [.y d0] (.b r):=by
 refine cf 9 func213 ?_;obtain⟨o1,hO,hF⟩:=bnd hF;have hR1:Gt2 r ⟨mkT [(2,.b o1)],[],[kO Go8 6,kC Go8 7]⟩:=by
  clear hO;cases hF;exact jr 1
 clear hF;rename _=some o1=>hF
 refine jI 9 5 hF ?_ ?_<;>intro hF
 .cases hF;exact ja 4 hR1
 .cases hF;exact ja 4 hR1
def Ah5(d0:List Int):Nat->Int->Option Int
 |0,_=>none
 |nL1+1,v2=>
  bif decide (v2<((d0.map L2).length:Int)) then
   ((C2 d0 v2).bind fun y5=>
   (Ga6 y5).bind fun y6=>
   bif y6 then
    (some v2)
   else
    ((Ah5 d0 nL1) (i64.wrap (v2+1))))
  else
   (some (-1))
def Ga9(fuel:Nat)(d0:List Int):Option Int:=
 Ah5 d0 fuel 0
noncomputable abbrev Gp2:=C0 f250
abbrev Gt8(r:Int):=GJ prog 19 f250 (.i r)
theorem Ey0{fuel}{d0}{r}(hF:Ga9 fuel d0=some r):
 C1 prog 250 [.l 1 d0 L2,.d (.fnc 213)] (.i r):=by
 unfold Ga9 at hF;refine cf 19 func250 ?_;have hL1:∀nL1 v2,Ah5 d0 nL1 v2=some r->Gt8 r ⟨mkT [(0,.l 1 d0 L2),(1,.d (.fnc 213)),(7,.i ((d0.map L2).length:Int)),(8,.i v2)],[],[kL Gp2 52,.inBlock 0,kC Gp2 7]⟩:=by
  clear hF;refine lpI (fun _ h=>by cases h) fun nL1 iL1 v2 hF=> ?_
  refine jI 6 9 hF ?_ ?_<;>intro hF
  .obtain⟨y5,e5,hF⟩:=bnd hF;refine jo1 14 (gm' L2 e5) ?_;refine jB 1 hF Ex1 fun y6 hF=> ?_
   refine jI 1 16 hF ?_ ?_<;>intro hF
   .cases hF;exact jr 6
   .exact ja 7 (iL1 _ hF)
  .cases hF;exact jr 6
 exact ja 13 (hL1 _ _ hF)
def Ga5(fuel:Nat)(d0:List Int):Option Bool:=
 (Ga9 fuel d0).bind fun y1=>
 some (decide (y1>=0))
theorem Ex0{fuel}{d0}{r}(hF:Ga5 fuel d0=some r):
 C1 prog 212 [.l 1 d0 L2,.d (.fnc 213)] (.b r):=by
 refine cf 9 func212 ?_;refine jB 8 hF Ey0 fun y1 hF=> ?_
 cases hF;exact jr 3
def Ev6:Option Bool:=
 some false
def Ev7(fuel:Nat):List (Int×A2)->Option Bool
 |[]=>
  some true
 |y6::ys_F175_L1=>
  (
   bif decide ((y6.2.Act.length:Int)>8) then
    (some true)
   else
    ((Ga5 fuel (y6.2.Act.map toI)).bind fun y9=>
    some y9)).bind fun o2=>
  bif o2 then
   (Ev6)
  else
   ((Ev7 fuel ys_F175_L1))
noncomputable abbrev Cf0:=C0 f175
def Ap4(d0:List UInt8):Nat->Int->Int->Option Int
 |0,_,_=>none
 |nL1+1,v3,v4=>
  bif decide (v4<(d0.length:Int)) then
   ((C2 d0 v4).bind fun y5=>
   (Ap4 d0 nL1) (i64.wrap ((i64.wrap (10*v3))+(i64.wrap (IntKind.u8.wrap ((y5.toNat:Int)-48))))) (i64.wrap (v4+1)))
  else
   (some v3)
def Eb1:Nat->(List UInt8)->Option Int
 |0,_=>none
 |fuel+1,d0=>
  (C2 d0 0).bind fun y1=>
  bif (y1.toNat:Int)==45 then
   (ass (decide (0<=1)&&decide (1<=(d0.length:Int))&&decide ((d0.length:Int)<=d0.length))<|
   ((Eb1 fuel) ((d0.drop (Int.toNat 1)).take (Int.toNat ((d0.length:Int)-1)))).bind fun y2=>
   some (i64.wrap (0-y2)))
  else
   (Ap4 d0 fuel 0 0)
noncomputable abbrev Gp3:=C0 f252
abbrev Gt9(r:Int):=GJ prog 27 f252 (.i r)
theorem Df6:∀{fuel:Nat} {d0:List UInt8} {r:Int},Eb1 fuel d0=some r->C1 prog 252 [.s d0] (.i r):=by
 intro fuel
 induction fuel with
 |zero=>intro _ r hF;cases hF
 |succ fuel ih=>
  intro d0 r hF;have ih_F252:∀(d0:List UInt8) (r:Int),Eb1 fuel d0=some r->C1 prog 252 [.s d0] (.i r):=fun d0 r h=>ih h
  refine cf 27 func252 ?_;obtain⟨y1,e1,hF⟩:=bnd hF;refine jo1 8 (gs e1) ?_;refine jI 2 7 hF ?_ ?_<;>intro hF
  .obtain⟨hb2,hF⟩:=O1 hF;refine jo1 4 (ck hb2) ?_;obtain⟨y2,e2,hF⟩:=bnd hF;refine jc 0 (ih_F252 _ _ e2) ?_;cases hF;exact jr 3
  .have hL1:∀nL1 v3 v4,Ap4 d0 nL1 v3 v4=some r->Gt9 r ⟨mkT [(0,.s d0),(3,.i v3),(13,.i (d0.length:Int)),(14,.i v4)],[],[kL Gp3 244,.inBlock 0,kC Gp3 31]⟩:=by
    clear hF;refine lpI (fun _ _ h=>by cases h) fun nL1 iL1 v3 v4 hF=> ?_
    refine jI 6 15 hF ?_ ?_<;>intro hF
    .obtain⟨y5,e5,hF⟩:=bnd hF;refine jo1 14 (gs e5) ?_;exact ja 10 (iL1 _ _ hF)
    .cases hF;exact jr 7
   exact ja 15 (hL1 _ _ _ hF)
def Cm1(fuel:Nat)(d0:List UInt8):Option (Int×Int×Bool):=
 (Fn1 fuel d0).bind fun y1=>
 bif !y1 then
  (some (0,0,false))
 else
  ((Gf1 fuel d0).bind fun y2=>
  (Eb1 fuel y2.1).bind fun y3=>
  (Eb1 fuel y2.2.1).bind fun y4=>
  some (y3,y4,y2.2.2==0))
theorem Cd8{fuel}{d0}{r}(hF:Cm1 fuel d0=some r):
 C1 prog 214 [.s d0] (.tup [.i r.1,.i r.2.1,.b r.2.2]):=by
 refine cf 23 func214 ?_;refine jB 10 hF Ew6 fun y1 hF=> ?_
 refine jI 2 10 hF ?_ ?_<;>intro hF
 .cases hF;exact jr 7
 .refine jB 5 hF Ey1 fun y2 hF=> ?_
  refine jB 11 hF Df6 fun y3 hF=> ?_
  refine jB 1 hF Df6 fun y4 hF=> ?_
  cases hF;exact jr 6
def Ax7:Nat->Int->Int->Option Int
 |0,_,_=>none
 |nL1+1,v3,v4=>
  bif decide (v4>0) then
   (ass (decide (v4≠0))<|
   (Ax7 nL1) v4 (Int.tmod v3 v4))
  else
   (some v3)
def Ey2(fuel:Nat)(d0:Int)(d1:Int):Option Int:=
 Ax7 fuel d0 d1
noncomputable abbrev Gp4:=C0 f253
abbrev Gu0(r:Int):=GJ prog 12 f253 (.i r)
theorem Df7{fuel}{d0}{d1}{r}(hF:Ey2 fuel d0 d1=some r):
 C1 prog 253 [.i d0,.i d1] (.i r):=by
 unfold Ey2 at hF;refine cf 12 func253 ?_;have hL1:∀nL1 v3 v4,Ax7 nL1 v3 v4=some r->Gu0 r ⟨mkT [(0,.i v3),(1,.i v4)],[],[kL Gp4 24,.inBlock 0,kC Gp4 7]⟩:=by
  clear hF;refine lpI (fun _ _ h=>by cases h) fun nL1 iL1 v3 v4 hF=> ?_
  refine jI 7 6 hF ?_ ?_<;>intro hF
  .refine jd 3 ?_;obtain⟨hb6,hF⟩:=O1 hF;refine do1 3 (ck hb6) ?_;refine je 2 ?_;exact ja 1 (iL1 _ _ hF)
  .cases hF;exact jr 7
 exact ja 7 (hL1 _ _ _ hF)
def Gr4(fuel:Nat)(d0:Int)(d1:List Int)(d2:List (List A2))(d3:Int)(d4:Int):Option (Bool×Int):=
 (Ey2 fuel d4 d0).bind fun y1=>
 ass (decide (y1≠0))<|
 some (decide ((i64.wrap ((i64.wrap (Int.tdiv d4 y1))*d0))<=9999),i64.wrap ((i64.wrap (Int.tdiv d4 y1))*d0))
def Ev8(v5:Int):Option (Bool×Int):=
 some (false,v5)
def Ev9(fuel:Nat)(d0:List Int)(d1:List (List A2))(d2:Int):List (Int×A2)->Int->Option (Bool×Int)
 |[],v4=>
  some (true,v4)
 |y12::ys_F176_L1,v4=>
  (Cm1 fuel y12.2.Gain).bind fun y13=>
  (
   bif !y13.2.2 then
    (some (true,v4))
   else
    (bif decide (y13.1<0) then
     (some (true,v4))
    else
     ((Gr4 fuel y13.2.1 d0 d1 d2 v4).bind fun y16=>
     some (!y16.1,y16.2)))).bind fun o3=>
  bif o3.1 then
   (Ev8 o3.2)
  else
   ((Ev9 fuel d0 d1 d2 ys_F176_L1) o3.2)
noncomputable abbrev Cf1:=C0 f176
def Gf0(fuel:Nat)(d0:Int)(d1:List Int)(d2:List (List A2))(d3:Int)(d4:Int):Option (Bool×Int):=
 (Ey2 fuel d3 d0).bind fun y1=>
 ass (decide (y1≠0))<|
 some (decide ((i64.wrap ((i64.wrap (Int.tdiv d3 y1))*d0))<=9999),i64.wrap ((i64.wrap (Int.tdiv d3 y1))*d0))
def Df1(fuel:Nat)(d0:List B7)(v8:Int):Nat->Int->Int->Option (Bool×Int)
 |0,_,_=>none
 |nL2+1,v12,v13=>
  bif decide (v13<((d0.map A4).length:Int)) then
   ((C2 d0 v13).bind fun y20=>
   (Cm1 fuel y20.P).bind fun y21=>
   ass (decide (y21.2.1≠0))<|
   (Df1 fuel d0 v8 nL2) (i64.wrap (v12+(i64.wrap (y21.1*(i64.wrap (Int.tdiv v8 y21.2.1)))))) (i64.wrap (v13+1)))
  else
   (some (v12==v8,v8))
def Ex2(fuel:Nat)(d0:List B7)(d1:List Int)(d2:List (List A2))(d4:Int):Nat->Int->Int->Int->Option (Bool×Int)
 |0,_,_,_=>none
 |nL1+1,v6,v7,v8=>
  bif decide (v7<((d0.map A4).length:Int)) then
   ((C2 d0 v7).bind fun y11=>
   (Cm1 fuel y11.P).bind fun y12=>
   (
    bif decide (y11.To<=v6) then
     (some (true,v8))
    else
     (bif decide (y11.To>=((d1.map A3).length:Int)) then
      (some (true,v8))
     else
      (bif !y12.2.2 then
       (some (true,v8))
      else
       (bif decide (y12.1<1) then
        (some (true,v8))
       else
        ((Gf0 fuel y12.2.1 d1 d2 v8 d4).bind fun y15=>
        some (!y15.1,y15.2)))))).bind fun o3=>
   bif o3.1 then
    (some (false,o3.2))
   else
    ((Ex2 fuel d0 d1 d2 d4 nL1) y11.To (i64.wrap (v7+1)) o3.2))
  else
   (Df1 fuel d0 v8 fuel 0 0)
noncomputable abbrev Ec1:=C0 f216
noncomputable abbrev Cy2:=C0 f177
def Cw7(fuel:Nat)(d0:List Int)(d1:List (List A2))(d2:Int)(d3:Int):Option Bool:=
 (
  bif decide (((d0.map A3).length:Int)>=1) then
   (bif decide (((d0.map A3).length:Int)<=12) then
    (bif ((d1.map A0).length:Int)==((d0.map A3).length:Int) then
     ((Ge5 fuel d1).bind fun y3=>
     some (!y3))
    else
     (some false))
   else
    (some false))
  else
   (some false)).bind fun o1=>
 some o1
abbrev Gg0(d0:List Int)(d1:List (List A2))(d2:Int)(d3:Int)(r:Bool):=J none prog 43 [] (Do2 prog f173 [(2000,.box 238 [.l 1 d0 A3,.l 1 d1 A0,.i d2,.i d3])] (.b r))
theorem Dz9{fuel}{d0}{d1}{d2}{d3}{r}(hF:Cw7 fuel d0 d1 d2 d3=some r):
 M4 prog 173 [(2000,.box 238 [.l 1 d0 A3,.l 1 d1 A0,.i d2,.i d3])] [.ptr 2000 0] [(2000,.box 238 [.l 1 d0 A3,.l 1 d1 A0,.i d2,.i d3])] (.b r):=by
 unfold Cw7 at hF;refine cr 43 func173 ?_;obtain⟨o1,hO,hF⟩:=bnd hF;have hR1:Gg0 d0 d1 d2 d3 r ⟨mkT [(2,.b o1)],[(2000,.box 238 [.l 1 d0 A3,.l 1 d1 A0,.i d2,.i d3])],[kC Gu6 7]⟩:=by
  clear hO;cases hF;exact jrr 0
 clear hF;rename _=some o1=>hF
 refine jd 5 ?_;refine dI 8 10 hF ?_ ?_<;>intro hF
 .refine dI 9 19 hF ?_ ?_<;>intro hF
  .refine dI 15 34 hF ?_ ?_<;>intro hF
   .refine dB 5 hF Ev3 fun y3 hF=> ?_
    refine je 3 ?_;cases hF;exact ja 0 hR1
   .refine je 9 ?_;cases hF;exact ja 0 hR1
  .refine je 24 ?_;cases hF;exact ja 0 hR1
 .refine je 33 ?_;cases hF;exact ja 0 hR1
def Cw8(fuel:Nat)(d0:List Int)(d1:List (List A2))(d2:Int)(d3:Int):Option Bool:=
 (Ge9 fuel d0).bind fun y1=>
 some (!y1)
theorem Ea0{fuel}{d0}{d1}{d2}{d3}{r}(hF:Cw8 fuel d0 d1 d2 d3=some r):
 M4 prog 174 [(2000,.box 238 [.l 1 d0 A3,.l 1 d1 A0,.i d2,.i d3])] [.ptr 2000 0] [(2000,.box 238 [.l 1 d0 A3,.l 1 d1 A0,.i d2,.i d3])] (.b r):=by
 unfold Cw8 at hF;refine cr 10 func174 ?_;refine jB 11 hF Ew8 fun y1 hF=> ?_
 cases hF;exact jrr 3
def Bk7:Option Bool:=
 some false
def X7(fuel:Nat):List (Int×A2)->Option Bool
 |[]=>
  some true
 |y6::ys_F175a_L1=>
  (
   bif decide ((y6.2.Act.length:Int)>8) then
    (some true)
   else
    ((Ga5 fuel (y6.2.Act.map toI)).bind fun y9=>
    some y9)).bind fun o2=>
  bif o2 then
   (Bk7)
  else
   ((X7 fuel ys_F175a_L1))
def Br9(fuel:Nat)(d0:List Int)(d1:List (List A2))(d2:Int)(d3:Int):Option Bool:=
 (Cm0 (⟨d0,d1⟩:A9)).bind fun y1=>
 (Ex8 fuel y1.1 y1.2).bind fun ys1=>
 X7 fuel ys1
theorem Ea1{fuel}{d0}{d1}{d2}{d3}{r}(hF:Br9 fuel d0 d1 d2 d3=some r):
 M4 prog 175 [(2000,.box 238 [.l 1 d0 A3,.l 1 d1 A0,.i d2,.i d3])] [.ptr 2000 0] [(2000,.box 238 [.l 1 d0 A3,.l 1 d1 A0,.i d2,.i d3])] (.b r):=by
 unfold Br9 at hF;refine Bm2 (N:=22) (b:=C0 f175) func175 (by kernel_rfl) rfl rfl (by kernel_rfl) (fun s_ r0_ w00_ M00_ st_=> ?_);obtain⟨y1,e1,hF⟩:=bnd hF;refine jcr 11 [(9,2000)] (Cd7 e1) ?_;refine ja 2 (S0:=[(2,.ptr 2 0),(9,.fn 240 [] [.ptr 9 0])]) (O0:=[(2,.box 4 [.b false]),(9,.box 34 [.l 1 y1.1 A3,.l 1 y1.2 A0]),(2000,.box 238 [.l 1 d0 A3,.l 1 d1 A0,.i d2,.i d3])]) (T0:=[kC Cf0 26,.inBlock 0,kC Cf0 7]) ?_;refine Ay1 [(9,9),(2000,2000),(2,2100)] (by kernel_rfl) (by kernel_rfl) (by kernel_rfl) (by kernel_rfl) ?_;refine Dh6 (S0:=[(2,.ptr 2100 0),(9,.fn 240 [] [.ptr 9 0])]) (O0:=[(9,.box 34 [.l 1 y1.1 A3,.l 1 y1.2 A0]),(2000,.box 238 [.l 1 d0 A3,.l 1 d1 A0,.i d2,.i d3]),(2100,.box 4 [.b false])]) (T0:=[kC Cf0 26,.inBlock 0,kC Cf0 7]) [2,9] [9,2000,2100] (by kernel_rfl) rfl ?_;obtain⟨ys1,e2,hF⟩:=bnd hF;obtain⟨G_,hG_⟩:∃G:List (List Kx.V)->List (Nat×B9)->Prop,G=(fun yv ob=>∃(yl_:List (Int×A2)),yv=yl_.map C7/\ob=[(2000,.box 238 [.l 1 d0 A3,.l 1 d1 A0,.i d2,.i d3]),(2100,.box 4 [.b false])]/\X7 fuel yl_=some r):=⟨_,rfl⟩
 obtain⟨GX_,hGX_⟩:∃G:Code->List (Nat×B9)->Prop,G=(fun j ob=>(∃(_:Unit),j= .ret/\ob=[(2000,.box 238 [.l 1 d0 A3,.l 1 d1 A0,.i d2,.i d3]),(2100,.box 4 [.b false])]/\Bk7=some r)):=⟨_,rfl⟩
 refine Ay0 (P:=prog) (g:=(.tmp 9)) (ps:= #[10,11]) (asg:=(cAt Cf0 [1,0,1,0,0])) (bo:=(cAt Cf0 [1,0,1,0,1])) (k:=[.inBlock 0,kC Cf0 7]) (gf:=240) (first:=[]) (cap:=[.ptr 9 0]) (xs:=[.rp [.sl 1 (y1.1.map A3),.sl 1 (y1.2.map A0)] 0]) (os:=[]) (S1:=[(2,.ptr 2100 0)]) (ob0:=[(2000,.box 238 [.l 1 d0 A3,.l 1 d1 A0,.i d2,.i d3]),(2100,.box 4 [.b false])]) [] [2] [2000,2100] [.rp [.sl 1 (y1.1.map A3),.sl 1 (y1.2.map A0)] 0] (ysAll:=ys1.map C7) [2000,2100] G_ GX_ rfl (by kernel_rfl) rfl (by kernel_rfl) rfl (by kernel_rfl) (R1.refl _) Fc6 (Ce1 e2) (by kernel_rfl) (by kernel_rfl) (by kernel_rfl) ?_ ?_ ?_ ⟨by kernel_rfl,by kernel_rfl⟩ ?_ ?_ ?_
 .rw[hG_];exact⟨ys1,rfl,by kernel_rfl,hF⟩
 .intro yv_ ob_ h_;rw[hG_]at h_;obtain⟨_,_,rfl,_⟩:=h_;kernel_rfl
 .intro j_ ob_ h_;rw[hGX_]at h_;rcases h_ with⟨_,_,rfl,_⟩<;>kernel_rfl
 .intro x_ hxa_ hxb_ hxp_ yv_ ysv_ ob_ h_;rw[hG_]at h_;obtain⟨yl_,hy_,rfl,hF⟩:=h_;cases yl_ with
  |nil=>cases hy_
  |cons y6 ys_F175a_L1=>
   cases hy_;rw[X7]at hF;refine Dp1 (by kernel_rfl) ?_;refine Dh6 (S0:=[(2,.ptr 2100 0),(10,.i y6.1),(11,.agg [.s y6.2.Act,.s y6.2.Gain,.l 2 y6.2.Next A4])]) (O0:=[(3000,.raw x_.D (.deferred (some []))),(3001,.raw x_.L (.loop (G2 x_ .ready none))),(2000,.box 238 [.l 1 d0 A3,.l 1 d1 A0,.i d2,.i d3]),(2100,.box 4 [.b false])]) (T0:=[kC Cf0 52,.begR x_.L,kC Cf0 53]) [2,10,11] [3000,3001,2000,2100] (by kernel_rfl) rfl ?_;refine ja 4 (S0:=[(2,.ptr 2100 0),(4,.ptr 4 0),(10,.i y6.1),(11,.agg [.s y6.2.Act,.s y6.2.Gain,.l 2 y6.2.Next A4])]) (O0:=[(3000,.raw x_.D (.deferred (some []))),(3001,.raw x_.L (.loop (G2 x_ .ready none))),(4,.box 26 [.s y6.2.Act,.s y6.2.Gain,.l 2 y6.2.Next A4]),(2000,.box 238 [.l 1 d0 A3,.l 1 d1 A0,.i d2,.i d3]),(2100,.box 4 [.b false])]) (T0:=[.begR x_.L,kC Cf0 53]) ?_;refine Bs9 (l:=x_.L) (q:=3001) (k:=[kC Cf0 53]) (rec:=G2 x_ .ready none) rfl rfl rfl ?_;obtain⟨o2,hO,hF⟩:=bnd hF;have hR2:J (some x_.L) prog 22 [] (Eo5 x_ G_ GX_ (fun _=>False) (ys_F175a_L1.map C7)) ⟨mkT [(2,.ptr 2100 0),(21,.b o2)],[(3000,.raw x_.D (.deferred (some []))),(3001,.raw x_.L (.loop (G2 x_ .busy none))),(2000,.box 238 [.l 1 d0 A3,.l 1 d1 A0,.i d2,.i d3]),(2100,.box 4 [.b false])],[kO Cf0 212,kC Cf0 213,.inBlock 1]⟩:=by
    clear hO;refine jI 1 21 hF ?_ ?_<;>intro hF
    .refine ja 5 (S0:=[]) (O0:=rob x_ .busy none [(2000,.box 238 [.l 1 d0 A3,.l 1 d1 A0,.i d2,.i d3]),(2100,.box 4 [.b false])]) (T0:=[.code (.ret),.inBlock 1]) ?_;exact Di0 rfl [(2000,.box 238 [.l 1 d0 A3,.l 1 d1 A0,.i d2,.i d3]),(2100,.box 4 [.b false])] (k:=[.inBlock 1]) rfl rfl rfl (by kernel_rfl) (by rw[hGX_];exact⟨(),rfl,rfl,hF⟩)
    .refine ja 3 (S0:=[]) (O0:=rob x_ .busy none [(2000,.box 238 [.l 1 d0 A3,.l 1 d1 A0,.i d2,.i d3]),(2100,.box 4 [.b false])]) (T0:=[]) ?_;exact Bt0 rfl [(2000,.box 238 [.l 1 d0 A3,.l 1 d1 A0,.i d2,.i d3]),(2100,.box 4 [.b false])] rfl rfl (by kernel_rfl) (by rw[hG_];exact⟨ys_F175a_L1,rfl,rfl,hF⟩)
   clear hF;rename _=some o2=>hF
   refine jI 8 16 hF ?_ ?_<;>intro hF
   .cases hF;exact ja 5 hR2
   .refine B5 2 (G0 (o:=some (y6.2.Act.map Aj9)) ((y6.2.Act.map toI).map L2) (by kernel_rfl) (bym (f:=L2) (fun _=>rfl)) ?_);refine jB 0 hF Ex0 fun y9 hF=> ?_
    cases hF;exact ja 1 hR2
 .intro D_ ob_ h_;rw[hG_]at h_;obtain⟨yl_,hy_,rfl,hF⟩:=h_;cases yl_ with
  |cons _ _=>cases hy_
  |nil=>
   clear hy_;rw[X7]at hF;refine Bh7 st_ [(2100,2),(2000,2000)] (by kernel_rfl) (by kernel_rfl) (by kernel_rfl) (by kernel_rfl) ?_;refine ja 0 (S0:=[(2,.ptr 2 0)]) (O0:=[(2,.box 4 [.b false]),(2000,.box 238 [.l 1 d0 A3,.l 1 d1 A0,.i d2,.i d3])]) (T0:=[.inBlock 0,kC Cf0 7]) ?_;have hF:=oi hF;subst hF;exact B5 5 (Bh8 (xs:=[.b true]) st_ [.b true] rfl rfl (by kernel_rfl) (R1.refl _) rfl (by kernel_rfl))
 .intro D_ ob_ j_ h_;rw[hGX_]at h_;rcases h_ with⟨_,rfl,rfl,hF⟩
  .unfold Bk7 at hF;refine Bh7 st_ [(2100,2),(2000,2000)] (by kernel_rfl) (by kernel_rfl) (by kernel_rfl) (by kernel_rfl) ?_;refine ja 0 (S0:=[(2,.ptr 2 0)]) (O0:=[(2,.box 4 [.b false]),(2000,.box 238 [.l 1 d0 A3,.l 1 d1 A0,.i d2,.i d3])]) (T0:=[.code (.ret),.inBlock 0,kC Cf0 7]) ?_;have hF:=oi hF;subst hF;exact B5 0 (Bh8 (xs:=[.b false]) st_ [.b false] rfl rfl (by kernel_rfl) (R1.refl _) rfl (by kernel_rfl))
def Df0(fuel:Nat)(d0:Int)(d1:List Int)(d2:List (List A2))(d3:Int)(d4:Int):Option (Bool×Int):=
 (Ey2 fuel d4 d0).bind fun y1=>
 ass (decide (y1≠0))<|
 some (decide ((i64.wrap ((i64.wrap (Int.tdiv d4 y1))*d0))<=9999),i64.wrap ((i64.wrap (Int.tdiv d4 y1))*d0))
theorem Ea6{fuel}{d0}{d1}{d2}{d3}{d4}{r}(hF:Df0 fuel d0 d1 d2 d3 d4=some r):
 M4 prog 215 [(2000,.box 238 [.l 1 d1 A3,.l 1 d2 A0,.i d3,.i d4])] [.ptr 2000 3,.i d0] [(2000,.box 238 [.l 1 d1 A3,.l 1 d2 A0,.i d3,.i r.2])] (.b r.1):=by
 unfold Df0 at hF;refine cr 22 func215 ?_;refine jd 5 ?_;refine dB 8 hF Df7 fun y1 hF=> ?_
 obtain⟨hb1,hF⟩:=O1 hF;refine do1 0 (ck hb1) ?_;refine je 4 ?_;cases hF;exact jrr 8
def Bk8(v5:Int):Option (Bool×Int):=
 some (false,v5)
def H0(fuel:Nat)(d0:List Int)(d1:List (List A2))(d2:Int):List (Int×A2)->Int->Option (Bool×Int)
 |[],v4=>
  some (true,v4)
 |y12::ys_F176a_L1,v4=>
  (Cm1 fuel y12.2.Gain).bind fun y13=>
  (
   bif !y13.2.2 then
    (some (true,v4))
   else
    (bif decide (y13.1<0) then
     (some (true,v4))
    else
     ((Df0 fuel y13.2.1 d0 d1 d2 v4).bind fun y16=>
     some (!y16.1,y16.2)))).bind fun o3=>
  bif o3.1 then
   (Bk8 o3.2)
  else
   ((H0 fuel d0 d1 d2 ys_F176a_L1) o3.2)
def Cd5(fuel:Nat)(d0:List Int)(d1:List (List A2))(d2:Int)(d3:Int):Option (Bool×Int):=
 (Cm0 (⟨d0,d1⟩:A9)).bind fun y1=>
 (Ex8 fuel y1.1 y1.2).bind fun ys1=>
 H0 fuel d0 d1 d2 ys1 1
theorem Ea2{fuel}{d0}{d1}{d2}{d3}{r}(hF:Cd5 fuel d0 d1 d2 d3=some r):
 M4 prog 176 [(2000,.box 238 [.l 1 d0 A3,.l 1 d1 A0,.i d2,.i d3])] [.ptr 2000 0] [(2000,.box 238 [.l 1 d0 A3,.l 1 d1 A0,.i d2,.i r.2])] (.b r.1):=by
 unfold Cd5 at hF;refine Bm2 (N:=39) (b:=C0 f176) func176 (by kernel_rfl) rfl rfl (by kernel_rfl) (fun s_ r0_ w00_ M00_ st_=> ?_);obtain⟨y1,e1,hF⟩:=bnd hF;refine jcr 19 [(15,2000)] (Cd7 e1) ?_;refine ja 2 (S0:=[(1,.ptr 1 0),(2,.ptr 2 0),(15,.fn 240 [] [.ptr 15 0])]) (O0:=[(1,.box 195 [.ptr 2000 0]),(2,.box 4 [.b false]),(15,.box 34 [.l 1 y1.1 A3,.l 1 y1.2 A0]),(2000,.box 238 [.l 1 d0 A3,.l 1 d1 A0,.i d2,.i 1])]) (T0:=[kC Cf1 58,.inBlock 0,kC Cf1 15]) ?_;refine Ay1 [(15,15),(2000,2000),(1,2100),(2,2101)] (by kernel_rfl) (by kernel_rfl) (by kernel_rfl) (by kernel_rfl) ?_;refine Dh6 (S0:=[(1,.ptr 2100 0),(2,.ptr 2101 0),(15,.fn 240 [] [.ptr 15 0])]) (O0:=[(15,.box 34 [.l 1 y1.1 A3,.l 1 y1.2 A0]),(2000,.box 238 [.l 1 d0 A3,.l 1 d1 A0,.i d2,.i 1]),(2100,.box 195 [.ptr 2000 0]),(2101,.box 4 [.b false])]) (T0:=[kC Cf1 58,.inBlock 0,kC Cf1 15]) [1,2,15] [15,2000,2100,2101] (by kernel_rfl) rfl ?_;obtain⟨ys1,e2,hF⟩:=bnd hF;obtain⟨G_,hG_⟩:∃G:List (List Kx.V)->List (Nat×B9)->Prop,G=(fun yv ob=>∃(yl_:List (Int×A2)) (v4:Int),yv=yl_.map C7/\ob=[(2000,.box 238 [.l 1 d0 A3,.l 1 d1 A0,.i d2,.i v4]),(2100,.box 195 [.ptr 2000 0]),(2101,.box 4 [.b false])]/\H0 fuel d0 d1 d2 yl_ v4=some r):=⟨_,rfl⟩
 obtain⟨GX_,hGX_⟩:∃G:Code->List (Nat×B9)->Prop,G=(fun j ob=>(∃(v5:Int),j= .ret/\ob=[(2000,.box 238 [.l 1 d0 A3,.l 1 d1 A0,.i d2,.i v5]),(2100,.box 195 [.ptr 2000 0]),(2101,.box 4 [.b false])]/\Bk8 v5=some r)):=⟨_,rfl⟩
 refine Ay0 (P:=prog) (g:=(.tmp 15)) (ps:= #[16,17]) (asg:=(cAt Cf1 [1,1,0,1,0,0])) (bo:=(cAt Cf1 [1,1,0,1,0,1])) (k:=[.inBlock 0,kC Cf1 15]) (gf:=240) (first:=[]) (cap:=[.ptr 15 0]) (xs:=[.rp [.sl 1 (y1.1.map A3),.sl 1 (y1.2.map A0)] 0]) (os:=[]) (S1:=[(1,.ptr 2100 0),(2,.ptr 2101 0)]) (ob0:=[(2000,.box 238 [.l 1 d0 A3,.l 1 d1 A0,.i d2,.i 1]),(2100,.box 195 [.ptr 2000 0]),(2101,.box 4 [.b false])]) [] [1,2] [2000,2100,2101] [.rp [.sl 1 (y1.1.map A3),.sl 1 (y1.2.map A0)] 0] (ysAll:=ys1.map C7) [2000,2100,2101] G_ GX_ rfl (by kernel_rfl) rfl (by kernel_rfl) rfl (by kernel_rfl) (R1.refl _) Fc6 (Ce1 e2) (by kernel_rfl) (by kernel_rfl) (by kernel_rfl) ?_ ?_ ?_ ⟨by kernel_rfl,by kernel_rfl⟩ ?_ ?_ ?_
 .rw[hG_];exact⟨ys1,1,rfl,by kernel_rfl,hF⟩
 .intro yv_ ob_ h_;rw[hG_]at h_;obtain⟨_,_,_,rfl,_⟩:=h_;kernel_rfl
 .intro j_ ob_ h_;rw[hGX_]at h_;rcases h_ with⟨_,_,rfl,_⟩<;>kernel_rfl
 .intro x_ hxa_ hxb_ hxp_ yv_ ysv_ ob_ h_;rw[hG_]at h_;obtain⟨yl_,v4,hy_,rfl,hF⟩:=h_;cases yl_ with
  |nil=>cases hy_
  |cons y12 ys_F176a_L1=>
   cases hy_;rw[H0]at hF;refine Dp1 (by kernel_rfl) ?_;refine Dh6 (S0:=[(1,.ptr 2100 0),(2,.ptr 2101 0),(16,.i y12.1),(17,.agg [.s y12.2.Act,.s y12.2.Gain,.l 2 y12.2.Next A4])]) (O0:=[(3000,.raw x_.D (.deferred (some []))),(3001,.raw x_.L (.loop (G2 x_ .ready none))),(2000,.box 238 [.l 1 d0 A3,.l 1 d1 A0,.i d2,.i v4]),(2100,.box 195 [.ptr 2000 0]),(2101,.box 4 [.b false])]) (T0:=[kC Cf1 116,.begR x_.L,kC Cf1 117]) [1,2,16,17] [3000,3001,2000,2100,2101] (by kernel_rfl) rfl ?_;refine ja 4 (S0:=[(1,.ptr 2100 0),(2,.ptr 2101 0),(4,.ptr 4 0),(16,.i y12.1),(17,.agg [.s y12.2.Act,.s y12.2.Gain,.l 2 y12.2.Next A4])]) (O0:=[(3000,.raw x_.D (.deferred (some []))),(3001,.raw x_.L (.loop (G2 x_ .ready none))),(4,.box 26 [.s y12.2.Act,.s y12.2.Gain,.l 2 y12.2.Next A4]),(2000,.box 238 [.l 1 d0 A3,.l 1 d1 A0,.i d2,.i v4]),(2100,.box 195 [.ptr 2000 0]),(2101,.box 4 [.b false])]) (T0:=[.begR x_.L,kC Cf1 117]) ?_;refine Bs9 (l:=x_.L) (q:=3001) (k:=[kC Cf1 117]) (rec:=G2 x_ .ready none) rfl rfl rfl ?_;refine jB 5 hF Cd8 fun y13 hF=> ?_
   obtain⟨o3,hO,hF⟩:=bnd hF;have hR3:J (some x_.L) prog 39 [] (Eo5 x_ G_ GX_ (fun _=>False) (ys_F176a_L1.map C7)) ⟨mkT [(2,.ptr 2101 0),(38,.b o3.1)],[(3000,.raw x_.D (.deferred (some []))),(3001,.raw x_.L (.loop (G2 x_ .busy none))),(2000,.box 238 [.l 1 d0 A3,.l 1 d1 A0,.i d2,.i o3.2]),(2100,.box 195 [.ptr 2000 0]),(2101,.box 4 [.b false])],[kO Cf1 938,kC Cf1 939,.inBlock 1]⟩:=by
    clear hO;refine jI 1 38 hF ?_ ?_<;>intro hF
    .refine ja 5 (S0:=[]) (O0:=rob x_ .busy none [(2000,.box 238 [.l 1 d0 A3,.l 1 d1 A0,.i d2,.i o3.2]),(2100,.box 195 [.ptr 2000 0]),(2101,.box 4 [.b false])]) (T0:=[.code (.ret),.inBlock 1]) ?_;exact Di0 rfl [(2000,.box 238 [.l 1 d0 A3,.l 1 d1 A0,.i d2,.i o3.2]),(2100,.box 195 [.ptr 2000 0]),(2101,.box 4 [.b false])] (k:=[.inBlock 1]) rfl rfl rfl (by kernel_rfl) (by rw[hGX_];exact⟨o3.2,rfl,rfl,hF⟩)
    .refine ja 3 (S0:=[]) (O0:=rob x_ .busy none [(2000,.box 238 [.l 1 d0 A3,.l 1 d1 A0,.i d2,.i o3.2]),(2100,.box 195 [.ptr 2000 0]),(2101,.box 4 [.b false])]) (T0:=[]) ?_;exact Bt0 rfl [(2000,.box 238 [.l 1 d0 A3,.l 1 d1 A0,.i d2,.i o3.2]),(2100,.box 195 [.ptr 2000 0]),(2101,.box 4 [.b false])] rfl rfl (by kernel_rfl) (by rw[hG_];exact⟨ys_F176a_L1,o3.2,rfl,rfl,hF⟩)
   clear hF;rename _=some o3=>hF
   refine jI 13 27 hF ?_ ?_<;>intro hF
   .cases hF;exact ja 11 hR3
   .refine jI 4 31 hF ?_ ?_<;>intro hF
    .cases hF;exact ja 7 hR3
    .obtain⟨y16,e14,hF⟩:=bnd hF;refine jcr 4 [(2000,2000)] (Ea6 e14) ?_;cases hF;exact ja 2 hR3
 .intro D_ ob_ h_;rw[hG_]at h_;obtain⟨yl_,v4,hy_,rfl,hF⟩:=h_;cases yl_ with
  |cons _ _=>cases hy_
  |nil=>
   clear hy_;rw[H0]at hF;refine Bh7 st_ [(2100,1),(2101,2),(2000,2000)] (by kernel_rfl) (by kernel_rfl) (by kernel_rfl) (by kernel_rfl) ?_;refine ja 0 (S0:=[(2,.ptr 2 0)]) (O0:=[(2,.box 4 [.b false]),(2000,.box 238 [.l 1 d0 A3,.l 1 d1 A0,.i d2,.i v4])]) (T0:=[.inBlock 0,kC Cf1 15]) ?_;have hF:=oi hF;subst hF;exact B5 5 (Bh8 (xs:=[.b true]) st_ [.b true] rfl rfl (by kernel_rfl) (R1.refl _) rfl (by kernel_rfl))
 .intro D_ ob_ j_ h_;rw[hGX_]at h_;rcases h_ with⟨v5,rfl,rfl,hF⟩
  .unfold Bk8 at hF;refine Bh7 st_ [(2100,1),(2101,2),(2000,2000)] (by kernel_rfl) (by kernel_rfl) (by kernel_rfl) (by kernel_rfl) ?_;refine ja 0 (S0:=[(2,.ptr 2 0)]) (O0:=[(2,.box 4 [.b false]),(2000,.box 238 [.l 1 d0 A3,.l 1 d1 A0,.i d2,.i v5])]) (T0:=[.code (.ret),.inBlock 0,kC Cf1 15]) ?_;have hF:=oi hF;subst hF;exact B5 0 (Bh8 (xs:=[.b false]) st_ [.b false] rfl rfl (by kernel_rfl) (R1.refl _) rfl (by kernel_rfl))
def Cd9(fuel:Nat)(d0:Int)(d1:List Int)(d2:List (List A2))(d3:Int)(d4:Int):Option (Bool×Int):=
 (Ey2 fuel d3 d0).bind fun y1=>
 ass (decide (y1≠0))<|
 some (decide ((i64.wrap ((i64.wrap (Int.tdiv d3 y1))*d0))<=9999),i64.wrap ((i64.wrap (Int.tdiv d3 y1))*d0))
theorem Ea7{fuel}{d0}{d1}{d2}{d3}{d4}{r}(hF:Cd9 fuel d0 d1 d2 d3 d4=some r):
 M4 prog 215 [(2000,.box 238 [.l 1 d1 A3,.l 1 d2 A0,.i d3,.i d4])] [.ptr 2000 2,.i d0] [(2000,.box 238 [.l 1 d1 A3,.l 1 d2 A0,.i r.2,.i d4])] (.b r.1):=by
 unfold Cd9 at hF;refine cr 22 func215 ?_;refine jd 5 ?_;refine dB 8 hF Df7 fun y1 hF=> ?_
 obtain⟨hb1,hF⟩:=O1 hF;refine do1 0 (ck hb1) ?_;refine je 4 ?_;cases hF;exact jrr 8
def X8(fuel:Nat)(d0:List B7)(v8:Int):Nat->Int->Int->Option (Bool×Int)
 |0,_,_=>none
 |nL2+1,v12,v13=>
  bif decide (v13<((d0.map A4).length:Int)) then
   ((C2 d0 v13).bind fun y20=>
   (Cm1 fuel y20.P).bind fun y21=>
   ass (decide (y21.2.1≠0))<|
   (X8 fuel d0 v8 nL2) (i64.wrap (v12+(i64.wrap (y21.1*(i64.wrap (Int.tdiv v8 y21.2.1)))))) (i64.wrap (v13+1)))
  else
   (some (v12==v8,v8))
def K4(fuel:Nat)(d0:List B7)(d1:List Int)(d2:List (List A2))(d4:Int):Nat->Int->Int->Int->Option (Bool×Int)
 |0,_,_,_=>none
 |nL1+1,v6,v7,v8=>
  bif decide (v7<((d0.map A4).length:Int)) then
   ((C2 d0 v7).bind fun y11=>
   (Cm1 fuel y11.P).bind fun y12=>
   (
    bif decide (y11.To<=v6) then
     (some (true,v8))
    else
     (bif decide (y11.To>=((d1.map A3).length:Int)) then
      (some (true,v8))
     else
      (bif !y12.2.2 then
       (some (true,v8))
      else
       (bif decide (y12.1<1) then
        (some (true,v8))
       else
        ((Cd9 fuel y12.2.1 d1 d2 v8 d4).bind fun y15=>
        some (!y15.1,y15.2)))))).bind fun o3=>
   bif o3.1 then
    (some (false,o3.2))
   else
    ((K4 fuel d0 d1 d2 d4 nL1) y11.To (i64.wrap (v7+1)) o3.2))
  else
   (X8 fuel d0 v8 fuel 0 0)
def Df2(fuel:Nat)(d0:List B7)(d1:List Int)(d2:List (List A2))(d3:Int)(d4:Int):Option (Bool×Int):=
 K4 fuel d0 d1 d2 d4 fuel (-1) 0 d3
abbrev Ey5(d1:List Int)(d2:List (List A2))(d4:Int)(r:Bool×Int):=J none prog 94 [] (Do2 prog f216 [(2000,.box 238 [.l 1 d1 A3,.l 1 d2 A0,.i r.2,.i d4])] (.b r.1))
theorem Ea8{fuel}{d0}{d1}{d2}{d3}{d4}{r}(hF:Df2 fuel d0 d1 d2 d3 d4=some r):
 M4 prog 216 [(2000,.box 238 [.l 1 d1 A3,.l 1 d2 A0,.i d3,.i d4])] [.ptr 2000 0,.l 2 d0 A4] [(2000,.box 238 [.l 1 d1 A3,.l 1 d2 A0,.i r.2,.i d4])] (.b r.1):=by
 unfold Df2 at hF;refine cr 94 func216 ?_;have hL1:∀nL1 v6 v7 v8,K4 fuel d0 d1 d2 d4 nL1 v6 v7 v8=some r->Ey5 d1 d2 d4 r ⟨mkT [(0,.ptr 2000 0),(1,.l 2 d0 A4),(5,.i v6),(17,.l 2 d0 A4),(18,.i ((d0.map A4).length:Int)),(19,.i v7)],[(2000,.box 238 [.l 1 d1 A3,.l 1 d2 A0,.i v8,.i d4])],[kL Ec1 116,.inBlock 0,kC Ec1 15]⟩:=by
  clear hF;refine lpI (fun _ _ _ h=>by cases h) fun nL1 iL1 v6 v7 v8 hF=> ?_
  refine jI 6 20 hF ?_ ?_<;>intro hF
  .obtain⟨y11,e11,hF⟩:=bnd hF;refine jo1 6 (gm' A4 e11) ?_;refine jB 8 hF Cd8 fun y12 hF=> ?_
   obtain⟨o3,hO,hF⟩:=bnd hF;have hR3:Ey5 d1 d2 d4 r ⟨mkT [(0,.ptr 2000 0),(1,.l 2 d0 A4),(7,.ptr 7 0),(17,.l 2 d0 A4),(18,.i ((d0.map A4).length:Int)),(19,.i v7),(60,.b o3.1)],[(7,.box 29 [.i y11.To,.s y11.P]),(2000,.box 238 [.l 1 d1 A3,.l 1 d2 A0,.i o3.2,.i d4])],[kC Ec1 29901,kC Ec1 14951,.inBlock 1,kC Ec1 935,kL Ec1 116,.inBlock 0,kC Ec1 15]⟩:=by
    clear hO;refine jI 0 60 hF ?_ ?_<;>intro hF
    .cases hF;exact jrr 5
    .exact ja 12 (iL1 _ _ _ hF)
   clear hF;rename _=some o3=>hF
   refine jd 10 ?_;refine dI 5 34 hF ?_ ?_<;>intro hF
   .refine je 26 ?_;cases hF;exact ja 0 hR3
   .refine dI 11 45 hF ?_ ?_<;>intro hF
    .refine je 15 ?_;cases hF;exact ja 0 hR3
    .refine dI 4 49 hF ?_ ?_<;>intro hF
     .refine je 11 ?_;cases hF;exact ja 0 hR3
     .refine dI 4 53 hF ?_ ?_<;>intro hF
      .refine je 7 ?_;cases hF;exact ja 0 hR3
      .obtain⟨y15,e15,hF⟩:=bnd hF;refine dcr 4 [(2000,2000)] (Ea7 e15) ?_;refine je 2 ?_;cases hF;exact ja 0 hR3
  .have hL2:∀nL2 v12 v13,X8 fuel d0 v8 nL2 v12 v13=some r->Ey5 d1 d2 d4 r ⟨mkT [(0,.ptr 2000 0),(11,.i v12),(64,.l 2 d0 A4),(65,.i ((d0.map A4).length:Int)),(66,.i v13)],[(2000,.box 238 [.l 1 d1 A3,.l 1 d2 A0,.i v8,.i d4])],[kL Ec1 500,.inBlock 2,kC Ec1 63]⟩:=by
    clear hF;refine lpI (fun _ _ h=>by cases h) fun nL2 iL2 v12 v13 hF=> ?_
    refine jI 6 67 hF ?_ ?_<;>intro hF
    .obtain⟨y20,e20,hF⟩:=bnd hF;refine jo1 6 (gm' A4 e20) ?_;refine jB 8 hF Cd8 fun y21 hF=> ?_
     obtain⟨hb48,hF⟩:=O1 hF;refine jo1 16 (ck hb48) ?_;exact ja 9 (iL2 _ _ hF)
    .cases hF;exact jrr 12
   exact ja 15 (hL2 _ _ _ hF)
 exact ja 17 (hL1 _ _ _ _ hF)
def Bk9(v3:Int):Option (Bool×Int):=
 some (false,v3)
def K3(fuel:Nat)(d0:List Int)(d1:List (List A2))(d3:Int):List (Int×A2)->Int->Option (Bool×Int)
 |[],v2=>
  some (true,v2)
 |y6::ys_F177a_L1,v2=>
  (Df2 fuel y6.2.Next d0 d1 v2 d3).bind fun y7=>
  bif !y7.1 then
   (Bk9 y7.2)
  else
   ((K3 fuel d0 d1 d3 ys_F177a_L1) y7.2)
def Cw9(fuel:Nat)(d0:List Int)(d1:List (List A2))(d2:Int)(d3:Int):Option (Bool×Int):=
 (Cm0 (⟨d0,d1⟩:A9)).bind fun y1=>
 (Ex8 fuel y1.1 y1.2).bind fun ys1=>
 K3 fuel d0 d1 d3 ys1 1
theorem Ea3{fuel}{d0}{d1}{d2}{d3}{r}(hF:Cw9 fuel d0 d1 d2 d3=some r):
 M4 prog 177 [(2000,.box 238 [.l 1 d0 A3,.l 1 d1 A0,.i d2,.i d3])] [.ptr 2000 0] [(2000,.box 238 [.l 1 d0 A3,.l 1 d1 A0,.i r.2,.i d3])] (.b r.1):=by
 unfold Cw9 at hF;refine Bm2 (N:=20) (b:=C0 f177) func177 (by kernel_rfl) rfl rfl (by kernel_rfl) (fun s_ r0_ w00_ M00_ st_=> ?_);obtain⟨y1,e1,hF⟩:=bnd hF;refine jcr 19 [(12,2000)] (Cd7 e1) ?_;refine ja 2 (S0:=[(1,.ptr 1 0),(2,.ptr 2 0),(12,.fn 240 [] [.ptr 12 0])]) (O0:=[(1,.box 195 [.ptr 2000 0]),(2,.box 4 [.b false]),(12,.box 34 [.l 1 y1.1 A3,.l 1 y1.2 A0]),(2000,.box 238 [.l 1 d0 A3,.l 1 d1 A0,.i 1,.i d3])]) (T0:=[kC Cy2 58,.inBlock 0,kC Cy2 15]) ?_;refine Ay1 [(12,12),(2000,2000),(1,2100),(2,2101)] (by kernel_rfl) (by kernel_rfl) (by kernel_rfl) (by kernel_rfl) ?_;refine Dh6 (S0:=[(1,.ptr 2100 0),(2,.ptr 2101 0),(12,.fn 240 [] [.ptr 12 0])]) (O0:=[(12,.box 34 [.l 1 y1.1 A3,.l 1 y1.2 A0]),(2000,.box 238 [.l 1 d0 A3,.l 1 d1 A0,.i 1,.i d3]),(2100,.box 195 [.ptr 2000 0]),(2101,.box 4 [.b false])]) (T0:=[kC Cy2 58,.inBlock 0,kC Cy2 15]) [1,2,12] [12,2000,2100,2101] (by kernel_rfl) rfl ?_;obtain⟨ys1,e2,hF⟩:=bnd hF;obtain⟨G_,hG_⟩:∃G:List (List Kx.V)->List (Nat×B9)->Prop,G=(fun yv ob=>∃(yl_:List (Int×A2)) (v2:Int),yv=yl_.map C7/\ob=[(2000,.box 238 [.l 1 d0 A3,.l 1 d1 A0,.i v2,.i d3]),(2100,.box 195 [.ptr 2000 0]),(2101,.box 4 [.b false])]/\K3 fuel d0 d1 d3 yl_ v2=some r):=⟨_,rfl⟩
 obtain⟨GX_,hGX_⟩:∃G:Code->List (Nat×B9)->Prop,G=(fun j ob=>(∃(v3:Int),j= .ret/\ob=[(2000,.box 238 [.l 1 d0 A3,.l 1 d1 A0,.i v3,.i d3]),(2100,.box 195 [.ptr 2000 0]),(2101,.box 4 [.b false])]/\Bk9 v3=some r)):=⟨_,rfl⟩
 refine Ay0 (P:=prog) (g:=(.tmp 12)) (ps:= #[13,14]) (asg:=(cAt Cy2 [1,1,0,1,0,0])) (bo:=(cAt Cy2 [1,1,0,1,0,1])) (k:=[.inBlock 0,kC Cy2 15]) (gf:=240) (first:=[]) (cap:=[.ptr 12 0]) (xs:=[.rp [.sl 1 (y1.1.map A3),.sl 1 (y1.2.map A0)] 0]) (os:=[]) (S1:=[(1,.ptr 2100 0),(2,.ptr 2101 0)]) (ob0:=[(2000,.box 238 [.l 1 d0 A3,.l 1 d1 A0,.i 1,.i d3]),(2100,.box 195 [.ptr 2000 0]),(2101,.box 4 [.b false])]) [] [1,2] [2000,2100,2101] [.rp [.sl 1 (y1.1.map A3),.sl 1 (y1.2.map A0)] 0] (ysAll:=ys1.map C7) [2000,2100,2101] G_ GX_ rfl (by kernel_rfl) rfl (by kernel_rfl) rfl (by kernel_rfl) (R1.refl _) Fc6 (Ce1 e2) (by kernel_rfl) (by kernel_rfl) (by kernel_rfl) ?_ ?_ ?_ ⟨by kernel_rfl,by kernel_rfl⟩ ?_ ?_ ?_
 .rw[hG_];exact⟨ys1,1,rfl,by kernel_rfl,hF⟩
 .intro yv_ ob_ h_;rw[hG_]at h_;obtain⟨_,_,_,rfl,_⟩:=h_;kernel_rfl
 .intro j_ ob_ h_;rw[hGX_]at h_;rcases h_ with⟨_,_,rfl,_⟩<;>kernel_rfl
 .intro x_ hxa_ hxb_ hxp_ yv_ ysv_ ob_ h_;rw[hG_]at h_;obtain⟨yl_,v2,hy_,rfl,hF⟩:=h_;cases yl_ with
  |nil=>cases hy_
  |cons y6 ys_F177a_L1=>
   cases hy_;rw[K3]at hF;refine Dp1 (by kernel_rfl) ?_;refine Dh6 (S0:=[(1,.ptr 2100 0),(2,.ptr 2101 0),(13,.i y6.1),(14,.agg [.s y6.2.Act,.s y6.2.Gain,.l 2 y6.2.Next A4])]) (O0:=[(3000,.raw x_.D (.deferred (some []))),(3001,.raw x_.L (.loop (G2 x_ .ready none))),(2000,.box 238 [.l 1 d0 A3,.l 1 d1 A0,.i v2,.i d3]),(2100,.box 195 [.ptr 2000 0]),(2101,.box 4 [.b false])]) (T0:=[kC Cy2 116,.begR x_.L,kC Cy2 117]) [1,2,13,14] [3000,3001,2000,2100,2101] (by kernel_rfl) rfl ?_;refine ja 4 (S0:=[(1,.ptr 2100 0),(2,.ptr 2101 0),(4,.ptr 4 0),(13,.i y6.1),(14,.agg [.s y6.2.Act,.s y6.2.Gain,.l 2 y6.2.Next A4])]) (O0:=[(3000,.raw x_.D (.deferred (some []))),(3001,.raw x_.L (.loop (G2 x_ .ready none))),(4,.box 26 [.s y6.2.Act,.s y6.2.Gain,.l 2 y6.2.Next A4]),(2000,.box 238 [.l 1 d0 A3,.l 1 d1 A0,.i v2,.i d3]),(2100,.box 195 [.ptr 2000 0]),(2101,.box 4 [.b false])]) (T0:=[.begR x_.L,kC Cy2 117]) ?_;refine Bs9 (l:=x_.L) (q:=3001) (k:=[kC Cy2 117]) (rec:=G2 x_ .ready none) rfl rfl rfl ?_;obtain⟨y7,e5,hF⟩:=bnd hF;refine jcr 6 [(2000,2000)] (Ea8 e5) ?_;refine jI 2 19 hF ?_ ?_<;>intro hF
   .refine ja 5 (S0:=[]) (O0:=rob x_ .busy none [(2000,.box 238 [.l 1 d0 A3,.l 1 d1 A0,.i y7.2,.i d3]),(2100,.box 195 [.ptr 2000 0]),(2101,.box 4 [.b false])]) (T0:=[.code (.ret),.inBlock 1]) ?_;exact Di0 rfl [(2000,.box 238 [.l 1 d0 A3,.l 1 d1 A0,.i y7.2,.i d3]),(2100,.box 195 [.ptr 2000 0]),(2101,.box 4 [.b false])] (k:=[.inBlock 1]) rfl rfl rfl (by kernel_rfl) (by rw[hGX_];exact⟨y7.2,rfl,rfl,hF⟩)
   .refine ja 3 (S0:=[]) (O0:=rob x_ .busy none [(2000,.box 238 [.l 1 d0 A3,.l 1 d1 A0,.i y7.2,.i d3]),(2100,.box 195 [.ptr 2000 0]),(2101,.box 4 [.b false])]) (T0:=[]) ?_;exact Bt0 rfl [(2000,.box 238 [.l 1 d0 A3,.l 1 d1 A0,.i y7.2,.i d3]),(2100,.box 195 [.ptr 2000 0]),(2101,.box 4 [.b false])] rfl rfl (by kernel_rfl) (by rw[hG_];exact⟨ys_F177a_L1,y7.2,rfl,rfl,hF⟩)
 .intro D_ ob_ h_;rw[hG_]at h_;obtain⟨yl_,v2,hy_,rfl,hF⟩:=h_;cases yl_ with
  |cons _ _=>cases hy_
  |nil=>
   clear hy_;rw[K3]at hF;refine Bh7 st_ [(2100,1),(2101,2),(2000,2000)] (by kernel_rfl) (by kernel_rfl) (by kernel_rfl) (by kernel_rfl) ?_;refine ja 0 (S0:=[(2,.ptr 2 0)]) (O0:=[(2,.box 4 [.b false]),(2000,.box 238 [.l 1 d0 A3,.l 1 d1 A0,.i v2,.i d3])]) (T0:=[.inBlock 0,kC Cy2 15]) ?_;have hF:=oi hF;subst hF;exact B5 5 (Bh8 (xs:=[.b true]) st_ [.b true] rfl rfl (by kernel_rfl) (R1.refl _) rfl (by kernel_rfl))
 .intro D_ ob_ j_ h_;rw[hGX_]at h_;rcases h_ with⟨v3,rfl,rfl,hF⟩
  .unfold Bk9 at hF;refine Bh7 st_ [(2100,1),(2101,2),(2000,2000)] (by kernel_rfl) (by kernel_rfl) (by kernel_rfl) (by kernel_rfl) ?_;refine ja 0 (S0:=[(2,.ptr 2 0)]) (O0:=[(2,.box 4 [.b false]),(2000,.box 238 [.l 1 d0 A3,.l 1 d1 A0,.i v3,.i d3])]) (T0:=[.code (.ret),.inBlock 0,kC Cy2 15]) ?_;have hF:=oi hF;subst hF;exact B5 0 (Bh8 (xs:=[.b false]) st_ [.b false] rfl rfl (by kernel_rfl) (R1.refl _) rfl (by kernel_rfl))
def I9(fuel:Nat)(d0:A9):Nat->Int->Int->Int->Option (B1×Bool)
 |0,_,_,_=>none
 |nL1+1,v4,v5,v6=>
  bif decide (v4<5) then
   (bif decide (v4=0) then
    ((Cw7 fuel d0.Owner d0.Choices v5 v6).bind fun y11=>
    bif !y11 then
     (some ((⟨d0,v5,v6⟩:B1),false))
    else
     ((I9 fuel d0 nL1) (i64.wrap (v4+1)) v5 v6))
   else bif decide (v4=1) then
    ((Cw8 fuel d0.Owner d0.Choices v5 v6).bind fun y12=>
    bif !y12 then
     (some ((⟨d0,v5,v6⟩:B1),false))
    else
     ((I9 fuel d0 nL1) (i64.wrap (v4+1)) v5 v6))
   else bif decide (v4=2) then
    ((Br9 fuel d0.Owner d0.Choices v5 v6).bind fun y13=>
    bif !y13 then
     (some ((⟨d0,v5,v6⟩:B1),false))
    else
     ((I9 fuel d0 nL1) (i64.wrap (v4+1)) v5 v6))
   else bif decide (v4=3) then
    ((Cd5 fuel d0.Owner d0.Choices v5 v6).bind fun y14=>
    bif !y14.1 then
     (some ((⟨d0,v5,y14.2⟩:B1),false))
    else
     ((I9 fuel d0 nL1) (i64.wrap (v4+1)) v5 y14.2))
   else bif decide (v4=4) then
    ((Cw9 fuel d0.Owner d0.Choices v5 v6).bind fun y15=>
    bif !y15.1 then
     (some ((⟨d0,y15.2,v6⟩:B1),false))
    else
     ((I9 fuel d0 nL1) (i64.wrap (v4+1)) y15.2 v6))
   else none)
  else
   (some ((⟨d0,v5,v6⟩:B1),true))
def Dd2(fuel:Nat)(d0:A9):Option (B1×Bool):=
 I9 fuel d0 fuel 0 0 0
noncomputable abbrev Gh6:=C0 f132
abbrev Gs2(r:B1×Bool):=GJ prog 22 f132 (.tup [.d (.pt [.sl 1 (r.1.Model.Owner.map A3),.sl 1 (r.1.Model.Choices.map A0),.int .i64 r.1.p,.int .i64 r.1.gains]),.b r.2])
theorem Eu4{fuel}{d0}{r}(hF:Dd2 fuel d0=some r):
 C1 prog 132 [.agg [.l 1 d0.Owner A3,.l 1 d0.Choices A0]] (.tup [.d (.pt [.sl 1 (r.1.Model.Owner.map A3),.sl 1 (r.1.Model.Choices.map A0),.int .i64 r.1.p,.int .i64 r.1.gains]),.b r.2]):=by
 unfold Dd2 at hF;refine cf 22 func132 ?_;have hL1:∀nL1 v4 v5 v6,I9 fuel d0 nL1 v4 v5 v6=some r->Gs2 r ⟨mkT [(4,.ptr 10 0),(5,.b true),(11,.agg [.d (.fnc 173),.d (.fnc 174),.d (.fnc 175),.d (.fnc 176),.d (.fnc 177)]),(12,.i v4)],[(10,.box 238 [.l 1 d0.Owner A3,.l 1 d0.Choices A0,.i v5,.i v6])],[kL Gh6 884,.inBlock 0,kC Gh6 111,.inScope (cAt Gh6 [1,0])]⟩:=by
  clear hF;refine lpI (fun _ _ _ h=>by cases h) fun nL1 iL1 v4 v5 v6 hF=> ?_
  refine jI 6 13 hF ?_ ?_<;>intro hF
  .rcases b5_ (decide (v4=0)) with hb23|hb23
   .replace hF:=ift hb23 hF;refine B5 6 (J3 (o:=C2 (M8 1 5 ([.fnc 173,.fnc 174,.fnc 175,.fnc 176,.fnc 177]:List Dat)) v4) ([.fnc 173]:List Dat) (by kernel_rfl) (by rw[of_decide_eq_true hb23];rfl) ?_);obtain⟨y11,e11,hF⟩:=bnd hF;refine jcr 6 [(10,2000)] (Dz9 e11) ?_;refine jI 2 18 hF ?_ ?_<;>intro hF
    .have hF:=oi hF;subst hF;exact B5 13 (Ce4 (xs:=[.rp [.sl 1 (d0.Owner.map A3),.sl 1 (d0.Choices.map A0),.int .i64 v5,.int .i64 v6] 0,.b false]) [.d (.pt [.sl 1 ((((⟨d0,v5,v6⟩:B1).Model).Owner).map A3),.sl 1 ((((⟨d0,v5,v6⟩:B1).Model).Choices).map A0),.int .i64 ((⟨d0,v5,v6⟩:B1).p),.int .i64 ((⟨d0,v5,v6⟩:B1).gains)]),.b false] rfl rfl (by kernel_rfl) ⟨Re.pt _,⟨Re.refl _,trivial⟩⟩ rfl)
    .exact ja 7 (iL1 _ _ _ hF)
   .replace hF:=Fl3 hb23 hF;rcases b5_ (decide (v4=1)) with hb25|hb25
    .replace hF:=ift hb25 hF;refine B5 6 (J3 (o:=C2 (M8 1 5 ([.fnc 173,.fnc 174,.fnc 175,.fnc 176,.fnc 177]:List Dat)) v4) ([.fnc 174]:List Dat) (by kernel_rfl) (by rw[of_decide_eq_true hb25];rfl) ?_);obtain⟨y12,e12,hF⟩:=bnd hF;refine jcr 6 [(10,2000)] (Ea0 e12) ?_;refine jI 2 18 hF ?_ ?_<;>intro hF
     .have hF:=oi hF;subst hF;exact B5 13 (Ce4 (xs:=[.rp [.sl 1 (d0.Owner.map A3),.sl 1 (d0.Choices.map A0),.int .i64 v5,.int .i64 v6] 0,.b false]) [.d (.pt [.sl 1 ((((⟨d0,v5,v6⟩:B1).Model).Owner).map A3),.sl 1 ((((⟨d0,v5,v6⟩:B1).Model).Choices).map A0),.int .i64 ((⟨d0,v5,v6⟩:B1).p),.int .i64 ((⟨d0,v5,v6⟩:B1).gains)]),.b false] rfl rfl (by kernel_rfl) ⟨Re.pt _,⟨Re.refl _,trivial⟩⟩ rfl)
     .exact ja 7 (iL1 _ _ _ hF)
    .replace hF:=Fl3 hb25 hF;rcases b5_ (decide (v4=2)) with hb27|hb27
     .replace hF:=ift hb27 hF;refine B5 6 (J3 (o:=C2 (M8 1 5 ([.fnc 173,.fnc 174,.fnc 175,.fnc 176,.fnc 177]:List Dat)) v4) ([.fnc 175]:List Dat) (by kernel_rfl) (by rw[of_decide_eq_true hb27];rfl) ?_);obtain⟨y13,e13,hF⟩:=bnd hF;refine jcr 6 [(10,2000)] (Ea1 e13) ?_;refine jI 2 18 hF ?_ ?_<;>intro hF
      .have hF:=oi hF;subst hF;exact B5 13 (Ce4 (xs:=[.rp [.sl 1 (d0.Owner.map A3),.sl 1 (d0.Choices.map A0),.int .i64 v5,.int .i64 v6] 0,.b false]) [.d (.pt [.sl 1 ((((⟨d0,v5,v6⟩:B1).Model).Owner).map A3),.sl 1 ((((⟨d0,v5,v6⟩:B1).Model).Choices).map A0),.int .i64 ((⟨d0,v5,v6⟩:B1).p),.int .i64 ((⟨d0,v5,v6⟩:B1).gains)]),.b false] rfl rfl (by kernel_rfl) ⟨Re.pt _,⟨Re.refl _,trivial⟩⟩ rfl)
      .exact ja 7 (iL1 _ _ _ hF)
     .replace hF:=Fl3 hb27 hF;rcases b5_ (decide (v4=3)) with hb29|hb29
      .replace hF:=ift hb29 hF;refine B5 6 (J3 (o:=C2 (M8 1 5 ([.fnc 173,.fnc 174,.fnc 175,.fnc 176,.fnc 177]:List Dat)) v4) ([.fnc 176]:List Dat) (by kernel_rfl) (by rw[of_decide_eq_true hb29];rfl) ?_);obtain⟨y14,e14,hF⟩:=bnd hF;refine jcr 6 [(10,2000)] (Ea2 e14) ?_;refine jI 2 18 hF ?_ ?_<;>intro hF
       .have hF:=oi hF;subst hF;exact B5 13 (Ce4 (xs:=[.rp [.sl 1 (d0.Owner.map A3),.sl 1 (d0.Choices.map A0),.int .i64 v5,.int .i64 y14.2] 0,.b false]) [.d (.pt [.sl 1 ((((⟨d0,v5,y14.2⟩:B1).Model).Owner).map A3),.sl 1 ((((⟨d0,v5,y14.2⟩:B1).Model).Choices).map A0),.int .i64 ((⟨d0,v5,y14.2⟩:B1).p),.int .i64 ((⟨d0,v5,y14.2⟩:B1).gains)]),.b false] rfl rfl (by kernel_rfl) ⟨Re.pt _,⟨Re.refl _,trivial⟩⟩ rfl)
       .exact ja 7 (iL1 _ _ _ hF)
      .replace hF:=Fl3 hb29 hF;rcases b5_ (decide (v4=4)) with hb31|hb31
       .replace hF:=ift hb31 hF;refine B5 6 (J3 (o:=C2 (M8 1 5 ([.fnc 173,.fnc 174,.fnc 175,.fnc 176,.fnc 177]:List Dat)) v4) ([.fnc 177]:List Dat) (by kernel_rfl) (by rw[of_decide_eq_true hb31];rfl) ?_);obtain⟨y15,e15,hF⟩:=bnd hF;refine jcr 6 [(10,2000)] (Ea3 e15) ?_;refine jI 2 18 hF ?_ ?_<;>intro hF
        .have hF:=oi hF;subst hF;exact B5 13 (Ce4 (xs:=[.rp [.sl 1 (d0.Owner.map A3),.sl 1 (d0.Choices.map A0),.int .i64 y15.2,.int .i64 v6] 0,.b false]) [.d (.pt [.sl 1 ((((⟨d0,y15.2,v6⟩:B1).Model).Owner).map A3),.sl 1 ((((⟨d0,y15.2,v6⟩:B1).Model).Choices).map A0),.int .i64 ((⟨d0,y15.2,v6⟩:B1).p),.int .i64 ((⟨d0,y15.2,v6⟩:B1).gains)]),.b false] rfl rfl (by kernel_rfl) ⟨Re.pt _,⟨Re.refl _,trivial⟩⟩ rfl)
        .exact ja 7 (iL1 _ _ _ hF)
       .replace hF:=Fl3 hb31 hF;cases hF
  .have hF:=oi hF;subst hF;exact B5 9 (Ce4 (xs:=[.rp [.sl 1 (d0.Owner.map A3),.sl 1 (d0.Choices.map A0),.int .i64 v5,.int .i64 v6] 0,.b true]) [.d (.pt [.sl 1 ((((⟨d0,v5,v6⟩:B1).Model).Owner).map A3),.sl 1 ((((⟨d0,v5,v6⟩:B1).Model).Choices).map A0),.int .i64 ((⟨d0,v5,v6⟩:B1).p),.int .i64 ((⟨d0,v5,v6⟩:B1).gains)]),.b true] rfl rfl (by kernel_rfl) ⟨Re.pt _,⟨Re.refl _,trivial⟩⟩ rfl)
 exact ja 28 (hL1 _ _ _ _ hF)
def F93(fuel:Nat)(d0:A9):Option Int:=
 (Dd2 fuel d0).bind fun y1=>
 bif !y1.2 then
  (some 110)
 else
  (some 0)
theorem Fp7{fuel}{d0}{r}(hF:F93 fuel d0=some r):
 C1 prog 93 [.agg [.l 1 d0.Owner A3,.l 1 d0.Choices A0]] (.i r):=by
 refine cf 12 func93 ?_;refine jB 9 hF Eu4 fun y1 hF=> ?_
 refine jI 11 11 hF ?_ ?_<;>intro hF
 .cases hF;exact jr 5
 .cases hF;exact jr 6
end
end Go.Proofs.YtfgbhfphjmmiaaaGreatDoor
end
