/- One part of the texts that lead to the theorem; it claims nothing by itself. -/
import Derived.Shelf.Strings.Builder1
import Derived.Shelf.Strings.BuilderF
import Derived.Shelf.Strconv.Atoi
import Derived.Shelf.Strconv.Itoa0
import Derived.Shelf.Strconv.Itoa1
import Derived.Shelf.LaysM
import Derived.Shelf.Strconv.Itoa2
import Derived.Shelf.Strconv.Itoa3
import Derived.Shelf.Strconv.AtoiErrFast
import Derived.Shelf.Strconv.ParseIntEmpty
import Derived.Shelf.Strconv.AtoiFail
import Derived.Shelf.Strconv.Clone
import Derived.Shelf.Strconv.SyntaxError
import Derived.Shelf.LaysC
import Derived.Shelf.Strconv.ToError
import Derived.Shelf.Strconv.Lower
import Derived.Shelf.Strconv.ParseUint10
import Derived.Shelf.Strconv.ParseUint10Empty
import Derived.Shelf.Strconv.ParseUint10Any
import Derived.Shelf.Strconv.ParseInt10
import Derived.Shelf.Strconv.AtoiLong
import Derived.Shelf.Strconv.AtoiInnerAll
import Derived.Shelf.Strconv.RangeError
import Derived.Shelf.Strconv.ToErrorRange
import Derived.Shelf.Strconv.AtoiAll
import Derived.Shelf.Strconv.ErrVarAll
import Derived.Shelf.Strings.Search1
import Derived.Shelf.Strings.Search2
import Derived.Shelf.Strings.Cut
import Derived.Shelf.Strings.Shaped
import Derived.Shelf.Strings.Prefix
import Derived.Shelf.Slices.Turned
import Derived.Test.YtdlnalepibeibaaGreatDoorChecked
import Derived.Lib.ItoaNum
import Derived.Lib.AtoiAll
import Derived.Lib.AtoiErrMem
import Derived.Lib.Repeat
import Derived.Lib.LaidTab
import Derived.Lib.AppendIntMem
import Derived.Lib.Split
import Derived.Lib.SplitLaws
import Derived.Lib.CutLaws
import Derived.Lib.SlicesS
import Derived.Deep.Draws
import Derived.Test.YtdlnalepibeibaaGreatDoorProg
import Derived.Test.YtdlnalepibeibaaGreatDoorSkc
section
namespace Go.Proofs
open Go.Shelf
section
def Tryz.laysM171_ren:Go.Shelf.Ren:=⟨fun|171=>103|243=>156|246=>200|283=>247|284=>248|285=>249|286=>250|129=>275|317=>274|318=>276|319=>277|320=>278|337=>282|338=>283|n=>n,fun|3=>3|9=>9|2=>2|4=>4|171=>290|0=>0|53=>32|37=>213|5=>5|173=>293|212=>320|51=>192|20=>20|213=>321|46=>277|232=>340|233=>341|n=>n,fun|17=>3|18=>4|19=>5|n=>n⟩
theorem Tryz.laysM171:Go.Proofs.LaysM.n171 Tryz.prog Tryz.laysM171_ren:={
 mixed:=by kernel_rfl
 f129:=Tryz.func275.trans (congrArg some (by kernel_rfl))
 f171:=Tryz.func103.trans (congrArg some (by kernel_rfl))
 f243:=Tryz.func156.trans (congrArg some (by kernel_rfl))
 f246:=Tryz.func200.trans (congrArg some (by kernel_rfl))
 f283:=Tryz.func247.trans (congrArg some (by kernel_rfl))
 f284:=Tryz.func248.trans (congrArg some (by kernel_rfl))
 f285:=Tryz.func249.trans (congrArg some (by kernel_rfl))
 f286:=Tryz.func250.trans (congrArg some (by kernel_rfl))
 f317:=Tryz.func274.trans (congrArg some (by kernel_rfl))
 f318:=Tryz.func276.trans (congrArg some (by kernel_rfl))
 f319:=Tryz.func277.trans (congrArg some (by kernel_rfl))
 f320:=Tryz.func278.trans (congrArg some (by kernel_rfl))
 f337:=Tryz.func282.trans (congrArg some (by kernel_rfl))
 f338:=Tryz.func283.trans (congrArg some (by kernel_rfl))
 t0:=Tryz.underlying0
 a0:=Tryz.isAgg0
 z0:=Tryz.sizeOf0
 v0:=Tryz.zeroValue0
 t2:=Tryz.underlying2
 a2:=Tryz.isAgg2
 z2:=Tryz.sizeOf2
 v2:=Tryz.zeroValue2
 t3:=Tryz.underlying3
 a3:=Tryz.isAgg3
 z3:=Tryz.sizeOf3
 v3:=Tryz.zeroValue3
 t4:=Tryz.underlying4
 a4:=Tryz.isAgg4
 z4:=Tryz.sizeOf4
 v4:=Tryz.zeroValue4
 t5:=Tryz.underlying5
 a5:=Tryz.isAgg5
 z5:=Tryz.sizeOf5
 v5:=Tryz.zeroValue5
 t9:=Tryz.underlying9
 a9:=Tryz.isAgg9
 z9:=Tryz.sizeOf9
 v9:=Tryz.zeroValue9
 t20:=Tryz.underlying20
 a20:=Tryz.isAgg20
 z20:=Tryz.sizeOf20
 v20:=Tryz.zeroValue20
 t37:=Tryz.underlying213
 a37:=Tryz.isAgg213
 z37:=Tryz.sizeOf213
 v37:=Tryz.zeroValue213
 t46:=Tryz.underlying277
 a46:=Tryz.isAgg277
 z46:=Tryz.sizeOf277
 v46:=Tryz.zeroValue277
 t51:=Tryz.underlying192
 a51:=Tryz.isAgg192
 z51:=Tryz.sizeOf192
 v51:=Tryz.zeroValue192
 t53:=Tryz.underlying32
 a53:=Tryz.isAgg32
 z53:=Tryz.sizeOf32
 v53:=Tryz.zeroValue32
 t171:=Tryz.underlying290
 a171:=Tryz.isAgg290
 z171:=Tryz.sizeOf290
 v171:=Tryz.zeroValue290
 t173:=Tryz.underlying293
 a173:=Tryz.isAgg293
 z173:=Tryz.sizeOf293
 v173:=Tryz.zeroValue293
 t212:=Tryz.underlying320
 a212:=Tryz.isAgg320
 z212:=Tryz.sizeOf320
 v212:=Tryz.zeroValue320
 t213:=Tryz.underlying321
 a213:=Tryz.isAgg321
 z213:=Tryz.sizeOf321
 t232:=Tryz.underlying340
 a232:=Tryz.isAgg340
 z232:=Tryz.sizeOf340
 v232:=Tryz.zeroValue340
 t233:=Tryz.underlying341
 a233:=Tryz.isAgg341
 z233:=Tryz.sizeOf341
 v233:=Tryz.zeroValue341
 g17:=by kernel_rfl
 g18:=by kernel_rfl
 g19:=by kernel_rfl
 i0:=by kernel_rfl
 i2:=by kernel_rfl
 i3:=by kernel_rfl
 i4:=by kernel_rfl
 i5:=by kernel_rfl
 i9:=by kernel_rfl
 i20:=by kernel_rfl
 i37:=by kernel_rfl
 i46:=by kernel_rfl
 i51:=by kernel_rfl
 i53:=by kernel_rfl
 i171:=by kernel_rfl
 i173:=by kernel_rfl
 i212:=by kernel_rfl
 i232:=by kernel_rfl
 i233:=by kernel_rfl
 m17:=by kernel_rfl
 m18:=by kernel_rfl
 m19:=by kernel_rfl}
open Go.RowKit Go.Sort Go.Lib in
theorem Tryz.strconv_Itoa(n:Int)(h0: -9223372036854775808≤n)(h1:n≤9223372036854775807)(w:World)(htab:Lib.TabIs Tryz.prog w "internal/strconv.uint64pow10" .u64 Lib.pow10Tab):
 Calls Tryz.prog 103 #[.int .i64 n] w fun e w'=>e= .returned (.string ⟨(Lib.itoa n).toArray⟩)∧∃k os,w'=grow (w.drewN k) os:=Any.strconv_Itoa Tryz.laysM171 n h0 h1 w htab
def Tryz.lays145_ren:Go.Shelf.Ren:=⟨fun|145=>71|220=>127|219=>179|217=>230|225=>231|224=>232|267=>233|266=>269|314=>270|n=>n,fun|9=>9|4=>4|59=>133|3=>3|5=>5|46=>277|146=>312|51=>192|n=>n,fun|1=>0|n=>n⟩
theorem Tryz.lays145:Go.Proofs.Lays.n145 Tryz.prog Tryz.lays145_ren:={
 mixed:=by kernel_rfl
 f145:=Tryz.func71.trans (congrArg some (by kernel_rfl))
 f217:=Tryz.func230.trans (congrArg some (by kernel_rfl))
 f219:=Tryz.func179.trans (congrArg some (by kernel_rfl))
 f220:=Tryz.func127.trans (congrArg some (by kernel_rfl))
 f224:=Tryz.func232.trans (congrArg some (by kernel_rfl))
 f225:=Tryz.func231.trans (congrArg some (by kernel_rfl))
 f266:=Tryz.func269.trans (congrArg some (by kernel_rfl))
 f267:=Tryz.func233.trans (congrArg some (by kernel_rfl))
 f314:=Tryz.func270.trans (congrArg some (by kernel_rfl))
 t3:=Tryz.underlying3
 a3:=Tryz.isAgg3
 z3:=Tryz.sizeOf3
 v3:=Tryz.zeroValue3
 t4:=Tryz.underlying4
 a4:=Tryz.isAgg4
 z4:=Tryz.sizeOf4
 v4:=Tryz.zeroValue4
 t5:=Tryz.underlying5
 a5:=Tryz.isAgg5
 z5:=Tryz.sizeOf5
 v5:=Tryz.zeroValue5
 t9:=Tryz.underlying9
 a9:=Tryz.isAgg9
 z9:=Tryz.sizeOf9
 v9:=Tryz.zeroValue9
 t46:=Tryz.underlying277
 a46:=Tryz.isAgg277
 z46:=Tryz.sizeOf277
 v46:=Tryz.zeroValue277
 t51:=Tryz.underlying192
 a51:=Tryz.isAgg192
 z51:=Tryz.sizeOf192
 v51:=Tryz.zeroValue192
 t59:=Tryz.underlying133
 a59:=Tryz.isAgg133
 z59:=Tryz.sizeOf133
 v59:=Tryz.zeroValue133
 t146:=Tryz.underlying312
 a146:=Tryz.isAgg312
 z146:=Tryz.sizeOf312
 v146:=Tryz.zeroValue312
 g1:=by kernel_rfl}
open Go.RowKit Go.Lib in
theorem Tryz.strings_Cut(s sep:ByteArray)(m:Int)(w:World)(hs:s.size<4294967281)(hm:w.cell? ⟨0,0,none⟩=some (.int .i64 m)):
 Calls Tryz.prog 71 #[.string s,.string sep] w fun e w'=>e= .returned (.tuple #[.string ⟨(Lib.cut s.data.toList sep.data.toList).1.toArray⟩,.string ⟨(Lib.cut s.data.toList sep.data.toList).2.1.toArray⟩,.bool (Lib.cut s.data.toList sep.data.toList).2.2])∧∃n,w'=w.drewN n:=Any.strings_Cut Tryz.lays145 s sep m w hs hm
end
end Go.Proofs
end
section
namespace Go.Proofs.YtdlnalepibeibaaGreatDoor.Kx
open Go Go.RowKit
section
variable {P:Program} {g:FuncId}
theorem Ak0{args:List V}{v:V}(h:∀M w vals,X3 M w→GlA M w→B2 M noR args vals→∃u,B8 M noR v u∧Calls P g vals.toArray w (fun e w'=>e= .returned u∧Below w.heap.size w w')):C3 P g args v:=
 fun M w vals hs hg hr=>by
  obtain⟨u,hv,hc⟩:=h M w vals hs hg hr
  exact hc.mono fun e w' ⟨he,hb⟩=>⟨u,M,he,Ext.same hs hb,hv⟩
theorem Em6{M:Mem}{v:V}{vals:List Value}(h:B2 M noR [v] vals):∃a,vals=[a]∧B8 M noR v a:=by
 simp only[B2]at h
 obtain⟨a,r,rfl,h1,rfl⟩:=h
 exact⟨a,rfl,h1⟩
theorem Em7{M:Mem}{v u:V}{vals:List Value}(h:B2 M noR [v,u] vals):∃a b,vals=[a,b]∧B8 M noR v a∧B8 M noR u b:=by
 simp only[B2]at h
 obtain⟨a,r,rfl,h1,b,r',rfl,h2,rfl⟩:=h
 exact⟨a,b,rfl,h1,h2⟩
theorem Bg3(w:World)(n:Nat):Below w.heap.size w (w.drewN n):=⟨rfl,rfl,rfl,Nat.le_refl _,fun _ _=>rfl⟩
theorem Ch0(s:List UInt8):(⟨s.toArray⟩:ByteArray).size=s.length:=rfl
def Dk7:Nat→Nat→List UInt8→List UInt8
 |0,_,acc=>acc
 |k+1,n,acc=>bif Nat.blt n 10 then UInt8.ofNat (48+n)::acc else Dk7 k (n/10) (UInt8.ofNat (48+n%10)::acc)
theorem Bg7:∀(k n:Nat) (acc:List UInt8),n<10^k→0<k→Dk7 k n acc=Lib.decDigits n++acc
 |0,_,_,_,h=>by omega
 |k+1,n,acc,h,_=>by
  rw[Dk7,Lib.decDigits]
  by_cases hn:n<10
  ·rw[show Nat.blt n 10=true from Nat.ble_eq_true_of_le hn,cond_true,dif_pos hn];rfl
  ·have hb:Nat.blt n 10=false:=by
    cases hb:Nat.blt n 10 with
    |false=>rfl
    |true=>exact absurd (Nat.le_of_ble_eq_true hb) hn
   have hk:0<k:=by
    rcases Nat.eq_zero_or_pos k with e|e
    ·subst e;simp at h;omega
    ·exact e
   have hd:n/10<10^k:=by rw[Nat.pow_succ]at h;omega
   rw[hb,cond_false,dif_neg hn,Bg7 k (n/10) _ hd hk,List.append_assoc];rfl
def Cn1(n:Int):Option (List UInt8):=
 bif decide (-9223372036854775808≤n)&&decide (n≤9223372036854775807) then some (match n with| .ofNat m=>Dk7 20 m []| .negSucc m=>45::Dk7 20 (m+1) []) else none
theorem Cn2{n:Int}{r:List UInt8}(h:Cn1 n=some r):(-9223372036854775808≤n∧n≤9223372036854775807)∧r=Lib.itoa n:=by
 unfold Cn1 at h
 cases hb:(decide (-9223372036854775808≤n)&&decide (n≤9223372036854775807)) with
 |false=>rw[hb]at h;cases h
 |true=>
  rw[hb,cond_true]at h
  rw[Bool.and_eq_true,decide_eq_true_eq,decide_eq_true_eq]at hb
  refine⟨hb,?_⟩
  unfold Lib.itoa
  cases n with
  |ofNat m=>
   have hm:m<10^20:=by have:=hb.2;have:(m:Int)≤9223372036854775807:=this;omega
   have:=Option.some.inj h
   rw[←this]
   simp only[Bg7 20 m [] hm (by omega),List.append_nil]
   rw[if_neg (show¬Int.ofNat m<0 by simp)];rfl
  |negSucc m=>
   have hm:m+1<10^20:=by have:=hb.1;omega
   have:=Option.some.inj h
   rw[←this]
   simp only[Bg7 20 (m+1) [] hm (by omega),List.append_nil]
   rw[if_pos (Int.negSucc_lt_zero m)];rfl
theorem Ap7{M:Mem}{k:IntKind}:∀{zs:List Int} {us:List Value},D1 M (zs.map (Dat.int k)) us→us=zs.map fun z=>Value.int k z
 |[],us,h=>h
 |z::zs,us,⟨u,us',e,r,rs⟩=>by
  subst e
  cases r
  rw[Ap7 rs];rfl
theorem Do0{M:Mem}{w:World}{name:String}{gn:Nat}{k:IntKind}{zs:List Int}(hg:P.globalNamed name=some gn)(he:gl gn=some (zs.map (Dat.int k)))(hs:X3 M w)(ha:GlA M w):Lib.TabIs P w name k zs:=by
 obtain⟨us,⟨c,hc,hcell⟩,hr⟩:=ha.ok.d gn _ he
 obtain⟨c',e',z',h1,h2⟩:=hs gn c hc
 obtain⟨c2,e2,z2,h3,h4⟩:=ha.sz gn _ he
 rw[h1]at h3
 cases h3
 have hus:=Ap7 hr
 unfold Lib.TabIs World.var?
 rw[hg,Option.bind_some,h1]
 show some c'=_
 congr 1
 refine Array.ext' ?_
 refine List.ext_getElem? fun j=> ?_
 rw[List.length_map]at h4
 rw[←hus]
 have hul:us.length=zs.length:=by rw[hus,List.length_map]
 by_cases hj:j<us.length
 ·have h5:=hcell j hj
  rw[Nat.zero_add]at h5
  have h6:us[j]? =some us[j]:=List.getElem?_eq_getElem hj
  rw[h6]at h5
  rw[Array.getElem?_toList,h2 j _ h5,h6]
 ·rw[List.getElem?_eq_none (by rw[Array.length_toList];omega),List.getElem?_eq_none (by simpa using Nat.le_of_not_lt hj)]
theorem Bs9(w:World)(k:Nat)(os:Array Obj):Below w.heap.size w (Go.Sort.grow (w.drewN k) os):=
 ⟨rfl,rfl,rfl,by show w.heap.size≤(w.heap++os).size;rw[Array.size_append];omega,fun g h=>Lib.heap_grow_old w k os g h⟩
theorem Bu4{gn:Nat}(hg:P.globalNamed "internal/strconv.uint64pow10" =some gn)(he:gl gn=some (Lib.pow10Tab.map (Dat.int .u64)))
 (h:∀(n:Int),-9223372036854775808≤n→n≤9223372036854775807→∀w,Lib.TabIs P w "internal/strconv.uint64pow10" .u64 Lib.pow10Tab→Calls P g #[.int .i64 n] w fun e w'=>e= .returned (.string ⟨(Lib.itoa n).toArray⟩)∧∃k os,w'=Go.Sort.grow (w.drewN k) os) {n:Int} {r:List UInt8} (hF:Cn1 n=some r):C3 P g [.d (.int .i64 n)] (.d (.str r)):=by
 obtain⟨hn,rfl⟩:=Cn2 hF
 refine Ak0 fun M w vals hs hgl hr=> ?_
 obtain⟨a,rfl,h1⟩:=Em6 hr
 obtain rfl:=J5 h1
 exact⟨_,Bb8 (s:=Lib.itoa n),(h n hn.1 hn.2 w (Do0 hg he hs hgl)).mono fun e w' ⟨h2,k,os,h3⟩=>⟨h2,by rw[h3];exact Bs9 w k os⟩⟩
def Ca6(c:UInt8):List UInt8→List UInt8×List UInt8×Bool
 |[]=>([],[],false)
 |b::l=>match b==c with
  |true=>([],l,true)
  |false=>match Ca6 c l with|(x,y,t)=>(b::x,y,t)
theorem Bu2(b c:UInt8)(l:List UInt8):Lib.index (b::l) [c]=if b=c then 0 else if Lib.index l [c]= -1 then-1 else Lib.index l [c]+1:=by
 rw[Lib.index]
 by_cases h:b=c
 ·subst h;simp[List.isPrefixOf]
 ·have hp:([c]:List UInt8).isPrefixOf (b::l)=false:=by simp[List.isPrefixOf,Ne.symm h]
  rw[hp,if_neg h]
  by_cases h2:Lib.index l [c]= -1<;>simp[h2]
theorem Ca7(c:UInt8):∀l,Lib.cut l [c]=Ca6 c l
 |[]=>rfl
 |b::l=>by
  have ih:=Ca7 c l
  have hge:=Lib.index_ge l [c]
  unfold Lib.cut at ih⊢
  rw[Bu2]
  unfold Ca6
  by_cases h:b=c
  ·subst h;simp
  ·rw[if_neg h,show(b==c)=false from by simpa using h]
   dsimp only
   rw[←ih]
   by_cases h2:Lib.index l [c]= -1
   ·simp[h2]
   ·rw[if_neg h2]
    obtain⟨j,hj⟩:∃j:Nat,Lib.index l [c]=j:=⟨(Lib.index l [c]).toNat,by omega⟩
    rw[hj,if_pos (by omega),if_pos (by omega)]
    have e1:((j:Int)+1).toNat=j+1:=by omega
    rw[e1,Int.toNat_natCast]
    simp
def Dy0(s p:List UInt8):Option (List UInt8×List UInt8×Bool):=match p with
 |[c]=>bif decide (s.length≤2147483648) then some (Ca6 c s) else none
 |_=>none
theorem Ca8{n:Nat}(hx:(n,IntKind.i64)∈gxT)(h:∀(s sep:ByteArray) (m:Int) (w:World),s.size<4294967281→w.cell? ⟨n,0,none⟩=some (.int .i64 m)→Calls P g #[.string s,.string sep] w fun e w'=>
 e= .returned (.tuple #[.string ⟨(Lib.cut s.data.toList sep.data.toList).1.toArray⟩,.string ⟨(Lib.cut s.data.toList sep.data.toList).2.1.toArray⟩,.bool (Lib.cut s.data.toList sep.data.toList).2.2])∧∃n,w'=w.drewN n)
 {s p:List UInt8} {r:List UInt8×List UInt8×Bool} (hF:Dy0 s p=some r):C3 P g [.d (.str s),.d (.str p)] (.tup [.d (.str r.1),.d (.str r.2.1),.d (.bool r.2.2)]):=by
 unfold Dy0 at hF
 split at hF
 ·rename_i c
  cases hb:decide (s.length≤2147483648) with
  |false=>rw[hb]at hF;cases hF
  |true=>
   rw[hb,cond_true]at hF
   cases hF
   have hb:=of_decide_eq_true hb
   refine Ak0 fun M w vals hs hg hr=> ?_
   obtain⟨a,b,rfl,h1,h2⟩:=Em7 hr
   obtain rfl:=K8 h1
   obtain rfl:=K8 h2
   obtain⟨m,hm⟩:=hg.ok.x _ _ hx
   have hc:=h ⟨s.toArray⟩ ⟨([c]:List UInt8).toArray⟩ m w (by rw[Ch0];omega) (hm.cell hs (j:=0) rfl)
   have e:Lib.cut (⟨s.toArray⟩:ByteArray).data.toList (⟨([c]:List UInt8).toArray⟩:ByteArray).data.toList=Ca6 c s:=by rw[←Ca7]
   rw[e]at hc
   refine⟨.tuple #[V7 (Ca6 c s).1,V7 (Ca6 c s).2.1,.bool (Ca6 c s).2.2],?_,hc.mono fun e w' ⟨h3,k,h4⟩=>⟨h3,by rw[h4];exact Bg3 _ _⟩⟩
   simp only[B8,B2]
   exact⟨[V7 (Ca6 c s).1,V7 (Ca6 c s).2.1,.bool (Ca6 c s).2.2],rfl,_,_,rfl,.str _,_,_,rfl,.str _,_,_,rfl,.bool _,rfl⟩
 ·cases hF
end
end Go.Proofs.YtdlnalepibeibaaGreatDoor.Kx
end
section
set_option linter.unusedVariables false
set_option maxRecDepth 100000
namespace Go.Proofs.YtdlnalepibeibaaGreatDoor
open Go Go.RowKit Kx
section
theorem Dg2:A8 Tryz.prog 73:=Kx.A6 Tryz.func73 (by kernel_rfl) (by kernel_rfl)
theorem Dm1:A8 Tryz.prog 216:=Kx.A6 Tryz.func216 (by kernel_rfl) (by kernel_rfl)
theorem Dl7:A8 Tryz.prog 168:=Kx.A6 Tryz.func168 (by kernel_rfl) (by kernel_rfl)
theorem Dm7:A8 Tryz.prog 260:=Kx.A6 Tryz.func260 (by kernel_rfl) (by kernel_rfl)
theorem Eb3:A8 Tryz.prog 217:=Kx.A6 Tryz.func217 (by kernel_rfl) (by kernel_rfl)
theorem Cm4:A8 Tryz.prog 169:=Kx.A6 Tryz.func169 (by kernel_rfl) (by kernel_rfl)
theorem Dm4:A8 Tryz.prog 229:=Kx.A6 Tryz.func229 (by kernel_rfl) (by kernel_rfl)
theorem Dm8:A8 Tryz.prog 268:=Kx.A6 Tryz.func268 (by kernel_rfl) (by kernel_rfl)
theorem Dm2:A8 Tryz.prog 225:=Kx.A6 Tryz.func225 (by kernel_rfl) (by kernel_rfl)
theorem Dm3:A8 Tryz.prog 226:=Kx.A6 Tryz.func226 (by kernel_rfl) (by kernel_rfl)
theorem Eb4:A8 Tryz.prog 227:=Kx.A6 Tryz.func227 (by kernel_rfl) (by kernel_rfl)
theorem Eb5:A8 Tryz.prog 228:=Kx.A6 Tryz.func228 (by kernel_rfl) (by kernel_rfl)
theorem Af0:A8 Tryz.prog 130:=Kx.A6 Tryz.func130 (by kernel_rfl) (by kernel_rfl)
theorem Db4:A8 Tryz.prog 177:=Kx.A6 Tryz.func177 (by kernel_rfl) (by kernel_rfl)
theorem Dl8:A8 Tryz.prog 178:=Kx.A6 Tryz.func178 (by kernel_rfl) (by kernel_rfl)
theorem Db1:A8 Tryz.prog 126:=Kx.A6 Tryz.func126 (by kernel_rfl) (by kernel_rfl)
theorem Db6:A8 Tryz.prog 184:=Kx.A6 Tryz.func184 (by kernel_rfl) (by kernel_rfl)
theorem Dr1:A8 Tryz.prog 74:=Kx.A6 Tryz.func74 (by kernel_rfl) (by kernel_rfl)
theorem Eb8:A8 Tryz.prog 242:=Kx.A6 Tryz.func242 (by kernel_rfl) (by kernel_rfl)
theorem Dm5:A8 Tryz.prog 243:=Kx.A6 Tryz.func243 (by kernel_rfl) (by kernel_rfl)
theorem Db8:A8 Tryz.prog 189:=Kx.A6 Tryz.func189 (by kernel_rfl) (by kernel_rfl)
theorem Eb7:A8 Tryz.prog 241:=Kx.A6 Tryz.func241 (by kernel_rfl) (by kernel_rfl)
theorem Cm5:A8 Tryz.prog 185:=Kx.A6 Tryz.func185 (by kernel_rfl) (by kernel_rfl)
theorem Db3:A8 Tryz.prog 136:=Kx.A6 Tryz.func136 (by kernel_rfl) (by kernel_rfl)
theorem Eh3:A8 Tryz.prog 71:=Kx.A6 Tryz.func71 (by kernel_rfl) (by kernel_rfl)
theorem Eb6:A8 Tryz.prog 234:=Kx.A6 Tryz.func234 (by kernel_rfl) (by kernel_rfl)
theorem Ea2:A8 Tryz.prog 180:=Kx.A6 Tryz.func180 (by kernel_rfl) (by kernel_rfl)
theorem Dl0:A8 Tryz.prog 128:=Kx.A6 Tryz.func128 (by kernel_rfl) (by kernel_rfl)
theorem Dc2:A8 Tryz.prog 235:=Kx.A6 Tryz.func235 (by kernel_rfl) (by kernel_rfl)
theorem Ea3:A8 Tryz.prog 181:=Kx.A6 Tryz.func181 (by kernel_rfl) (by kernel_rfl)
theorem Dy8:A8 Tryz.prog 129:=Kx.A6 Tryz.func129 (by kernel_rfl) (by kernel_rfl)
theorem Ec5:A8 Tryz.prog 72:=Kx.A6 Tryz.func72 (by kernel_rfl) (by kernel_rfl)
theorem Bh6:A8 Tryz.prog 114:=Kx.A6 Tryz.func114 (by kernel_rfl) (by kernel_rfl)
theorem Cc6:A8 Tryz.prog 115:=Kx.A6 Tryz.func115 (by kernel_rfl) (by kernel_rfl)
theorem Dz3:A8 Tryz.prog 141:=Kx.A6 Tryz.func141 (by kernel_rfl) (by kernel_rfl)
theorem Dl5:A8 Tryz.prog 140:=Kx.A6 Tryz.func140 (by kernel_rfl) (by kernel_rfl)
theorem Cc5:A8 Tryz.prog 103:=Kx.A6 Tryz.func103 (by kernel_rfl) (by kernel_rfl)
theorem Dl6:A8 Tryz.prog 142:=Kx.A6 Tryz.func142 (by kernel_rfl) (by kernel_rfl)
theorem Dr2:A8 Tryz.prog 81:=Kx.A6 Tryz.func81 (by kernel_rfl) (by kernel_rfl)
theorem Dz4:A8 Tryz.prog 143:=Kx.A6 Tryz.func143 (by kernel_rfl) (by kernel_rfl)
theorem Dc3:A8 Tryz.prog 244:=Kx.A6 Tryz.func244 (by kernel_rfl) (by kernel_rfl)
theorem Ea5:A8 Tryz.prog 190:=Kx.A6 Tryz.func190 (by kernel_rfl) (by kernel_rfl)
theorem Af1:A8 Tryz.prog 191:=Kx.A6 Tryz.func191 (by kernel_rfl) (by kernel_rfl)
theorem Db9:A8 Tryz.prog 192:=Kx.A6 Tryz.func192 (by kernel_rfl) (by kernel_rfl)
theorem Cc7:A8 Tryz.prog 144:=Kx.A6 Tryz.func144 (by kernel_rfl) (by kernel_rfl)
theorem Em1:A8 Tryz.prog 82:=Kx.A6 Tryz.func82 (by kernel_rfl) (by kernel_rfl)
theorem Cm3:A8 Tryz.prog 124:=Kx.A6 Tryz.func124 (by kernel_rfl) (by kernel_rfl)
theorem Dq9:A8 Tryz.prog 36:=Kx.A6 Tryz.func36 (by kernel_rfl) (by kernel_rfl)
theorem Db0:A8 Tryz.prog 125:=Kx.A6 Tryz.func125 (by kernel_rfl) (by kernel_rfl)
theorem Ec4:A8 Tryz.prog 70:=Kx.A6 Tryz.func70 (by kernel_rfl) (by kernel_rfl)
structure A3 where
 neg:Bool
 mag:List Int
 deriving DecidableEq
structure A1 where
 n_:A3
 d:A3
 deriving DecidableEq
def A5(x:Int):List Dat:=[.int .u32 x]
def Bl7(d0:Int):Nat→Int→(List Int)→Option A3
 |0,_,_=>none
 |nL1+1,v2,l4=>
  bif decide (v2>0) then
   (Option.bind (app l4 [IntKind.u32.wrap (Int.tmod v2 1000000000)]) fun l5=>
   (Bl7 d0 nL1) (IntKind.u64.wrap (Int.tdiv v2 1000000000)) l5)
  else
   (some (⟨decide (d0<0),l4⟩:A3))
def Bl8(d0:Int):Nat→Int→(List Int)→Option A3
 |0,_,_=>none
 |nL2+1,v4,l9=>
  bif decide (v4>0) then
   (Option.bind (app l9 [IntKind.u32.wrap (Int.tmod v4 1000000000)]) fun l10=>
   (Bl8 d0 nL2) (IntKind.u64.wrap (Int.tdiv v4 1000000000)) l10)
  else
   (some (⟨decide (d0<0),l9⟩:A3))
def F73(fuel:Nat)(d0:Int):Option A3:=
 bif decide (d0<0) then
  (Bl7 d0 fuel (IntKind.u64.wrap (0-(IntKind.u64.wrap d0))) [])
 else
  (Bl8 d0 fuel (IntKind.u64.wrap d0) [])
noncomputable abbrev b73:=C1 Tryz.f73
abbrev G73(r:A3):=J none Tryz.prog 27 [] (L3 Tryz.prog Tryz.f73 (.agg [.b r.neg,.l 1 r.mag A5]))
theorem An9{fuel:Nat}{d0:Int}{r:A3}(hF:F73 fuel d0=some r):
 C3 Tryz.prog 73 [.i d0] (.agg [.b r.neg,.l 1 r.mag A5]):=by
 unfold F73 at hF
 refine cf 27 Tryz.func73 ?_
 refine jI 24 11 hF ?_ ?_<;>intro hF
 ·have hL1:∀(nL1:Nat) (v2:Int) (l4:List Int),Bl7 d0 nL1 v2 l4=some r→G73 r ⟨mkT [(2,.ptr 2 0),(3,.ptr 3 0),(4,.n v2)],[(2,.box 82 [.b false,.esl 1]),(3,.box 82 [.b (decide (d0<0)),.suf 24 0 0]),(24,.buf 0 192 1 (l4.map A5))],[kL b73 [1,1,1,1,0,0,0],.inBlock 0,kC b73 [1,1,1,1,1]]⟩:=by
   clear hF;intro nL1
   induction nL1 with
   |zero=>intro v2 l4 hF;cases hF
   |succ nL1 iL1=>
    intro v2 l4 hF
    rw[Bl7]at hF
    refine jI 7 15 hF ?_ ?_<;>intro hF
    ·obtain⟨l5,e3,hF⟩:=bnd hF
     refine jo2 11 (am (f:=A5) e3) ?_
     exact ja 9 (iL1 _ _ hF)
    ·cases hF
     exact jr 7
  refine C5 9 (Bm5 (n:=1) 3 1 24 192 1 (by kernel_rfl) (by kernel_rfl) ?_)
  exact ja 0 (hL1 _ _ _ hF)
 ·have hL2:∀(nL2:Nat) (v4:Int) (l9:List Int),Bl8 d0 nL2 v4 l9=some r→G73 r ⟨mkT [(2,.ptr 2 0),(3,.ptr 3 0),(4,.n v4)],[(2,.box 82 [.b false,.esl 1]),(3,.box 82 [.b (decide (d0<0)),.suf 24 0 0]),(24,.buf 0 192 1 (l9.map A5))],[kL b73 [1,1,1,1,0,0,0],.inBlock 0,kC b73 [1,1,1,1,1]]⟩:=by
   clear hF;intro nL2
   induction nL2 with
   |zero=>intro v4 l9 hF;cases hF
   |succ nL2 iL2=>
    intro v4 l9 hF
    rw[Bl8]at hF
    refine jI 7 15 hF ?_ ?_<;>intro hF
    ·obtain⟨l10,e6,hF⟩:=bnd hF
     refine jo2 11 (am (f:=A5) e6) ?_
     exact ja 9 (iL2 _ _ hF)
    ·cases hF
     exact jr 7
  refine C5 5 (Bm5 (n:=1) 3 1 24 192 1 (by kernel_rfl) (by kernel_rfl) ?_)
  exact ja 0 (hL2 _ _ _ hF)
def Dp0(d0:Int):Option Bool:=
 some (d0 !=d0)
theorem By0{d0:Int}{r:Bool}(hF:Dp0 d0=some r):
 C3 Tryz.prog 216 [.i d0] (.b r):=by
 unfold Dp0 at hF
 refine cf 6 Tryz.func216 ?_
 cases hF
 exact jr 11
def Do6(d0:Int)(d1:Int):Option Int:=
 Option.bind (Dp0 d0) fun y1=>
 Option.bind (Dp0 d1) fun y2=>
 bif y1 then
  (bif y2 then
   (some 0)
  else
   (some (-1)))
 else
  (bif y2 then
   (some 1)
  else
   (bif decide (d0<d1) then
    (some (-1))
   else
    (bif decide (d0>d1) then
     (some 1)
    else
     (some 0))))
theorem Bx6{d0:Int}{d1:Int}{r:Int}(hF:Do6 d0 d1=some r):
 C3 Tryz.prog 168 [.i d0,.i d1] (.i r):=by
 unfold Do6 at hF
 refine cf 20 Tryz.func168 ?_
 refine jB 7 hF Dm1 By0 fun y1 hF=> ?_
 refine jB 5 hF Dm1 By0 fun y2 hF=> ?_
 refine jI 7 11 hF ?_ ?_<;>intro hF
 ·refine jI 6 12 hF ?_ ?_<;>intro hF
  ·cases hF
   exact jr 5
  ·cases hF
   exact jr 6
 ·refine jI 7 13 hF ?_ ?_<;>intro hF
  ·cases hF
   exact jr 5
  ·refine jI 9 16 hF ?_ ?_<;>intro hF
   ·cases hF
    exact jr 5
   ·refine jI 9 19 hF ?_ ?_<;>intro hF
    ·cases hF
     exact jr 5
    ·cases hF
     exact jr 6
def Dp5(d0:Int):Option Bool:=
 some (d0 !=d0)
theorem By7{d0:Int}{r:Bool}(hF:Dp5 d0=some r):
 C3 Tryz.prog 260 [.w d0] (.b r):=by
 unfold Dp5 at hF
 refine cf 6 Tryz.func260 ?_
 cases hF
 exact jr 11
def Du6(d0:Int)(d1:Int):Option Int:=
 Option.bind (Dp5 d0) fun y1=>
 Option.bind (Dp5 d1) fun y2=>
 bif y1 then
  (bif y2 then
   (some 0)
  else
   (some (-1)))
 else
  (bif y2 then
   (some 1)
  else
   (bif decide (d0<d1) then
    (some (-1))
   else
    (bif decide (d0>d1) then
     (some 1)
    else
     (some 0))))
theorem Cw2{d0:Int}{d1:Int}{r:Int}(hF:Du6 d0 d1=some r):
 C3 Tryz.prog 217 [.w d0,.w d1] (.i r):=by
 unfold Du6 at hF
 refine cf 20 Tryz.func217 ?_
 refine jB 7 hF Dm7 By7 fun y1 hF=> ?_
 refine jB 5 hF Dm7 By7 fun y2 hF=> ?_
 refine jI 7 11 hF ?_ ?_<;>intro hF
 ·refine jI 6 12 hF ?_ ?_<;>intro hF
  ·cases hF
   exact jr 5
  ·cases hF
   exact jr 6
 ·refine jI 7 13 hF ?_ ?_<;>intro hF
  ·cases hF
   exact jr 5
  ·refine jI 9 16 hF ?_ ?_<;>intro hF
   ·cases hF
    exact jr 5
   ·refine jI 9 19 hF ?_ ?_<;>intro hF
    ·cases hF
     exact jr 5
    ·cases hF
     exact jr 6
def Ar9(d0:List Int)(d1:List Int):Nat→Int→Option Int
 |0,_=>none
 |nL1+1,v2=>
  bif decide (v2≥0) then
   (Option.bind (D6 d0 v2) fun y8=>
   Option.bind (D6 d1 v2) fun y9=>
   Option.bind (Du6 y8 y9) fun y10=>
   bif y10 !=0 then
    (some y10)
   else
    ((Ar9 d0 d1 nL1) (IntKind.i64.wrap (v2-1))))
  else
   (some 0)
def De8(fuel:Nat)(d0:List Int)(d1:List Int):Option Int:=
 Option.bind (Do6 ((d0.map A5).length:Int) ((d1.map A5).length:Int)) fun y1=>
 bif y1 !=0 then
  (some y1)
 else
  (Ar9 d0 d1 fuel (IntKind.i64.wrap (((d0.map A5).length:Int)-1)))
noncomputable abbrev Ef2:=C1 Tryz.f169
abbrev Ei5(r:Int):=J none Tryz.prog 35 [] (L3 Tryz.prog Tryz.f169 (.i r))
theorem As0{fuel:Nat}{d0:List Int}{d1:List Int}{r:Int}(hF:De8 fuel d0 d1=some r):
 C3 Tryz.prog 169 [.l 1 d0 A5,.l 1 d1 A5] (.i r):=by
 unfold De8 at hF
 refine cf 35 Tryz.func169 ?_
 refine jB 11 hF Dl7 Bx6 fun y1 hF=> ?_
 refine jI 7 14 hF ?_ ?_<;>intro hF
 ·cases hF
  exact jr 6
 ·have hL1:∀(nL1:Nat) (v2:Int),Ar9 d0 d1 nL1 v2=some r→Ei5 r ⟨mkT [(0,.l 1 d0 A5),(1,.l 1 d1 A5),(6,.i v2)],[],[kL Ef2 [1,1,0,1,0,0],.inBlock 0,kC Ef2 [1,1,1]]⟩:=by
   clear hF;intro nL1
   induction nL1 with
   |zero=>intro v2 hF;cases hF
   |succ nL1 iL1=>
    intro v2 hF
    rw[Ar9]at hF
    refine jI 7 20 hF ?_ ?_<;>intro hF
    ·refine jd 5 ?_
     obtain⟨y8,e8,hF⟩:=bnd hF
     refine do1 2 (gm (f:=A5) e8) ?_
     obtain⟨y9,e9,hF⟩:=bnd hF
     refine do1 3 (gm (f:=A5) e9) ?_
     refine dB 1 hF Eb3 Cw2 fun y10 hF=> ?_
     refine je 1 ?_
     refine jI 5 33 hF ?_ ?_<;>intro hF
     ·cases hF
      exact jr 6
     ·exact ja 8 (iL1 _ hF)
    ·cases hF
     exact jr 6
  exact ja 12 (hL1 _ _ hF)
def Dp2(d0:List Int):Option (List Int):=
 some d0
noncomputable abbrev El0:=C1 Tryz.f229
theorem By2{d0:List Int}{r:List Int}(hF:Dp2 d0=some r):
 F4 Tryz.prog 229 [] [.l 1 d0 A5] [(2000,.box 80 [.l 1 r A5])] (.fn 268 [] [.ptr 2000 0]):=by
 unfold Dp2 at hF
 refine cr 4 Tryz.func229 ?_
 refine ja 10 (S0:=[(2,.fn 268 [] [.ptr 1 0])]) (O0:=[(1,.box 80 [.l 1 d0 A5])]) (T0:=[kC El0 [1,1]]) ?_
 refine C5 0 (Ab8 [(1,2000)] (by kernel_rfl) (by kernel_rfl) (by kernel_rfl) (by kernel_rfl) ?_)
 have hF:=oi hF;subst hF
 exact C5 0 (At6 (xs:=[.fn 268 [] [.ptr 2000 0]]) [.fn 268 [] [.ptr 2000 0]] rfl (by kernel_rfl) (by kernel_rfl) (H9.refl _) rfl)
def N0(x:Int×Int):List Kx.V:=[.d (.int .i64 x.1),.d (.int .u32 x.2)]
def At3(d0:List Int):Nat→Int→Option (List (Int×Int))
 |0,_=>none
 |nL1+1,v2=>
  bif decide (v2≥0) then
   (Option.bind (D6 d0 v2) fun y3=>
   Option.bind (
    (At3 d0 nL1) (IntKind.i64.wrap (v2-1))) fun l3=>
   some ((v2,y3)::l3))
  else
   (some [])
def Dp6(fuel:Nat)(d0:List Int):Option (List (Int×Int)):=
 At3 d0 fuel (IntKind.i64.wrap (((d0.map A5).length:Int)-1))
noncomputable abbrev El1:=C1 Tryz.f268
theorem By8{fuel:Nat}{d0:List Int}{r:List (Int×Int)}(hF:Dp6 fuel d0=some r):
 Bs0 Tryz.prog 268 [(2000,.frn 2000)] [.yl 2000,.rp [.sl 1 (d0.map A5)] 0] (r.map N0) false:=by
 unfold Dp6 at hF
 refine Bp2 (N:=19) (b:=C1 Tryz.f268) Tryz.func268 (by kernel_rfl) rfl rfl (fun yl_ Inv_ Stop_ Pan_ hR_=> ?_)
 have hL1:∀(nL1:Nat) (r:List (Int×Int)) (v2:Int),At3 d0 nL1 v2=some r→J none Tryz.prog 19 [] (Bu0 Tryz.prog Tryz.f268 yl_ Inv_ Stop_ Pan_ false (some (r.map N0))) ⟨mkT [(0,.yl 2000),(1,.rp [.sl 1 (d0.map A5)] 0),(3,.i v2)],[(2000,.frn 2000)],[kL El1 [1,0,0],.inBlock 0]⟩:=by
  clear hF;intro nL1
  induction nL1 with
  |zero=>intro r v2 hF;cases hF
  |succ nL1 iL1=>
   intro r v2 hF
   rw[At3]at hF
   refine jI 7 8 hF ?_ ?_<;>intro hF
   ·obtain⟨y3,e3,hF⟩:=bnd hF
    refine jo1 10 (gm (f:=A5) e3) ?_
    obtain⟨l3,hY_,hr_⟩:=bnd hF
    clear hF;have hr_:=Option.some.inj hr_;subst hr_;have hF:=hY_;clear hY_
    refine C5 1 (Bf6 hR_ (xs:=[.i v2,.w y3]) [.i v2,.w y3] (ys:=l3.map N0) (by kernel_rfl) (by kernel_rfl) (H9.refl _) ?_ ?_)
    rotate_left
    ·exact C5 3 (Aj3 hR_ (.inr rfl) rfl rfl (by kernel_rfl))
    ·exact ja 10 (iL1 _ _ hF)
   ·have hF:=oi hF;subst hF
    exact C5 2 (Aj3 hR_ (.inl ⟨rfl,rfl⟩) rfl rfl (by kernel_rfl))
 exact ja 9 (hL1 _ _ _ hF)
def Ai5(d1:Int):List (Int×Int)→Int→(List Int)→Option (List Int×Int)
 |[],v2,l5=>
  some (l5,IntKind.u32.wrap v2)
 |y6::ys_F225_L1,v2,l5=>
  ass (decide ((IntKind.u64.wrap d1)≠0))<|
  ass (decide ((IntKind.u64.wrap d1)≠0))<|
  Option.bind (D6 l5 y6.1) fun y7=>
  Option.bind (some (l5.set (0+Int.toNat y6.1) (IntKind.u32.wrap (IntKind.u64.wrap (Int.tdiv (IntKind.u64.wrap ((IntKind.u64.wrap (v2*1000000000))+(IntKind.u64.wrap y6.2))) (IntKind.u64.wrap d1)))))) fun l6=>
  (Ai5 d1 ys_F225_L1) (Int.tmod (IntKind.u64.wrap ((IntKind.u64.wrap (v2*1000000000))+(IntKind.u64.wrap y6.2))) (IntKind.u64.wrap d1)) l6
def Dp1(fuel:Nat)(d0:List Int)(d1:Int):Option (List Int×Int):=
 Option.bind (mkL ((d0.map A5).length:Int) ((d0.map A5).length:Int) 0) fun l1=>
 Option.bind (Dp2 d0) fun y1=>
 Option.bind (Dp6 fuel y1) fun ys1=>
 Ai5 d1 ys1 0 l1
noncomputable abbrev Bw2:=C1 Tryz.f225
theorem By1{fuel:Nat}{d0:List Int}{d1:Int}{r:List Int×Int}(hF:Dp1 fuel d0 d1=some r):
 C3 Tryz.prog 225 [.l 1 d0 A5,.w d1] (.tup [.l 1 r.1 A5,.w r.2]):=by
 unfold Dp1 at hF
 refine Ag3 (N:=38) (b:=C1 Tryz.f225) Tryz.func225 (by kernel_rfl) rfl rfl (fun w00_ M00_=> ?_)
 obtain⟨l1,e1,hF⟩:=bnd hF
 refine jo2 10 (mm (f:=A5) e1) ?_
 obtain⟨y1,e2,hF⟩:=bnd hF
 refine jcr 12 [(15,2000)] Dm4 (By2 e2) ?_
 refine ja 2 (S0:=[(3,.ptr 3 0),(6,.ptr 6 0),(7,.ptr 7 0),(15,.fn 268 [] [.ptr 15 0])]) (O0:=[(3,.box 192 [.w d1]),(6,.box 80 [.suf 13 0 0]),(7,.box 32 [.n 0]),(13,.buf 0 192 1 (l1.map A5)),(15,.box 80 [.l 1 y1 A5])]) (T0:=[kC Bw2 [1,1,1,0,1,0],.inBlock 0,kC Bw2 [1,1,1,1]]) ?_
 refine Ab8 [(13,13),(15,15),(3,2100),(6,2101),(7,2102)] (by kernel_rfl) (by kernel_rfl) (by kernel_rfl) (by kernel_rfl) ?_
 refine Bf5 (S0:=[(3,.ptr 2100 0),(6,.ptr 2101 0),(7,.ptr 2102 0),(15,.fn 268 [] [.ptr 15 0])]) (O0:=[(13,.buf 0 192 1 (l1.map A5)),(15,.box 80 [.l 1 y1 A5]),(2100,.box 192 [.w d1]),(2101,.box 80 [.suf 13 0 0]),(2102,.box 32 [.n 0])]) (T0:=[kC Bw2 [1,1,1,0,1,0],.inBlock 0,kC Bw2 [1,1,1,1]]) [3,6,7,15] [13,15,2100,2101,2102] (by kernel_rfl) rfl ?_
 obtain⟨ys1,e3,hF⟩:=bnd hF
 obtain⟨G_,hG_⟩:∃G:List (List Kx.V)→List (Nat×B7)→Prop,G=(fun yv ob=>∃(yl_:List (Int×Int)) (v2:Int) (l5:List Int),yv=yl_.map N0∧ob=[(13,.buf 0 192 1 (l5.map A5)),(2100,.box 192 [.w d1]),(2101,.box 80 [.suf 13 0 0]),(2102,.box 32 [.n v2])]∧Ai5 d1 yl_ v2 l5=some r):=⟨_,rfl⟩
 obtain⟨GX_,hGX_⟩:∃G:Code→List (Nat×B7)→Prop,G=(fun j ob=>False):=⟨_,rfl⟩
 refine Aj5 (P:=Tryz.prog) (g:=(.tmp 15)) (ps:= #[16,17]) (asg:=(cAt Bw2 [1,1,1,0,1,0,0])) (bo:=(cAt Bw2 [1,1,1,0,1,0,1])) (k:=[.inBlock 0,kC Bw2 [1,1,1,1]]) (gf:=268) (first:=[]) (cap:=[.ptr 15 0]) (xs:=[.rp [.sl 1 (y1.map A5)] 0]) (os:=[]) (S1:=[(3,.ptr 2100 0),(6,.ptr 2101 0),(7,.ptr 2102 0)]) (ob0:=[(13,.buf 0 192 1 (l1.map A5)),(2100,.box 192 [.w d1]),(2101,.box 80 [.suf 13 0 0]),(2102,.box 32 [.n 0])]) [] [3,6,7] [13,2100,2101,2102] [.rp [.sl 1 (y1.map A5)] 0] (ysAll:=ys1.map N0) [2100,2101,2102] G_ GX_ rfl (by kernel_rfl) rfl (by kernel_rfl) rfl (by kernel_rfl) (H9.refl _) Dm8 (By8 e3) (by kernel_rfl) (by kernel_rfl) (by kernel_rfl) ?_ ?_ ?_ ⟨by kernel_rfl,by kernel_rfl⟩ ?_ ?_ ?_
 ·rw[hG_];exact⟨ys1,0,l1,rfl,by kernel_rfl,hF⟩
 ·intro yv_ ob_ h_;rw[hG_]at h_;obtain⟨_,_,_,_,rfl,_⟩:=h_;kernel_rfl
 ·intro j_ ob_ h_;rw[hGX_]at h_;exact h_.elim
 ·intro x_ hxa_ hxb_ hxp_ yv_ ysv_ ob_ h_;rw[hG_]at h_
  obtain⟨yl_,v2,l5,hy_,rfl,hF⟩:=h_
  cases yl_ with
  |nil=>cases hy_
  |cons y6 ys_F225_L1=>
   cases hy_;rw[Ai5]at hF
   refine Bi4 (by kernel_rfl) ?_
   refine Bf5 (S0:=[(3,.ptr 2100 0),(6,.ptr 2101 0),(7,.ptr 2102 0),(16,.i y6.1),(17,.w y6.2)]) (O0:=[(3000,.raw x_.D (.deferred (some []))),(3001,.raw x_.L (.loop (E0 x_ .ready none))),(13,.buf 0 192 1 (l5.map A5)),(2100,.box 192 [.w d1]),(2101,.box 80 [.suf 13 0 0]),(2102,.box 32 [.n v2])]) (T0:=[kC Bw2 [1,1,1,0,1,0,0],.begR x_.L,kC Bw2 [1,1,1,0,1,0,1]]) [3,6,7,16,17] [3000,3001,13,2100,2101,2102] (by kernel_rfl) rfl ?_
   refine ja 7 (S0:=[(3,.ptr 2100 0),(6,.ptr 2101 0),(7,.ptr 2102 0),(8,.i y6.1),(9,.w y6.2),(16,.i y6.1),(17,.w y6.2)]) (O0:=[(3000,.raw x_.D (.deferred (some []))),(3001,.raw x_.L (.loop (E0 x_ .ready none))),(13,.buf 0 192 1 (l5.map A5)),(2100,.box 192 [.w d1]),(2101,.box 80 [.suf 13 0 0]),(2102,.box 32 [.n v2])]) (T0:=[.begR x_.L,kC Bw2 [1,1,1,0,1,0,1]]) ?_
   refine Aj2 (l:=x_.L) (q:=3001) (k:=[kC Bw2 [1,1,1,0,1,0,1]]) (rec:=E0 x_ .ready none) rfl rfl rfl ?_
   refine jd 10 ?_
   obtain⟨hb5,hF⟩:=N1 hF
   refine do1 5 (ck hb5) ?_
   obtain⟨hb6,hF⟩:=N1 hF
   refine do1 4 (ck hb6) ?_
   obtain⟨y7,e8,hF⟩:=bnd hF
   refine do1 0 (gm (f:=A5) e8) ?_
   obtain⟨l6,e9,hF⟩:=bnd hF
   have hst:=stm (f:=A5) (z:=IntKind.u32.wrap (IntKind.u64.wrap (Int.tdiv (IntKind.u64.wrap ((IntKind.u64.wrap (v2*1000000000))+(IntKind.u64.wrap y6.2))) (IntKind.u64.wrap d1)))) (k:=0) (xs:=[.int .u32 (IntKind.u32.wrap (IntKind.u64.wrap (Int.tdiv (IntKind.u64.wrap ((IntKind.u64.wrap (v2*1000000000))+(IntKind.u64.wrap y6.2))) (IntKind.u64.wrap d1))))]) (gj e8) rfl
   refine R7 0 (At4 (o:=(match(l5.map A5)[0+Int.toNat y6.1]? with|some old=>some ((l5.map A5).set (0+Int.toNat y6.1) (Ad4 old 0 [.int .u32 (IntKind.u32.wrap (IntKind.u64.wrap (Int.tdiv (IntKind.u64.wrap ((IntKind.u64.wrap (v2*1000000000))+(IntKind.u64.wrap y6.2))) (IntKind.u64.wrap d1))))]))|none=>none)) (l6.map A5) (by kernel_rfl) (by kernel_rfl) (by cases e9;exact hst) ?_)
   refine je 1 ?_
   refine ja 1 (S0:=[]) (O0:=rob x_ .busy none [(13,.buf 0 192 1 (l6.map A5)),(2100,.box 192 [.w d1]),(2101,.box 80 [.suf 13 0 0]),(2102,.box 32 [.n (Int.tmod (IntKind.u64.wrap ((IntKind.u64.wrap (v2*1000000000))+(IntKind.u64.wrap y6.2))) (IntKind.u64.wrap d1))])]) (T0:=[]) ?_
   exact Aj4 rfl [(13,.buf 0 192 1 (l6.map A5)),(2100,.box 192 [.w d1]),(2101,.box 80 [.suf 13 0 0]),(2102,.box 32 [.n (Int.tmod (IntKind.u64.wrap ((IntKind.u64.wrap (v2*1000000000))+(IntKind.u64.wrap y6.2))) (IntKind.u64.wrap d1))])] rfl rfl (by kernel_rfl) (by rw[hG_];exact⟨ys_F225_L1,Int.tmod (IntKind.u64.wrap ((IntKind.u64.wrap (v2*1000000000))+(IntKind.u64.wrap y6.2))) (IntKind.u64.wrap d1),l6,rfl,rfl,hF⟩)
 ·intro D_ ob_ h_;rw[hG_]at h_
  obtain⟨yl_,v2,l5,hy_,rfl,hF⟩:=h_
  cases yl_ with
  |cons _ _=>cases hy_
  |nil=>
   clear hy_;rw[Ai5]at hF
   refine Ax9 [(2100,3),(2101,6),(2102,7),(13,13)] (by kernel_rfl) (by kernel_rfl) (by kernel_rfl) ?_
   refine ja 0 (S0:=[(6,.ptr 6 0),(7,.ptr 7 0)]) (O0:=[(6,.box 80 [.suf 13 0 0]),(7,.box 32 [.n v2]),(13,.buf 0 192 1 (l5.map A5))]) (T0:=[.inBlock 0,kC Bw2 [1,1,1,1]]) ?_
   refine jd 2 ?_
   refine je 5 ?_
   have hF:=oi hF;subst hF
   exact C5 0 (W0 (xs:=[.l 1 l5 A5,.w (IntKind.u32.wrap v2)]) [.l 1 l5 A5,.w (IntKind.u32.wrap v2)] rfl rfl (by kernel_rfl) (H9.refl _) rfl (by kernel_rfl))
 ·intro D_ ob_ j_ h_;rw[hGX_]at h_
  exact h_.elim
def As6(d0:List Int)(d1:Int):Nat→Int→Int→(List Int)→Option (List Int)
 |0,_,_,_=>none
 |nL1+1,v3,v4,l5=>
  bif decide (v4<((d0.map A5).length:Int)) then
   (Option.bind (D6 d0 v4) fun y3=>
   Option.bind (app l5 [IntKind.u32.wrap (Int.tmod (IntKind.u64.wrap ((IntKind.u64.wrap ((IntKind.u64.wrap y3)*(IntKind.u64.wrap d1)))+v3)) 1000000000)]) fun l6=>
   (As6 d0 d1 nL1) (IntKind.u64.wrap (Int.tdiv (IntKind.u64.wrap ((IntKind.u64.wrap ((IntKind.u64.wrap y3)*(IntKind.u64.wrap d1)))+v3)) 1000000000)) (IntKind.i64.wrap (v4+1)) l6)
  else
   (Option.bind (app l5 [IntKind.u32.wrap v3]) fun l7=>
   some l7)
def Du7(fuel:Nat)(d0:List Int)(d1:Int):Option (List Int):=
 Option.bind (mkL 0 (IntKind.i64.wrap (((d0.map A5).length:Int)+1)) 0) fun l1=>
 As6 d0 d1 fuel 0 0 l1
noncomputable abbrev Dk3:=C1 Tryz.f226
abbrev Ej2(r:List Int):=J none Tryz.prog 41 [] (Bd8 Tryz.prog Tryz.f226 [(2000,.buf 0 192 1 (r.map A5))] (.suf 2000 0 0))
theorem Cw3{fuel:Nat}{d0:List Int}{d1:Int}{r:List Int}(hF:Du7 fuel d0 d1=some r):
 F4 Tryz.prog 226 [] [.l 1 d0 A5,.w d1] [(2000,.buf 0 192 1 (r.map A5))] (.suf 2000 0 0):=by
 unfold Du7 at hF
 refine cr 41 Tryz.func226 ?_
 obtain⟨l1,e1,hF⟩:=bnd hF
 refine jo2 9 (mm (f:=A5) e1) ?_
 have hL1:∀(nL1:Nat) (v3:Int) (v4:Int) (l5:List Int),As6 d0 d1 nL1 v3 v4 l5=some r→Ej2 r ⟨mkT [(1,.w d1),(5,.suf 13 0 0),(6,.n v3),(14,.l 1 d0 A5),(15,.i ((d0.map A5).length:Int)),(16,.i v4)],[(13,.buf 0 192 1 (l5.map A5))],[kL Dk3 [1,1,1,0,1,0,0],.inBlock 0,kC Dk3 [1,1,1,1]]⟩:=by
  clear hF;intro nL1
  induction nL1 with
  |zero=>intro v3 v4 l5 hF;cases hF
  |succ nL1 iL1=>
   intro v3 v4 l5 hF
   rw[As6]at hF
   refine jI 6 17 hF ?_ ?_<;>intro hF
   ·obtain⟨y3,e6,hF⟩:=bnd hF
    refine jo1 6 (gm (f:=A5) e6) ?_
    obtain⟨l6,e7,hF⟩:=bnd hF
    refine jo2 20 (am (f:=A5) e7) ?_
    exact ja 10 (iL1 _ _ _ hF)
   ·obtain⟨l7,e8,hF⟩:=bnd hF
    refine jo2 8 (am (f:=A5) e8) ?_
    refine ja 2 (S0:=[(4,.suf 13 0 0)]) (O0:=[(13,.buf 0 192 1 (l7.map A5))]) (T0:=[kC Dk3 [1,1,1,1,1]]) ?_
    refine C5 0 (Ab8 [(13,2000)] (by kernel_rfl) (by kernel_rfl) (by kernel_rfl) (by kernel_rfl) ?_)
    have hF:=oi hF;subst hF
    exact C5 0 (At6 (xs:=[.suf 2000 0 0]) [.suf 2000 0 0] rfl (by kernel_rfl) (by kernel_rfl) (H9.refl _) rfl)
 exact ja 15 (hL1 _ _ _ _ hF)
def Ag0(d0:List Int)(d1:Int):Nat→Int→Int→(List Int)→Option (List Int)
 |0,_,_,_=>none
 |nL1+1,v3,v4,l5=>
  bif decide (v4<((d0.map A5).length:Int)) then
   (Option.bind (D6 d0 v4) fun y3=>
   Option.bind (app l5 [IntKind.u32.wrap (Int.tmod (IntKind.u64.wrap ((IntKind.u64.wrap ((IntKind.u64.wrap y3)*(IntKind.u64.wrap d1)))+v3)) 1000000000)]) fun l6=>
   (Ag0 d0 d1 nL1) (IntKind.u64.wrap (Int.tdiv (IntKind.u64.wrap ((IntKind.u64.wrap ((IntKind.u64.wrap y3)*(IntKind.u64.wrap d1)))+v3)) 1000000000)) (IntKind.i64.wrap (v4+1)) l6)
  else
   (Option.bind (app l5 [IntKind.u32.wrap v3]) fun l7=>
   some l7)
def Cw4(fuel:Nat)(d0:List Int)(d1:Int):Option (List Int):=
 Option.bind (mkL 0 (IntKind.i64.wrap (((d0.map A5).length:Int)+1)) 0) fun l1=>
 Ag0 d0 d1 fuel 0 0 l1
abbrev Dw5(r:List Int):=J none Tryz.prog 41 [] (L3 Tryz.prog Tryz.f226 (.l 1 r A5))
theorem Cj8{fuel:Nat}{d0:List Int}{d1:Int}{r:List Int}(hF:Cw4 fuel d0 d1=some r):
 C3 Tryz.prog 226 [.l 1 d0 A5,.w d1] (.l 1 r A5):=by
 unfold Cw4 at hF
 refine cf 41 Tryz.func226 ?_
 obtain⟨l1,e1,hF⟩:=bnd hF
 refine jo2 9 (mm (f:=A5) e1) ?_
 have hL1:∀(nL1:Nat) (v3:Int) (v4:Int) (l5:List Int),Ag0 d0 d1 nL1 v3 v4 l5=some r→Dw5 r ⟨mkT [(1,.w d1),(5,.suf 13 0 0),(6,.n v3),(14,.l 1 d0 A5),(15,.i ((d0.map A5).length:Int)),(16,.i v4)],[(13,.buf 0 192 1 (l5.map A5))],[kL Dk3 [1,1,1,0,1,0,0],.inBlock 0,kC Dk3 [1,1,1,1]]⟩:=by
  clear hF;intro nL1
  induction nL1 with
  |zero=>intro v3 v4 l5 hF;cases hF
  |succ nL1 iL1=>
   intro v3 v4 l5 hF
   rw[Ag0]at hF
   refine jI 6 17 hF ?_ ?_<;>intro hF
   ·obtain⟨y3,e6,hF⟩:=bnd hF
    refine jo1 6 (gm (f:=A5) e6) ?_
    obtain⟨l6,e7,hF⟩:=bnd hF
    refine jo2 20 (am (f:=A5) e7) ?_
    exact ja 10 (iL1 _ _ _ hF)
   ·obtain⟨l7,e8,hF⟩:=bnd hF
    refine jo2 8 (am (f:=A5) e8) ?_
    cases hF
    exact jr 2
 exact ja 15 (hL1 _ _ _ _ hF)
def X1(d0:Nat)(d1:List Int)(d2:Int):Nat→Int→Int→Int→(List Int)→Option (Bool×List Int)
 |0,_,_,_,_=>none
 |nL1+1,v4,v5,v6,l10=>
  bif decide (v6<(IntKind.i64.wrap (((d1.map A5).length:Int)+1))) then
   (bif decide (v6<((d1.map A5).length:Int)) then
    (Option.bind (D6 d1 v6) fun y15=>
    Option.bind (D6 (l10.drop d0) v6) fun y16=>
    bif decide ((IntKind.i64.wrap ((IntKind.i64.wrap ((IntKind.i64.wrap y16)-(IntKind.i64.wrap (Int.tmod (IntKind.u64.wrap (v4+(IntKind.u64.wrap (d2*(IntKind.u64.wrap y15))))) 1000000000))))-v5))<0) then
     (Option.bind (D6 (l10.drop d0) v6) fun y17=>
     Option.bind (some (l10.set (d0+Int.toNat v6) (IntKind.u32.wrap (IntKind.i64.wrap ((IntKind.i64.wrap ((IntKind.i64.wrap ((IntKind.i64.wrap y16)-(IntKind.i64.wrap (Int.tmod (IntKind.u64.wrap (v4+(IntKind.u64.wrap (d2*(IntKind.u64.wrap y15))))) 1000000000))))-v5))+1000000000))))) fun l11=>
     (X1 d0 d1 d2 nL1) (IntKind.u64.wrap (Int.tdiv (IntKind.u64.wrap (v4+(IntKind.u64.wrap (d2*(IntKind.u64.wrap y15))))) 1000000000)) 1 (IntKind.i64.wrap (v6+1)) l11)
    else
     (Option.bind (D6 (l10.drop d0) v6) fun y18=>
     Option.bind (some (l10.set (d0+Int.toNat v6) (IntKind.u32.wrap (IntKind.i64.wrap ((IntKind.i64.wrap ((IntKind.i64.wrap y16)-(IntKind.i64.wrap (Int.tmod (IntKind.u64.wrap (v4+(IntKind.u64.wrap (d2*(IntKind.u64.wrap y15))))) 1000000000))))-v5))))) fun l12=>
     (X1 d0 d1 d2 nL1) (IntKind.u64.wrap (Int.tdiv (IntKind.u64.wrap (v4+(IntKind.u64.wrap (d2*(IntKind.u64.wrap y15))))) 1000000000)) 0 (IntKind.i64.wrap (v6+1)) l12))
   else
    (Option.bind (D6 (l10.drop d0) v6) fun y19=>
    bif decide ((IntKind.i64.wrap ((IntKind.i64.wrap ((IntKind.i64.wrap y19)-(IntKind.i64.wrap (Int.tmod v4 1000000000))))-v5))<0) then
     (Option.bind (D6 (l10.drop d0) v6) fun y20=>
     Option.bind (some (l10.set (d0+Int.toNat v6) (IntKind.u32.wrap (IntKind.i64.wrap ((IntKind.i64.wrap ((IntKind.i64.wrap ((IntKind.i64.wrap y19)-(IntKind.i64.wrap (Int.tmod v4 1000000000))))-v5))+1000000000))))) fun l13=>
     (X1 d0 d1 d2 nL1) (IntKind.u64.wrap (Int.tdiv v4 1000000000)) 1 (IntKind.i64.wrap (v6+1)) l13)
    else
     (Option.bind (D6 (l10.drop d0) v6) fun y21=>
     Option.bind (some (l10.set (d0+Int.toNat v6) (IntKind.u32.wrap (IntKind.i64.wrap ((IntKind.i64.wrap ((IntKind.i64.wrap y19)-(IntKind.i64.wrap (Int.tmod v4 1000000000))))-v5))))) fun l14=>
     (X1 d0 d1 d2 nL1) (IntKind.u64.wrap (Int.tdiv v4 1000000000)) 0 (IntKind.i64.wrap (v6+1)) l14)))
  else
   (some (decide (v5>0),l10))
def Du8(fuel:Nat)(d0:Nat)(d1:List Int)(d2:Int)(d3:List Int):Option (Bool×List Int):=
 X1 d0 d1 d2 fuel 0 0 0 d3
noncomputable abbrev Ef8:=C1 Tryz.f227
abbrev Ej3(r:Bool×List Int):=J none Tryz.prog 57 [] (Bd8 Tryz.prog Tryz.f227 [(2000,.buf 0 192 1 (r.2.map A5))] (.b r.1))
theorem Cw5{fuel:Nat}{d0:Nat}{d1:List Int}{d2:Int}{d3:List Int}{r:Bool×List Int}(hF:Du8 fuel d0 d1 d2 d3=some r):
 F4 Tryz.prog 227 [(2000,.buf 0 192 1 (d3.map A5))] [.suf 2000 0 d0,.l 1 d1 A5,.n d2] [(2000,.buf 0 192 1 (r.2.map A5))] (.b r.1):=by
 unfold Du8 at hF
 refine cr 57 Tryz.func227 ?_
 have hL1:∀(nL1:Nat) (v4:Int) (v5:Int) (v6:Int) (l10:List Int),X1 d0 d1 d2 nL1 v4 v5 v6 l10=some r→Ej3 r ⟨mkT [(0,.suf 2000 0 d0),(1,.l 1 d1 A5),(2,.n d2),(7,.n v4),(8,.i v5),(14,.i (IntKind.i64.wrap (((d1.map A5).length:Int)+1))),(15,.i v6)],[(2000,.buf 0 192 1 (l10.map A5))],[kL Ef8 [1,1,0,1,0,0],.inBlock 0,kC Ef8 [1,1,1]]⟩:=by
  clear hF;intro nL1
  induction nL1 with
  |zero=>intro v4 v5 v6 l10 hF;cases hF
  |succ nL1 iL1=>
   intro v4 v5 v6 l10 hF
   rw[X1]at hF
   refine jI 6 16 hF ?_ ?_<;>intro hF
   ·refine jI 22 22 hF ?_ ?_<;>intro hF
    ·obtain⟨y15,e23,hF⟩:=bnd hF
     refine jo1 6 (gm (f:=A5) e23) ?_
     obtain⟨y16,e24,hF⟩:=bnd hF
     refine jo1 16 (gmd (f:=A5) e24) ?_
     refine jo1 0 (gjm (f:=A5) (gjd e24)) ?_
     refine jI 19 46 hF ?_ ?_<;>intro hF
     ·obtain⟨y17,e25,hF⟩:=bnd hF
      refine jo1 12 (gmd (f:=A5) e25) ?_
      obtain⟨l11,e26,hF⟩:=bnd hF
      have hst:=stm (f:=A5) (z:=IntKind.u32.wrap (IntKind.i64.wrap ((IntKind.i64.wrap ((IntKind.i64.wrap ((IntKind.i64.wrap y16)-(IntKind.i64.wrap (Int.tmod (IntKind.u64.wrap (v4+(IntKind.u64.wrap (d2*(IntKind.u64.wrap y15))))) 1000000000))))-v5))+1000000000))) (k:=0) (xs:=[.int .u32 (IntKind.u32.wrap (IntKind.i64.wrap ((IntKind.i64.wrap ((IntKind.i64.wrap ((IntKind.i64.wrap y16)-(IntKind.i64.wrap (Int.tmod (IntKind.u64.wrap (v4+(IntKind.u64.wrap (d2*(IntKind.u64.wrap y15))))) 1000000000))))-v5))+1000000000)))]) (gjd e25) rfl
      refine C5 0 (H6 (o:=(match(l10.map A5)[d0+Int.toNat v6]? with|some old=>some ((l10.map A5).set (d0+Int.toNat v6) (Ad4 old 0 [.int .u32 (IntKind.u32.wrap (IntKind.i64.wrap ((IntKind.i64.wrap ((IntKind.i64.wrap ((IntKind.i64.wrap y16)-(IntKind.i64.wrap (Int.tmod (IntKind.u64.wrap (v4+(IntKind.u64.wrap (d2*(IntKind.u64.wrap y15))))) 1000000000))))-v5))+1000000000)))]))|none=>none)) (l11.map A5) (by kernel_rfl) (by cases e26;exact hst) ?_)
      exact ja 6 (iL1 _ _ _ _ hF)
     ·obtain⟨y18,e27,hF⟩:=bnd hF
      refine jo1 7 (gmd (f:=A5) e27) ?_
      obtain⟨l12,e28,hF⟩:=bnd hF
      have hst:=stm (f:=A5) (z:=IntKind.u32.wrap (IntKind.i64.wrap ((IntKind.i64.wrap ((IntKind.i64.wrap y16)-(IntKind.i64.wrap (Int.tmod (IntKind.u64.wrap (v4+(IntKind.u64.wrap (d2*(IntKind.u64.wrap y15))))) 1000000000))))-v5))) (k:=0) (xs:=[.int .u32 (IntKind.u32.wrap (IntKind.i64.wrap ((IntKind.i64.wrap ((IntKind.i64.wrap y16)-(IntKind.i64.wrap (Int.tmod (IntKind.u64.wrap (v4+(IntKind.u64.wrap (d2*(IntKind.u64.wrap y15))))) 1000000000))))-v5)))]) (gjd e27) rfl
      refine C5 0 (H6 (o:=(match(l10.map A5)[d0+Int.toNat v6]? with|some old=>some ((l10.map A5).set (d0+Int.toNat v6) (Ad4 old 0 [.int .u32 (IntKind.u32.wrap (IntKind.i64.wrap ((IntKind.i64.wrap ((IntKind.i64.wrap y16)-(IntKind.i64.wrap (Int.tmod (IntKind.u64.wrap (v4+(IntKind.u64.wrap (d2*(IntKind.u64.wrap y15))))) 1000000000))))-v5)))]))|none=>none)) (l12.map A5) (by kernel_rfl) (by cases e28;exact hst) ?_)
      exact ja 6 (iL1 _ _ _ _ hF)
    ·obtain⟨y19,e29,hF⟩:=bnd hF
     refine jo1 12 (gmd (f:=A5) e29) ?_
     refine jo1 0 (gjm (f:=A5) (gjd e29)) ?_
     refine jI 19 46 hF ?_ ?_<;>intro hF
     ·obtain⟨y20,e30,hF⟩:=bnd hF
      refine jo1 12 (gmd (f:=A5) e30) ?_
      obtain⟨l13,e31,hF⟩:=bnd hF
      have hst:=stm (f:=A5) (z:=IntKind.u32.wrap (IntKind.i64.wrap ((IntKind.i64.wrap ((IntKind.i64.wrap ((IntKind.i64.wrap y19)-(IntKind.i64.wrap (Int.tmod v4 1000000000))))-v5))+1000000000))) (k:=0) (xs:=[.int .u32 (IntKind.u32.wrap (IntKind.i64.wrap ((IntKind.i64.wrap ((IntKind.i64.wrap ((IntKind.i64.wrap y19)-(IntKind.i64.wrap (Int.tmod v4 1000000000))))-v5))+1000000000)))]) (gjd e30) rfl
      refine C5 0 (H6 (o:=(match(l10.map A5)[d0+Int.toNat v6]? with|some old=>some ((l10.map A5).set (d0+Int.toNat v6) (Ad4 old 0 [.int .u32 (IntKind.u32.wrap (IntKind.i64.wrap ((IntKind.i64.wrap ((IntKind.i64.wrap ((IntKind.i64.wrap y19)-(IntKind.i64.wrap (Int.tmod v4 1000000000))))-v5))+1000000000)))]))|none=>none)) (l13.map A5) (by kernel_rfl) (by cases e31;exact hst) ?_)
      exact ja 6 (iL1 _ _ _ _ hF)
     ·obtain⟨y21,e32,hF⟩:=bnd hF
      refine jo1 7 (gmd (f:=A5) e32) ?_
      obtain⟨l14,e33,hF⟩:=bnd hF
      have hst:=stm (f:=A5) (z:=IntKind.u32.wrap (IntKind.i64.wrap ((IntKind.i64.wrap ((IntKind.i64.wrap y19)-(IntKind.i64.wrap (Int.tmod v4 1000000000))))-v5))) (k:=0) (xs:=[.int .u32 (IntKind.u32.wrap (IntKind.i64.wrap ((IntKind.i64.wrap ((IntKind.i64.wrap y19)-(IntKind.i64.wrap (Int.tmod v4 1000000000))))-v5)))]) (gjd e32) rfl
      refine C5 0 (H6 (o:=(match(l10.map A5)[d0+Int.toNat v6]? with|some old=>some ((l10.map A5).set (d0+Int.toNat v6) (Ad4 old 0 [.int .u32 (IntKind.u32.wrap (IntKind.i64.wrap ((IntKind.i64.wrap ((IntKind.i64.wrap y19)-(IntKind.i64.wrap (Int.tmod v4 1000000000))))-v5)))]))|none=>none)) (l14.map A5) (by kernel_rfl) (by cases e33;exact hst) ?_)
      exact ja 6 (iL1 _ _ _ _ hF)
   ·cases hF
    exact jrr 8
 exact ja 19 (hL1 _ _ _ _ _ hF)
def Ai6(d0:Nat)(d1:List Int):Nat→Int→Int→(List Int)→Option (List Int)
 |0,_,_,_=>none
 |nL1+1,v3,v4,l6=>
  bif decide (v4<(IntKind.i64.wrap (((d1.map A5).length:Int)+1))) then
   (Option.bind (D6 (l6.drop d0) v4) fun y9=>
   bif decide (v4<((d1.map A5).length:Int)) then
    (Option.bind (D6 d1 v4) fun y10=>
    Option.bind (D6 (l6.drop d0) v4) fun y11=>
    Option.bind (some (l6.set (d0+Int.toNat v4) (Int.tmod (IntKind.u32.wrap ((IntKind.u32.wrap (y9+v3))+y10)) 1000000000))) fun l7=>
    (Ai6 d0 d1 nL1) (IntKind.u32.wrap (Int.tdiv (IntKind.u32.wrap ((IntKind.u32.wrap (y9+v3))+y10)) 1000000000)) (IntKind.i64.wrap (v4+1)) l7)
   else
    (Option.bind (D6 (l6.drop d0) v4) fun y12=>
    Option.bind (some (l6.set (d0+Int.toNat v4) (Int.tmod (IntKind.u32.wrap (y9+v3)) 1000000000))) fun l8=>
    (Ai6 d0 d1 nL1) (IntKind.u32.wrap (Int.tdiv (IntKind.u32.wrap (y9+v3)) 1000000000)) (IntKind.i64.wrap (v4+1)) l8))
  else
   (some l6)
def Du9(fuel:Nat)(d0:Nat)(d1:List Int)(d2:List Int):Option (List Int):=
 Ai6 d0 d1 fuel 0 0 d2
noncomputable abbrev Ek9:=C1 Tryz.f228
abbrev Ej4(r:List Int):=J none Tryz.prog 37 [] (Bd8 Tryz.prog Tryz.f228 [(2000,.buf 0 192 1 (r.map A5))] (.tup []))
theorem Cw6{fuel:Nat}{d0:Nat}{d1:List Int}{d2:List Int}{r:List Int}(hF:Du9 fuel d0 d1 d2=some r):
 F4 Tryz.prog 228 [(2000,.buf 0 192 1 (d2.map A5))] [.suf 2000 0 d0,.l 1 d1 A5] [(2000,.buf 0 192 1 (r.map A5))] (.tup []):=by
 unfold Du9 at hF
 refine cr 37 Tryz.func228 ?_
 have hL1:∀(nL1:Nat) (v3:Int) (v4:Int) (l6:List Int),Ai6 d0 d1 nL1 v3 v4 l6=some r→Ej4 r ⟨mkT [(0,.suf 2000 0 d0),(1,.l 1 d1 A5),(4,.w v3),(9,.i (IntKind.i64.wrap (((d1.map A5).length:Int)+1))),(10,.i v4)],[(2000,.buf 0 192 1 (l6.map A5))],[kL Ek9 [1,1,0,0],.inBlock 0]⟩:=by
  clear hF;intro nL1
  induction nL1 with
  |zero=>intro v3 v4 l6 hF;cases hF
  |succ nL1 iL1=>
   intro v3 v4 l6 hF
   rw[Ai6]at hF
   refine jI 6 11 hF ?_ ?_<;>intro hF
   ·obtain⟨y9,e13,hF⟩:=bnd hF
    refine jo1 13 (gmd (f:=A5) e13) ?_
    refine jo1 0 (gjm (f:=A5) (gjd e13)) ?_
    refine jI 12 22 hF ?_ ?_<;>intro hF
    ·obtain⟨y10,e14,hF⟩:=bnd hF
     refine jo1 5 (gm (f:=A5) e14) ?_
     obtain⟨y11,e15,hF⟩:=bnd hF
     refine jo1 11 (gmd (f:=A5) e15) ?_
     obtain⟨l7,e16,hF⟩:=bnd hF
     have hst:=stm (f:=A5) (z:=Int.tmod (IntKind.u32.wrap ((IntKind.u32.wrap (y9+v3))+y10)) 1000000000) (k:=0) (xs:=[.int .u32 (Int.tmod (IntKind.u32.wrap ((IntKind.u32.wrap (y9+v3))+y10)) 1000000000)]) (gjd e15) rfl
     refine C5 0 (H6 (o:=(match(l6.map A5)[d0+Int.toNat v4]? with|some old=>some ((l6.map A5).set (d0+Int.toNat v4) (Ad4 old 0 [.int .u32 (Int.tmod (IntKind.u32.wrap ((IntKind.u32.wrap (y9+v3))+y10)) 1000000000)]))|none=>none)) (l7.map A5) (by kernel_rfl) (by cases e16;exact hst) ?_)
     exact ja 7 (iL1 _ _ _ hF)
    ·obtain⟨y12,e17,hF⟩:=bnd hF
     refine jo1 9 (gmd (f:=A5) e17) ?_
     obtain⟨l8,e18,hF⟩:=bnd hF
     have hst:=stm (f:=A5) (z:=Int.tmod (IntKind.u32.wrap (y9+v3)) 1000000000) (k:=0) (xs:=[.int .u32 (Int.tmod (IntKind.u32.wrap (y9+v3)) 1000000000)]) (gjd e17) rfl
     refine C5 0 (H6 (o:=(match(l6.map A5)[d0+Int.toNat v4]? with|some old=>some ((l6.map A5).set (d0+Int.toNat v4) (Ad4 old 0 [.int .u32 (Int.tmod (IntKind.u32.wrap (y9+v3)) 1000000000)]))|none=>none)) (l8.map A5) (by kernel_rfl) (by cases e18;exact hst) ?_)
     exact ja 7 (iL1 _ _ _ hF)
   ·cases hF
    exact jrr 2
 exact ja 13 (hL1 _ _ _ _ hF)
def Ar0(d0:Bool):Nat→(List Int)→Option A3
 |0,_=>none
 |nL1+1,l4=>
  Option.bind (
   bif decide (((l4.map A5).length:Int)>0) then
    (Option.bind (D6 l4 (IntKind.i64.wrap (((l4.map A5).length:Int)-1))) fun y9=>
    some (y9==0))
   else
    (some false)) fun o3=>
  bif o3 then
   (Option.bind (slc l4 0 (IntKind.i64.wrap (((l4.map A5).length:Int)-1))) fun l5=>
   (Ar0 d0 nL1) l5)
  else
   (Option.bind (
    bif d0 then
     (some (decide (((l4.map A5).length:Int)>0)))
    else
     (some false)) fun o4=>
   some (⟨o4,l4⟩:A3))
def Bk4(fuel:Nat)(d0:Bool)(d1:List Int):Option A3:=
 Ar0 d0 fuel d1
noncomputable abbrev Ck7:=C1 Tryz.f130
abbrev Dw1(r:A3):=J none Tryz.prog 30 [] (L3 Tryz.prog Tryz.f130 (.agg [.b r.neg,.l 1 r.mag A5]))
theorem K3{fuel:Nat}{d0:Bool}{d1:List Int}{r:A3}(hF:Bk4 fuel d0 d1=some r):
 C3 Tryz.prog 130 [.b d0,.l 1 d1 A5] (.agg [.b r.neg,.l 1 r.mag A5]):=by
 unfold Bk4 at hF
 refine cf 30 Tryz.func130 ?_
 have hL1:∀(nL1:Nat) (l4:List Int),Ar0 d0 nL1 l4=some r→Dw1 r ⟨mkT [(0,.b d0),(1,.l 1 l4 A5),(4,.ptr 4 0)],[(4,.box 82 [.b false,.esl 1])],[kL Ck7 [1,0,0,0],.inBlock 0,kC Ck7 [1,1]]⟩:=by
  clear hF;intro nL1
  induction nL1 with
  |zero=>intro l4 hF;cases hF
  |succ nL1 iL1=>
   intro l4 hF
   rw[Ar0]at hF
   obtain⟨o3,hO,hF⟩:=bnd hF
   have hR3:Dw1 r ⟨mkT [(0,.b d0),(1,.l 1 l4 A5),(4,.ptr 4 0),(16,.b o3)],[(4,.box 82 [.b false,.esl 1])],[kO Ck7 [1,0,0,0,0,0],kC Ck7 [1,0,0,0,0,1],kC Ck7 [1,0,0,0,1],kL Ck7 [1,0,0,0],.inBlock 0,kC Ck7 [1,1]]⟩:=by
    clear hO
    refine jI 1 16 hF ?_ ?_<;>intro hF
    ·obtain⟨l5,e11,hF⟩:=bnd hF
     refine jo2 8 (sm (f:=A5) e11) ?_
     exact ja 3 (iL1 _ hF)
    ·obtain⟨o4,hO,hF⟩:=bnd hF
     have hR4:Dw1 r ⟨mkT [(4,.ptr 4 0)],[(4,.box 82 [.b o4,.l 1 l4 A5])],[kO Ck7 [1,1,0],kC Ck7 [1,1,1]]⟩:=by
      clear hO
      cases hF
      exact jr 1
     clear hF;rename _=some o4=>hF
     refine jI 6 23 hF ?_ ?_<;>intro hF
     ·cases hF
      exact ja 7 hR4
     ·cases hF
      exact ja 7 hR4
   clear hF;rename _=some o3=>hF
   refine jI 8 8 hF ?_ ?_<;>intro hF
   ·obtain⟨y9,e12,hF⟩:=bnd hF
    refine jo1 4 (gm (f:=A5) e12) ?_
    cases hF
    exact ja 3 hR3
   ·cases hF
    exact ja 8 hR3
 exact ja 7 (hL1 _ _ hF)
def As1(fuel:Nat)(l1:List Int)(l9:List Int)(l10:List Int)(v6:Int)(y93:Int)(y94:Int)(cL1:Int→(List Int)→(List Int)→Option (List Int×List Int)):Nat→Int→Option (List Int×List Int)
 |0,_=>none
 |nL2+1,v8=>
  Option.bind (
   Option.bind (D6 l1 (IntKind.i64.wrap (((l1.map A5).length:Int)-2))) fun y132=>
   Option.bind (D6 l1 (IntKind.i64.wrap (((l1.map A5).length:Int)-1))) fun y133=>
   Option.bind (D6 l10 (IntKind.i64.wrap ((IntKind.i64.wrap (v6+((l1.map A5).length:Int)))-2))) fun y134=>
   bif decide ((IntKind.u64.wrap (v8*(IntKind.u64.wrap y132)))>(IntKind.u64.wrap ((IntKind.u64.wrap ((IntKind.u64.wrap ((IntKind.u64.wrap ((IntKind.u64.wrap ((IntKind.u64.wrap y93)*1000000000))+(IntKind.u64.wrap y94)))-(IntKind.u64.wrap (v8*(IntKind.u64.wrap y133)))))*1000000000))+(IntKind.u64.wrap y134)))) then
    (Option.bind (D6 l1 (IntKind.i64.wrap (((l1.map A5).length:Int)-1))) fun y135=>
    some (decide ((IntKind.u64.wrap ((IntKind.u64.wrap ((IntKind.u64.wrap ((IntKind.u64.wrap y93)*1000000000))+(IntKind.u64.wrap y94)))-(IntKind.u64.wrap (v8*(IntKind.u64.wrap y135)))))<1000000000)))
   else
    (some false)) fun o9=>
  bif o9 then
   ((As1 fuel l1 l9 l10 v6 y93 y94 cL1 nL2) (IntKind.u64.wrap (v8-1)))
  else
   (ass (decide ((0:Int)≤v6)&&decide (v6≤(((l10.map A5).drop 0).length:Int)))<|
   Option.bind (Du8 fuel (0+Int.toNat v6) l1 v8 l10) fun y128=>
   bif y128.1 then
    (ass (decide ((0:Int)≤v6)&&decide (v6≤(((y128.2.map A5).drop 0).length:Int)))<|
    Option.bind (Du9 fuel (0+Int.toNat v6) l1 y128.2) fun y129=>
    Option.bind (D6 l9 v6) fun y130=>
    Option.bind (some (l9.set (0+Int.toNat v6) (IntKind.u32.wrap (IntKind.u64.wrap (v8-1))))) fun l11=>
    cL1 (IntKind.i64.wrap (v6-1)) l11 y129)
   else
    (Option.bind (D6 l9 v6) fun y131=>
    Option.bind (some (l9.set (0+Int.toNat v6) (IntKind.u32.wrap v8))) fun l12=>
    cL1 (IntKind.i64.wrap (v6-1)) l12 y128.2))
def Ai3(fuel:Nat)(l1:List Int)(y4:Int):Nat→Int→(List Int)→(List Int)→Option (List Int×List Int)
 |0,_,_,_=>none
 |nL1+1,v6,l9,l10=>
  bif decide (v6≥0) then
   (Option.bind (D6 l10 (IntKind.i64.wrap (v6+((l1.map A5).length:Int)))) fun y93=>
   Option.bind (D6 l10 (IntKind.i64.wrap ((IntKind.i64.wrap (v6+((l1.map A5).length:Int)))-1))) fun y94=>
   Option.bind (D6 l1 (IntKind.i64.wrap (((l1.map A5).length:Int)-1))) fun y95=>
   ass (decide ((IntKind.u64.wrap y95)≠0))<|
   As1 fuel l1 l9 l10 v6 y93 y94 (Ai3 fuel l1 y4 nL1) fuel (bif decide (999999999<(IntKind.u64.wrap (Int.tdiv (IntKind.u64.wrap ((IntKind.u64.wrap ((IntKind.u64.wrap y93)*1000000000))+(IntKind.u64.wrap y94))) (IntKind.u64.wrap y95)))) then 999999999 else(IntKind.u64.wrap (Int.tdiv (IntKind.u64.wrap ((IntKind.u64.wrap ((IntKind.u64.wrap y93)*1000000000))+(IntKind.u64.wrap y94))) (IntKind.u64.wrap y95)))))
  else
   (Option.bind (slc l10 0 ((l1.map A5).length:Int)) fun l13=>
   Option.bind (Bk4 fuel false l13) fun y136=>
   Option.bind (Dp1 fuel y136.mag (IntKind.u32.wrap (IntKind.u64.wrap (Int.tdiv 1000000000 (IntKind.u64.wrap ((IntKind.u64.wrap y4)+1)))))) fun y137=>
   some (l9,y137.1))
def Dh2(fuel:Nat)(d0:List Int)(d1:List Int):Option (List Int×List Int):=
 Option.bind (De8 fuel d0 d1) fun y1=>
 bif decide (y1<0) then
  (some ([],d0))
 else
  (bif ((d1.map A5).length:Int)==1 then
   (Option.bind (D6 d1 0) fun y2=>
   Option.bind (Dp1 fuel d0 y2) fun y3=>
   some (y3.1,[y3.2]))
  else
   (Option.bind (D6 d1 (IntKind.i64.wrap (((d1.map A5).length:Int)-1))) fun y4=>
   ass (decide ((IntKind.u64.wrap ((IntKind.u64.wrap y4)+1))≠0))<|
   Option.bind (Du7 fuel d0 (IntKind.u32.wrap (IntKind.u64.wrap (Int.tdiv 1000000000 (IntKind.u64.wrap ((IntKind.u64.wrap y4)+1)))))) fun y5=>
   Option.bind (Cw4 fuel d1 (IntKind.u32.wrap (IntKind.u64.wrap (Int.tdiv 1000000000 (IntKind.u64.wrap ((IntKind.u64.wrap y4)+1)))))) fun y6=>
   Option.bind (slc y6 0 ((d1.map A5).length:Int)) fun l1=>
   Option.bind (mkL (IntKind.i64.wrap (((y5.map A5).length:Int)-((l1.map A5).length:Int))) (IntKind.i64.wrap (((y5.map A5).length:Int)-((l1.map A5).length:Int))) 0) fun l2=>
   Ai3 fuel l1 y4 fuel (IntKind.i64.wrap ((IntKind.i64.wrap (((y5.map A5).length:Int)-((l1.map A5).length:Int)))-1)) l2 y5))
noncomputable abbrev Bn4:=C1 Tryz.f177
abbrev Dw4(r:List Int×List Int):=J none Tryz.prog 172 [] (L3 Tryz.prog Tryz.f177 (.tup [.l 1 r.1 A5,.l 1 r.2 A5]))
theorem Be4{fuel:Nat}{d0:List Int}{d1:List Int}{r:List Int×List Int}(hF:Dh2 fuel d0 d1=some r):
 C3 Tryz.prog 177 [.l 1 d0 A5,.l 1 d1 A5] (.tup [.l 1 r.1 A5,.l 1 r.2 A5]):=by
 unfold Dh2 at hF
 refine cf 172 Tryz.func177 ?_
 refine jB 10 hF Cm4 As0 fun y1 hF=> ?_
 refine jI 2 21 hF ?_ ?_<;>intro hF
 ·cases hF
  exact jr 7
 ·refine jI 9 25 hF ?_ ?_<;>intro hF
  ·obtain⟨y2,e2,hF⟩:=bnd hF
   refine jo1 5 (gm (f:=A5) e2) ?_
   refine jB 1 hF Dm2 By1 fun y3 hF=> ?_
   cases hF
   exact jr 14
  ·obtain⟨y4,e4,hF⟩:=bnd hF
   refine jo1 8 (gm (f:=A5) e4) ?_
   obtain⟨hb3,hF⟩:=N1 hF
   refine jo1 3 (ck hb3) ?_
   refine jd 4 ?_
   obtain⟨y5,e5,hF⟩:=bnd hF
   refine dcr 2 [(49,2000)] Dm3 (Cw3 e5) ?_
   refine dB 2 hF Dm3 Cj8 fun y6 hF=> ?_
   obtain⟨l1,e7,hF⟩:=bnd hF
   refine do2 2 (sm (f:=A5) e7) ?_
   refine je 2 ?_
   obtain⟨l2,e8,hF⟩:=bnd hF
   refine jo2 12 (mm (f:=A5) e8) ?_
   have hL1:∀(nL1:Nat) (v6:Int) (l9:List Int) (l10:List Int),Ai3 fuel l1 y4 nL1 v6 l9 l10=some r→Dw4 r ⟨mkT [(8,.w (IntKind.u32.wrap (IntKind.u64.wrap (Int.tdiv 1000000000 (IntKind.u64.wrap ((IntKind.u64.wrap y4)+1)))))),(9,.suf 49 0 0),(10,.l 1 l1 A5),(11,.i ((l1.map A5).length:Int)),(12,.suf 62 0 0),(13,.i v6)],[(49,.buf 0 192 1 (l10.map A5)),(62,.buf 0 192 1 (l9.map A5))],[kL Bn4 [1,1,1,1,1,1,1,0,1,0,0],.inBlock 0,kC Bn4 [1,1,1,1,1,1,1,1]]⟩:=by
    clear hF;intro nL1
    induction nL1 with
    |zero=>intro v6 l9 l10 hF;cases hF
    |succ nL1 iL1=>
     intro v6 l9 l10 hF
     rw[Ai3]at hF
     refine jI 7 69 hF ?_ ?_<;>intro hF
     ·refine jd 5 ?_
      obtain⟨y93,e99,hF⟩:=bnd hF
      refine do1 4 (gm (f:=A5) e99) ?_
      refine do1 0 (gjm (f:=A5) (gj e99)) ?_
      obtain⟨y94,e100,hF⟩:=bnd hF
      refine do1 7 (gm (f:=A5) e100) ?_
      refine do1 0 (gjm (f:=A5) (gj e100)) ?_
      refine je 3 ?_
      obtain⟨y95,e101,hF⟩:=bnd hF
      refine jo1 6 (gm (f:=A5) e101) ?_
      obtain⟨hb39,hF⟩:=N1 hF
      refine jo1 2 (ck hb39) ?_
      have hL2:∀(nL2:Nat) (v8:Int),As1 fuel l1 l9 l10 v6 y93 y94 (Ai3 fuel l1 y4 nL1) nL2 v8=some r→Dw4 r ⟨mkT [(8,.w (IntKind.u32.wrap (IntKind.u64.wrap (Int.tdiv 1000000000 (IntKind.u64.wrap ((IntKind.u64.wrap y4)+1)))))),(9,.suf 49 0 0),(10,.l 1 l1 A5),(11,.i ((l1.map A5).length:Int)),(12,.suf 62 0 0),(13,.i v6),(14,.n (IntKind.u64.wrap ((IntKind.u64.wrap ((IntKind.u64.wrap y93)*1000000000))+(IntKind.u64.wrap y94)))),(15,.n v8)],[(49,.buf 0 192 1 (l10.map A5)),(62,.buf 0 192 1 (l9.map A5))],[kL Bn4 [1,1,1,1,1,1,1,0,1,0,0,1,0,0,1,1,0,0,0],.inBlock 2,kC Bn4 [1,1,1,1,1,1,1,0,1,0,0,1,0,0,1,1,1],.inBlock 1,kC Bn4 [1,1,1,1,1,1,1,0,1,0,0,1,1],kL Bn4 [1,1,1,1,1,1,1,0,1,0,0],.inBlock 0,kC Bn4 [1,1,1,1,1,1,1,1]]⟩:=by
       clear hF;intro nL2
       induction nL2 with
       |zero=>intro v8 hF;cases hF
       |succ nL2 iL2=>
        intro v8 hF
        rw[As1]at hF
        obtain⟨o9,hO,hF⟩:=bnd hF
        have hR9:Dw4 r ⟨mkT [(8,.w (IntKind.u32.wrap (IntKind.u64.wrap (Int.tdiv 1000000000 (IntKind.u64.wrap ((IntKind.u64.wrap y4)+1)))))),(9,.suf 49 0 0),(10,.l 1 l1 A5),(11,.i ((l1.map A5).length:Int)),(12,.suf 62 0 0),(13,.i v6),(14,.n (IntKind.u64.wrap ((IntKind.u64.wrap ((IntKind.u64.wrap y93)*1000000000))+(IntKind.u64.wrap y94)))),(15,.n v8),(139,.b o9)],[(49,.buf 0 192 1 (l10.map A5)),(62,.buf 0 192 1 (l9.map A5))],[kC Bn4 [1,1,1,1,1,1,1,0,1,0,0,1,0,0,1,1,0,0,0,0,1],kC Bn4 [1,1,1,1,1,1,1,0,1,0,0,1,0,0,1,1,0,0,0,1],kL Bn4 [1,1,1,1,1,1,1,0,1,0,0,1,0,0,1,1,0,0,0],.inBlock 2,kC Bn4 [1,1,1,1,1,1,1,0,1,0,0,1,0,0,1,1,1],.inBlock 1,kC Bn4 [1,1,1,1,1,1,1,0,1,0,0,1,1],kL Bn4 [1,1,1,1,1,1,1,0,1,0,0],.inBlock 0,kC Bn4 [1,1,1,1,1,1,1,1]]⟩:=by
         clear hO
         refine jI 0 139 hF ?_ ?_<;>intro hF
         ·exact ja 9 (iL2 _ hF)
         ·obtain⟨hb51,hF⟩:=N1 hF
          refine jo1 7 (ck hb51) ?_
          obtain⟨y128,e134,hF⟩:=bnd hF
          refine jcr 2 [(49,2000)] Eb4 (Cw5 e134) ?_
          refine jI 1 147 hF ?_ ?_<;>intro hF
          ·obtain⟨hb53,hF⟩:=N1 hF
           refine jo1 10 (ck hb53) ?_
           obtain⟨y129,e135,hF⟩:=bnd hF
           refine jcr 1 [(49,2000)] Eb5 (Cw6 e135) ?_
           obtain⟨y130,e136,hF⟩:=bnd hF
           refine jo1 6 (gm (f:=A5) e136) ?_
           obtain⟨l11,e137,hF⟩:=bnd hF
           have hst:=stm (f:=A5) (z:=IntKind.u32.wrap (IntKind.u64.wrap (v8-1))) (k:=0) (xs:=[.int .u32 (IntKind.u32.wrap (IntKind.u64.wrap (v8-1)))]) (gj e136) rfl
           refine C5 0 (H6 (o:=(match(l9.map A5)[0+Int.toNat v6]? with|some old=>some ((l9.map A5).set (0+Int.toNat v6) (Ad4 old 0 [.int .u32 (IntKind.u32.wrap (IntKind.u64.wrap (v8-1)))]))|none=>none)) (l11.map A5) (by kernel_rfl) (by cases e137;exact hst) ?_)
           exact ja 7 (iL1 _ _ _ hF)
          ·obtain⟨y131,e138,hF⟩:=bnd hF
           refine jo1 7 (gm (f:=A5) e138) ?_
           obtain⟨l12,e139,hF⟩:=bnd hF
           have hst:=stm (f:=A5) (z:=IntKind.u32.wrap v8) (k:=0) (xs:=[.int .u32 (IntKind.u32.wrap v8)]) (gj e138) rfl
           refine C5 0 (H6 (o:=(match(l9.map A5)[0+Int.toNat v6]? with|some old=>some ((l9.map A5).set (0+Int.toNat v6) (Ad4 old 0 [.int .u32 (IntKind.u32.wrap v8)]))|none=>none)) (l12.map A5) (by kernel_rfl) (by cases e139;exact hst) ?_)
           exact ja 7 (iL1 _ _ _ hF)
        clear hF;rename _=some o9=>hF
        refine jd 3 ?_
        obtain⟨y132,e140,hF⟩:=bnd hF
        refine do1 4 (gm (f:=A5) e140) ?_
        obtain⟨y133,e141,hF⟩:=bnd hF
        refine do1 8 (gm (f:=A5) e141) ?_
        obtain⟨y134,e142,hF⟩:=bnd hF
        refine do1 10 (gm (f:=A5) e142) ?_
        refine do1 0 (gjm (f:=A5) (gj e142)) ?_
        refine dI 4 127 hF ?_ ?_<;>intro hF
        ·obtain⟨y135,e143,hF⟩:=bnd hF
         refine do1 5 (gm (f:=A5) e143) ?_
         refine je 6 ?_
         cases hF
         exact ja 0 hR9
        ·refine je 12 ?_
         cases hF
         exact ja 0 hR9
      exact ja 6 (hL2 _ _ hF)
     ·refine C5 3 (Bz6 9 (by kernel_rfl) (by kernel_rfl) ?_)
      obtain⟨l13,e144,hF⟩:=bnd hF
      refine jo2 3 (sm (f:=A5) e144) ?_
      refine jB 0 hF Af0 K3 fun y136 hF=> ?_
      refine jB 2 hF Dm2 By1 fun y137 hF=> ?_
      cases hF
      exact jr 13
   exact ja 14 (hL1 _ _ _ _ hF)
def Ai4:List (Int×Int)→Int→Option Int
 |[],v2=>
  some v2
 |y4::ys_F178_L1,v2=>
  (Ai4 ys_F178_L1) (IntKind.u64.wrap ((IntKind.u64.wrap (v2*1000000000))+(IntKind.u64.wrap y4.2)))
def Do7(fuel:Nat)(d0:List Int):Option Int:=
 Option.bind (Dp2 d0) fun y1=>
 Option.bind (Dp6 fuel y1) fun ys1=>
 Ai4 ys1 0
noncomputable abbrev Bw1:=C1 Tryz.f178
theorem Bx7{fuel:Nat}{d0:List Int}{r:Int}(hF:Do7 fuel d0=some r):
 C3 Tryz.prog 178 [.l 1 d0 A5] (.n r):=by
 unfold Do7 at hF
 refine Ag3 (N:=16) (b:=C1 Tryz.f178) Tryz.func178 (by kernel_rfl) rfl rfl (fun w00_ M00_=> ?_)
 obtain⟨y1,e1,hF⟩:=bnd hF
 refine jcr 13 [(7,2000)] Dm4 (By2 e1) ?_
 refine ja 2 (S0:=[(3,.ptr 3 0),(7,.fn 268 [] [.ptr 7 0])]) (O0:=[(3,.box 32 [.n 0]),(7,.box 80 [.l 1 y1 A5])]) (T0:=[kC Bw1 [1,1,0,1,0],.inBlock 0,kC Bw1 [1,1,1]]) ?_
 refine Ab8 [(7,7),(3,2100)] (by kernel_rfl) (by kernel_rfl) (by kernel_rfl) (by kernel_rfl) ?_
 refine Bf5 (S0:=[(3,.ptr 2100 0),(7,.fn 268 [] [.ptr 7 0])]) (O0:=[(7,.box 80 [.l 1 y1 A5]),(2100,.box 32 [.n 0])]) (T0:=[kC Bw1 [1,1,0,1,0],.inBlock 0,kC Bw1 [1,1,1]]) [3,7] [7,2100] (by kernel_rfl) rfl ?_
 obtain⟨ys1,e2,hF⟩:=bnd hF
 obtain⟨G_,hG_⟩:∃G:List (List Kx.V)→List (Nat×B7)→Prop,G=(fun yv ob=>∃(yl_:List (Int×Int)) (v2:Int),yv=yl_.map N0∧ob=[(2100,.box 32 [.n v2])]∧Ai4 yl_ v2=some r):=⟨_,rfl⟩
 obtain⟨GX_,hGX_⟩:∃G:Code→List (Nat×B7)→Prop,G=(fun j ob=>False):=⟨_,rfl⟩
 refine Aj5 (P:=Tryz.prog) (g:=(.tmp 7)) (ps:= #[8,9]) (asg:=(cAt Bw1 [1,1,0,1,0,0])) (bo:=(cAt Bw1 [1,1,0,1,0,1])) (k:=[.inBlock 0,kC Bw1 [1,1,1]]) (gf:=268) (first:=[]) (cap:=[.ptr 7 0]) (xs:=[.rp [.sl 1 (y1.map A5)] 0]) (os:=[]) (S1:=[(3,.ptr 2100 0)]) (ob0:=[(2100,.box 32 [.n 0])]) [] [3] [2100] [.rp [.sl 1 (y1.map A5)] 0] (ysAll:=ys1.map N0) [2100] G_ GX_ rfl (by kernel_rfl) rfl (by kernel_rfl) rfl (by kernel_rfl) (H9.refl _) Dm8 (By8 e2) (by kernel_rfl) (by kernel_rfl) (by kernel_rfl) ?_ ?_ ?_ ⟨by kernel_rfl,by kernel_rfl⟩ ?_ ?_ ?_
 ·rw[hG_];exact⟨ys1,0,rfl,by kernel_rfl,hF⟩
 ·intro yv_ ob_ h_;rw[hG_]at h_;obtain⟨_,_,_,rfl,_⟩:=h_;kernel_rfl
 ·intro j_ ob_ h_;rw[hGX_]at h_;exact h_.elim
 ·intro x_ hxa_ hxb_ hxp_ yv_ ysv_ ob_ h_;rw[hG_]at h_
  obtain⟨yl_,v2,hy_,rfl,hF⟩:=h_
  cases yl_ with
  |nil=>cases hy_
  |cons y4 ys_F178_L1=>
   cases hy_;rw[Ai4]at hF
   refine Bi4 (by kernel_rfl) ?_
   refine Bf5 (S0:=[(3,.ptr 2100 0),(8,.i y4.1),(9,.w y4.2)]) (O0:=[(3000,.raw x_.D (.deferred (some []))),(3001,.raw x_.L (.loop (E0 x_ .ready none))),(2100,.box 32 [.n v2])]) (T0:=[kC Bw1 [1,1,0,1,0,0],.begR x_.L,kC Bw1 [1,1,0,1,0,1]]) [3,8,9] [3000,3001,2100] (by kernel_rfl) rfl ?_
   refine ja 3 (S0:=[(3,.ptr 2100 0),(5,.w y4.2),(8,.i y4.1),(9,.w y4.2)]) (O0:=[(3000,.raw x_.D (.deferred (some []))),(3001,.raw x_.L (.loop (E0 x_ .ready none))),(2100,.box 32 [.n v2])]) (T0:=[.begR x_.L,kC Bw1 [1,1,0,1,0,1]]) ?_
   refine Aj2 (l:=x_.L) (q:=3001) (k:=[kC Bw1 [1,1,0,1,0,1]]) (rec:=E0 x_ .ready none) rfl rfl rfl ?_
   refine ja 10 (S0:=[]) (O0:=rob x_ .busy none [(2100,.box 32 [.n (IntKind.u64.wrap ((IntKind.u64.wrap (v2*1000000000))+(IntKind.u64.wrap y4.2)))])]) (T0:=[]) ?_
   exact Aj4 rfl [(2100,.box 32 [.n (IntKind.u64.wrap ((IntKind.u64.wrap (v2*1000000000))+(IntKind.u64.wrap y4.2)))])] rfl rfl (by kernel_rfl) (by rw[hG_];exact⟨ys_F178_L1,IntKind.u64.wrap ((IntKind.u64.wrap (v2*1000000000))+(IntKind.u64.wrap y4.2)),rfl,rfl,hF⟩)
 ·intro D_ ob_ h_;rw[hG_]at h_
  obtain⟨yl_,v2,hy_,rfl,hF⟩:=h_
  cases yl_ with
  |cons _ _=>cases hy_
  |nil=>
   clear hy_;rw[Ai4]at hF
   refine Ax9 [(2100,3)] (by kernel_rfl) (by kernel_rfl) (by kernel_rfl) ?_
   refine ja 0 (S0:=[(3,.ptr 3 0)]) (O0:=[(3,.box 32 [.n v2])]) (T0:=[.inBlock 0,kC Bw1 [1,1,1]]) ?_
   have hF:=oi hF;subst hF
   exact C5 6 (W0 (xs:=[.n v2]) [.n v2] rfl rfl (by kernel_rfl) (H9.refl _) rfl (by kernel_rfl))
 ·intro D_ ob_ j_ h_;rw[hGX_]at h_
  exact h_.elim
def Aq8:Nat→Int→(List Int)→Option A3
 |0,_,_=>none
 |nL3+1,v6,l8=>
  bif decide (v6>0) then
   (Option.bind (app l8 [IntKind.u32.wrap (Int.tmod v6 1000000000)]) fun l9=>
   (Aq8 nL3) (IntKind.u64.wrap (Int.tdiv v6 1000000000)) l9)
  else
   (some (⟨false,l8⟩:A3))
def Aq7(fuel:Nat):Nat→Int→Int→Option A3
 |0,_,_=>none
 |nL2+1,v3,v4=>
  bif decide (v4>0) then
   (ass (decide (v4≠0))<|
   (Aq7 fuel nL2) v4 (Int.tmod v3 v4))
  else
   (Aq8 fuel v3 [])
def Aq6(fuel:Nat):Nat→(List Int)→(List Int)→Option A3
 |0,_,_=>none
 |nL1+1,l3,l4=>
  bif decide (((l4.map A5).length:Int)>2) then
   (Option.bind (Dh2 fuel l3 l4) fun y5=>
   Option.bind (Bk4 fuel false y5.2) fun y6=>
   (Aq6 fuel nL1) l4 y6.mag)
  else
   (bif ((l4.map A5).length:Int)==0 then
    (Option.bind (Bk4 fuel false l3) fun y7=>
    some y7)
   else
    (Option.bind (Dh2 fuel l3 l4) fun y8=>
    Option.bind (Do7 fuel l4) fun y9=>
    Option.bind (Bk4 fuel false y8.2) fun y10=>
    Option.bind (Do7 fuel y10.mag) fun y11=>
    Aq7 fuel fuel y9 y11))
def Dg8(fuel:Nat)(d0:A3)(d1:A3):Option A3:=
 Aq6 fuel fuel d0.mag d1.mag
noncomputable abbrev Df8:=C1 Tryz.f126
abbrev Dw0(r:A3):=J none Tryz.prog 68 [] (L3 Tryz.prog Tryz.f126 (.agg [.b r.neg,.l 1 r.mag A5]))
theorem Be2{fuel:Nat}{d0:A3}{d1:A3}{r:A3}(hF:Dg8 fuel d0 d1=some r):
 C3 Tryz.prog 126 [.agg [.b d0.neg,.l 1 d0.mag A5],.agg [.b d1.neg,.l 1 d1.mag A5]] (.agg [.b r.neg,.l 1 r.mag A5]):=by
 unfold Dg8 at hF
 refine cf 68 Tryz.func126 ?_
 refine jd 7 ?_
 refine je 6 ?_
 have hL1:∀(nL1:Nat) (l3:List Int) (l4:List Int),Aq6 fuel nL1 l3 l4=some r→Dw0 r ⟨mkT [(4,.ptr 4 0),(5,.l 1 l3 A5),(6,.l 1 l4 A5)],[(4,.box 82 [.b false,.esl 1])],[kL Df8 [1,1,0,0,0],.inBlock 0,kC Df8 [1,1,1]]⟩:=by
  clear hF;intro nL1
  induction nL1 with
  |zero=>intro l3 l4 hF;cases hF
  |succ nL1 iL1=>
   intro l3 l4 hF
   rw[Aq6]at hF
   refine jI 8 20 hF ?_ ?_<;>intro hF
   ·refine jB 7 hF Db4 Be4 fun y5 hF=> ?_
    refine jB 9 hF Af0 K3 fun y6 hF=> ?_
    exact ja 5 (iL1 _ _ hF)
   ·refine jI 9 33 hF ?_ ?_<;>intro hF
    ·refine jB 4 hF Af0 K3 fun y7 hF=> ?_
     cases hF
     exact jr 2
    ·refine jB 6 hF Db4 Be4 fun y8 hF=> ?_
     refine jB 9 hF Dl8 Bx7 fun y9 hF=> ?_
     refine jB 1 hF Af0 K3 fun y10 hF=> ?_
     refine jB 1 hF Dl8 Bx7 fun y11 hF=> ?_
     have hL2:∀(nL2:Nat) (v3:Int) (v4:Int),Aq7 fuel nL2 v3 v4=some r→Dw0 r ⟨mkT [(4,.ptr 4 0),(11,.n v3),(12,.n v4)],[(4,.box 82 [.b false,.esl 1])],[kL Df8 [1,1,1,1,1,1,0,0,0],.inBlock 2,kC Df8 [1,1,1,1,1,1,1]]⟩:=by
      clear hF;intro nL2
      induction nL2 with
      |zero=>intro v3 v4 hF;cases hF
      |succ nL2 iL2=>
       intro v3 v4 hF
       rw[Aq7]at hF
       refine jI 7 49 hF ?_ ?_<;>intro hF
       ·refine jd 3 ?_
        obtain⟨hb10,hF⟩:=N1 hF
        refine do1 3 (ck hb10) ?_
        refine je 2 ?_
        exact ja 1 (iL2 _ _ hF)
       ·have hL3:∀(nL3:Nat) (v6:Int) (l8:List Int),Aq8 nL3 v6 l8=some r→Dw0 r ⟨mkT [(4,.ptr 4 0),(11,.n v6),(13,.ptr 13 0)],[(4,.box 82 [.b false,.esl 1]),(13,.box 82 [.b false,.suf 65 0 0]),(65,.buf 0 192 1 (l8.map A5))],[kL Df8 [1,1,1,1,1,1,1,1,0,0,0],.inBlock 4,kC Df8 [1,1,1,1,1,1,1,1,1]]⟩:=by
         clear hF;intro nL3
         induction nL3 with
         |zero=>intro v6 l8 hF;cases hF
         |succ nL3 iL3=>
          intro v6 l8 hF
          rw[Aq8]at hF
          refine jI 7 56 hF ?_ ?_<;>intro hF
          ·obtain⟨l9,e14,hF⟩:=bnd hF
           refine jo2 11 (am (f:=A5) e14) ?_
           exact ja 9 (iL3 _ _ hF)
          ·cases hF
           exact jr 7
        refine C5 11 (Bm5 (n:=1) 13 1 65 192 1 (by kernel_rfl) (by kernel_rfl) ?_)
        exact ja 0 (hL3 _ _ _ hF)
     exact ja 6 (hL2 _ _ _ hF)
 exact ja 3 (hL1 _ _ _ hF)
def Dh3(fuel:Nat)(d0:A3):Option A3:=
 Option.bind (Bk4 fuel (!d0.neg) d0.mag) fun y1=>
 some y1
theorem Be6{fuel:Nat}{d0:A3}{r:A3}(hF:Dh3 fuel d0=some r):
 C3 Tryz.prog 184 [.agg [.b d0.neg,.l 1 d0.mag A5]] (.agg [.b r.neg,.l 1 r.mag A5]):=by
 unfold Dh3 at hF
 refine cf 9 Tryz.func184 ?_
 refine jB 12 hF Af0 K3 fun y1 hF=> ?_
 cases hF
 exact jr 2
def F74(d0:A3):Option Int:=
 bif ((d0.mag.map A5).length:Int)==0 then
  (some 0)
 else
  (bif d0.neg then
   (some (-1))
  else
   (some 1))
theorem Bl9{d0:A3}{r:Int}(hF:F74 d0=some r):
 C3 Tryz.prog 74 [.agg [.b d0.neg,.l 1 d0.mag A5]] (.i r):=by
 unfold F74 at hF
 refine cf 11 Tryz.func74 ?_
 refine jI 15 3 hF ?_ ?_<;>intro hF
 ·cases hF
  exact jr 5
 ·refine jI 7 8 hF ?_ ?_<;>intro hF
  ·cases hF
   exact jr 5
  ·cases hF
   exact jr 7
def Ai7(d0:List Int)(d1:List Int):Nat→Int→Int→(List Int)→Option (List Int)
 |0,_,_,_=>none
 |nL1+1,v3,v4,l7=>
  bif decide (v4<((d1.map A5).length:Int)) then
   (Option.bind (D6 d1 v4) fun y5=>
   bif decide (v4<((d0.map A5).length:Int)) then
    (Option.bind (D6 d0 v4) fun y6=>
    Option.bind (app l7 [Int.tmod (IntKind.u32.wrap ((IntKind.u32.wrap (y5+v3))+y6)) 1000000000]) fun l8=>
    (Ai7 d0 d1 nL1) (IntKind.u32.wrap (Int.tdiv (IntKind.u32.wrap ((IntKind.u32.wrap (y5+v3))+y6)) 1000000000)) (IntKind.i64.wrap (v4+1)) l8)
   else
    (Option.bind (app l7 [Int.tmod (IntKind.u32.wrap (y5+v3)) 1000000000]) fun l9=>
    (Ai7 d0 d1 nL1) (IntKind.u32.wrap (Int.tdiv (IntKind.u32.wrap (y5+v3)) 1000000000)) (IntKind.i64.wrap (v4+1)) l9))
  else
   (bif decide (v3>0) then
    (Option.bind (app l7 [v3]) fun l10=>
    some l10)
   else
    (some l7))
def Ai8(d0:List Int)(d1:List Int):Nat→Int→Int→(List Int)→Option (List Int)
 |0,_,_,_=>none
 |nL2+1,v7,v8,l17=>
  bif decide (v8<((d0.map A5).length:Int)) then
   (Option.bind (D6 d0 v8) fun y11=>
   bif decide (v8<((d1.map A5).length:Int)) then
    (Option.bind (D6 d1 v8) fun y12=>
    Option.bind (app l17 [Int.tmod (IntKind.u32.wrap ((IntKind.u32.wrap (y11+v7))+y12)) 1000000000]) fun l18=>
    (Ai8 d0 d1 nL2) (IntKind.u32.wrap (Int.tdiv (IntKind.u32.wrap ((IntKind.u32.wrap (y11+v7))+y12)) 1000000000)) (IntKind.i64.wrap (v8+1)) l18)
   else
    (Option.bind (app l17 [Int.tmod (IntKind.u32.wrap (y11+v7)) 1000000000]) fun l19=>
    (Ai8 d0 d1 nL2) (IntKind.u32.wrap (Int.tdiv (IntKind.u32.wrap (y11+v7)) 1000000000)) (IntKind.i64.wrap (v8+1)) l19))
  else
   (bif decide (v7>0) then
    (Option.bind (app l17 [v7]) fun l20=>
    some l20)
   else
    (some l17))
def Dv2(fuel:Nat)(d0:List Int)(d1:List Int):Option (List Int):=
 bif decide (((d0.map A5).length:Int)<((d1.map A5).length:Int)) then
  (Option.bind (mkL 0 (IntKind.i64.wrap (((d1.map A5).length:Int)+1)) 0) fun l1=>
  Ai7 d0 d1 fuel 0 0 l1)
 else
  (Option.bind (mkL 0 (IntKind.i64.wrap (((d0.map A5).length:Int)+1)) 0) fun l11=>
  Ai8 d0 d1 fuel 0 0 l11)
noncomputable abbrev Dq2:=C1 Tryz.f242
abbrev Ee3(r:List Int):=J none Tryz.prog 56 [] (L3 Tryz.prog Tryz.f242 (.l 1 r A5))
theorem Cw9{fuel:Nat}{d0:List Int}{d1:List Int}{r:List Int}(hF:Dv2 fuel d0 d1=some r):
 C3 Tryz.prog 242 [.l 1 d0 A5,.l 1 d1 A5] (.l 1 r A5):=by
 unfold Dv2 at hF
 refine cf 56 Tryz.func242 ?_
 refine jI 13 14 hF ?_ ?_<;>intro hF
 ·obtain⟨l1,e1,hF⟩:=bnd hF
  refine jo2 12 (mm (f:=A5) e1) ?_
  have hL1:∀(nL1:Nat) (v3:Int) (v4:Int) (l7:List Int),Ai7 d0 d1 nL1 v3 v4 l7=some r→Ee3 r ⟨mkT [(1,.l 1 d0 A5),(5,.suf 20 0 0),(6,.w v3),(21,.l 1 d1 A5),(22,.i ((d1.map A5).length:Int)),(23,.i v4)],[(20,.buf 0 192 1 (l7.map A5))],[kL Dq2 [1,1,1,1,0,1,0,0],.inBlock 0,kC Dq2 [1,1,1,1,1]]⟩:=by
   clear hF;intro nL1
   induction nL1 with
   |zero=>intro v3 v4 l7 hF;cases hF
   |succ nL1 iL1=>
    intro v3 v4 l7 hF
    rw[Ai7]at hF
    refine jI 6 24 hF ?_ ?_<;>intro hF
    ·obtain⟨y5,e10,hF⟩:=bnd hF
     refine jo1 7 (gm (f:=A5) e10) ?_
     refine jI 19 34 hF ?_ ?_<;>intro hF
     ·obtain⟨y6,e11,hF⟩:=bnd hF
      refine jo1 5 (gm (f:=A5) e11) ?_
      obtain⟨l8,e12,hF⟩:=bnd hF
      refine jo2 15 (am (f:=A5) e12) ?_
      exact ja 7 (iL1 _ _ _ hF)
     ·obtain⟨l9,e13,hF⟩:=bnd hF
      refine jo2 13 (am (f:=A5) e13) ?_
      exact ja 7 (iL1 _ _ _ hF)
    ·refine jI 8 50 hF ?_ ?_<;>intro hF
     ·obtain⟨l10,e14,hF⟩:=bnd hF
      refine jo2 5 (am (f:=A5) e14) ?_
      cases hF
      exact jr 7
     ·cases hF
      exact jr 7
  exact ja 15 (hL1 _ _ _ _ hF)
 ·obtain⟨l11,e15,hF⟩:=bnd hF
  refine jo2 7 (mm (f:=A5) e15) ?_
  have hL2:∀(nL2:Nat) (v7:Int) (v8:Int) (l17:List Int),Ai8 d0 d1 nL2 v7 v8 l17=some r→Ee3 r ⟨mkT [(1,.l 1 d1 A5),(5,.suf 20 0 0),(6,.w v7),(21,.l 1 d0 A5),(22,.i ((d0.map A5).length:Int)),(23,.i v8)],[(20,.buf 0 192 1 (l17.map A5))],[kL Dq2 [1,1,1,1,0,1,0,0],.inBlock 0,kC Dq2 [1,1,1,1,1]]⟩:=by
   clear hF;intro nL2
   induction nL2 with
   |zero=>intro v7 v8 l17 hF;cases hF
   |succ nL2 iL2=>
    intro v7 v8 l17 hF
    rw[Ai8]at hF
    refine jI 6 24 hF ?_ ?_<;>intro hF
    ·obtain⟨y11,e24,hF⟩:=bnd hF
     refine jo1 7 (gm (f:=A5) e24) ?_
     refine jI 19 34 hF ?_ ?_<;>intro hF
     ·obtain⟨y12,e25,hF⟩:=bnd hF
      refine jo1 5 (gm (f:=A5) e25) ?_
      obtain⟨l18,e26,hF⟩:=bnd hF
      refine jo2 15 (am (f:=A5) e26) ?_
      exact ja 7 (iL2 _ _ _ hF)
     ·obtain⟨l19,e27,hF⟩:=bnd hF
      refine jo2 13 (am (f:=A5) e27) ?_
      exact ja 7 (iL2 _ _ _ hF)
    ·refine jI 8 50 hF ?_ ?_<;>intro hF
     ·obtain⟨l20,e28,hF⟩:=bnd hF
      refine jo2 5 (am (f:=A5) e28) ?_
      cases hF
      exact jr 7
     ·cases hF
      exact jr 7
  exact ja 15 (hL2 _ _ _ _ hF)
def X2(d0:List Int)(d1:List Int):Nat→Int→Int→(List Int)→Option (List Int)
 |0,_,_,_=>none
 |nL1+1,v3,v4,l11=>
  bif decide (v4<((d0.map A5).length:Int)) then
   (Option.bind (D6 d0 v4) fun y5=>
   bif decide (v4<((d1.map A5).length:Int)) then
    (Option.bind (D6 d1 v4) fun y6=>
    bif decide ((IntKind.i64.wrap ((IntKind.i64.wrap ((IntKind.i64.wrap y5)-v3))-(IntKind.i64.wrap y6)))<0) then
     (Option.bind (app l11 [IntKind.u32.wrap (IntKind.i64.wrap ((IntKind.i64.wrap ((IntKind.i64.wrap ((IntKind.i64.wrap y5)-v3))-(IntKind.i64.wrap y6)))+1000000000))]) fun l12=>
     (X2 d0 d1 nL1) 1 (IntKind.i64.wrap (v4+1)) l12)
    else
     (Option.bind (app l11 [IntKind.u32.wrap (IntKind.i64.wrap ((IntKind.i64.wrap ((IntKind.i64.wrap y5)-v3))-(IntKind.i64.wrap y6)))]) fun l13=>
     (X2 d0 d1 nL1) 0 (IntKind.i64.wrap (v4+1)) l13))
   else
    (bif decide ((IntKind.i64.wrap ((IntKind.i64.wrap y5)-v3))<0) then
     (Option.bind (app l11 [IntKind.u32.wrap (IntKind.i64.wrap ((IntKind.i64.wrap ((IntKind.i64.wrap y5)-v3))+1000000000))]) fun l14=>
     (X2 d0 d1 nL1) 1 (IntKind.i64.wrap (v4+1)) l14)
    else
     (Option.bind (app l11 [IntKind.u32.wrap (IntKind.i64.wrap ((IntKind.i64.wrap y5)-v3))]) fun l15=>
     (X2 d0 d1 nL1) 0 (IntKind.i64.wrap (v4+1)) l15)))
  else
   (some l11)
def Dp3(fuel:Nat)(d0:List Int)(d1:List Int):Option (List Int):=
 Option.bind (mkL 0 ((d0.map A5).length:Int) 0) fun l1=>
 X2 d0 d1 fuel 0 0 l1
noncomputable abbrev Eg0:=C1 Tryz.f243
abbrev Ej6(r:List Int):=J none Tryz.prog 46 [] (L3 Tryz.prog Tryz.f243 (.l 1 r A5))
theorem By3{fuel:Nat}{d0:List Int}{d1:List Int}{r:List Int}(hF:Dp3 fuel d0 d1=some r):
 C3 Tryz.prog 243 [.l 1 d0 A5,.l 1 d1 A5] (.l 1 r A5):=by
 unfold Dp3 at hF
 refine cf 46 Tryz.func243 ?_
 obtain⟨l1,e1,hF⟩:=bnd hF
 refine jo2 8 (mm (f:=A5) e1) ?_
 have hL1:∀(nL1:Nat) (v3:Int) (v4:Int) (l11:List Int),X2 d0 d1 nL1 v3 v4 l11=some r→Ej6 r ⟨mkT [(1,.l 1 d1 A5),(5,.suf 12 0 0),(6,.i v3),(13,.l 1 d0 A5),(14,.i ((d0.map A5).length:Int)),(15,.i v4)],[(12,.buf 0 192 1 (l11.map A5))],[kL Eg0 [1,1,1,0,1,0,0],.inBlock 0,kC Eg0 [1,1,1,1]]⟩:=by
  clear hF;intro nL1
  induction nL1 with
  |zero=>intro v3 v4 l11 hF;cases hF
  |succ nL1 iL1=>
   intro v3 v4 l11 hF
   rw[X2]at hF
   refine jI 6 16 hF ?_ ?_<;>intro hF
   ·obtain⟨y5,e14,hF⟩:=bnd hF
    refine jo1 7 (gm (f:=A5) e14) ?_
    refine jI 20 27 hF ?_ ?_<;>intro hF
    ·obtain⟨y6,e15,hF⟩:=bnd hF
     refine jo1 5 (gm (f:=A5) e15) ?_
     refine jI 15 36 hF ?_ ?_<;>intro hF
     ·obtain⟨l12,e16,hF⟩:=bnd hF
      refine jo2 12 (am (f:=A5) e16) ?_
      exact ja 7 (iL1 _ _ _ hF)
     ·obtain⟨l13,e17,hF⟩:=bnd hF
      refine jo2 7 (am (f:=A5) e17) ?_
      exact ja 7 (iL1 _ _ _ hF)
    ·refine jI 12 36 hF ?_ ?_<;>intro hF
     ·obtain⟨l14,e18,hF⟩:=bnd hF
      refine jo2 12 (am (f:=A5) e18) ?_
      exact ja 7 (iL1 _ _ _ hF)
     ·obtain⟨l15,e19,hF⟩:=bnd hF
      refine jo2 7 (am (f:=A5) e19) ?_
      exact ja 7 (iL1 _ _ _ hF)
   ·cases hF
    exact jr 7
 exact ja 15 (hL1 _ _ _ _ hF)
def Dh5(fuel:Nat)(d0:A3)(d1:A3):Option A3:=
 bif d0.neg==d1.neg then
  (Option.bind (Dv2 fuel d0.mag d1.mag) fun y3=>
  Option.bind (Bk4 fuel d0.neg y3) fun y4=>
  some y4)
 else
  (Option.bind (De8 fuel d0.mag d1.mag) fun y5=>
  bif decide (y5<0) then
   (Option.bind (Dp3 fuel d1.mag d0.mag) fun y8=>
   Option.bind (Bk4 fuel d1.neg y8) fun y9=>
   some y9)
  else
   (Option.bind (Dp3 fuel d0.mag d1.mag) fun y12=>
   Option.bind (Bk4 fuel d0.neg y12) fun y13=>
   some y13))
theorem Be8{fuel:Nat}{d0:A3}{d1:A3}{r:A3}(hF:Dh5 fuel d0 d1=some r):
 C3 Tryz.prog 189 [.agg [.b d0.neg,.l 1 d0.mag A5],.agg [.b d1.neg,.l 1 d1.mag A5]] (.agg [.b r.neg,.l 1 r.mag A5]):=by
 unfold Dh5 at hF
 refine cf 42 Tryz.func189 ?_
 refine jI 17 5 hF ?_ ?_<;>intro hF
 ·refine jd 2 ?_
  refine dB 6 hF Eb8 Cw9 fun y3 hF=> ?_
  refine dB 0 hF Af0 K3 fun y4 hF=> ?_
  refine je 1 ?_
  cases hF
  exact jr 0
 ·refine jB 7 hF Cm4 As0 fun y5 hF=> ?_
  refine jI 3 19 hF ?_ ?_<;>intro hF
  ·refine jd 2 ?_
   refine dB 6 hF Dm5 By3 fun y8 hF=> ?_
   refine dB 0 hF Af0 K3 fun y9 hF=> ?_
   refine je 1 ?_
   cases hF
   exact jr 0
  ·refine jd 4 ?_
   refine dB 6 hF Dm5 By3 fun y12 hF=> ?_
   refine dB 0 hF Af0 K3 fun y13 hF=> ?_
   refine je 1 ?_
   cases hF
   exact jr 0
def Dv1(fuel:Nat)(d0:A3)(d1:A3):Option A3:=
 Option.bind (Dh3 fuel d1) fun y3=>
 Option.bind (Dh5 fuel d0 y3) fun y4=>
 some y4
theorem Cw8{fuel:Nat}{d0:A3}{d1:A3}{r:A3}(hF:Dv1 fuel d0 d1=some r):
 C3 Tryz.prog 241 [.agg [.b d0.neg,.l 1 d0.mag A5],.agg [.b d1.neg,.l 1 d1.mag A5]] (.agg [.b r.neg,.l 1 r.mag A5]):=by
 unfold Dv1 at hF
 refine cf 9 Tryz.func241 ?_
 refine jd 7 ?_
 refine dB 2 hF Db6 Be6 fun y3 hF=> ?_
 refine dB 0 hF Db8 Be8 fun y4 hF=> ?_
 refine je 1 ?_
 cases hF
 exact jr 0
def Df0(fuel:Nat)(d0:A3)(d1:A3):Option (A3×A3):=
 Option.bind (Dh2 fuel d0.mag d1.mag) fun y1=>
 Option.bind (Bk4 fuel (!(d0.neg==d1.neg)) y1.1) fun y4=>
 Option.bind (Bk4 fuel d0.neg y1.2) fun y5=>
 Option.bind (
  Option.bind (F74 y5) fun y14=>
  bif y14 !=0 then
   (some (!(d0.neg==d1.neg)))
  else
   (some false)) fun o1=>
 bif o1 then
  (Option.bind (F73 fuel 1) fun y11=>
  Option.bind (Dv1 fuel y4 y11) fun y12=>
  Option.bind (Dh5 fuel y5 d1) fun y13=>
  some (y12,y13))
 else
  (some (y4,y5))
noncomputable abbrev Dx8:=C1 Tryz.f185
abbrev Ei7(r:A3×A3):=J none Tryz.prog 47 [] (L3 Tryz.prog Tryz.f185 (.tup [.agg [.b r.1.neg,.l 1 r.1.mag A5],.agg [.b r.2.neg,.l 1 r.2.mag A5]]))
theorem As4{fuel:Nat}{d0:A3}{d1:A3}{r:A3×A3}(hF:Df0 fuel d0 d1=some r):
 C3 Tryz.prog 185 [.agg [.b d0.neg,.l 1 d0.mag A5],.agg [.b d1.neg,.l 1 d1.mag A5]] (.tup [.agg [.b r.1.neg,.l 1 r.1.mag A5],.agg [.b r.2.neg,.l 1 r.2.mag A5]]):=by
 unfold Df0 at hF
 refine cf 47 Tryz.func185 ?_
 refine jB 13 hF Db4 Be4 fun y1 hF=> ?_
 refine jd 7 ?_
 refine dB 6 hF Af0 K3 fun y4 hF=> ?_
 refine dB 3 hF Af0 K3 fun y5 hF=> ?_
 refine je 4 ?_
 obtain⟨o1,hO,hF⟩:=bnd hF
 have hR1:Ei7 r ⟨mkT [(3,.ptr 3 0),(4,.ptr 4 0),(5,.ptr 5 0),(8,.ptr 8 0),(9,.ptr 9 0),(38,.b o1)],[(3,.box 82 [.b d1.neg,.l 1 d1.mag A5]),(4,.box 82 [.b false,.esl 1]),(5,.box 82 [.b false,.esl 1]),(8,.box 82 [.b y4.neg,.l 1 y4.mag A5]),(9,.box 82 [.b y5.neg,.l 1 y5.mag A5])],[kO Dx8 [1,1,1,0,0],kC Dx8 [1,1,1,0,1],kC Dx8 [1,1,1,1]]⟩:=by
  clear hO
  refine jI 1 38 hF ?_ ?_<;>intro hF
  ·refine jd 1 ?_
   refine dB 1 hF Dg2 An9 fun y11 hF=> ?_
   refine dB 0 hF Eb7 Cw8 fun y12 hF=> ?_
   refine dB 2 hF Db8 Be8 fun y13 hF=> ?_
   refine je 2 ?_
   refine jd 1 ?_
   refine je 4 ?_
   cases hF
   exact jr 0
  ·refine jd 3 ?_
   refine je 4 ?_
   cases hF
   exact jr 0
 clear hF;rename _=some o1=>hF
 refine jB 4 hF Dr1 Bl9 fun y14 hF=> ?_
 refine jI 2 32 hF ?_ ?_<;>intro hF
 ·cases hF
  exact ja 6 hR1
 ·cases hF
  exact ja 6 hR1
def Dh0(fuel:Nat)(d0:A3)(d1:A3):Option A1:=
 Option.bind (Dg8 fuel d0 d1) fun y1=>
 bif d1.neg then
  (Option.bind (Dh3 fuel y1) fun y2=>
  Option.bind (
   bif decide (((y2.mag.map A5).length:Int)>1) then
    (some true)
   else
    (bif y2.neg then
     (some true)
    else
     (Option.bind (D6 y2.mag 0) fun y7=>
     some (y7 !=1)))) fun o1=>
  bif o1 then
   (Option.bind (Df0 fuel d0 y2) fun y5=>
   Option.bind (Df0 fuel d1 y2) fun y6=>
   some (⟨y5.1,y6.1⟩:A1))
  else
   (some (⟨d0,d1⟩:A1)))
 else
  (Option.bind (
   bif decide (((y1.mag.map A5).length:Int)>1) then
    (some true)
   else
    (bif y1.neg then
     (some true)
    else
     (Option.bind (D6 y1.mag 0) fun y12=>
     some (y12 !=1)))) fun o2=>
  bif o2 then
   (Option.bind (Df0 fuel d0 y1) fun y10=>
   Option.bind (Df0 fuel d1 y1) fun y11=>
   some (⟨y10.1,y11.1⟩:A1))
  else
   (some (⟨d0,d1⟩:A1)))
noncomputable abbrev Df9:=C1 Tryz.f136
abbrev Ee1(r:A1):=J none Tryz.prog 43 [] (L3 Tryz.prog Tryz.f136 (.agg [.b r.n_.neg,.l 1 r.n_.mag A5,.b r.d.neg,.l 1 r.d.mag A5]))
theorem Be3{fuel:Nat}{d0:A3}{d1:A3}{r:A1}(hF:Dh0 fuel d0 d1=some r):
 C3 Tryz.prog 136 [.agg [.b d0.neg,.l 1 d0.mag A5],.agg [.b d1.neg,.l 1 d1.mag A5]] (.agg [.b r.n_.neg,.l 1 r.n_.mag A5,.b r.d.neg,.l 1 r.d.mag A5]):=by
 unfold Dh0 at hF
 refine cf 43 Tryz.func136 ?_
 refine jB 10 hF Db1 Be2 fun y1 hF=> ?_
 refine jI 9 10 hF ?_ ?_<;>intro hF
 ·refine jB 3 hF Db6 Be6 fun y2 hF=> ?_
  obtain⟨o1,hO,hF⟩:=bnd hF
  have hR1:Ee1 r ⟨mkT [(2,.ptr 2 0),(3,.ptr 3 0),(4,.ptr 4 0),(5,.ptr 5 0),(27,.b o1)],[(2,.box 82 [.b d0.neg,.l 1 d0.mag A5]),(3,.box 82 [.b d1.neg,.l 1 d1.mag A5]),(4,.box 84 [.b false,.esl 1,.b false,.esl 1]),(5,.box 82 [.b y2.neg,.l 1 y2.mag A5])],[kO Df9 [1,1,1,0,0],kC Df9 [1,1,1,0,1],kC Df9 [1,1,1,1]]⟩:=by
   clear hO
   refine jI 1 27 hF ?_ ?_<;>intro hF
   ·refine jB 5 hF Cm5 As4 fun y5 hF=> ?_
    refine jB 8 hF Cm5 As4 fun y6 hF=> ?_
    cases hF
    exact jr 12
   ·cases hF
    exact jr 9
  clear hF;rename _=some o1=>hF
  refine jI 10 17 hF ?_ ?_<;>intro hF
  ·cases hF
   exact ja 10 hR1
  ·refine jI 4 21 hF ?_ ?_<;>intro hF
   ·cases hF
    exact ja 6 hR1
   ·obtain⟨y7,e7,hF⟩:=bnd hF
    refine jo1 2 (gm (f:=A5) e7) ?_
    cases hF
    exact ja 3 hR1
 ·obtain⟨o2,hO,hF⟩:=bnd hF
  have hR2:Ee1 r ⟨mkT [(2,.ptr 2 0),(3,.ptr 3 0),(4,.ptr 4 0),(5,.ptr 5 0),(27,.b o2)],[(2,.box 82 [.b d0.neg,.l 1 d0.mag A5]),(3,.box 82 [.b d1.neg,.l 1 d1.mag A5]),(4,.box 84 [.b false,.esl 1,.b false,.esl 1]),(5,.box 82 [.b y1.neg,.l 1 y1.mag A5])],[kO Df9 [1,1,1,0,0],kC Df9 [1,1,1,0,1],kC Df9 [1,1,1,1]]⟩:=by
   clear hO
   refine jI 1 27 hF ?_ ?_<;>intro hF
   ·refine jB 5 hF Cm5 As4 fun y10 hF=> ?_
    refine jB 8 hF Cm5 As4 fun y11 hF=> ?_
    cases hF
    exact jr 12
   ·cases hF
    exact jr 9
  clear hF;rename _=some o2=>hF
  refine jI 10 17 hF ?_ ?_<;>intro hF
  ·cases hF
   exact ja 10 hR2
  ·refine jI 4 21 hF ?_ ?_<;>intro hF
   ·cases hF
    exact ja 6 hR2
   ·obtain⟨y12,e12,hF⟩:=bnd hF
    refine jo1 2 (gm (f:=A5) e12) ?_
    cases hF
    exact ja 3 hR2
def F78(fuel:Nat)(d0:Int)(d1:Int):Option A1:=
 Option.bind (F73 fuel d0) fun y1=>
 Option.bind (F73 fuel d1) fun y2=>
 Option.bind (Dh0 fuel y1 y2) fun y3=>
 some y3
theorem Ao2{fuel:Nat}{d0:Int}{d1:Int}{r:A1}(hF:F78 fuel d0 d1=some r):
 C3 Tryz.prog 78 [.i d0,.i d1] (.agg [.b r.n_.neg,.l 1 r.n_.mag A5,.b r.d.neg,.l 1 r.d.mag A5]):=by
 unfold F78 at hF
 refine cf 10 Tryz.func78 ?_
 refine jB 7 hF Dg2 An9 fun y1 hF=> ?_
 refine jB 1 hF Dg2 An9 fun y2 hF=> ?_
 refine jB 0 hF Db3 Be3 fun y3 hF=> ?_
 cases hF
 exact jr 2
def F71(d0:List UInt8)(d1:List UInt8):Option (List UInt8×List UInt8×Bool):=Dy0 d0 d1
theorem Cp6{d0:List UInt8}{d1:List UInt8}{r:List UInt8×List UInt8×Bool}(hF:F71 d0 d1=some r):C3 Tryz.prog 71 [.d (.str d0),.d (.str d1)] (.tup [.d (.str r.1),.d (.str r.2.1),.d (.bool r.2.2)]):=Ca8 (List.Mem.head _) Tryz.strings_Cut hF
def Dv0(d0:List UInt8)(d1:List UInt8):Option Bool:=
 Option.bind (
  bif decide ((d0.length:Int)≥(d1.length:Int)) then
   (ass (decide (0≤0)&&decide (0≤(d1.length:Int))&&decide ((d1.length:Int)≤d0.length))<|
   some (((d0.drop (Int.toNat 0)).take (Int.toNat ((d1.length:Int)-0)))==d1))
  else
   (some false)) fun o1=>
 some o1
noncomputable abbrev Ef9:=C1 Tryz.f234
abbrev Ej5(r:Bool):=J none Tryz.prog 18 [] (L3 Tryz.prog Tryz.f234 (.b r))
theorem Cw7{d0:List UInt8}{d1:List UInt8}{r:Bool}(hF:Dv0 d0 d1=some r):
 C3 Tryz.prog 234 [.s d0,.s d1] (.b r):=by
 unfold Dv0 at hF
 refine cf 18 Tryz.func234 ?_
 obtain⟨o1,hO,hF⟩:=bnd hF
 have hR1:Ej5 r ⟨mkT [(4,.b o1)],[],[kO Ef9 [1,0],kC Ef9 [1,1]]⟩:=by
  clear hO
  cases hF
  exact jr 1
 clear hF;rename _=some o1=>hF
 refine jI 12 10 hF ?_ ?_<;>intro hF
 ·obtain⟨hb6,hF⟩:=N1 hF
  refine jo1 3 (ck hb6) ?_
  cases hF
  exact ja 4 hR1
 ·cases hF
  exact ja 8 hR1
def Dt6(d0:List UInt8)(d1:List UInt8):Option (List UInt8):=
 Option.bind (Dv0 d0 d1) fun y1=>
 bif y1 then
  (ass (decide (0≤(d1.length:Int))&&decide ((d1.length:Int)≤(d0.length:Int))&&decide ((d0.length:Int)≤d0.length))<|
  some ((d0.drop (Int.toNat (d1.length:Int))).take (Int.toNat ((d0.length:Int)-(d1.length:Int)))))
 else
  (some d0)
theorem Cu8{d0:List UInt8}{d1:List UInt8}{r:List UInt8}(hF:Dt6 d0 d1=some r):
 C3 Tryz.prog 180 [.s d0,.s d1] (.s r):=by
 unfold Dt6 at hF
 refine cf 13 Tryz.func180 ?_
 refine jB 9 hF Eb6 Cw7 fun y1 hF=> ?_
 refine jI 1 7 hF ?_ ?_<;>intro hF
 ·obtain⟨hb2,hF⟩:=N1 hF
  refine jo1 6 (ck hb2) ?_
  cases hF
  exact jr 2
 ·cases hF
  exact jr 7
def Do2(d0:List UInt8)(d1:List UInt8):Option (List UInt8):=
 Option.bind (Dt6 d0 d1) fun y1=>
 some y1
theorem Bw6{d0:List UInt8}{d1:List UInt8}{r:List UInt8}(hF:Do2 d0 d1=some r):
 C3 Tryz.prog 128 [.s d0,.s d1] (.s r):=by
 unfold Do2 at hF
 refine cf 8 Tryz.func128 ?_
 refine jB 8 hF Ea2 Cu8 fun y1 hF=> ?_
 cases hF
 exact jr 2
def I4(x:Int):List Dat:=[.int .u8 x]
def Dh8(d0:Int):Option Int:=
 some (IntKind.u8.wrap (BitVec.ofInt IntKind.u8.bits d0|||BitVec.ofInt IntKind.u8.bits 32).toNat)
theorem Bf2{d0:Int}{r:Int}(hF:Dh8 d0=some r):
 C3 Tryz.prog 235 [.y d0] (.y r):=by
 unfold Dh8 at hF
 refine cf 5 Tryz.func235 ?_
 cases hF
 exact jr 10
def As2(v7:Int)(v8:Int)(cL1:Int→Int→Option (Int×Bool))(v10:Int):Option (Int×Bool):=
 bif decide (v10≥(IntKind.u8.wrap 10)) then
  (some (0,true))
 else
  (bif decide (v7≥1844674407370955162) then
   (some (IntKind.u64.wrap ((IntKind.u64.wrap (1*2^(min (Int.toNat (IntKind.u64.wrap 32)) IntKind.u64.bits)))-1),true))
  else
   (Option.bind (
    bif decide ((IntKind.u64.wrap ((IntKind.u64.wrap (v7*(IntKind.u64.wrap 10)))+(IntKind.u64.wrap v10)))<(IntKind.u64.wrap (v7*(IntKind.u64.wrap 10)))) then
     (some true)
    else
     (some (decide ((IntKind.u64.wrap ((IntKind.u64.wrap (v7*(IntKind.u64.wrap 10)))+(IntKind.u64.wrap v10)))>(IntKind.u64.wrap ((IntKind.u64.wrap (1*2^(min (Int.toNat (IntKind.u64.wrap 32)) IntKind.u64.bits)))-1)))))) fun o39=>
   bif o39 then
    (some (IntKind.u64.wrap ((IntKind.u64.wrap (1*2^(min (Int.toNat (IntKind.u64.wrap 32)) IntKind.u64.bits)))-1),true))
   else
    (cL1 (IntKind.u64.wrap ((IntKind.u64.wrap (v7*(IntKind.u64.wrap 10)))+(IntKind.u64.wrap v10))) (IntKind.i64.wrap (v8+1)))))
def Ab7(d0:List UInt8):Nat→Int→Int→Option (Int×Bool)
 |0,_,_=>none
 |nL1+1,v7,v8=>
  bif decide (v8<(((d0.map toI).map I4).length:Int)) then
   (Option.bind (D6 (d0.map toI) v8) fun y76=>
   Option.bind (
    bif y76==95 then
     (some ())
    else
     (some ())) fun o40=>
   Option.bind (
    bif decide (48≤y76) then
     (some (decide (y76≤57)))
    else
     (some false)) fun o41=>
   bif o41 then
    (As2 v7 v8 (Ab7 d0 nL1) (IntKind.u8.wrap (y76-48)))
   else
    (Option.bind (
     Option.bind (Dh8 y76) fun y89=>
     bif decide (97≤y89) then
      (Option.bind (Dh8 y76) fun y90=>
      some (decide (y90≤122)))
     else
      (some false)) fun o42=>
    bif o42 then
     (Option.bind (Dh8 y76) fun y88=>
     As2 v7 v8 (Ab7 d0 nL1) (IntKind.u8.wrap ((IntKind.u8.wrap (y88-97))+10)))
    else
     (some (0,true))))
  else
   (some (v7,false))
def Dt7(fuel:Nat)(d0:List UInt8):Option (Int×Bool):=
 bif d0==[] then
  (some (0,true))
 else
  (ass (decide (0≤(IntKind.u64.wrap 32)))<|
  Ab7 d0 fuel 0 0)
noncomputable abbrev Y2:=C1 Tryz.f181
abbrev Df4(r:Int×Bool):=J none Tryz.prog 172 [] (L3 Tryz.prog Tryz.f181 (.tup [.n r.1,.d (.ife r.2)]))
theorem Cu9{fuel:Nat}{d0:List UInt8}{r:Int×Bool}(hF:Dt7 fuel d0=some r):
 C3 Tryz.prog 181 [.s d0,.i 10,.i 32] (.tup [.n r.1,.d (.ife r.2)]):=by
 unfold Dt7 at hF
 refine cf 172 Tryz.func181 ?_
 refine jI 11 19 hF ?_ ?_<;>intro hF
 ·cases hF
  exact jr 7
 ·obtain⟨hb2,hF⟩:=N1 hF
  refine jo1 70 (ck hb2) ?_
  refine C5 15 (H6 (o:=some (d0.map Z6)) ((d0.map toI).map I4) (by kernel_rfl) (bym (f:=I4) (fun _=>rfl)) ?_)
  have hL1:∀(nL1:Nat) (v7:Int) (v8:Int),Ab7 d0 nL1 v7 v8=some r→Df4 r ⟨mkT [(1,.i 10),(8,.b false),(9,.s d0),(10,.n 1844674407370955162),(11,.n (IntKind.u64.wrap ((IntKind.u64.wrap (1*2^(min (Int.toNat (IntKind.u64.wrap 32)) IntKind.u64.bits)))-1))),(12,.b false),(13,.n v7),(99,.l 1 (d0.map toI) I4),(100,.i (((d0.map toI).map I4).length:Int)),(101,.i v8)],[],[kL Y2 [1,1,1,1,1,1,1,1,1,1,1,0,1,0,0],.inBlock 3,kC Y2 [1,1,1,1,1,1,1,1,1,1,1,1]]⟩:=by
   clear hF;intro nL1
   induction nL1 with
   |zero=>intro v7 v8 hF;cases hF
   |succ nL1 iL1=>
    intro v7 v8 hF
    rw[Ab7]at hF
    refine jI 6 102 hF ?_ ?_<;>intro hF
    ·obtain⟨y76,e76,hF⟩:=bnd hF
     refine jo1 6 (gm (f:=I4) e76) ?_
     have hA2:∀(v10:Int),As2 v7 v8 (Ab7 d0 nL1) v10=some r→Df4 r ⟨mkT [(1,.i 10),(8,.b false),(9,.s d0),(10,.n 1844674407370955162),(11,.n (IntKind.u64.wrap ((IntKind.u64.wrap (1*2^(min (Int.toNat (IntKind.u64.wrap 32)) IntKind.u64.bits)))-1))),(12,.b false),(13,.n v7),(16,.y v10),(99,.l 1 (d0.map toI) I4),(100,.i (((d0.map toI).map I4).length:Int)),(101,.i v8)],[],[kC Y2 [1,1,1,1,1,1,1,1,1,1,1,0,1,0,0,1,1,0,0,1,1,1],.inBlock 4,kC Y2 [1,1,1,1,1,1,1,1,1,1,1,0,1,0,0,1,1,1],kL Y2 [1,1,1,1,1,1,1,1,1,1,1,0,1,0,0],.inBlock 3,kC Y2 [1,1,1,1,1,1,1,1,1,1,1,1]]⟩:=by
      intro v10 hF
      unfold As2 at hF
      refine jI 8 137 hF ?_ ?_<;>intro hF
      ·cases hF
       exact jr 7
      ·refine jI 9 141 hF ?_ ?_<;>intro hF
       ·cases hF
        exact jr 8
       ·obtain⟨o39,hO,hF⟩:=bnd hF
        have hR39:Df4 r ⟨mkT [(1,.i 10),(8,.b false),(9,.s d0),(10,.n 1844674407370955162),(11,.n (IntKind.u64.wrap ((IntKind.u64.wrap (1*2^(min (Int.toNat (IntKind.u64.wrap 32)) IntKind.u64.bits)))-1))),(12,.b false),(17,.n (IntKind.u64.wrap ((IntKind.u64.wrap (v7*(IntKind.u64.wrap 10)))+(IntKind.u64.wrap v10)))),(99,.l 1 (d0.map toI) I4),(100,.i (((d0.map toI).map I4).length:Int)),(101,.i v8),(159,.b o39)],[],[kO Y2 [1,1,1,1,1,1,1,1,1,1,1,0,1,0,0,1,1,0,0,1,1,1,1,1,1,1,0,0],kC Y2 [1,1,1,1,1,1,1,1,1,1,1,0,1,0,0,1,1,0,0,1,1,1,1,1,1,1,0,1],kC Y2 [1,1,1,1,1,1,1,1,1,1,1,0,1,0,0,1,1,0,0,1,1,1,1,1,1,1,1],.inBlock 4,kC Y2 [1,1,1,1,1,1,1,1,1,1,1,0,1,0,0,1,1,1],kL Y2 [1,1,1,1,1,1,1,1,1,1,1,0,1,0,0],.inBlock 3,kC Y2 [1,1,1,1,1,1,1,1,1,1,1,1]]⟩:=by
         clear hO
         refine jI 1 159 hF ?_ ?_<;>intro hF
         ·cases hF
          exact jr 8
         ·exact ja 11 (iL1 _ _ hF)
        clear hF;rename _=some o39=>hF
        refine jI 25 155 hF ?_ ?_<;>intro hF
        ·cases hF
         exact ja 4 hR39
        ·cases hF
         exact ja 4 hR39
     obtain⟨o40,hO,hF⟩:=bnd hF
     have hR40:Df4 r ⟨mkT [(1,.i 10),(8,.b false),(9,.s d0),(10,.n 1844674407370955162),(11,.n (IntKind.u64.wrap ((IntKind.u64.wrap (1*2^(min (Int.toNat (IntKind.u64.wrap 32)) IntKind.u64.bits)))-1))),(12,.b false),(13,.n v7),(15,.y y76),(99,.l 1 (d0.map toI) I4),(100,.i (((d0.map toI).map I4).length:Int)),(101,.i v8),(106,.b false)],[],[kO Y2 [1,1,1,1,1,1,1,1,1,1,1,0,1,0,0,1,1,0,0,1,1,0,0,0],kC Y2 [1,1,1,1,1,1,1,1,1,1,1,0,1,0,0,1,1,0,0,1,1,0,0,1],.inBlock 5,kC Y2 [1,1,1,1,1,1,1,1,1,1,1,0,1,0,0,1,1,0,0,1,1,1],.inBlock 4,kC Y2 [1,1,1,1,1,1,1,1,1,1,1,0,1,0,0,1,1,1],kL Y2 [1,1,1,1,1,1,1,1,1,1,1,0,1,0,0],.inBlock 3,kC Y2 [1,1,1,1,1,1,1,1,1,1,1,1]]⟩:=by
      clear hO
      obtain⟨o41,hO,hF⟩:=bnd hF
      have hR41:Df4 r ⟨mkT [(1,.i 10),(8,.b false),(9,.s d0),(10,.n 1844674407370955162),(11,.n (IntKind.u64.wrap ((IntKind.u64.wrap (1*2^(min (Int.toNat (IntKind.u64.wrap 32)) IntKind.u64.bits)))-1))),(12,.b false),(13,.n v7),(15,.y y76),(99,.l 1 (d0.map toI) I4),(100,.i (((d0.map toI).map I4).length:Int)),(101,.i v8),(112,.b o41)],[],[kO Y2 [1,1,1,1,1,1,1,1,1,1,1,0,1,0,0,1,1,0,0,1,1,0,0,1,1,0],kC Y2 [1,1,1,1,1,1,1,1,1,1,1,0,1,0,0,1,1,0,0,1,1,0,0,1,1,1],.inBlock 5,kC Y2 [1,1,1,1,1,1,1,1,1,1,1,0,1,0,0,1,1,0,0,1,1,1],.inBlock 4,kC Y2 [1,1,1,1,1,1,1,1,1,1,1,0,1,0,0,1,1,1],kL Y2 [1,1,1,1,1,1,1,1,1,1,1,0,1,0,0],.inBlock 3,kC Y2 [1,1,1,1,1,1,1,1,1,1,1,1]]⟩:=by
       clear hO
       refine jI 1 112 hF ?_ ?_<;>intro hF
       ·exact ja 7 (hA2 _ hF)
       ·obtain⟨o42,hO,hF⟩:=bnd hF
        have hR42:Df4 r ⟨mkT [(1,.i 10),(8,.b false),(9,.s d0),(10,.n 1844674407370955162),(11,.n (IntKind.u64.wrap ((IntKind.u64.wrap (1*2^(min (Int.toNat (IntKind.u64.wrap 32)) IntKind.u64.bits)))-1))),(12,.b false),(13,.n v7),(15,.y y76),(99,.l 1 (d0.map toI) I4),(100,.i (((d0.map toI).map I4).length:Int)),(101,.i v8),(121,.b o42)],[],[kO Y2 [1,1,1,1,1,1,1,1,1,1,1,0,1,0,0,1,1,0,0,1,1,0,0,1,1,1,1,0],kC Y2 [1,1,1,1,1,1,1,1,1,1,1,0,1,0,0,1,1,0,0,1,1,0,0,1,1,1,1,1],.inBlock 5,kC Y2 [1,1,1,1,1,1,1,1,1,1,1,0,1,0,0,1,1,0,0,1,1,1],.inBlock 4,kC Y2 [1,1,1,1,1,1,1,1,1,1,1,0,1,0,0,1,1,1],kL Y2 [1,1,1,1,1,1,1,1,1,1,1,0,1,0,0],.inBlock 3,kC Y2 [1,1,1,1,1,1,1,1,1,1,1,1]]⟩:=by
         clear hO
         refine jI 1 121 hF ?_ ?_<;>intro hF
         ·refine jB 3 hF Dc2 Bf2 fun y88 hF=> ?_
          exact ja 5 (hA2 _ hF)
         ·cases hF
          exact jr 7
        clear hF;rename _=some o42=>hF
        refine jB 4 hF Dc2 Bf2 fun y89 hF=> ?_
        refine jI 2 125 hF ?_ ?_<;>intro hF
        ·refine jB 1 hF Dc2 Bf2 fun y90 hF=> ?_
         cases hF
         exact ja 3 hR42
        ·cases hF
         exact ja 5 hR42
      clear hF;rename _=some o41=>hF
      refine jI 7 115 hF ?_ ?_<;>intro hF
      ·cases hF
       exact ja 4 hR41
      ·cases hF
       exact ja 4 hR41
     clear hF;rename _=some o40=>hF
     refine jI 14 109 hF ?_ ?_<;>intro hF
     ·cases hF
      exact ja 3 hR40
     ·cases hF
      exact ja 3 hR40
    ·cases hF
     exact jr 20
  exact ja 5 (hL1 _ _ _ hF)
def Ds7(fuel:Nat)(d0:List UInt8):Option (Int×Bool):=
 Option.bind (Dt7 fuel d0) fun y1=>
 bif !!y1.2 then
  (none)
 else
  (some (y1.1,false))
theorem Cs5{fuel:Nat}{d0:List UInt8}{r:Int×Bool}(hF:Ds7 fuel d0=some r):
 C3 Tryz.prog 129 [.s d0,.i 10,.i 32] (.tup [.n r.1,.d (.ife r.2)]):=by
 unfold Ds7 at hF
 refine cf 26 Tryz.func129 ?_
 refine jB 10 hF Ea3 Cu9 fun y1 hF=> ?_
 refine jI 12 18 hF ?_ ?_<;>intro hF
 ·cases hF
 ·cases hF
  exact jr 8
def Bl6(fuel:Nat)(d0:List UInt8)(y1:List UInt8):Nat→Int→(List Int)→Option A3
 |0,_,_=>none
 |nL1+1,v2,l4=>
  bif decide (v2>0) then
   (ass (decide (0≤(bif decide ((IntKind.i64.wrap (v2-9))>0) then(IntKind.i64.wrap (v2-9)) else 0))&&decide ((bif decide ((IntKind.i64.wrap (v2-9))>0) then(IntKind.i64.wrap (v2-9)) else 0)≤v2)&&decide (v2≤y1.length))<|
   Option.bind (Ds7 fuel ((y1.drop (Int.toNat (bif decide ((IntKind.i64.wrap (v2-9))>0) then(IntKind.i64.wrap (v2-9)) else 0))).take (Int.toNat (v2-(bif decide ((IntKind.i64.wrap (v2-9))>0) then(IntKind.i64.wrap (v2-9)) else 0))))) fun y4=>
   Option.bind (app l4 [IntKind.u32.wrap y4.1]) fun l5=>
   (Bl6 fuel d0 y1 nL1) (IntKind.i64.wrap (v2-9)) l5)
  else
   (Option.bind (Bk4 fuel (decide ((y1.length:Int)<(d0.length:Int))) l4) fun y5=>
   some y5)
def F72(fuel:Nat)(d0:List UInt8):Option A3:=
 Option.bind (Do2 d0 [45]) fun y1=>
 Bl6 fuel d0 y1 fuel (y1.length:Int) []
noncomputable abbrev b72:=C1 Tryz.f72
abbrev G72(r:A3):=J none Tryz.prog 44 [] (L3 Tryz.prog Tryz.f72 (.agg [.b r.neg,.l 1 r.mag A5]))
theorem Bz0{fuel:Nat}{d0:List UInt8}{r:A3}(hF:F72 fuel d0=some r):
 C3 Tryz.prog 72 [.s d0] (.agg [.b r.neg,.l 1 r.mag A5]):=by
 unfold F72 at hF
 refine cf 44 Tryz.func72 ?_
 refine jB 7 hF Dl0 Bw6 fun y1 hF=> ?_
 have hL1:∀(nL1:Nat) (v2:Int) (l4:List Int),Bl6 fuel d0 y1 nL1 v2 l4=some r→G72 r ⟨mkT [(2,.ptr 2 0),(3,.s y1),(4,.ptr 4 0),(5,.i v2)],[(2,.box 82 [.b false,.esl 1]),(4,.box 82 [.b (decide ((y1.length:Int)<(d0.length:Int))),.suf 37 0 0]),(37,.buf 0 192 1 (l4.map A5))],[kL b72 [1,1,1,0,1,0,0],.inBlock 0,kC b72 [1,1,1,1]]⟩:=by
  clear hF;intro nL1
  induction nL1 with
  |zero=>intro v2 l4 hF;cases hF
  |succ nL1 iL1=>
   intro v2 l4 hF
   rw[Bl6]at hF
   refine jI 7 19 hF ?_ ?_<;>intro hF
   ·obtain⟨hb6,hF⟩:=N1 hF
    refine jo1 11 (ck hb6) ?_
    refine jB 0 hF Dy8 Cs5 fun y4 hF=> ?_
    obtain⟨l5,e7,hF⟩:=bnd hF
    refine jo2 12 (am (f:=A5) e7) ?_
    exact ja 9 (iL1 _ _ hF)
   ·refine jB 8 hF Af0 K3 fun y5 hF=> ?_
    cases hF
    exact jr 2
 refine C5 22 (Bm5 (n:=1) 4 1 37 192 1 (by kernel_rfl) (by kernel_rfl) ?_)
 exact ja 0 (hL1 _ _ _ hF)
def F36(fuel:Nat)(d0:List UInt8):Option A1:=
 Option.bind (F71 d0 [47]) fun y1=>
 bif !y1.2.2 then
  (Option.bind (F72 fuel y1.1) fun y2=>
  Option.bind (F73 fuel 1) fun y3=>
  some (⟨y2,y3⟩:A1))
 else
  (Option.bind (F72 fuel y1.1) fun y4=>
  Option.bind (F72 fuel y1.2.1) fun y5=>
  some (⟨y4,y5⟩:A1))
theorem Bl0{fuel:Nat}{d0:List UInt8}{r:A1}(hF:F36 fuel d0=some r):
 C3 Tryz.prog 36 [.s d0] (.agg [.b r.n_.neg,.l 1 r.n_.mag A5,.b r.d.neg,.l 1 r.d.mag A5]):=by
 unfold F36 at hF
 refine cf 23 Tryz.func36 ?_
 refine jB 7 hF Eh3 Cp6 fun y1 hF=> ?_
 refine jI 14 13 hF ?_ ?_<;>intro hF
 ·refine jB 4 hF Ec5 Bz0 fun y2 hF=> ?_
  refine jB 0 hF Dg2 An9 fun y3 hF=> ?_
  cases hF
  exact jr 3
 ·refine jB 5 hF Ec5 Bz0 fun y4 hF=> ?_
  refine jB 1 hF Ec5 Bz0 fun y5 hF=> ?_
  cases hF
  exact jr 3
def Aq3(d1:A3)(v10:Int)(y23:Int)(cL1:Int→(List Int)→Option A3):Nat→Int→Int→(List Int)→Option A3
 |0,_,_,_=>none
 |nL2+1,v13,v14,l19=>
  bif decide (v14<((d1.mag.map A5).length:Int)) then
   (Option.bind (D6 d1.mag v14) fun y30=>
   Option.bind (D6 l19 (IntKind.i64.wrap (v10+v14))) fun y31=>
   Option.bind (D6 l19 (IntKind.i64.wrap (v10+v14))) fun y32=>
   Option.bind (some (l19.set (0+Int.toNat (IntKind.i64.wrap (v10+v14))) (IntKind.u32.wrap (Int.tmod (IntKind.u64.wrap ((IntKind.u64.wrap ((IntKind.u64.wrap ((IntKind.u64.wrap y23)*(IntKind.u64.wrap y30)))+(IntKind.u64.wrap y31)))+v13)) 1000000000)))) fun l20=>
   (Aq3 d1 v10 y23 cL1 nL2) (IntKind.u64.wrap (Int.tdiv (IntKind.u64.wrap ((IntKind.u64.wrap ((IntKind.u64.wrap ((IntKind.u64.wrap y23)*(IntKind.u64.wrap y30)))+(IntKind.u64.wrap y31)))+v13)) 1000000000)) (IntKind.i64.wrap (v14+1)) l20)
  else
   (Option.bind (D6 l19 (IntKind.i64.wrap (v10+((d1.mag.map A5).length:Int)))) fun y33=>
   Option.bind (some (l19.set (0+Int.toNat (IntKind.i64.wrap (v10+((d1.mag.map A5).length:Int)))) (IntKind.u32.wrap v13))) fun l21=>
   cL1 (IntKind.i64.wrap (v10+1)) l21)
def Ah5(fuel:Nat)(d0:A3)(d1:A3):Nat→Int→(List Int)→Option A3
 |0,_,_=>none
 |nL1+1,v10,l15=>
  bif decide (v10<((d0.mag.map A5).length:Int)) then
   (Option.bind (D6 d0.mag v10) fun y23=>
   Aq3 d1 v10 y23 (Ah5 fuel d0 d1 nL1) fuel 0 0 l15)
  else
   (Option.bind (Bk4 fuel (!(d0.neg==d1.neg)) l15) fun y34=>
   some y34)
def Ci4(fuel:Nat)(d0:A3)(d1:A3):Option A3:=
 Option.bind (mkL (IntKind.i64.wrap (((d0.mag.map A5).length:Int)+((d1.mag.map A5).length:Int))) (IntKind.i64.wrap (((d0.mag.map A5).length:Int)+((d1.mag.map A5).length:Int))) 0) fun l1=>
 Ah5 fuel d0 d1 fuel 0 l1
noncomputable abbrev Cz4:=C1 Tryz.f114
abbrev Ee0(r:A3):=J none Tryz.prog 79 [] (L3 Tryz.prog Tryz.f114 (.agg [.b r.neg,.l 1 r.mag A5]))
theorem W7{fuel:Nat}{d0:A3}{d1:A3}{r:A3}(hF:Ci4 fuel d0 d1=some r):
 C3 Tryz.prog 114 [.agg [.b d0.neg,.l 1 d0.mag A5],.agg [.b d1.neg,.l 1 d1.mag A5]] (.agg [.b r.neg,.l 1 r.mag A5]):=by
 unfold Ci4 at hF
 refine cf 79 Tryz.func114 ?_
 obtain⟨l1,e1,hF⟩:=bnd hF
 refine jo2 15 (mm (f:=A5) e1) ?_
 have hL1:∀(nL1:Nat) (v10:Int) (l15:List Int),Ah5 fuel d0 d1 nL1 v10 l15=some r→Ee0 r ⟨mkT [(2,.ptr 2 0),(3,.ptr 3 0),(4,.ptr 4 0),(5,.suf 19 0 0),(21,.l 1 d0.mag A5),(22,.i ((d0.mag.map A5).length:Int)),(23,.i v10)],[(2,.box 82 [.b d0.neg,.l 1 d0.mag A5]),(3,.box 82 [.b d1.neg,.l 1 d1.mag A5]),(4,.box 82 [.b false,.esl 1]),(19,.buf 0 192 1 (l15.map A5))],[kL Cz4 [1,1,0,1,0,0],.inBlock 0,kC Cz4 [1,1,1]]⟩:=by
  clear hF;intro nL1
  induction nL1 with
  |zero=>intro v10 l15 hF;cases hF
  |succ nL1 iL1=>
   intro v10 l15 hF
   rw[Ah5]at hF
   refine jI 6 24 hF ?_ ?_<;>intro hF
   ·obtain⟨y23,e32,hF⟩:=bnd hF
    refine jo1 7 (gm (f:=A5) e32) ?_
    have hL2:∀(nL2:Nat) (v13:Int) (v14:Int) (l19:List Int),Aq3 d1 v10 y23 (Ah5 fuel d0 d1 nL1) nL2 v13 v14 l19=some r→Ee0 r ⟨mkT [(2,.ptr 2 0),(3,.ptr 3 0),(4,.ptr 4 0),(5,.suf 19 0 0),(6,.i v10),(7,.w y23),(8,.n v13),(21,.l 1 d0.mag A5),(22,.i ((d0.mag.map A5).length:Int)),(23,.i v10),(29,.l 1 d1.mag A5),(30,.i ((d1.mag.map A5).length:Int)),(31,.i v14)],[(2,.box 82 [.b d0.neg,.l 1 d0.mag A5]),(3,.box 82 [.b d1.neg,.l 1 d1.mag A5]),(4,.box 82 [.b false,.esl 1]),(19,.buf 0 192 1 (l19.map A5))],[kL Cz4 [1,1,0,1,0,0,1,1,0,0,1,1,0,1,0,0],.inBlock 2,kC Cz4 [1,1,0,1,0,0,1,1,0,0,1,1,1],.inBlock 1,kC Cz4 [1,1,0,1,0,0,1,1,1],kL Cz4 [1,1,0,1,0,0],.inBlock 0,kC Cz4 [1,1,1]]⟩:=by
     clear hF;intro nL2
     induction nL2 with
     |zero=>intro v13 v14 l19 hF;cases hF
     |succ nL2 iL2=>
      intro v13 v14 l19 hF
      rw[Aq3]at hF
      refine jI 6 32 hF ?_ ?_<;>intro hF
      ·obtain⟨y30,e41,hF⟩:=bnd hF
       refine jo1 7 (gm (f:=A5) e41) ?_
       obtain⟨y31,e42,hF⟩:=bnd hF
       refine jo1 15 (gm (f:=A5) e42) ?_
       refine jo1 0 (gjm (f:=A5) (gj e42)) ?_
       obtain⟨y32,e43,hF⟩:=bnd hF
       refine jo1 16 (gm (f:=A5) e43) ?_
       obtain⟨l20,e44,hF⟩:=bnd hF
       have hst:=stm (f:=A5) (z:=IntKind.u32.wrap (Int.tmod (IntKind.u64.wrap ((IntKind.u64.wrap ((IntKind.u64.wrap ((IntKind.u64.wrap y23)*(IntKind.u64.wrap y30)))+(IntKind.u64.wrap y31)))+v13)) 1000000000)) (k:=0) (xs:=[.int .u32 (IntKind.u32.wrap (Int.tmod (IntKind.u64.wrap ((IntKind.u64.wrap ((IntKind.u64.wrap ((IntKind.u64.wrap y23)*(IntKind.u64.wrap y30)))+(IntKind.u64.wrap y31)))+v13)) 1000000000))]) (gj e43) rfl
       refine C5 0 (H6 (o:=(match(l19.map A5)[0+Int.toNat (IntKind.i64.wrap (v10+v14))]? with|some old=>some ((l19.map A5).set (0+Int.toNat (IntKind.i64.wrap (v10+v14))) (Ad4 old 0 [.int .u32 (IntKind.u32.wrap (Int.tmod (IntKind.u64.wrap ((IntKind.u64.wrap ((IntKind.u64.wrap ((IntKind.u64.wrap y23)*(IntKind.u64.wrap y30)))+(IntKind.u64.wrap y31)))+v13)) 1000000000))]))|none=>none)) (l20.map A5) (by kernel_rfl) (by cases e44;exact hst) ?_)
       exact ja 7 (iL2 _ _ _ hF)
      ·obtain⟨y33,e45,hF⟩:=bnd hF
       refine jo1 11 (gm (f:=A5) e45) ?_
       obtain⟨l21,e46,hF⟩:=bnd hF
       have hst:=stm (f:=A5) (z:=IntKind.u32.wrap v13) (k:=0) (xs:=[.int .u32 (IntKind.u32.wrap v13)]) (gj e45) rfl
       refine C5 0 (H6 (o:=(match(l19.map A5)[0+Int.toNat (IntKind.i64.wrap (v10+((d1.mag.map A5).length:Int)))]? with|some old=>some ((l19.map A5).set (0+Int.toNat (IntKind.i64.wrap (v10+((d1.mag.map A5).length:Int)))) (Ad4 old 0 [.int .u32 (IntKind.u32.wrap v13)]))|none=>none)) (l21.map A5) (by kernel_rfl) (by cases e46;exact hst) ?_)
       exact ja 6 (iL1 _ _ hF)
    exact ja 18 (hL2 _ _ _ _ hF)
   ·refine jB 10 hF Af0 K3 fun y34 hF=> ?_
    cases hF
    exact jr 2
 exact ja 12 (hL1 _ _ _ hF)
def Cs4(fuel:Nat)(d0:A3)(d1:A3):Option Int:=
 Option.bind (F74 d0) fun y4=>
 Option.bind (F74 d1) fun y5=>
 Option.bind (Do6 y4 y5) fun y6=>
 Option.bind (
  bif y6 !=0 then
   (some true)
  else
   (some (((d0.mag.map A5).length:Int)==0))) fun o1=>
 bif o1 then
  (some y6)
 else
  (bif d0.neg then
   (Option.bind (De8 fuel d1.mag d0.mag) fun y7=>
   some y7)
  else
   (Option.bind (De8 fuel d0.mag d1.mag) fun y8=>
   some y8))
noncomputable abbrev Dx7:=C1 Tryz.f115
abbrev Ei2(r:Int):=J none Tryz.prog 32 [] (L3 Tryz.prog Tryz.f115 (.i r))
theorem Ah6{fuel:Nat}{d0:A3}{d1:A3}{r:Int}(hF:Cs4 fuel d0 d1=some r):
 C3 Tryz.prog 115 [.agg [.b d0.neg,.l 1 d0.mag A5],.agg [.b d1.neg,.l 1 d1.mag A5]] (.i r):=by
 unfold Cs4 at hF
 refine cf 32 Tryz.func115 ?_
 refine jd 8 ?_
 refine dB 1 hF Dr1 Bl9 fun y4 hF=> ?_
 refine dB 1 hF Dr1 Bl9 fun y5 hF=> ?_
 refine dB 0 hF Dl7 Bx6 fun y6 hF=> ?_
 refine je 1 ?_
 obtain⟨o1,hO,hF⟩:=bnd hF
 have hR1:Ei2 r ⟨mkT [(2,.ptr 2 0),(3,.ptr 3 0),(5,.i y6),(18,.b o1)],[(2,.box 82 [.b d0.neg,.l 1 d0.mag A5]),(3,.box 82 [.b d1.neg,.l 1 d1.mag A5])],[kO Dx7 [1,0,1,0],kC Dx7 [1,0,1,1],kC Dx7 [1,1]]⟩:=by
  clear hO
  refine jI 1 18 hF ?_ ?_<;>intro hF
  ·cases hF
   exact jr 6
  ·refine jI 8 21 hF ?_ ?_<;>intro hF
   ·refine jB 7 hF Cm4 As0 fun y7 hF=> ?_
    cases hF
    exact jr 2
   ·refine jB 8 hF Cm4 As0 fun y8 hF=> ?_
    cases hF
    exact jr 2
 clear hF;rename _=some o1=>hF
 refine jI 5 13 hF ?_ ?_<;>intro hF
 ·cases hF
  exact ja 5 hR1
 ·cases hF
  exact ja 5 hR1
def F65(fuel:Nat)(d0:A1)(d1:A1):Option Int:=
 Option.bind (Ci4 fuel d0.n_ d1.d) fun y4=>
 Option.bind (Ci4 fuel d1.n_ d0.d) fun y5=>
 Option.bind (Cs4 fuel y4 y5) fun y6=>
 some y6
theorem Cp5{fuel:Nat}{d0:A1}{d1:A1}{r:Int}(hF:F65 fuel d0 d1=some r):
 C3 Tryz.prog 65 [.agg [.b d0.n_.neg,.l 1 d0.n_.mag A5,.b d0.d.neg,.l 1 d0.d.mag A5],.agg [.b d1.n_.neg,.l 1 d1.n_.mag A5,.b d1.d.neg,.l 1 d1.d.mag A5]] (.i r):=by
 unfold F65 at hF
 refine cf 16 Tryz.func65 ?_
 refine jd 7 ?_
 refine dB 4 hF Bh6 W7 fun y4 hF=> ?_
 refine dB 4 hF Bh6 W7 fun y5 hF=> ?_
 refine dB 0 hF Cc6 Ah6 fun y6 hF=> ?_
 refine je 1 ?_
 cases hF
 exact jr 0
def Do4(fuel:Nat)(d0:A1)(d1:A1):Option A1:=
 Option.bind (Ci4 fuel d0.n_ d1.d) fun y6=>
 Option.bind (Ci4 fuel d1.n_ d0.d) fun y7=>
 Option.bind (Dh5 fuel y6 y7) fun y8=>
 Option.bind (Ci4 fuel d0.d d1.d) fun y9=>
 Option.bind (Dh0 fuel y8 y9) fun y10=>
 some y10
theorem Bx3{fuel:Nat}{d0:A1}{d1:A1}{r:A1}(hF:Do4 fuel d0 d1=some r):
 C3 Tryz.prog 140 [.agg [.b d0.n_.neg,.l 1 d0.n_.mag A5,.b d0.d.neg,.l 1 d0.d.mag A5],.agg [.b d1.n_.neg,.l 1 d1.n_.mag A5,.b d1.d.neg,.l 1 d1.d.mag A5]] (.agg [.b r.n_.neg,.l 1 r.n_.mag A5,.b r.d.neg,.l 1 r.d.mag A5]):=by
 unfold Do4 at hF
 refine cf 22 Tryz.func140 ?_
 refine jd 7 ?_
 refine dB 4 hF Bh6 W7 fun y6 hF=> ?_
 refine dB 4 hF Bh6 W7 fun y7 hF=> ?_
 refine dB 0 hF Db8 Be8 fun y8 hF=> ?_
 refine dB 4 hF Bh6 W7 fun y9 hF=> ?_
 refine dB 0 hF Db3 Be3 fun y10 hF=> ?_
 refine je 1 ?_
 cases hF
 exact jr 0
def Dt4(fuel:Nat)(d0:A1)(d1:A1):Option A1:=
 Option.bind (Ci4 fuel d0.n_ d1.n_) fun y4=>
 Option.bind (Ci4 fuel d0.d d1.d) fun y5=>
 Option.bind (Dh0 fuel y4 y5) fun y6=>
 some y6
theorem Ct7{fuel:Nat}{d0:A1}{d1:A1}{r:A1}(hF:Dt4 fuel d0 d1=some r):
 C3 Tryz.prog 159 [.agg [.b d0.n_.neg,.l 1 d0.n_.mag A5,.b d0.d.neg,.l 1 d0.d.mag A5],.agg [.b d1.n_.neg,.l 1 d1.n_.mag A5,.b d1.d.neg,.l 1 d1.d.mag A5]] (.agg [.b r.n_.neg,.l 1 r.n_.mag A5,.b r.d.neg,.l 1 r.d.mag A5]):=by
 unfold Dt4 at hF
 refine cf 16 Tryz.func159 ?_
 refine jd 7 ?_
 refine dB 4 hF Bh6 W7 fun y4 hF=> ?_
 refine dB 4 hF Bh6 W7 fun y5 hF=> ?_
 refine dB 0 hF Db3 Be3 fun y6 hF=> ?_
 refine je 1 ?_
 cases hF
 exact jr 0
def Dt2(fuel:Nat)(d0:A1):Option A1:=
 Option.bind (Dh3 fuel d0.n_) fun y1=>
 some (⟨y1,d0.d⟩:A1)
theorem Ct4{fuel:Nat}{d0:A1}{r:A1}(hF:Dt2 fuel d0=some r):
 C3 Tryz.prog 141 [.agg [.b d0.n_.neg,.l 1 d0.n_.mag A5,.b d0.d.neg,.l 1 d0.d.mag A5]] (.agg [.b r.n_.neg,.l 1 r.n_.mag A5,.b r.d.neg,.l 1 r.d.mag A5]):=by
 unfold Dt2 at hF
 refine cf 9 Tryz.func141 ?_
 refine jd 6 ?_
 refine dB 2 hF Db6 Be6 fun y1 hF=> ?_
 refine je 4 ?_
 cases hF
 exact jr 0
def F80(fuel:Nat)(d0:A1)(d1:A1):Option A1:=
 Option.bind (Dt2 fuel d1) fun y3=>
 Option.bind (Do4 fuel d0 y3) fun y4=>
 some y4
theorem Di5{fuel:Nat}{d0:A1}{d1:A1}{r:A1}(hF:F80 fuel d0 d1=some r):
 C3 Tryz.prog 80 [.agg [.b d0.n_.neg,.l 1 d0.n_.mag A5,.b d0.d.neg,.l 1 d0.d.mag A5],.agg [.b d1.n_.neg,.l 1 d1.n_.mag A5,.b d1.d.neg,.l 1 d1.d.mag A5]] (.agg [.b r.n_.neg,.l 1 r.n_.mag A5,.b r.d.neg,.l 1 r.d.mag A5]):=by
 unfold F80 at hF
 refine cf 9 Tryz.func80 ?_
 refine jd 7 ?_
 refine dB 2 hF Dz3 Ct4 fun y3 hF=> ?_
 refine dB 0 hF Dl5 Bx3 fun y4 hF=> ?_
 refine je 1 ?_
 cases hF
 exact jr 0
def F37(d0:A1):Option Int:=
 Option.bind (F74 d0.n_) fun y1=>
 some y1
theorem Di1{d0:A1}{r:Int}(hF:F37 d0=some r):
 C3 Tryz.prog 37 [.agg [.b d0.n_.neg,.l 1 d0.n_.mag A5,.b d0.d.neg,.l 1 d0.d.mag A5]] (.i r):=by
 unfold F37 at hF
 refine cf 6 Tryz.func37 ?_
 refine jB 9 hF Dr1 Bl9 fun y1 hF=> ?_
 cases hF
 exact jr 2
def e_s(x:List UInt8):List Dat:=[.str x]
def A4(x:A1):List Dat:=[.bool x.n_.neg,.sl 1 (x.n_.mag.map A5),.bool x.d.neg,.sl 1 (x.d.mag.map A5)]
def De5(d0:Int):Option (List UInt8):=Cn1 d0
theorem Ah4{d0:Int}{r:List UInt8}(hF:De5 d0=some r):C3 Tryz.prog 103 [.d (.int .i64 d0)] (.d (.str r)):=Bu4 (gn:=3) (by kernel_rfl) (by kernel_rfl) Tryz.strconv_Itoa hF
def Do5(d0:A3):Option Int:=
 bif ((d0.mag.map A5).length:Int)==0 then
  (some 1)
 else
  (Option.bind (D6 d0.mag (IntKind.i64.wrap (((d0.mag.map A5).length:Int)-1))) fun y1=>
  Option.bind (De5 (IntKind.i64.wrap y1)) fun y2=>
  some (IntKind.i64.wrap ((IntKind.i64.wrap (9*(IntKind.i64.wrap (((d0.mag.map A5).length:Int)-1))))+(y2.length:Int))))
theorem Bx4{d0:A3}{r:Int}(hF:Do5 d0=some r):
 C3 Tryz.prog 142 [.agg [.b d0.neg,.l 1 d0.mag A5]] (.i r):=by
 unfold Do5 at hF
 refine cf 22 Tryz.func142 ?_
 refine jI 18 8 hF ?_ ?_<;>intro hF
 ·cases hF
  exact jr 5
 ·obtain⟨y1,e1,hF⟩:=bnd hF
  refine jo1 11 (gm (f:=A5) e1) ?_
  refine jB 2 hF Cc5 Ah4 fun y2 hF=> ?_
  cases hF
  exact jr 4
def F81(d0:A1)(d1:Int):Option Bool:=
 Option.bind (
  Option.bind (Do5 d0.n_) fun y5=>
  bif decide (y5≤d1) then
   (Option.bind (Do5 d0.d) fun y6=>
   some (decide (y6≤d1)))
  else
   (some false)) fun o1=>
 some o1
noncomputable abbrev b81:=C1 Tryz.f81
abbrev G81(r:Bool):=J none Tryz.prog 17 [] (L3 Tryz.prog Tryz.f81 (.b r))
theorem Bm2{d0:A1}{d1:Int}{r:Bool}(hF:F81 d0 d1=some r):
 C3 Tryz.prog 81 [.agg [.b d0.n_.neg,.l 1 d0.n_.mag A5,.b d0.d.neg,.l 1 d0.d.mag A5],.i d1] (.b r):=by
 unfold F81 at hF
 refine cf 17 Tryz.func81 ?_
 obtain⟨o1,hO,hF⟩:=bnd hF
 have hR1:G81 r ⟨mkT [(4,.b o1)],[],[kO b81 [1,0],kC b81 [1,1]]⟩:=by
  clear hO
  cases hF
  exact jr 1
 clear hF;rename _=some o1=>hF
 refine jB 9 hF Dl6 Bx4 fun y5 hF=> ?_
 refine jI 3 10 hF ?_ ?_<;>intro hF
 ·refine jB 2 hF Dl6 Bx4 fun y6 hF=> ?_
  cases hF
  exact ja 4 hR1
 ·cases hF
  exact ja 7 hR1
def Dt3(d0:A1):Option Bool:=
 Option.bind (
  bif ((d0.d.mag.map A5).length:Int)==1 then
   (Option.bind (D6 d0.d.mag 0) fun y3=>
   some (y3==1))
  else
   (some false)) fun o1=>
 some o1
noncomputable abbrev Ef0:=C1 Tryz.f143
abbrev Ei3(r:Bool):=J none Tryz.prog 16 [] (L3 Tryz.prog Tryz.f143 (.b r))
theorem Ct5{d0:A1}{r:Bool}(hF:Dt3 d0=some r):
 C3 Tryz.prog 143 [.agg [.b d0.n_.neg,.l 1 d0.n_.mag A5,.b d0.d.neg,.l 1 d0.d.mag A5]] (.b r):=by
 unfold Dt3 at hF
 refine cf 16 Tryz.func143 ?_
 obtain⟨o1,hO,hF⟩:=bnd hF
 have hR1:Ei3 r ⟨mkT [(2,.b o1)],[],[kO Ef0 [1,0],kC Ef0 [1,1]]⟩:=by
  clear hO
  cases hF
  exact jr 1
 clear hF;rename _=some o1=>hF
 refine jI 13 8 hF ?_ ?_<;>intro hF
 ·obtain⟨y3,e3,hF⟩:=bnd hF
  refine jo1 3 (gm (f:=A5) e3) ?_
  cases hF
  exact ja 4 hR1
 ·cases hF
  exact ja 8 hR1
def Dp4:Option Unit:=
 some ()
theorem By4{r:Unit}(hF:Dp4=some r):
 F4 Tryz.prog 244 [(2000,.box 237 [.d .nilp,.esl 1])] [.ptr 2000 0] [(2000,.box 237 [.ptr 2000 0,.esl 1])] (.tup []):=by
 unfold Dp4 at hF
 refine cr 20 Tryz.func244 ?_
 refine C5 13 (Cy4 (xs:=[.ptr 2000 0]) (.ptr 2000 0) (by kernel_rfl) (An3 Tryz.func273 (by kernel_rfl) (by kernel_rfl) (by kernel_rfl) rfl _) ?_)
 cases hF
 exact jrr 5
def Dt9(d0:Int):Option (Bool×List Int):=
 Option.bind (Dp4) fun y1=>
 Option.bind (app [] [d0]) fun l1=>
 some (false,l1)
noncomputable abbrev Ek6:=C1 Tryz.f190
theorem Cv1{d0:Int}{r:Bool×List Int}(hF:Dt9 d0=some r):
 F4 Tryz.prog 190 [(2000,.box 237 [.d .nilp,.esl 1])] [.ptr 2000 0,.y d0] [(2000,.box 237 [.ptr 2000 0,.suf 2001 0 0]),(2001,.buf 0 5 1 (r.2.map I4))] (.d (.ife r.1)):=by
 unfold Dt9 at hF
 refine cr 17 Tryz.func190 ?_
 obtain⟨y1,e1,hF⟩:=bnd hF
 refine jcr 7 [(2000,2000)] Dc3 (By4 e1) ?_
 obtain⟨l1,e2,hF⟩:=bnd hF
 refine jo2 10 (am (f:=I4) e2) ?_
 refine ja 8 (S0:=[(4,.d (.ife false))]) (O0:=[(14,.buf 0 5 1 (l1.map I4)),(2000,.box 237 [.ptr 2000 0,.suf 14 0 0])]) (T0:=[kC Ek6 [1,1,1,1]]) ?_
 refine C5 0 (Ab8 [(2000,2000),(14,2001)] (by kernel_rfl) (by kernel_rfl) (by kernel_rfl) (by kernel_rfl) ?_)
 cases hF
 exact jrr 0
def Cx0(d0:List Int):Option Unit:=
 some ()
theorem Cj9{d0:List Int}{r:Unit}(hF:Cx0 d0=some r):
 F4 Tryz.prog 244 [(2000,.box 237 [.ptr 2000 0,.suf 2001 0 0]),(2001,.buf 0 5 1 (d0.map I4))] [.ptr 2000 0] [(2000,.box 237 [.ptr 2000 0,.suf 2001 0 0]),(2001,.buf 0 5 1 (d0.map I4))] (.tup []):=by
 unfold Cx0 at hF
 refine cr 20 Tryz.func244 ?_
 cases hF
 exact jrr 20
def Bv9(d0:List UInt8)(d1:List Int):Option (Int×Bool×List Int):=
 Option.bind (Cx0 d1) fun y1=>
 Option.bind (app d1 (d0.map toI)) fun l1=>
 some ((d0.length:Int),false,l1)
theorem O1{d0:List UInt8}{d1:List Int}{r:Int×Bool×List Int}(hF:Bv9 d0 d1=some r):
 F4 Tryz.prog 191 [(2000,.box 237 [.ptr 2000 0,.suf 2001 0 0]),(2001,.buf 0 5 1 (d1.map I4))] [.ptr 2000 0,.s d0] [(2000,.box 237 [.ptr 2000 0,.suf 2001 1 0]),(2001,.buf 1 5 1 (r.2.2.map I4))] (.tup [.i r.1,.d (.ife r.2.1)]):=by
 unfold Bv9 at hF
 refine cr 19 Tryz.func191 ?_
 obtain⟨y1,e1,hF⟩:=bnd hF
 refine jcr 8 [(2000,2000),(2001,2001)] Dc3 (Cj9 e1) ?_
 obtain⟨l1,e2,hF⟩:=bnd hF
 refine C5 9 (H6 (o:=Dq1 ((d1.map I4).drop 0) (d0.map Z6)) (l1.map I4) (by kernel_rfl) (ams (f:=I4) (fun _=>rfl) e2) ?_)
 cases hF
 exact jrr 11
def Dh6(d0:List Int):Option (List UInt8):=
 ass (decide (0<(d0.map I4).length))<|
 Option.bind (Ed8 d0 0 ((d0.map I4).length:Int)) fun x2=>
 some x2
theorem Be9{d0:List Int}{r:List UInt8}(hF:Dh6 d0=some r):
 F4 Tryz.prog 192 [(2000,.box 237 [.ptr 2000 0,.suf 2001 0 0]),(2001,.buf 0 5 1 (d0.map I4))] [.ptr 2000 0] [(2000,.box 237 [.ptr 2000 0,.suf 2001 0 0]),(2001,.fzs 0 1 (d0.map I4))] (.s r):=by
 unfold Dh6 at hF
 refine cr 14 Tryz.func192 ?_
 refine jd 5 ?_
 obtain⟨hb2,hF⟩:=N1 hF
 refine do1 4 (ck hb2) ?_
 obtain⟨x2,e2,hF⟩:=bnd hF
 refine R7 5 (Bz3 (o:=usd (d0.map I4) 0 ((d0.map I4).length:Int)) [.str x2] (by kernel_rfl) (by kernel_rfl) (usm (f:=I4) (fun _=>rfl) e2) ?_)
 refine je 1 ?_
 cases hF
 exact jrr 0
def Cj4(d0:List UInt8):Option (Int×Bool×List Int):=
 Option.bind (Dp4) fun y1=>
 Option.bind (app [] (d0.map toI)) fun l1=>
 some ((d0.length:Int),false,l1)
noncomputable abbrev Ek7:=C1 Tryz.f191
theorem Bk5{d0:List UInt8}{r:Int×Bool×List Int}(hF:Cj4 d0=some r):
 F4 Tryz.prog 191 [(2000,.box 237 [.d .nilp,.esl 1])] [.ptr 2000 0,.s d0] [(2000,.box 237 [.ptr 2000 0,.suf 2001 0 0]),(2001,.buf 0 5 1 (r.2.2.map I4))] (.tup [.i r.1,.d (.ife r.2.1)]):=by
 unfold Cj4 at hF
 refine cr 19 Tryz.func191 ?_
 obtain⟨y1,e1,hF⟩:=bnd hF
 refine jcr 8 [(2000,2000)] Dc3 (By4 e1) ?_
 obtain⟨l1,e2,hF⟩:=bnd hF
 refine C5 9 (H6 (o:=Dq1 [] (d0.map Z6)) (l1.map I4) (by kernel_rfl) (ams (f:=I4) (fun _=>rfl) e2) ?_)
 refine ja 11 (S0:=[(4,.i (d0.length:Int)),(5,.d (.ife false))]) (O0:=[(14,.buf 0 5 1 (l1.map I4)),(2000,.box 237 [.ptr 2000 0,.suf 14 0 0])]) (T0:=[kC Ek7 [1,1,1,1]]) ?_
 refine C5 0 (Ab8 [(2000,2000),(14,2001)] (by kernel_rfl) (by kernel_rfl) (by kernel_rfl) (by kernel_rfl) ?_)
 cases hF
 exact jrr 0
def Ah9(d0:A3):Nat→Int→(List Int)→Option (List UInt8)
 |0,_,_=>none
 |nL1+1,v2,l2=>
  bif decide (v2≥0) then
   (Option.bind (D6 d0.mag v2) fun y12=>
   Option.bind (De5 (IntKind.i64.wrap y12)) fun y13=>
   bif decide (v2<(IntKind.i64.wrap (((d0.mag.map A5).length:Int)-1))) then
    (ass (decide (0≤(y13.length:Int))&&decide ((y13.length:Int)≤([48,48,48,48,48,48,48,48,48].length:Int))&&decide (([48,48,48,48,48,48,48,48,48].length:Int)≤[48,48,48,48,48,48,48,48,48].length))<|
    Option.bind (Bv9 (([48,48,48,48,48,48,48,48,48].drop (Int.toNat (y13.length:Int))).take (Int.toNat (([48,48,48,48,48,48,48,48,48].length:Int)-(y13.length:Int)))) l2) fun y14=>
    Option.bind (Bv9 y13 y14.2.2) fun y15=>
    (Ah9 d0 nL1) (IntKind.i64.wrap (v2-1)) y15.2.2)
   else
    (Option.bind (Bv9 y13 l2) fun y16=>
    (Ah9 d0 nL1) (IntKind.i64.wrap (v2-1)) y16.2.2))
  else
   (Option.bind (Dh6 l2) fun y17=>
   some y17)
def Ai0(d0:A3):Nat→Int→(List Int)→Option (List UInt8)
 |0,_,_=>none
 |nL2+1,v5,l5=>
  bif decide (v5≥0) then
   (Option.bind (D6 d0.mag v5) fun y39=>
   Option.bind (De5 (IntKind.i64.wrap y39)) fun y40=>
   bif decide (v5<(IntKind.i64.wrap (((d0.mag.map A5).length:Int)-1))) then
    (ass (decide (0≤(y40.length:Int))&&decide ((y40.length:Int)≤([48,48,48,48,48,48,48,48,48].length:Int))&&decide (([48,48,48,48,48,48,48,48,48].length:Int)≤[48,48,48,48,48,48,48,48,48].length))<|
    Option.bind (Bv9 (([48,48,48,48,48,48,48,48,48].drop (Int.toNat (y40.length:Int))).take (Int.toNat (([48,48,48,48,48,48,48,48,48].length:Int)-(y40.length:Int)))) l5) fun y41=>
    Option.bind (Bv9 y40 y41.2.2) fun y42=>
    (Ai0 d0 nL2) (IntKind.i64.wrap (v5-1)) y42.2.2)
   else
    (Option.bind (Bv9 y40 l5) fun y43=>
    (Ai0 d0 nL2) (IntKind.i64.wrap (v5-1)) y43.2.2))
  else
   (Option.bind (Dh6 l5) fun y44=>
   some y44)
def Ai1(d0:A3):Nat→Int→(List Int)→Option (List UInt8)
 |0,_,_=>none
 |nL3+1,v7,l7=>
  bif decide (v7≥0) then
   (Option.bind (D6 d0.mag v7) fun y56=>
   Option.bind (De5 (IntKind.i64.wrap y56)) fun y57=>
   bif decide (v7<(IntKind.i64.wrap (((d0.mag.map A5).length:Int)-1))) then
    (ass (decide (0≤(y57.length:Int))&&decide ((y57.length:Int)≤([48,48,48,48,48,48,48,48,48].length:Int))&&decide (([48,48,48,48,48,48,48,48,48].length:Int)≤[48,48,48,48,48,48,48,48,48].length))<|
    Option.bind (Bv9 (([48,48,48,48,48,48,48,48,48].drop (Int.toNat (y57.length:Int))).take (Int.toNat (([48,48,48,48,48,48,48,48,48].length:Int)-(y57.length:Int)))) l7) fun y58=>
    Option.bind (Bv9 y57 y58.2.2) fun y59=>
    (Ai1 d0 nL3) (IntKind.i64.wrap (v7-1)) y59.2.2)
   else
    (Option.bind (Bv9 y57 l7) fun y60=>
    (Ai1 d0 nL3) (IntKind.i64.wrap (v7-1)) y60.2.2))
  else
   (Option.bind (Dh6 l7) fun y61=>
   some y61)
def Ct6(fuel:Nat)(d0:A3):Option (List UInt8):=
 bif ((d0.mag.map A5).length:Int)==0 then
  (some [48])
 else
  (bif d0.neg then
   (Option.bind (Dt9 45) fun y1=>
   Ah9 d0 fuel (IntKind.i64.wrap (((d0.mag.map A5).length:Int)-1)) y1.2)
  else
   (bif decide ((IntKind.i64.wrap (((d0.mag.map A5).length:Int)-1))≥0) then
    (Option.bind (D6 d0.mag (IntKind.i64.wrap (((d0.mag.map A5).length:Int)-1))) fun y25=>
    Option.bind (De5 (IntKind.i64.wrap y25)) fun y26=>
    bif decide ((IntKind.i64.wrap (((d0.mag.map A5).length:Int)-1))<(IntKind.i64.wrap (((d0.mag.map A5).length:Int)-1))) then
     (ass (decide (0≤(y26.length:Int))&&decide ((y26.length:Int)≤([48,48,48,48,48,48,48,48,48].length:Int))&&decide (([48,48,48,48,48,48,48,48,48].length:Int)≤[48,48,48,48,48,48,48,48,48].length))<|
     Option.bind (Cj4 (([48,48,48,48,48,48,48,48,48].drop (Int.toNat (y26.length:Int))).take (Int.toNat (([48,48,48,48,48,48,48,48,48].length:Int)-(y26.length:Int))))) fun y27=>
     Option.bind (Bv9 y26 y27.2.2) fun y28=>
     Ai0 d0 fuel (IntKind.i64.wrap ((IntKind.i64.wrap (((d0.mag.map A5).length:Int)-1))-1)) y28.2.2)
    else
     (Option.bind (Cj4 y26) fun y45=>
     Ai1 d0 fuel (IntKind.i64.wrap ((IntKind.i64.wrap (((d0.mag.map A5).length:Int)-1))-1)) y45.2.2))
   else
    (none)))
noncomputable abbrev Ax4:=C1 Tryz.f144
abbrev Dw2(r:List UInt8):=J none Tryz.prog 41 [] (L3 Tryz.prog Tryz.f144 (.s r))
theorem Ai2{fuel:Nat}{d0:A3}{r:List UInt8}(hF:Ct6 fuel d0=some r):
 C3 Tryz.prog 144 [.agg [.b d0.neg,.l 1 d0.mag A5]] (.s r):=by
 unfold Ct6 at hF
 refine cf 41 Tryz.func144 ?_
 refine jI 13 9 hF ?_ ?_<;>intro hF
 ·cases hF
  exact jr 5
 ·refine jI 12 11 hF ?_ ?_<;>intro hF
  ·obtain⟨y1,e1,hF⟩:=bnd hF
   refine jcr 2 [(3,2000),(12,2001)] Ea5 (Cv1 e1) ?_
   have hL1:∀(nL1:Nat) (v2:Int) (l2:List Int),Ah9 d0 nL1 v2 l2=some r→Dw2 r ⟨mkT [(1,.ptr 1 0),(3,.ptr 3 0),(4,.i v2)],[(1,.box 82 [.b d0.neg,.l 1 d0.mag A5]),(3,.box 237 [.ptr 3 0,.suf 12 0 0]),(12,.buf 0 5 1 (l2.map I4))],[kL Ax4 [1,1,1,1,0,1,0,0],.inBlock 0,kC Ax4 [1,1,1,1,1]]⟩:=by
    clear hF;intro nL1
    induction nL1 with
    |zero=>intro v2 l2 hF;cases hF
    |succ nL1 iL1=>
     intro v2 l2 hF
     rw[Ah9]at hF
     refine jI 7 18 hF ?_ ?_<;>intro hF
     ·obtain⟨y12,e12,hF⟩:=bnd hF
      refine jo1 9 (gm (f:=A5) e12) ?_
      refine jB 2 hF Cc5 Ah4 fun y13 hF=> ?_
      refine jI 12 33 hF ?_ ?_<;>intro hF
      ·obtain⟨hb11,hF⟩:=N1 hF
       refine jo1 4 (ck hb11) ?_
       obtain⟨y14,e14,hF⟩:=bnd hF
       refine jcr 0 [(3,2000),(12,2001)] Af1 (O1 e14) ?_
       refine ja 1 (S0:=[(1,.ptr 1 0),(3,.ptr 3 0),(4,.i v2),(5,.s y13)]) (O0:=[(1,.box 82 [.b d0.neg,.l 1 d0.mag A5]),(3,.box 237 [.ptr 3 0,.suf 12 0 0]),(12,.buf 0 5 1 (y14.2.2.map I4))]) (T0:=[kC Ax4 [1,1,1,1,0,1,0,0,1,0,0,1,1],.inBlock 1,kC Ax4 [1,1,1,1,0,1,0,0,1,1],kL Ax4 [1,1,1,1,0,1,0,0],.inBlock 0,kC Ax4 [1,1,1,1,1]]) ?_
       obtain⟨y15,e15,hF⟩:=bnd hF
       refine jcr 2 [(3,2000),(12,2001)] Af1 (O1 e15) ?_
       exact ja 7 (iL1 _ _ hF)
      ·obtain⟨y16,e16,hF⟩:=bnd hF
       refine jcr 4 [(3,2000),(12,2001)] Af1 (O1 e16) ?_
       exact ja 7 (iL1 _ _ hF)
     ·obtain⟨y17,e17,hF⟩:=bnd hF
      refine jcr 4 [(3,2000),(12,2001)] Db9 (Be9 e17) ?_
      cases hF
      exact jr 2
   exact ja 12 (hL1 _ _ _ hF)
  ·refine jI 20 18 hF ?_ ?_<;>intro hF
   ·obtain⟨y25,e25,hF⟩:=bnd hF
    refine jo1 9 (gm (f:=A5) e25) ?_
    refine jB 2 hF Cc5 Ah4 fun y26 hF=> ?_
    refine jI 12 33 hF ?_ ?_<;>intro hF
    ·obtain⟨hb20,hF⟩:=N1 hF
     refine jo1 4 (ck hb20) ?_
     obtain⟨y27,e27,hF⟩:=bnd hF
     refine jcr 0 [(3,2000),(37,2001)] Af1 (Bk5 e27) ?_
     obtain⟨y28,e28,hF⟩:=bnd hF
     refine jcr 3 [(3,2000),(37,2001)] Af1 (O1 e28) ?_
     have hL2:∀(nL2:Nat) (v5:Int) (l5:List Int),Ai0 d0 nL2 v5 l5=some r→Dw2 r ⟨mkT [(1,.ptr 1 0),(3,.ptr 3 0),(4,.i v5)],[(1,.box 82 [.b d0.neg,.l 1 d0.mag A5]),(3,.box 237 [.ptr 3 0,.suf 37 0 0]),(37,.buf 0 5 1 (l5.map I4))],[kL Ax4 [1,1,1,1,0,1,0,0],.inBlock 0,kC Ax4 [1,1,1,1,1]]⟩:=by
      clear hF;intro nL2
      induction nL2 with
      |zero=>intro v5 l5 hF;cases hF
      |succ nL2 iL2=>
       intro v5 l5 hF
       rw[Ai0]at hF
       refine jI 7 18 hF ?_ ?_<;>intro hF
       ·obtain⟨y39,e39,hF⟩:=bnd hF
        refine jo1 9 (gm (f:=A5) e39) ?_
        refine jB 2 hF Cc5 Ah4 fun y40 hF=> ?_
        refine jI 12 33 hF ?_ ?_<;>intro hF
        ·obtain⟨hb29,hF⟩:=N1 hF
         refine jo1 4 (ck hb29) ?_
         obtain⟨y41,e41,hF⟩:=bnd hF
         refine jcr 0 [(3,2000),(37,2001)] Af1 (O1 e41) ?_
         refine ja 1 (S0:=[(1,.ptr 1 0),(3,.ptr 3 0),(4,.i v5),(5,.s y40)]) (O0:=[(1,.box 82 [.b d0.neg,.l 1 d0.mag A5]),(3,.box 237 [.ptr 3 0,.suf 37 0 0]),(37,.buf 0 5 1 (y41.2.2.map I4))]) (T0:=[kC Ax4 [1,1,1,1,0,1,0,0,1,0,0,1,1],.inBlock 1,kC Ax4 [1,1,1,1,0,1,0,0,1,1],kL Ax4 [1,1,1,1,0,1,0,0],.inBlock 0,kC Ax4 [1,1,1,1,1]]) ?_
         obtain⟨y42,e42,hF⟩:=bnd hF
         refine jcr 2 [(3,2000),(37,2001)] Af1 (O1 e42) ?_
         exact ja 7 (iL2 _ _ hF)
        ·obtain⟨y43,e43,hF⟩:=bnd hF
         refine jcr 4 [(3,2000),(37,2001)] Af1 (O1 e43) ?_
         exact ja 7 (iL2 _ _ hF)
       ·obtain⟨y44,e44,hF⟩:=bnd hF
        refine jcr 4 [(3,2000),(37,2001)] Db9 (Be9 e44) ?_
        cases hF
        exact jr 2
     exact ja 7 (hL2 _ _ _ hF)
    ·obtain⟨y45,e45,hF⟩:=bnd hF
     refine jcr 4 [(3,2000),(39,2001)] Af1 (Bk5 e45) ?_
     have hL3:∀(nL3:Nat) (v7:Int) (l7:List Int),Ai1 d0 nL3 v7 l7=some r→Dw2 r ⟨mkT [(1,.ptr 1 0),(3,.ptr 3 0),(4,.i v7)],[(1,.box 82 [.b d0.neg,.l 1 d0.mag A5]),(3,.box 237 [.ptr 3 0,.suf 39 0 0]),(39,.buf 0 5 1 (l7.map I4))],[kL Ax4 [1,1,1,1,0,1,0,0],.inBlock 0,kC Ax4 [1,1,1,1,1]]⟩:=by
      clear hF;intro nL3
      induction nL3 with
      |zero=>intro v7 l7 hF;cases hF
      |succ nL3 iL3=>
       intro v7 l7 hF
       rw[Ai1]at hF
       refine jI 7 18 hF ?_ ?_<;>intro hF
       ·obtain⟨y56,e56,hF⟩:=bnd hF
        refine jo1 9 (gm (f:=A5) e56) ?_
        refine jB 2 hF Cc5 Ah4 fun y57 hF=> ?_
        refine jI 12 33 hF ?_ ?_<;>intro hF
        ·obtain⟨hb38,hF⟩:=N1 hF
         refine jo1 4 (ck hb38) ?_
         obtain⟨y58,e58,hF⟩:=bnd hF
         refine jcr 0 [(3,2000),(39,2001)] Af1 (O1 e58) ?_
         refine ja 1 (S0:=[(1,.ptr 1 0),(3,.ptr 3 0),(4,.i v7),(5,.s y57)]) (O0:=[(1,.box 82 [.b d0.neg,.l 1 d0.mag A5]),(3,.box 237 [.ptr 3 0,.suf 39 0 0]),(39,.buf 0 5 1 (y58.2.2.map I4))]) (T0:=[kC Ax4 [1,1,1,1,0,1,0,0,1,0,0,1,1],.inBlock 1,kC Ax4 [1,1,1,1,0,1,0,0,1,1],kL Ax4 [1,1,1,1,0,1,0,0],.inBlock 0,kC Ax4 [1,1,1,1,1]]) ?_
         obtain⟨y59,e59,hF⟩:=bnd hF
         refine jcr 2 [(3,2000),(39,2001)] Af1 (O1 e59) ?_
         exact ja 7 (iL3 _ _ hF)
        ·obtain⟨y60,e60,hF⟩:=bnd hF
         refine jcr 4 [(3,2000),(39,2001)] Af1 (O1 e60) ?_
         exact ja 7 (iL3 _ _ hF)
       ·obtain⟨y61,e61,hF⟩:=bnd hF
        refine jcr 4 [(3,2000),(39,2001)] Db9 (Be9 e61) ?_
        cases hF
        exact jr 2
     exact ja 7 (hL3 _ _ _ hF)
   ·cases hF
def F82(fuel:Nat)(d0:A1):Option (List UInt8):=
 Option.bind (Dt3 d0) fun y1=>
 bif y1 then
  (Option.bind (Ct6 fuel d0.n_) fun y2=>
  some y2)
 else
  (Option.bind (Ct6 fuel d0.n_) fun y5=>
  ass (decide (y5.length+[47].length≤4611686018427387904))<|
  Option.bind (Ct6 fuel d0.d) fun y6=>
  ass (decide ((y5++[47]).length+y6.length≤4611686018427387904))<|
  some ((y5++[47])++y6))
theorem Di6{fuel:Nat}{d0:A1}{r:List UInt8}(hF:F82 fuel d0=some r):
 C3 Tryz.prog 82 [.agg [.b d0.n_.neg,.l 1 d0.n_.mag A5,.b d0.d.neg,.l 1 d0.d.mag A5]] (.s r):=by
 unfold F82 at hF
 refine cf 16 Tryz.func82 ?_
 refine jB 9 hF Dz4 Ct5 fun y1 hF=> ?_
 refine jI 1 4 hF ?_ ?_<;>intro hF
 ·refine jB 5 hF Cc7 Ai2 fun y2 hF=> ?_
  cases hF
  exact jr 2
 ·refine jd 3 ?_
  refine dB 2 hF Cc7 Ai2 fun y5 hF=> ?_
  obtain⟨hb4,hF⟩:=N1 hF
  refine do1 0 (ck hb4) ?_
  refine dB 2 hF Cc7 Ai2 fun y6 hF=> ?_
  obtain⟨hb5,hF⟩:=N1 hF
  refine do1 0 (ck hb5) ?_
  refine je 1 ?_
  cases hF
  exact jr 0
def Bl4(fuel:Nat)(d0:List A1):Nat→Int→(List (List UInt8))→Option (List (List UInt8)×Bool)
 |0,_,_=>none
 |nL1+1,v2,l5=>
  bif decide (v2<((d0.map A4).length:Int)) then
   (Option.bind (D6 d0 v2) fun y7=>
   Option.bind (F81 y7 2000) fun y8=>
   bif !y8 then
    (some ([],false))
   else
    (Option.bind (F82 fuel y7) fun y9=>
    Option.bind (app l5 [y9]) fun l6=>
    (Bl4 fuel d0 nL1) (IntKind.i64.wrap (v2+1)) l6))
  else
   (some (l5,true))
def F41(fuel:Nat)(d0:List A1):Option (List (List UInt8)×Bool):=
 Option.bind (mkL 0 ((d0.map A4).length:Int) []) fun l1=>
 Bl4 fuel d0 fuel 0 l1
noncomputable abbrev b41:=C1 Tryz.f41
abbrev G41(r:List (List UInt8)×Bool):=J none Tryz.prog 26 [] (L3 Tryz.prog Tryz.f41 (.tup [.l 1 r.1 e_s,.b r.2]))
theorem Bl5{fuel:Nat}{d0:List A1}{r:List (List UInt8)×Bool}(hF:F41 fuel d0=some r):
 C3 Tryz.prog 41 [.l 4 d0 A4] (.tup [.l 1 r.1 e_s,.b r.2]):=by
 unfold F41 at hF
 refine cf 26 Tryz.func41 ?_
 obtain⟨l1,e1,hF⟩:=bnd hF
 refine jo2 9 (mm (f:=e_s) e1) ?_
 have hL1:∀(nL1:Nat) (v2:Int) (l5:List (List UInt8)),Bl4 fuel d0 nL1 v2 l5=some r→G41 r ⟨mkT [(4,.suf 9 0 0),(10,.l 4 d0 A4),(11,.i ((d0.map A4).length:Int)),(12,.i v2)],[(9,.buf 0 34 1 (l5.map e_s))],[kL b41 [1,1,0,1,0,0],.inBlock 0,kC b41 [1,1,1]]⟩:=by
  clear hF;intro nL1
  induction nL1 with
  |zero=>intro v2 l5 hF;cases hF
  |succ nL1 iL1=>
   intro v2 l5 hF
   rw[Bl4]at hF
   refine jI 6 13 hF ?_ ?_<;>intro hF
   ·obtain⟨y7,e10,hF⟩:=bnd hF
    refine jo1 6 (gm (f:=A4) e10) ?_
    refine jB 8 hF Dr2 Bm2 fun y8 hF=> ?_
    refine jI 2 18 hF ?_ ?_<;>intro hF
    ·cases hF
     exact jr 6
    ·refine jB 5 hF Em1 Di6 fun y9 hF=> ?_
     obtain⟨l6,e13,hF⟩:=bnd hF
     refine jo2 1 (am (f:=e_s) e13) ?_
     exact ja 7 (iL1 _ _ hF)
   ·cases hF
    exact jr 8
 exact ja 11 (hL1 _ _ _ hF)
structure D2 where
 Num:A1
 e:Int
 deriving DecidableEq
def W8(v3:Int):Option Int:=
 some v3
def Aq4(y1:List UInt8):Nat→Int→Option Int
 |0,_=>none
 |nL2+1,v5=>
  bif decide (v5<(((y1.map toI).map I4).length:Int)) then
   (Option.bind (D6 (y1.map toI) v5) fun y12=>
   Option.bind (
    bif decide (y12<48) then
     (some true)
    else
     (some (decide (y12>57)))) fun o8=>
   bif o8 then
    (W8 5)
   else
    ((Aq4 y1 nL2) (IntKind.i64.wrap (v5+1))))
  else
   (bif decide ((y1.length:Int)>2000) then
    (W8 6)
   else
    (W8 0))
def De6(fuel:Nat)(d0:List UInt8):Option Int:=
 Option.bind (Do2 d0 [45]) fun y1=>
 bif d0==[48] then
  (W8 0)
 else
  (Option.bind (
   bif y1==[] then
    (some true)
   else
    (Option.bind (D6 y1 0) fun y13=>
    some ((y13.toNat:Int)==48))) fun o5=>
  bif o5 then
   (W8 5)
  else
   (Aq4 y1 fuel 0))
noncomputable abbrev Ay5:=C1 Tryz.f124
abbrev Dp8(r:Int):=J none Tryz.prog 38 [] (L3 Tryz.prog Tryz.f124 (.i r))
theorem Aq5{fuel:Nat}{d0:List UInt8}{r:Int}(hF:De6 fuel d0=some r):
 C3 Tryz.prog 124 [.s d0] (.i r):=by
 unfold De6 at hF
 refine cf 38 Tryz.func124 ?_
 refine jB 8 hF Dl0 Bw6 fun y1 hF=> ?_
 have hA1:∀(v3:Int),W8 v3=some r→Dp8 r ⟨mkT [(4,.i v3)],[],[kC Ay5 [1,0,1,1,1,1],.inScope (cAt Ay5 [1,0])]⟩:=by
  intro v3 hF
  unfold W8 at hF
  cases hF
  exact jr 5
 refine jI 16 26 hF ?_ ?_<;>intro hF
 ·exact ja 3 (hA1 _ hF)
 ·obtain⟨o5,hO,hF⟩:=bnd hF
  have hR5:Dp8 r ⟨mkT [(3,.s y1),(4,.i 0),(29,.b o5)],[],[kO Ay5 [1,0,1,1,1,0,0,1,1,0],kC Ay5 [1,0,1,1,1,0,0,1,1,1],.inBlock 0,kC Ay5 [1,0,1,1,1,1],.inScope (cAt Ay5 [1,0])]⟩:=by
   clear hO
   refine jI 1 29 hF ?_ ?_<;>intro hF
   ·exact ja 5 (hA1 _ hF)
   ·refine C5 5 (H6 (o:=some (y1.map Z6)) ((y1.map toI).map I4) (by kernel_rfl) (bym (f:=I4) (fun _=>rfl)) ?_)
    have hL2:∀(nL2:Nat) (v5:Int),Aq4 y1 nL2 v5=some r→Dp8 r ⟨mkT [(3,.s y1),(4,.i 0),(10,.l 1 (y1.map toI) I4),(11,.i (((y1.map toI).map I4).length:Int)),(12,.i v5)],[],[kL Ay5 [1,0,1,1,1,0,0,1,1,1,1,0,1,0,0],.inBlock 1,kC Ay5 [1,0,1,1,1,0,0,1,1,1,1,1],.inBlock 0,kC Ay5 [1,0,1,1,1,1],.inScope (cAt Ay5 [1,0])]⟩:=by
     clear hF;intro nL2
     induction nL2 with
     |zero=>intro v5 hF;cases hF
     |succ nL2 iL2=>
      intro v5 hF
      rw[Aq4]at hF
      refine jI 6 13 hF ?_ ?_<;>intro hF
      ·obtain⟨y12,e12,hF⟩:=bnd hF
       refine jo1 6 (gm (f:=I4) e12) ?_
       obtain⟨o8,hO,hF⟩:=bnd hF
       have hR8:Dp8 r ⟨mkT [(3,.s y1),(4,.i 0),(10,.l 1 (y1.map toI) I4),(11,.i (((y1.map toI).map I4).length:Int)),(12,.i v5),(21,.b o8)],[],[kO Ay5 [1,0,1,1,1,0,0,1,1,1,1,0,1,0,0,1,1,0,0,1,0],kC Ay5 [1,0,1,1,1,0,0,1,1,1,1,0,1,0,0,1,1,0,0,1,1],.inBlock 2,kC Ay5 [1,0,1,1,1,0,0,1,1,1,1,0,1,0,0,1,1,1],kL Ay5 [1,0,1,1,1,0,0,1,1,1,1,0,1,0,0],.inBlock 1,kC Ay5 [1,0,1,1,1,0,0,1,1,1,1,1],.inBlock 0,kC Ay5 [1,0,1,1,1,1],.inScope (cAt Ay5 [1,0])]⟩:=by
        clear hO
        refine jI 1 21 hF ?_ ?_<;>intro hF
        ·exact ja 6 (hA1 _ hF)
        ·exact ja 7 (iL2 _ hF)
       clear hF;rename _=some o8=>hF
       refine jI 8 18 hF ?_ ?_<;>intro hF
       ·cases hF
        exact ja 3 hR8
       ·cases hF
        exact ja 3 hR8
      ·refine jI 8 25 hF ?_ ?_<;>intro hF
       ·exact ja 5 (hA1 _ hF)
       ·exact ja 3 (hA1 _ hF)
    exact ja 5 (hL2 _ _ hF)
  clear hF;rename _=some o5=>hF
  refine jI 6 32 hF ?_ ?_<;>intro hF
  ·cases hF
   exact ja 5 hR5
  ·obtain⟨y13,e13,hF⟩:=bnd hF
   refine C5 1 (Z1 (o:=(match D6 y1 0 with|some c=>some [.int .u8 c.toNat]|none=>none)) [.int .u8 y13.toNat] (by kernel_rfl) (by rw[e13]) ?_)
   cases hF
   exact ja 3 hR5
def Dg7(d0:A1):Option (A3×A3):=
 some (d0.n_,d0.d)
theorem Be1{d0:A1}{r:A3×A3}(hF:Dg7 d0=some r):
 C3 Tryz.prog 125 [.agg [.b d0.n_.neg,.l 1 d0.n_.mag A5,.b d0.d.neg,.l 1 d0.d.mag A5]] (.tup [.agg [.b r.1.neg,.l 1 r.1.mag A5],.agg [.b r.2.neg,.l 1 r.2.mag A5]]):=by
 unfold Dg7 at hF
 refine cf 8 Tryz.func125 ?_
 refine jd 7 ?_
 refine je 6 ?_
 cases hF
 exact jr 0
def F70(fuel:Nat)(d0:List UInt8):Option D2:=
 Option.bind (F71 d0 [47]) fun y1=>
 bif !y1.2.2 then
  (Option.bind (
   Option.bind (De6 fuel y1.1) fun y19=>
   bif y19==5 then
    (some true)
   else
    (Option.bind (De6 fuel [49]) fun y20=>
    some (y20==5))) fun o1=>
  bif o1 then
   (some (⟨(⟨(⟨false,[]⟩:A3),(⟨false,[]⟩:A3)⟩:A1),5⟩:D2))
  else
   (Option.bind (F36 fuel d0) fun y6=>
   Option.bind (Dg7 y6) fun y7=>
   Option.bind (F73 fuel 1) fun y8=>
   Option.bind (
    bif y1.2.2 then
     (Option.bind (Cs4 fuel y7.2 y8) fun y16=>
     bif decide (y16≤0) then
      (some true)
     else
      (Option.bind (Dg8 fuel y7.1 y7.2) fun y17=>
      Option.bind (Cs4 fuel y17 y8) fun y18=>
      some (y18 !=0)))
    else
     (some false)) fun o2=>
   bif o2 then
    (some (⟨(⟨(⟨false,[]⟩:A3),(⟨false,[]⟩:A3)⟩:A1),5⟩:D2))
   else
    (Option.bind (F81 y6 2000) fun y15=>
    bif !y15 then
     (some (⟨(⟨(⟨false,[]⟩:A3),(⟨false,[]⟩:A3)⟩:A1),6⟩:D2))
    else
     (some (⟨y6,0⟩:D2)))))
 else
  (Option.bind (
   Option.bind (De6 fuel y1.1) fun y38=>
   bif y38==5 then
    (some true)
   else
    (Option.bind (De6 fuel y1.2.1) fun y39=>
    some (y39==5))) fun o3=>
  bif o3 then
   (some (⟨(⟨(⟨false,[]⟩:A3),(⟨false,[]⟩:A3)⟩:A1),5⟩:D2))
  else
   (Option.bind (F36 fuel d0) fun y25=>
   Option.bind (Dg7 y25) fun y26=>
   Option.bind (F73 fuel 1) fun y27=>
   Option.bind (
    bif y1.2.2 then
     (Option.bind (Cs4 fuel y26.2 y27) fun y35=>
     bif decide (y35≤0) then
      (some true)
     else
      (Option.bind (Dg8 fuel y26.1 y26.2) fun y36=>
      Option.bind (Cs4 fuel y36 y27) fun y37=>
      some (y37 !=0)))
    else
     (some false)) fun o4=>
   bif o4 then
    (some (⟨(⟨(⟨false,[]⟩:A3),(⟨false,[]⟩:A3)⟩:A1),5⟩:D2))
   else
    (Option.bind (F81 y25 2000) fun y34=>
    bif !y34 then
     (some (⟨(⟨(⟨false,[]⟩:A3),(⟨false,[]⟩:A3)⟩:A1),6⟩:D2))
    else
     (some (⟨y25,0⟩:D2)))))
noncomputable abbrev b70:=C1 Tryz.f70
abbrev G70(r:D2):=J none Tryz.prog 61 [] (L3 Tryz.prog Tryz.f70 (.agg [.b r.Num.n_.neg,.l 1 r.Num.n_.mag A5,.b r.Num.d.neg,.l 1 r.Num.d.mag A5,.i r.e]))
theorem By9{fuel:Nat}{d0:List UInt8}{r:D2}(hF:F70 fuel d0=some r):
 C3 Tryz.prog 70 [.s d0] (.agg [.b r.Num.n_.neg,.l 1 r.Num.n_.mag A5,.b r.Num.d.neg,.l 1 r.Num.d.mag A5,.i r.e]):=by
 unfold F70 at hF
 refine cf 61 Tryz.func70 ?_
 refine jB 7 hF Eh3 Cp6 fun y1 hF=> ?_
 refine jI 14 17 hF ?_ ?_<;>intro hF
 ·obtain⟨o1,hO,hF⟩:=bnd hF
  have hR1:G70 r ⟨mkT [(0,.s d0),(2,.ptr 2 0),(5,.b y1.2.2),(25,.b o1)],[(2,.box 131 [.b false,.esl 1,.b false,.esl 1,.i 0])],[kO b70 [1,1,1,0,0],kC b70 [1,1,1,0,1],kC b70 [1,1,1,1]]⟩:=by
   clear hO
   refine jI 1 25 hF ?_ ?_<;>intro hF
   ·cases hF
    exact jr 6
   ·refine jB 5 hF Dq9 Bl0 fun y6 hF=> ?_
    refine jB 8 hF Db0 Be1 fun y7 hF=> ?_
    refine jB 10 hF Dg2 An9 fun y8 hF=> ?_
    obtain⟨o2,hO,hF⟩:=bnd hF
    have hR2:G70 r ⟨mkT [(2,.ptr 2 0),(6,.ptr 6 0),(37,.b o2)],[(2,.box 131 [.b false,.esl 1,.b false,.esl 1,.i 0]),(6,.box 131 [.b y6.n_.neg,.l 1 y6.n_.mag A5,.b y6.d.neg,.l 1 y6.d.mag A5,.i 0])],[kC b70 [1,1,1,1,1,1,1,0,0,1],.inBlock 0,kC b70 [1,1,1,1,1,1,1,1]]⟩:=by
     clear hO
     refine jI 0 37 hF ?_ ?_<;>intro hF
     ·cases hF
      exact jr 6
     ·refine jB 5 hF Dr2 Bm2 fun y15 hF=> ?_
      refine jI 3 54 hF ?_ ?_<;>intro hF
      ·cases hF
       exact jr 6
      ·cases hF
       exact jr 8
    clear hF;rename _=some o2=>hF
    refine jd 6 ?_
    refine dI 2 39 hF ?_ ?_<;>intro hF
    ·refine dB 2 hF Cc6 Ah6 fun y16 hF=> ?_
     refine dI 2 44 hF ?_ ?_<;>intro hF
     ·refine je 9 ?_
      cases hF
      exact ja 0 hR2
     ·refine dB 2 hF Db1 Be2 fun y17 hF=> ?_
      refine dB 1 hF Cc6 Ah6 fun y18 hF=> ?_
      refine je 4 ?_
      cases hF
      exact ja 0 hR2
    ·refine je 14 ?_
     cases hF
     exact ja 0 hR2
  clear hF;rename _=some o1=>hF
  refine jB 8 hF Cm3 Aq5 fun y19 hF=> ?_
  refine jI 2 21 hF ?_ ?_<;>intro hF
  ·cases hF
   exact ja 4 hR1
  ·refine jB 1 hF Cm3 Aq5 fun y20 hF=> ?_
   cases hF
   exact ja 2 hR1
 ·obtain⟨o3,hO,hF⟩:=bnd hF
  have hR3:G70 r ⟨mkT [(0,.s d0),(2,.ptr 2 0),(5,.b y1.2.2),(25,.b o3)],[(2,.box 131 [.b false,.esl 1,.b false,.esl 1,.i 0])],[kO b70 [1,1,1,0,0],kC b70 [1,1,1,0,1],kC b70 [1,1,1,1]]⟩:=by
   clear hO
   refine jI 1 25 hF ?_ ?_<;>intro hF
   ·cases hF
    exact jr 6
   ·refine jB 5 hF Dq9 Bl0 fun y25 hF=> ?_
    refine jB 8 hF Db0 Be1 fun y26 hF=> ?_
    refine jB 10 hF Dg2 An9 fun y27 hF=> ?_
    obtain⟨o4,hO,hF⟩:=bnd hF
    have hR4:G70 r ⟨mkT [(2,.ptr 2 0),(6,.ptr 6 0),(37,.b o4)],[(2,.box 131 [.b false,.esl 1,.b false,.esl 1,.i 0]),(6,.box 131 [.b y25.n_.neg,.l 1 y25.n_.mag A5,.b y25.d.neg,.l 1 y25.d.mag A5,.i 0])],[kC b70 [1,1,1,1,1,1,1,0,0,1],.inBlock 0,kC b70 [1,1,1,1,1,1,1,1]]⟩:=by
     clear hO
     refine jI 0 37 hF ?_ ?_<;>intro hF
     ·cases hF
      exact jr 6
     ·refine jB 5 hF Dr2 Bm2 fun y34 hF=> ?_
      refine jI 3 54 hF ?_ ?_<;>intro hF
      ·cases hF
       exact jr 6
      ·cases hF
       exact jr 8
    clear hF;rename _=some o4=>hF
    refine jd 6 ?_
    refine dI 2 39 hF ?_ ?_<;>intro hF
    ·refine dB 2 hF Cc6 Ah6 fun y35 hF=> ?_
     refine dI 2 44 hF ?_ ?_<;>intro hF
     ·refine je 9 ?_
      cases hF
      exact ja 0 hR4
     ·refine dB 2 hF Db1 Be2 fun y36 hF=> ?_
      refine dB 1 hF Cc6 Ah6 fun y37 hF=> ?_
      refine je 4 ?_
      cases hF
      exact ja 0 hR4
    ·refine je 14 ?_
     cases hF
     exact ja 0 hR4
  clear hF;rename _=some o3=>hF
  refine jB 6 hF Cm3 Aq5 fun y38 hF=> ?_
  refine jI 2 21 hF ?_ ?_<;>intro hF
  ·cases hF
   exact ja 4 hR3
  ·refine jB 1 hF Cm3 Aq5 fun y39 hF=> ?_
   cases hF
   exact ja 2 hR3
def F35(fuel:Nat)(d0:List UInt8):Option Int:=
 Option.bind (F70 fuel d0) fun y1=>
 some y1.e
theorem Di0{fuel:Nat}{d0:List UInt8}{r:Int}(hF:F35 fuel d0=some r):
 C3 Tryz.prog 35 [.s d0] (.i r):=by
 unfold F35 at hF
 refine cf 6 Tryz.func35 ?_
 refine jB 7 hF Ec4 By9 fun y1 hF=> ?_
 cases hF
 exact jr 3
end
section
def Bk6(d0:List (List UInt8))(d1:List (List UInt8)):Nat→Int→Option Bool
 |0,_=>none
 |nL1+1,v2=>
  bif decide (v2<((d0.map e_s).length:Int)) then
   (Option.bind (D6 d0 v2) fun y5=>
   Option.bind (D6 d1 v2) fun y6=>
   bif !(y5==y6) then
    (some false)
   else
    ((Bk6 d0 d1 nL1) (IntKind.i64.wrap (v2+1))))
  else
   (some true)
def F30(fuel:Nat)(d0:List (List UInt8))(d1:List (List UInt8)):Option Bool:=
 bif ((d0.map e_s).length:Int) !=((d1.map e_s).length:Int) then
  (some false)
 else
  (Bk6 d0 d1 fuel 0)
noncomputable abbrev b30:=C1 Tryz.f30
abbrev G30(r:Bool):=J none Tryz.prog 26 [] (L3 Tryz.prog Tryz.f30 (.b r))
theorem Bk7{fuel:Nat}{d0:List (List UInt8)}{d1:List (List UInt8)}{r:Bool}(hF:F30 fuel d0 d1=some r):
 C3 Tryz.prog 30 [.l 1 d0 e_s,.l 1 d1 e_s] (.b r):=by
 unfold F30 at hF
 refine cf 26 Tryz.func30 ?_
 refine jI 13 10 hF ?_ ?_<;>intro hF
 ·cases hF
  exact jr 5
 ·have hL1:∀(nL1:Nat) (v2:Int),Bk6 d0 d1 nL1 v2=some r→G30 r ⟨mkT [(0,.l 1 d0 e_s),(1,.l 1 d1 e_s),(5,.i v2)],[],[kL b30 [1,1,0,1,0,0],.inBlock 0,kC b30 [1,1,1]]⟩:=by
   clear hF;intro nL1
   induction nL1 with
   |zero=>intro v2 hF;cases hF
   |succ nL1 iL1=>
    intro v2 hF
    rw[Bk6]at hF
    refine jI 9 14 hF ?_ ?_<;>intro hF
    ·refine jd 5 ?_
     obtain⟨y5,e5,hF⟩:=bnd hF
     refine do1 2 (gm (f:=e_s) e5) ?_
     obtain⟨y6,e6,hF⟩:=bnd hF
     refine do1 3 (gm (f:=e_s) e6) ?_
     refine je 2 ?_
     refine jI 0 25 hF ?_ ?_<;>intro hF
     ·cases hF
      exact jr 5
     ·exact ja 8 (iL1 _ hF)
    ·cases hF
     exact jr 6
  exact ja 9 (hL1 _ _ hF)
def B1(x:Int):List Dat:=[.int .i64 x]
end
section
theorem Ea7:A8 Tryz.prog 202:=Kx.A6 Tryz.func202 (by kernel_rfl) (by kernel_rfl)
theorem Eb9:A8 Tryz.prog 251:=Kx.A6 Tryz.func251 (by kernel_rfl) (by kernel_rfl)
theorem Ea6:A8 Tryz.prog 201:=Kx.A6 Tryz.func201 (by kernel_rfl) (by kernel_rfl)
theorem Dz6:A8 Tryz.prog 160:=Kx.A6 Tryz.func160 (by kernel_rfl) (by kernel_rfl)
theorem Ea9:A8 Tryz.prog 204:=Kx.A6 Tryz.func204 (by kernel_rfl) (by kernel_rfl)
theorem Ec0:A8 Tryz.prog 252:=Kx.A6 Tryz.func252 (by kernel_rfl) (by kernel_rfl)
theorem Ea8:A8 Tryz.prog 203:=Kx.A6 Tryz.func203 (by kernel_rfl) (by kernel_rfl)
theorem Dz7:A8 Tryz.prog 161:=Kx.A6 Tryz.func161 (by kernel_rfl) (by kernel_rfl)
theorem Dc0:A8 Tryz.prog 205:=Kx.A6 Tryz.func205 (by kernel_rfl) (by kernel_rfl)
theorem Eb1:A8 Tryz.prog 207:=Kx.A6 Tryz.func207 (by kernel_rfl) (by kernel_rfl)
theorem Ec1:A8 Tryz.prog 254:=Kx.A6 Tryz.func254 (by kernel_rfl) (by kernel_rfl)
theorem Eb0:A8 Tryz.prog 206:=Kx.A6 Tryz.func206 (by kernel_rfl) (by kernel_rfl)
theorem Dc4:A8 Tryz.prog 253:=Kx.A6 Tryz.func253 (by kernel_rfl) (by kernel_rfl)
theorem Dz8:A8 Tryz.prog 162:=Kx.A6 Tryz.func162 (by kernel_rfl) (by kernel_rfl)
theorem Ec2:A8 Tryz.prog 255:=Kx.A6 Tryz.func255 (by kernel_rfl) (by kernel_rfl)
theorem Ec3:A8 Tryz.prog 256:=Kx.A6 Tryz.func256 (by kernel_rfl) (by kernel_rfl)
theorem Dc5:A8 Tryz.prog 257:=Kx.A6 Tryz.func257 (by kernel_rfl) (by kernel_rfl)
theorem Dc1:A8 Tryz.prog 208:=Kx.A6 Tryz.func208 (by kernel_rfl) (by kernel_rfl)
theorem Dm6:A8 Tryz.prog 258:=Kx.A6 Tryz.func258 (by kernel_rfl) (by kernel_rfl)
theorem Dm0:A8 Tryz.prog 209:=Kx.A6 Tryz.func209 (by kernel_rfl) (by kernel_rfl)
theorem Dz9:A8 Tryz.prog 163:=Kx.A6 Tryz.func163 (by kernel_rfl) (by kernel_rfl)
theorem Eb2:A8 Tryz.prog 210:=Kx.A6 Tryz.func210 (by kernel_rfl) (by kernel_rfl)
theorem Ea0:A8 Tryz.prog 164:=Kx.A6 Tryz.func164 (by kernel_rfl) (by kernel_rfl)
theorem Dy6:A8 Tryz.prog 109:=Kx.A6 Tryz.func109 (by kernel_rfl) (by kernel_rfl)
theorem Eh1:A8 Tryz.prog 61:=Kx.A6 Tryz.func61 (by kernel_rfl) (by kernel_rfl)
theorem Ea1:A8 Tryz.prog 165:=Kx.A6 Tryz.func165 (by kernel_rfl) (by kernel_rfl)
theorem Dy7:A8 Tryz.prog 110:=Kx.A6 Tryz.func110 (by kernel_rfl) (by kernel_rfl)
theorem El8:A8 Tryz.prog 62:=Kx.A6 Tryz.func62 (by kernel_rfl) (by kernel_rfl)
structure B5 where
 To:Int
 P:List UInt8
 deriving DecidableEq
structure A2 where
 Act:List UInt8
 Gain:List UInt8
 Next:List B5
 deriving DecidableEq
structure B6 where
 Owner:List Int
 Choices:List (List A2)
 deriving DecidableEq
structure B3 where
 Model:B6
 p:Int
 gains:Int
 deriving DecidableEq
def A7(x:B5):List Dat:=[.int .i64 x.To,.str x.P]
def B4(x:A2):List Dat:=[.str x.Act,.str x.Gain,.sl 2 (x.Next.map A7)]
def A0(x:List A2):List Dat:=[.sl 3 (x.map B4)]
def Du1(d0:List A2):Option Bool:=
 Option.bind (
  bif decide (((d0.map B4).length:Int)<1) then
   (some true)
  else
   (some (decide (((d0.map B4).length:Int)>4)))) fun o1=>
 some o1
noncomputable abbrev Ef5:=C1 Tryz.f202
abbrev Ei9(r:Bool):=J none Tryz.prog 11 [] (L3 Tryz.prog Tryz.f202 (.b r))
theorem Cv3{d0:List A2}{r:Bool}(hF:Du1 d0=some r):
 C3 Tryz.prog 202 [.l 3 d0 B4] (.b r):=by
 unfold Du1 at hF
 refine cf 11 Tryz.func202 ?_
 obtain⟨o1,hO,hF⟩:=bnd hF
 have hR1:Ei9 r ⟨mkT [(2,.b o1)],[],[kO Ef5 [1,0],kC Ef5 [1,1]]⟩:=by
  clear hO
  cases hF
  exact jr 1
 clear hF;rename _=some o1=>hF
 refine jI 10 6 hF ?_ ?_<;>intro hF
 ·cases hF
  exact ja 5 hR1
 ·cases hF
  exact ja 5 hR1
def As7(d0:List (List A2)):Nat→Int→Option Int
 |0,_=>none
 |nL1+1,v2=>
  bif decide (v2<((d0.map A0).length:Int)) then
   (Option.bind (D6 d0 v2) fun y5=>
   Option.bind (Du1 y5) fun y6=>
   bif y6 then
    (some v2)
   else
    ((As7 d0 nL1) (IntKind.i64.wrap (v2+1))))
  else
   (some (-1))
def Dv3(fuel:Nat)(d0:List (List A2)):Option Int:=
 As7 d0 fuel 0
noncomputable abbrev Eg1:=C1 Tryz.f251
abbrev Ej7(r:Int):=J none Tryz.prog 19 [] (L3 Tryz.prog Tryz.f251 (.i r))
theorem Cx1{fuel:Nat}{d0:List (List A2)}{r:Int}(hF:Dv3 fuel d0=some r):
 C3 Tryz.prog 251 [.l 1 d0 A0,.d (.fnc 202)] (.i r):=by
 unfold Dv3 at hF
 refine cf 19 Tryz.func251 ?_
 have hL1:∀(nL1:Nat) (v2:Int),As7 d0 nL1 v2=some r→Ej7 r ⟨mkT [(0,.l 1 d0 A0),(1,.d (.fnc 202)),(7,.i ((d0.map A0).length:Int)),(8,.i v2)],[],[kL Eg1 [1,0,1,0,0],.inBlock 0,kC Eg1 [1,1]]⟩:=by
  clear hF;intro nL1
  induction nL1 with
  |zero=>intro v2 hF;cases hF
  |succ nL1 iL1=>
   intro v2 hF
   rw[As7]at hF
   refine jI 6 9 hF ?_ ?_<;>intro hF
   ·obtain⟨y5,e5,hF⟩:=bnd hF
    refine jo1 14 (gm (f:=A0) e5) ?_
    refine jB 1 hF Ea7 Cv3 fun y6 hF=> ?_
    refine jI 1 16 hF ?_ ?_<;>intro hF
    ·cases hF
     exact jr 6
    ·exact ja 7 (iL1 _ hF)
   ·cases hF
    exact jr 6
 exact ja 13 (hL1 _ _ hF)
def Du0(fuel:Nat)(d0:List (List A2)):Option Bool:=
 Option.bind (Dv3 fuel d0) fun y1=>
 some (decide (y1≥0))
theorem Cv2{fuel:Nat}{d0:List (List A2)}{r:Bool}(hF:Du0 fuel d0=some r):
 C3 Tryz.prog 201 [.l 1 d0 A0,.d (.fnc 202)] (.b r):=by
 unfold Du0 at hF
 refine cf 9 Tryz.func201 ?_
 refine jB 8 hF Eb9 Cx1 fun y1 hF=> ?_
 cases hF
 exact jr 3
noncomputable abbrev Ek5:=C1 Tryz.f160
def Du3(d0:Int):Option Bool:=
 Option.bind (
  bif d0 !=0 then
   (some (d0 !=1))
  else
   (some false)) fun o1=>
 some o1
noncomputable abbrev Ef6:=C1 Tryz.f204
abbrev Ej0(r:Bool):=J none Tryz.prog 9 [] (L3 Tryz.prog Tryz.f204 (.b r))
theorem Cv5{d0:Int}{r:Bool}(hF:Du3 d0=some r):
 C3 Tryz.prog 204 [.i d0] (.b r):=by
 unfold Du3 at hF
 refine cf 9 Tryz.func204 ?_
 obtain⟨o1,hO,hF⟩:=bnd hF
 have hR1:Ej0 r ⟨mkT [(2,.b o1)],[],[kO Ef6 [1,0],kC Ef6 [1,1]]⟩:=by
  clear hO
  cases hF
  exact jr 1
 clear hF;rename _=some o1=>hF
 refine jI 9 5 hF ?_ ?_<;>intro hF
 ·cases hF
  exact ja 4 hR1
 ·cases hF
  exact ja 4 hR1
def As8(d0:List Int):Nat→Int→Option Int
 |0,_=>none
 |nL1+1,v2=>
  bif decide (v2<((d0.map B1).length:Int)) then
   (Option.bind (D6 d0 v2) fun y5=>
   Option.bind (Du3 y5) fun y6=>
   bif y6 then
    (some v2)
   else
    ((As8 d0 nL1) (IntKind.i64.wrap (v2+1))))
  else
   (some (-1))
def Dv4(fuel:Nat)(d0:List Int):Option Int:=
 As8 d0 fuel 0
noncomputable abbrev Eg2:=C1 Tryz.f252
abbrev Ej8(r:Int):=J none Tryz.prog 19 [] (L3 Tryz.prog Tryz.f252 (.i r))
theorem Cx2{fuel:Nat}{d0:List Int}{r:Int}(hF:Dv4 fuel d0=some r):
 C3 Tryz.prog 252 [.l 1 d0 B1,.d (.fnc 204)] (.i r):=by
 unfold Dv4 at hF
 refine cf 19 Tryz.func252 ?_
 have hL1:∀(nL1:Nat) (v2:Int),As8 d0 nL1 v2=some r→Ej8 r ⟨mkT [(0,.l 1 d0 B1),(1,.d (.fnc 204)),(7,.i ((d0.map B1).length:Int)),(8,.i v2)],[],[kL Eg2 [1,0,1,0,0],.inBlock 0,kC Eg2 [1,1]]⟩:=by
  clear hF;intro nL1
  induction nL1 with
  |zero=>intro v2 hF;cases hF
  |succ nL1 iL1=>
   intro v2 hF
   rw[As8]at hF
   refine jI 6 9 hF ?_ ?_<;>intro hF
   ·obtain⟨y5,e5,hF⟩:=bnd hF
    refine jo1 14 (gm (f:=B1) e5) ?_
    refine jB 1 hF Ea9 Cv5 fun y6 hF=> ?_
    refine jI 1 16 hF ?_ ?_<;>intro hF
    ·cases hF
     exact jr 6
    ·exact ja 7 (iL1 _ hF)
   ·cases hF
    exact jr 6
 exact ja 13 (hL1 _ _ hF)
def Du2(fuel:Nat)(d0:List Int):Option Bool:=
 Option.bind (Dv4 fuel d0) fun y1=>
 some (decide (y1≥0))
theorem Cv4{fuel:Nat}{d0:List Int}{r:Bool}(hF:Du2 fuel d0=some r):
 C3 Tryz.prog 203 [.l 1 d0 B1,.d (.fnc 204)] (.b r):=by
 unfold Du2 at hF
 refine cf 9 Tryz.func203 ?_
 refine jB 8 hF Ec0 Cx2 fun y1 hF=> ?_
 cases hF
 exact jr 3
def Dh7(d0:B6):Option (List Int×List (List A2)):=
 some (d0.Owner,d0.Choices)
noncomputable abbrev Ek8:=C1 Tryz.f205
theorem Bf0{d0:B6}{r:List Int×List (List A2)}(hF:Dh7 d0=some r):
 F4 Tryz.prog 205 [] [.agg [.l 1 d0.Owner B1,.l 1 d0.Choices A0]] [(2000,.box 26 [.l 1 r.1 B1,.l 1 r.2 A0])] (.fn 253 [] [.ptr 2000 0]):=by
 unfold Dh7 at hF
 refine cr 4 Tryz.func205 ?_
 refine ja 10 (S0:=[(2,.fn 253 [] [.ptr 1 0])]) (O0:=[(1,.box 26 [.l 1 d0.Owner B1,.l 1 d0.Choices A0])]) (T0:=[kC Ek8 [1,1]]) ?_
 refine C5 0 (Ab8 [(1,2000)] (by kernel_rfl) (by kernel_rfl) (by kernel_rfl) (by kernel_rfl) ?_)
 have hF:=oi hF;subst hF
 exact C5 0 (At6 (xs:=[.fn 253 [] [.ptr 2000 0]]) [.fn 253 [] [.ptr 2000 0]] rfl (by kernel_rfl) (by kernel_rfl) (H9.refl _) rfl)
def C4(x:Int×A2):List Kx.V:=[.d (.int .i64 x.1),.agg [.d (.str x.2.Act),.d (.str x.2.Gain),.d (.sl 2 (x.2.Next.map A7))]]
def As9(v6:Int)(y9:List A2)(cL1:Int→Option (List (Int×A2))):Nat→Int→Option (List (Int×A2))
 |0,_=>none
 |nL2+1,v8=>
  bif decide (v8<((y9.map B4).length:Int)) then
   (Option.bind (D6 y9 v8) fun y12=>
   Option.bind (
    (As9 v6 y9 cL1 nL2) (IntKind.i64.wrap (v8+1))) fun l9=>
   some ((v6,y12)::l9))
  else
   (cL1 (IntKind.i64.wrap (v6+1)))
def Ai9(fuel:Nat)(d1:List (List A2)):Nat→Int→Option (List (Int×A2))
 |0,_=>none
 |nL1+1,v6=>
  bif decide (v6<((d1.map A0).length:Int)) then
   (Option.bind (D6 d1 v6) fun y9=>
   As9 v6 y9 (Ai9 fuel d1 nL1) fuel 0)
  else
   (some [])
def Dh9(fuel:Nat)(d0:List Int)(d1:List (List A2)):Option (List (Int×A2)):=
 Ai9 fuel d1 fuel 0
noncomputable abbrev Dq3:=C1 Tryz.f253
theorem Bf3{fuel:Nat}{d0:List Int}{d1:List (List A2)}{r:List (Int×A2)}(hF:Dh9 fuel d0 d1=some r):
 Bs0 Tryz.prog 253 [(2000,.frn 2000)] [.yl 2000,.rp [.sl 1 (d0.map B1),.sl 1 (d1.map A0)] 0] (r.map C4) false:=by
 unfold Dh9 at hF
 refine Bp2 (N:=28) (b:=C1 Tryz.f253) Tryz.func253 (by kernel_rfl) rfl rfl (fun yl_ Inv_ Stop_ Pan_ hR_=> ?_)
 have hL1:∀(nL1:Nat) (r:List (Int×A2)) (v6:Int),Ai9 fuel d1 nL1 v6=some r→J none Tryz.prog 28 [] (Bu0 Tryz.prog Tryz.f253 yl_ Inv_ Stop_ Pan_ false (some (r.map C4))) ⟨mkT [(0,.yl 2000),(8,.l 1 d1 A0),(9,.i ((d1.map A0).length:Int)),(10,.i v6)],[(2000,.frn 2000)],[kL Dq3 [1,0,0],.inBlock 0]⟩:=by
  clear hF;intro nL1
  induction nL1 with
  |zero=>intro r v6 hF;cases hF
  |succ nL1 iL1=>
   intro r v6 hF
   rw[Ai9]at hF
   refine jI 6 11 hF ?_ ?_<;>intro hF
   ·obtain⟨y9,e9,hF⟩:=bnd hF
    refine jo1 7 (gm (f:=A0) e9) ?_
    have hL2:∀(nL2:Nat) (r:List (Int×A2)) (v8:Int),As9 v6 y9 (Ai9 fuel d1 nL1) nL2 v8=some r→J none Tryz.prog 28 [] (Bu0 Tryz.prog Tryz.f253 yl_ Inv_ Stop_ Pan_ false (some (r.map C4))) ⟨mkT [(0,.yl 2000),(3,.i v6),(8,.l 1 d1 A0),(9,.i ((d1.map A0).length:Int)),(10,.i v6),(15,.l 3 y9 B4),(16,.i ((y9.map B4).length:Int)),(17,.i v8)],[(2000,.frn 2000)],[kL Dq3 [1,0,0,1,1,0,0,1,1,0,0],.inBlock 2,.inBlock 1,kC Dq3 [1,0,0,1,1,1],kL Dq3 [1,0,0],.inBlock 0]⟩:=by
     clear hF;intro nL2
     induction nL2 with
     |zero=>intro r v8 hF;cases hF
     |succ nL2 iL2=>
      intro r v8 hF
      rw[As9]at hF
      refine jI 6 18 hF ?_ ?_<;>intro hF
      ·obtain⟨y12,e12,hF⟩:=bnd hF
       refine jo1 6 (gm (f:=B4) e12) ?_
       obtain⟨l9,hY_,hr_⟩:=bnd hF
       clear hF;have hr_:=Option.some.inj hr_;subst hr_;have hF:=hY_;clear hY_
       refine C5 9 (Bf6 hR_ (xs:=[.i v6,.agg [.s y12.Act,.s y12.Gain,.l 2 y12.Next A7]]) [.i v6,.agg [.s y12.Act,.s y12.Gain,.l 2 y12.Next A7]] (ys:=l9.map C4) (by kernel_rfl) (by kernel_rfl) (H9.refl _) ?_ ?_)
       rotate_left
       ·exact C5 3 (Aj3 hR_ (.inr rfl) rfl rfl (by kernel_rfl))
       ·exact ja 9 (iL2 _ _ hF)
      ·exact ja 7 (iL1 _ _ hF)
    exact ja 12 (hL2 _ _ _ hF)
   ·have hF:=oi hF;subst hF
    exact C5 2 (Aj3 hR_ (.inl ⟨rfl,rfl⟩) rfl rfl (by kernel_rfl))
 exact ja 9 (hL1 _ _ _ hF)
def Du4(d0:Int):Option Bool:=
 Option.bind (
  bif decide (d0<97) then
   (some true)
  else
   (some (decide (d0>122)))) fun o1=>
 some o1
noncomputable abbrev Ef7:=C1 Tryz.f207
abbrev Ej1(r:Bool):=J none Tryz.prog 9 [] (L3 Tryz.prog Tryz.f207 (.b r))
theorem Cv7{d0:Int}{r:Bool}(hF:Du4 d0=some r):
 C3 Tryz.prog 207 [.y d0] (.b r):=by
 unfold Du4 at hF
 refine cf 9 Tryz.func207 ?_
 obtain⟨o1,hO,hF⟩:=bnd hF
 have hR1:Ej1 r ⟨mkT [(2,.b o1)],[],[kO Ef7 [1,0],kC Ef7 [1,1]]⟩:=by
  clear hO
  cases hF
  exact jr 1
 clear hF;rename _=some o1=>hF
 refine jI 9 5 hF ?_ ?_<;>intro hF
 ·cases hF
  exact ja 4 hR1
 ·cases hF
  exact ja 4 hR1
def At0(d0:List Int):Nat→Int→Option Int
 |0,_=>none
 |nL1+1,v2=>
  bif decide (v2<((d0.map I4).length:Int)) then
   (Option.bind (D6 d0 v2) fun y5=>
   Option.bind (Du4 y5) fun y6=>
   bif y6 then
    (some v2)
   else
    ((At0 d0 nL1) (IntKind.i64.wrap (v2+1))))
  else
   (some (-1))
def Dv5(fuel:Nat)(d0:List Int):Option Int:=
 At0 d0 fuel 0
noncomputable abbrev Eg3:=C1 Tryz.f254
abbrev Ej9(r:Int):=J none Tryz.prog 19 [] (L3 Tryz.prog Tryz.f254 (.i r))
theorem Cx3{fuel:Nat}{d0:List Int}{r:Int}(hF:Dv5 fuel d0=some r):
 C3 Tryz.prog 254 [.l 1 d0 I4,.d (.fnc 207)] (.i r):=by
 unfold Dv5 at hF
 refine cf 19 Tryz.func254 ?_
 have hL1:∀(nL1:Nat) (v2:Int),At0 d0 nL1 v2=some r→Ej9 r ⟨mkT [(0,.l 1 d0 I4),(1,.d (.fnc 207)),(7,.i ((d0.map I4).length:Int)),(8,.i v2)],[],[kL Eg3 [1,0,1,0,0],.inBlock 0,kC Eg3 [1,1]]⟩:=by
  clear hF;intro nL1
  induction nL1 with
  |zero=>intro v2 hF;cases hF
  |succ nL1 iL1=>
   intro v2 hF
   rw[At0]at hF
   refine jI 6 9 hF ?_ ?_<;>intro hF
   ·obtain⟨y5,e5,hF⟩:=bnd hF
    refine jo1 14 (gm (f:=I4) e5) ?_
    refine jB 1 hF Eb1 Cv7 fun y6 hF=> ?_
    refine jI 1 16 hF ?_ ?_<;>intro hF
    ·cases hF
     exact jr 6
    ·exact ja 7 (iL1 _ hF)
   ·cases hF
    exact jr 6
 exact ja 13 (hL1 _ _ hF)
def Do9(fuel:Nat)(d0:List Int):Option Bool:=
 Option.bind (Dv5 fuel d0) fun y1=>
 some (decide (y1≥0))
theorem Cv6{fuel:Nat}{d0:List Int}{r:Bool}(hF:Do9 fuel d0=some r):
 C3 Tryz.prog 206 [.l 1 d0 I4,.d (.fnc 207)] (.b r):=by
 unfold Do9 at hF
 refine cf 9 Tryz.func206 ?_
 refine jB 8 hF Ec1 Cx3 fun y1 hF=> ?_
 cases hF
 exact jr 3
def Cu0:Option Bool:=
 some false
def Cu1(fuel:Nat):List (Int×A2)→Option Bool
 |[]=>
  some true
 |y6::ys_F162_L1=>
  Option.bind (
   bif decide ((y6.2.Act.length:Int)>8) then
    (some true)
   else
    (Option.bind (Do9 fuel (y6.2.Act.map toI)) fun y9=>
    some y9)) fun o2=>
  bif o2 then
   (Cu0)
  else
   ((Cu1 fuel ys_F162_L1))
noncomputable abbrev Bg1:=C1 Tryz.f162
def Dv6(fuel:Nat)(d0:List UInt8):Option Bool:=
 Option.bind (F70 fuel d0) fun y1=>
 Option.bind (
  bif y1.e==0 then
   (Option.bind (F81 y1.Num 4) fun y4=>
   some y4)
  else
   (some false)) fun o1=>
 some o1
noncomputable abbrev Eg4:=C1 Tryz.f255
abbrev Ek0(r:Bool):=J none Tryz.prog 14 [] (L3 Tryz.prog Tryz.f255 (.b r))
theorem Cx4{fuel:Nat}{d0:List UInt8}{r:Bool}(hF:Dv6 fuel d0=some r):
 C3 Tryz.prog 255 [.s d0] (.b r):=by
 unfold Dv6 at hF
 refine cf 14 Tryz.func255 ?_
 refine jB 7 hF Ec4 By9 fun y1 hF=> ?_
 obtain⟨o1,hO,hF⟩:=bnd hF
 have hR1:Ek0 r ⟨mkT [(2,.b o1)],[],[kO Eg4 [1,1,0],kC Eg4 [1,1,1]]⟩:=by
  clear hO
  cases hF
  exact jr 1
 clear hF;rename _=some o1=>hF
 refine jI 9 9 hF ?_ ?_<;>intro hF
 ·refine jB 2 hF Dr2 Bm2 fun y4 hF=> ?_
  cases hF
  exact ja 2 hR1
 ·cases hF
  exact ja 5 hR1
def Dv7(fuel:Nat)(d0:List UInt8):Option (List UInt8×List UInt8×Int):=
 Option.bind (F70 fuel d0) fun y1=>
 bif y1.e !=0 then
  (some ([],[],y1.e))
 else
  (Option.bind (Dg7 y1.Num) fun y2=>
  Option.bind (Ct6 fuel y2.1) fun y5=>
  Option.bind (Ct6 fuel y2.2) fun y6=>
  some (y5,y6,0))
theorem Cx5{fuel:Nat}{d0:List UInt8}{r:List UInt8×List UInt8×Int}(hF:Dv7 fuel d0=some r):
 C3 Tryz.prog 256 [.s d0] (.tup [.s r.1,.s r.2.1,.i r.2.2]):=by
 unfold Dv7 at hF
 refine cf 25 Tryz.func256 ?_
 refine jB 9 hF Ec4 By9 fun y1 hF=> ?_
 refine jI 10 12 hF ?_ ?_<;>intro hF
 ·refine jd 2 ?_
  refine je 5 ?_
  cases hF
  exact jr 0
 ·refine jB 6 hF Db0 Be1 fun y2 hF=> ?_
  refine jd 9 ?_
  refine dB 1 hF Cc7 Ai2 fun y5 hF=> ?_
  refine dB 1 hF Cc7 Ai2 fun y6 hF=> ?_
  refine je 3 ?_
  cases hF
  exact jr 0
def At1(d0:List UInt8):Nat→Int→Int→Option Int
 |0,_,_=>none
 |nL1+1,v3,v4=>
  bif decide (v4<(d0.length:Int)) then
   (Option.bind (D6 d0 v4) fun y5=>
   (At1 d0 nL1) (IntKind.i64.wrap ((IntKind.i64.wrap (10*v3))+(IntKind.i64.wrap (IntKind.u8.wrap ((y5.toNat:Int)-48))))) (IntKind.i64.wrap (v4+1)))
  else
   (some v3)
def Df1:Nat→(List UInt8)→Option Int
 |0,_=>none
 |fuel+1,d0=>
  Option.bind (D6 d0 0) fun y1=>
  bif (y1.toNat:Int)==45 then
   (ass (decide (0≤1)&&decide (1≤(d0.length:Int))&&decide ((d0.length:Int)≤d0.length))<|
   Option.bind ((Df1 fuel) ((d0.drop (Int.toNat 1)).take (Int.toNat ((d0.length:Int)-1)))) fun y2=>
   some (IntKind.i64.wrap (0-y2)))
  else
   (At1 d0 fuel 0 0)
noncomputable abbrev Eg5:=C1 Tryz.f257
abbrev Ek1(r:Int):=J none Tryz.prog 27 [] (L3 Tryz.prog Tryz.f257 (.i r))
theorem By5:∀{fuel:Nat} {d0:List UInt8} {r:Int},Df1 fuel d0=some r→C3 Tryz.prog 257 [.s d0] (.i r):=by
 intro fuel
 induction fuel with
 |zero=>intro _ r hF;cases hF
 |succ fuel ih=>
  intro d0 r hF
  have ih_F257:∀(d0:List UInt8) (r:Int),Df1 fuel d0=some r→C3 Tryz.prog 257 [.s d0] (.i r):=fun d0 r h=>ih h
  rw[Df1]at hF
  refine cf 27 Tryz.func257 ?_
  obtain⟨y1,e1,hF⟩:=bnd hF
  refine C5 8 (Z1 (o:=(match D6 d0 0 with|some c=>some [.int .u8 c.toNat]|none=>none)) [.int .u8 y1.toNat] (by kernel_rfl) (by rw[e1]) ?_)
  refine jI 2 7 hF ?_ ?_<;>intro hF
  ·obtain⟨hb2,hF⟩:=N1 hF
   refine jo1 4 (ck hb2) ?_
   obtain⟨y2,e2,hF⟩:=bnd hF
   refine jc 0 Dc5 (ih_F257 _ _ e2) ?_
   cases hF
   exact jr 3
  ·have hL1:∀(nL1:Nat) (v3:Int) (v4:Int),At1 d0 nL1 v3 v4=some r→Ek1 r ⟨mkT [(0,.s d0),(3,.i v3),(13,.i (d0.length:Int)),(14,.i v4)],[],[kL Eg5 [1,1,1,0,1,0,0],.inBlock 0,kC Eg5 [1,1,1,1]]⟩:=by
    clear hF;intro nL1
    induction nL1 with
    |zero=>intro v3 v4 hF;cases hF
    |succ nL1 iL1=>
     intro v3 v4 hF
     rw[At1]at hF
     refine jI 6 15 hF ?_ ?_<;>intro hF
     ·obtain⟨y5,e5,hF⟩:=bnd hF
      refine C5 14 (Z1 (o:=(match D6 d0 v4 with|some c=>some [.int .u8 c.toNat]|none=>none)) [.int .u8 y5.toNat] (by kernel_rfl) (by rw[e5]) ?_)
      exact ja 10 (iL1 _ _ hF)
     ·cases hF
      exact jr 7
   exact ja 15 (hL1 _ _ _ hF)
def Cp0(fuel:Nat)(d0:List UInt8):Option (Int×Int×Bool):=
 Option.bind (Dv6 fuel d0) fun y1=>
 bif !y1 then
  (some (0,0,false))
 else
  (Option.bind (Dv7 fuel d0) fun y2=>
  Option.bind (Df1 fuel y2.1) fun y3=>
  Option.bind (Df1 fuel y2.2.1) fun y4=>
  some (y3,y4,y2.2.2==0))
theorem Bf1{fuel:Nat}{d0:List UInt8}{r:Int×Int×Bool}(hF:Cp0 fuel d0=some r):
 C3 Tryz.prog 208 [.s d0] (.tup [.i r.1,.i r.2.1,.b r.2.2]):=by
 unfold Cp0 at hF
 refine cf 23 Tryz.func208 ?_
 refine jB 10 hF Ec2 Cx4 fun y1 hF=> ?_
 refine jI 2 10 hF ?_ ?_<;>intro hF
 ·cases hF
  exact jr 7
 ·refine jB 5 hF Ec3 Cx5 fun y2 hF=> ?_
  refine jB 11 hF Dc5 By5 fun y3 hF=> ?_
  refine jB 1 hF Dc5 By5 fun y4 hF=> ?_
  cases hF
  exact jr 6
def At2:Nat→Int→Int→Option Int
 |0,_,_=>none
 |nL1+1,v3,v4=>
  bif decide (v4>0) then
   (ass (decide (v4≠0))<|
   (At2 nL1) v4 (Int.tmod v3 v4))
  else
   (some v3)
def Df2(fuel:Nat)(d0:Int)(d1:Int):Option Int:=
 At2 fuel d0 d1
noncomputable abbrev Eg6:=C1 Tryz.f258
abbrev Ek2(r:Int):=J none Tryz.prog 12 [] (L3 Tryz.prog Tryz.f258 (.i r))
theorem By6{fuel:Nat}{d0:Int}{d1:Int}{r:Int}(hF:Df2 fuel d0 d1=some r):
 C3 Tryz.prog 258 [.i d0,.i d1] (.i r):=by
 unfold Df2 at hF
 refine cf 12 Tryz.func258 ?_
 have hL1:∀(nL1:Nat) (v3:Int) (v4:Int),At2 nL1 v3 v4=some r→Ek2 r ⟨mkT [(0,.i v3),(1,.i v4)],[],[kL Eg6 [1,0,0,0],.inBlock 0,kC Eg6 [1,1]]⟩:=by
  clear hF;intro nL1
  induction nL1 with
  |zero=>intro v3 v4 hF;cases hF
  |succ nL1 iL1=>
   intro v3 v4 hF
   rw[At2]at hF
   refine jI 7 6 hF ?_ ?_<;>intro hF
   ·refine jd 3 ?_
    obtain⟨hb6,hF⟩:=N1 hF
    refine do1 3 (ck hb6) ?_
    refine je 2 ?_
    exact ja 1 (iL1 _ _ hF)
   ·cases hF
    exact jr 7
 exact ja 7 (hL1 _ _ _ hF)
def Ei0(fuel:Nat)(d0:Int)(d1:List Int)(d2:List (List A2))(d3:Int)(d4:Int):Option (Bool×Int):=
 Option.bind (Df2 fuel d4 d0) fun y1=>
 ass (decide (y1≠0))<|
 some (decide ((IntKind.i64.wrap ((IntKind.i64.wrap (Int.tdiv d4 y1))*d0))≤9999),IntKind.i64.wrap ((IntKind.i64.wrap (Int.tdiv d4 y1))*d0))
def Cu3(v5:Int):Option (Bool×Int):=
 some (false,v5)
def Cu4(fuel:Nat)(d0:List Int)(d1:List (List A2))(d2:Int):List (Int×A2)→Int→Option (Bool×Int)
 |[],v4=>
  some (true,v4)
 |y12::ys_F163_L1,v4=>
  Option.bind (Cp0 fuel y12.2.Gain) fun y13=>
  Option.bind (
   bif !y13.2.2 then
    (some (true,v4))
   else
    (bif decide (y13.1<0) then
     (some (true,v4))
    else
     (Option.bind (Ei0 fuel y13.2.1 d0 d1 d2 v4) fun y16=>
     some (!y16.1,y16.2)))) fun o3=>
  bif o3.1 then
   (Cu3 o3.2)
  else
   ((Cu4 fuel d0 d1 d2 ys_F163_L1) o3.2)
noncomputable abbrev Bg2:=C1 Tryz.f163
def Du5(fuel:Nat)(d0:Int)(d1:List Int)(d2:List (List A2))(d3:Int)(d4:Int):Option (Bool×Int):=
 Option.bind (Df2 fuel d3 d0) fun y1=>
 ass (decide (y1≠0))<|
 some (decide ((IntKind.i64.wrap ((IntKind.i64.wrap (Int.tdiv d3 y1))*d0))≤9999),IntKind.i64.wrap ((IntKind.i64.wrap (Int.tdiv d3 y1))*d0))
def Bx9(fuel:Nat)(d0:List B5)(v8:Int):Nat→Int→Int→Option (Bool×Int)
 |0,_,_=>none
 |nL2+1,v12,v13=>
  bif decide (v13<((d0.map A7).length:Int)) then
   (Option.bind (D6 d0 v13) fun y20=>
   Option.bind (Cp0 fuel y20.P) fun y21=>
   ass (decide (y21.2.1≠0))<|
   (Bx9 fuel d0 v8 nL2) (IntKind.i64.wrap (v12+(IntKind.i64.wrap (y21.1*(IntKind.i64.wrap (Int.tdiv v8 y21.2.1)))))) (IntKind.i64.wrap (v13+1)))
  else
   (some (v12==v8,v8))
def Cw0(fuel:Nat)(d0:List B5)(d1:List Int)(d2:List (List A2))(d4:Int):Nat→Int→Int→Int→Option (Bool×Int)
 |0,_,_,_=>none
 |nL1+1,v6,v7,v8=>
  bif decide (v7<((d0.map A7).length:Int)) then
   (Option.bind (D6 d0 v7) fun y11=>
   Option.bind (Cp0 fuel y11.P) fun y12=>
   Option.bind (
    bif decide (y11.To≤v6) then
     (some (true,v8))
    else
     (bif decide (y11.To≥((d1.map B1).length:Int)) then
      (some (true,v8))
     else
      (bif !y12.2.2 then
       (some (true,v8))
      else
       (bif decide (y12.1<1) then
        (some (true,v8))
       else
        (Option.bind (Du5 fuel y12.2.1 d1 d2 v8 d4) fun y15=>
        some (!y15.1,y15.2)))))) fun o3=>
   bif o3.1 then
    (some (false,o3.2))
   else
    ((Cw0 fuel d0 d1 d2 d4 nL1) y11.To (IntKind.i64.wrap (v7+1)) o3.2))
  else
   (Bx9 fuel d0 v8 fuel 0 0)
noncomputable abbrev Ck8:=C1 Tryz.f210
noncomputable abbrev Bs8:=C1 Tryz.f164
def Ct8(fuel:Nat)(d0:List Int)(d1:List (List A2))(d2:Int)(d3:Int):Option Bool:=
 Option.bind (
  bif decide (((d0.map B1).length:Int)≥1) then
   (bif decide (((d0.map B1).length:Int)≤12) then
    (bif ((d1.map A0).length:Int)==((d0.map B1).length:Int) then
     (Option.bind (Du0 fuel d1) fun y3=>
     some (!y3))
    else
     (some false))
   else
    (some false))
  else
   (some false)) fun o1=>
 some o1
abbrev Dw3(d0:List Int)(d1:List (List A2))(d2:Int)(d3:Int)(r:Bool):=J none Tryz.prog 43 [] (Bd8 Tryz.prog Tryz.f160 [(2000,.box 217 [.l 1 d0 B1,.l 1 d1 A0,.i d2,.i d3])] (.b r))
theorem Ci9{fuel:Nat}{d0:List Int}{d1:List (List A2)}{d2:Int}{d3:Int}{r:Bool}(hF:Ct8 fuel d0 d1 d2 d3=some r):
 F4 Tryz.prog 160 [(2000,.box 217 [.l 1 d0 B1,.l 1 d1 A0,.i d2,.i d3])] [.ptr 2000 0] [(2000,.box 217 [.l 1 d0 B1,.l 1 d1 A0,.i d2,.i d3])] (.b r):=by
 unfold Ct8 at hF
 refine cr 43 Tryz.func160 ?_
 obtain⟨o1,hO,hF⟩:=bnd hF
 have hR1:Dw3 d0 d1 d2 d3 r ⟨mkT [(2,.b o1)],[(2000,.box 217 [.l 1 d0 B1,.l 1 d1 A0,.i d2,.i d3])],[kC Ek5 [1,1]]⟩:=by
  clear hO
  cases hF
  exact jrr 0
 clear hF;rename _=some o1=>hF
 refine jd 5 ?_
 refine dI 8 10 hF ?_ ?_<;>intro hF
 ·refine dI 9 19 hF ?_ ?_<;>intro hF
  ·refine dI 15 34 hF ?_ ?_<;>intro hF
   ·refine dB 5 hF Ea6 Cv2 fun y3 hF=> ?_
    refine je 3 ?_
    cases hF
    exact ja 0 hR1
   ·refine je 9 ?_
    cases hF
    exact ja 0 hR1
  ·refine je 24 ?_
   cases hF
   exact ja 0 hR1
 ·refine je 33 ?_
  cases hF
  exact ja 0 hR1
def Ct9(fuel:Nat)(d0:List Int)(d1:List (List A2))(d2:Int)(d3:Int):Option Bool:=
 Option.bind (Du2 fuel d0) fun y1=>
 some (!y1)
theorem Cj0{fuel:Nat}{d0:List Int}{d1:List (List A2)}{d2:Int}{d3:Int}{r:Bool}(hF:Ct9 fuel d0 d1 d2 d3=some r):
 F4 Tryz.prog 161 [(2000,.box 217 [.l 1 d0 B1,.l 1 d1 A0,.i d2,.i d3])] [.ptr 2000 0] [(2000,.box 217 [.l 1 d0 B1,.l 1 d1 A0,.i d2,.i d3])] (.b r):=by
 unfold Ct9 at hF
 refine cr 10 Tryz.func161 ?_
 refine jB 11 hF Ea8 Cv4 fun y1 hF=> ?_
 cases hF
 exact jrr 3
def Ar5:Option Bool:=
 some false
def Y7(fuel:Nat):List (Int×A2)→Option Bool
 |[]=>
  some true
 |y6::ys_F162a_L1=>
  Option.bind (
   bif decide ((y6.2.Act.length:Int)>8) then
    (some true)
   else
    (Option.bind (Do9 fuel (y6.2.Act.map toI)) fun y9=>
    some y9)) fun o2=>
  bif o2 then
   (Ar5)
  else
   ((Y7 fuel ys_F162a_L1))
def Cu2(fuel:Nat)(d0:List Int)(d1:List (List A2))(d2:Int)(d3:Int):Option Bool:=
 Option.bind (Dh7 (⟨d0,d1⟩:B6)) fun y1=>
 Option.bind (Dh9 fuel y1.1 y1.2) fun ys1=>
 Y7 fuel ys1
theorem Cj1{fuel:Nat}{d0:List Int}{d1:List (List A2)}{d2:Int}{d3:Int}{r:Bool}(hF:Cu2 fuel d0 d1 d2 d3=some r):
 F4 Tryz.prog 162 [(2000,.box 217 [.l 1 d0 B1,.l 1 d1 A0,.i d2,.i d3])] [.ptr 2000 0] [(2000,.box 217 [.l 1 d0 B1,.l 1 d1 A0,.i d2,.i d3])] (.b r):=by
 unfold Cu2 at hF
 refine At9 (N:=22) (b:=C1 Tryz.f162) Tryz.func162 (by kernel_rfl) rfl rfl (by kernel_rfl) (fun s_ r0_ w00_ M00_ st_=> ?_)
 obtain⟨y1,e1,hF⟩:=bnd hF
 refine jcr 11 [(9,2000)] Dc0 (Bf0 e1) ?_
 refine ja 2 (S0:=[(2,.ptr 2 0),(9,.fn 253 [] [.ptr 9 0])]) (O0:=[(2,.box 4 [.b false]),(9,.box 26 [.l 1 y1.1 B1,.l 1 y1.2 A0]),(2000,.box 217 [.l 1 d0 B1,.l 1 d1 A0,.i d2,.i d3])]) (T0:=[kC Bg1 [1,0,1,0],.inBlock 0,kC Bg1 [1,1]]) ?_
 refine Ab8 [(9,9),(2000,2000),(2,2100)] (by kernel_rfl) (by kernel_rfl) (by kernel_rfl) (by kernel_rfl) ?_
 refine Bf5 (S0:=[(2,.ptr 2100 0),(9,.fn 253 [] [.ptr 9 0])]) (O0:=[(9,.box 26 [.l 1 y1.1 B1,.l 1 y1.2 A0]),(2000,.box 217 [.l 1 d0 B1,.l 1 d1 A0,.i d2,.i d3]),(2100,.box 4 [.b false])]) (T0:=[kC Bg1 [1,0,1,0],.inBlock 0,kC Bg1 [1,1]]) [2,9] [9,2000,2100] (by kernel_rfl) rfl ?_
 obtain⟨ys1,e2,hF⟩:=bnd hF
 obtain⟨G_,hG_⟩:∃G:List (List Kx.V)→List (Nat×B7)→Prop,G=(fun yv ob=>∃(yl_:List (Int×A2)),yv=yl_.map C4∧ob=[(2000,.box 217 [.l 1 d0 B1,.l 1 d1 A0,.i d2,.i d3]),(2100,.box 4 [.b false])]∧Y7 fuel yl_=some r):=⟨_,rfl⟩
 obtain⟨GX_,hGX_⟩:∃G:Code→List (Nat×B7)→Prop,G=(fun j ob=>(∃(_:Unit),j= .ret∧ob=[(2000,.box 217 [.l 1 d0 B1,.l 1 d1 A0,.i d2,.i d3]),(2100,.box 4 [.b false])]∧Ar5=some r)):=⟨_,rfl⟩
 refine Aj5 (P:=Tryz.prog) (g:=(.tmp 9)) (ps:= #[10,11]) (asg:=(cAt Bg1 [1,0,1,0,0])) (bo:=(cAt Bg1 [1,0,1,0,1])) (k:=[.inBlock 0,kC Bg1 [1,1]]) (gf:=253) (first:=[]) (cap:=[.ptr 9 0]) (xs:=[.rp [.sl 1 (y1.1.map B1),.sl 1 (y1.2.map A0)] 0]) (os:=[]) (S1:=[(2,.ptr 2100 0)]) (ob0:=[(2000,.box 217 [.l 1 d0 B1,.l 1 d1 A0,.i d2,.i d3]),(2100,.box 4 [.b false])]) [] [2] [2000,2100] [.rp [.sl 1 (y1.1.map B1),.sl 1 (y1.2.map A0)] 0] (ysAll:=ys1.map C4) [2000,2100] G_ GX_ rfl (by kernel_rfl) rfl (by kernel_rfl) rfl (by kernel_rfl) (H9.refl _) Dc4 (Bf3 e2) (by kernel_rfl) (by kernel_rfl) (by kernel_rfl) ?_ ?_ ?_ ⟨by kernel_rfl,by kernel_rfl⟩ ?_ ?_ ?_
 ·rw[hG_];exact⟨ys1,rfl,by kernel_rfl,hF⟩
 ·intro yv_ ob_ h_;rw[hG_]at h_;obtain⟨_,_,rfl,_⟩:=h_;kernel_rfl
 ·intro j_ ob_ h_;rw[hGX_]at h_;rcases h_ with⟨_,_,rfl,_⟩<;>kernel_rfl
 ·intro x_ hxa_ hxb_ hxp_ yv_ ysv_ ob_ h_;rw[hG_]at h_
  obtain⟨yl_,hy_,rfl,hF⟩:=h_
  cases yl_ with
  |nil=>cases hy_
  |cons y6 ys_F162a_L1=>
   cases hy_;rw[Y7]at hF
   refine Bi4 (by kernel_rfl) ?_
   refine Bf5 (S0:=[(2,.ptr 2100 0),(10,.i y6.1),(11,.agg [.s y6.2.Act,.s y6.2.Gain,.l 2 y6.2.Next A7])]) (O0:=[(3000,.raw x_.D (.deferred (some []))),(3001,.raw x_.L (.loop (E0 x_ .ready none))),(2000,.box 217 [.l 1 d0 B1,.l 1 d1 A0,.i d2,.i d3]),(2100,.box 4 [.b false])]) (T0:=[kC Bg1 [1,0,1,0,0],.begR x_.L,kC Bg1 [1,0,1,0,1]]) [2,10,11] [3000,3001,2000,2100] (by kernel_rfl) rfl ?_
   refine ja 4 (S0:=[(2,.ptr 2100 0),(4,.ptr 4 0),(10,.i y6.1),(11,.agg [.s y6.2.Act,.s y6.2.Gain,.l 2 y6.2.Next A7])]) (O0:=[(3000,.raw x_.D (.deferred (some []))),(3001,.raw x_.L (.loop (E0 x_ .ready none))),(4,.box 41 [.s y6.2.Act,.s y6.2.Gain,.l 2 y6.2.Next A7]),(2000,.box 217 [.l 1 d0 B1,.l 1 d1 A0,.i d2,.i d3]),(2100,.box 4 [.b false])]) (T0:=[.begR x_.L,kC Bg1 [1,0,1,0,1]]) ?_
   refine Aj2 (l:=x_.L) (q:=3001) (k:=[kC Bg1 [1,0,1,0,1]]) (rec:=E0 x_ .ready none) rfl rfl rfl ?_
   obtain⟨o2,hO,hF⟩:=bnd hF
   have hR2:J (some x_.L) Tryz.prog 22 [] (Ch9 x_ G_ GX_ (fun _=>False) (ys_F162a_L1.map C4)) ⟨mkT [(2,.ptr 2100 0),(21,.b o2)],[(3000,.raw x_.D (.deferred (some []))),(3001,.raw x_.L (.loop (E0 x_ .busy none))),(2000,.box 217 [.l 1 d0 B1,.l 1 d1 A0,.i d2,.i d3]),(2100,.box 4 [.b false])],[kO Bg1 [1,0,1,0,1,0,0],kC Bg1 [1,0,1,0,1,0,1],.inBlock 1]⟩:=by
    clear hO
    refine jI 1 21 hF ?_ ?_<;>intro hF
    ·refine ja 5 (S0:=[]) (O0:=rob x_ .busy none [(2000,.box 217 [.l 1 d0 B1,.l 1 d1 A0,.i d2,.i d3]),(2100,.box 4 [.b false])]) (T0:=[.code (.ret),.inBlock 1]) ?_
     exact Bm8 rfl [(2000,.box 217 [.l 1 d0 B1,.l 1 d1 A0,.i d2,.i d3]),(2100,.box 4 [.b false])] (k:=[.inBlock 1]) rfl rfl rfl (by kernel_rfl) (by rw[hGX_];exact⟨(),rfl,rfl,hF⟩)
    ·refine ja 3 (S0:=[]) (O0:=rob x_ .busy none [(2000,.box 217 [.l 1 d0 B1,.l 1 d1 A0,.i d2,.i d3]),(2100,.box 4 [.b false])]) (T0:=[]) ?_
     exact Aj4 rfl [(2000,.box 217 [.l 1 d0 B1,.l 1 d1 A0,.i d2,.i d3]),(2100,.box 4 [.b false])] rfl rfl (by kernel_rfl) (by rw[hG_];exact⟨ys_F162a_L1,rfl,rfl,hF⟩)
   clear hF;rename _=some o2=>hF
   refine jI 8 16 hF ?_ ?_<;>intro hF
   ·cases hF
    exact ja 5 hR2
   ·refine C5 2 (H6 (o:=some (y6.2.Act.map Z6)) ((y6.2.Act.map toI).map I4) (by kernel_rfl) (bym (f:=I4) (fun _=>rfl)) ?_)
    refine jB 0 hF Eb0 Cv6 fun y9 hF=> ?_
    cases hF
    exact ja 1 hR2
 ·intro D_ ob_ h_;rw[hG_]at h_
  obtain⟨yl_,hy_,rfl,hF⟩:=h_
  cases yl_ with
  |cons _ _=>cases hy_
  |nil=>
   clear hy_;rw[Y7]at hF
   refine Ao4 st_ [(2100,2),(2000,2000)] (by kernel_rfl) (by kernel_rfl) (by kernel_rfl) (by kernel_rfl) ?_
   refine ja 0 (S0:=[(2,.ptr 2 0)]) (O0:=[(2,.box 4 [.b false]),(2000,.box 217 [.l 1 d0 B1,.l 1 d1 A0,.i d2,.i d3])]) (T0:=[.inBlock 0,kC Bg1 [1,1]]) ?_
   have hF:=oi hF;subst hF
   exact C5 5 (Ao5 (xs:=[.b true]) st_ [.b true] rfl rfl (by kernel_rfl) (H9.refl _) rfl (by kernel_rfl))
 ·intro D_ ob_ j_ h_;rw[hGX_]at h_
  rcases h_ with⟨_,rfl,rfl,hF⟩
  ·unfold Ar5 at hF
   refine Ao4 st_ [(2100,2),(2000,2000)] (by kernel_rfl) (by kernel_rfl) (by kernel_rfl) (by kernel_rfl) ?_
   refine ja 0 (S0:=[(2,.ptr 2 0)]) (O0:=[(2,.box 4 [.b false]),(2000,.box 217 [.l 1 d0 B1,.l 1 d1 A0,.i d2,.i d3])]) (T0:=[.code (.ret),.inBlock 0,kC Bg1 [1,1]]) ?_
   have hF:=oi hF;subst hF
   exact C5 0 (Ao5 (xs:=[.b false]) st_ [.b false] rfl rfl (by kernel_rfl) (H9.refl _) rfl (by kernel_rfl))
def Cv8(fuel:Nat)(d0:Int)(d1:List Int)(d2:List (List A2))(d3:Int)(d4:Int):Option (Bool×Int):=
 Option.bind (Df2 fuel d4 d0) fun y1=>
 ass (decide (y1≠0))<|
 some (decide ((IntKind.i64.wrap ((IntKind.i64.wrap (Int.tdiv d4 y1))*d0))≤9999),IntKind.i64.wrap ((IntKind.i64.wrap (Int.tdiv d4 y1))*d0))
theorem Cj5{fuel:Nat}{d0:Int}{d1:List Int}{d2:List (List A2)}{d3:Int}{d4:Int}{r:Bool×Int}(hF:Cv8 fuel d0 d1 d2 d3 d4=some r):
 F4 Tryz.prog 209 [(2000,.box 217 [.l 1 d1 B1,.l 1 d2 A0,.i d3,.i d4])] [.ptr 2000 3,.i d0] [(2000,.box 217 [.l 1 d1 B1,.l 1 d2 A0,.i d3,.i r.2])] (.b r.1):=by
 unfold Cv8 at hF
 refine cr 22 Tryz.func209 ?_
 refine jd 5 ?_
 refine dB 8 hF Dm6 By6 fun y1 hF=> ?_
 obtain⟨hb1,hF⟩:=N1 hF
 refine do1 0 (ck hb1) ?_
 refine je 4 ?_
 cases hF
 exact jrr 8
def Ar6(v5:Int):Option (Bool×Int):=
 some (false,v5)
def Y8(fuel:Nat)(d0:List Int)(d1:List (List A2))(d2:Int):List (Int×A2)→Int→Option (Bool×Int)
 |[],v4=>
  some (true,v4)
 |y12::ys_F163a_L1,v4=>
  Option.bind (Cp0 fuel y12.2.Gain) fun y13=>
  Option.bind (
   bif !y13.2.2 then
    (some (true,v4))
   else
    (bif decide (y13.1<0) then
     (some (true,v4))
    else
     (Option.bind (Cv8 fuel y13.2.1 d0 d1 d2 v4) fun y16=>
     some (!y16.1,y16.2)))) fun o3=>
  bif o3.1 then
   (Ar6 o3.2)
  else
   ((Y8 fuel d0 d1 d2 ys_F163a_L1) o3.2)
def Cu5(fuel:Nat)(d0:List Int)(d1:List (List A2))(d2:Int)(d3:Int):Option (Bool×Int):=
 Option.bind (Dh7 (⟨d0,d1⟩:B6)) fun y1=>
 Option.bind (Dh9 fuel y1.1 y1.2) fun ys1=>
 Y8 fuel d0 d1 d2 ys1 1
theorem Cj2{fuel:Nat}{d0:List Int}{d1:List (List A2)}{d2:Int}{d3:Int}{r:Bool×Int}(hF:Cu5 fuel d0 d1 d2 d3=some r):
 F4 Tryz.prog 163 [(2000,.box 217 [.l 1 d0 B1,.l 1 d1 A0,.i d2,.i d3])] [.ptr 2000 0] [(2000,.box 217 [.l 1 d0 B1,.l 1 d1 A0,.i d2,.i r.2])] (.b r.1):=by
 unfold Cu5 at hF
 refine At9 (N:=39) (b:=C1 Tryz.f163) Tryz.func163 (by kernel_rfl) rfl rfl (by kernel_rfl) (fun s_ r0_ w00_ M00_ st_=> ?_)
 obtain⟨y1,e1,hF⟩:=bnd hF
 refine jcr 19 [(15,2000)] Dc0 (Bf0 e1) ?_
 refine ja 2 (S0:=[(1,.ptr 1 0),(2,.ptr 2 0),(15,.fn 253 [] [.ptr 15 0])]) (O0:=[(1,.box 171 [.ptr 2000 0]),(2,.box 4 [.b false]),(15,.box 26 [.l 1 y1.1 B1,.l 1 y1.2 A0]),(2000,.box 217 [.l 1 d0 B1,.l 1 d1 A0,.i d2,.i 1])]) (T0:=[kC Bg2 [1,1,0,1,0],.inBlock 0,kC Bg2 [1,1,1]]) ?_
 refine Ab8 [(15,15),(2000,2000),(1,2100),(2,2101)] (by kernel_rfl) (by kernel_rfl) (by kernel_rfl) (by kernel_rfl) ?_
 refine Bf5 (S0:=[(1,.ptr 2100 0),(2,.ptr 2101 0),(15,.fn 253 [] [.ptr 15 0])]) (O0:=[(15,.box 26 [.l 1 y1.1 B1,.l 1 y1.2 A0]),(2000,.box 217 [.l 1 d0 B1,.l 1 d1 A0,.i d2,.i 1]),(2100,.box 171 [.ptr 2000 0]),(2101,.box 4 [.b false])]) (T0:=[kC Bg2 [1,1,0,1,0],.inBlock 0,kC Bg2 [1,1,1]]) [1,2,15] [15,2000,2100,2101] (by kernel_rfl) rfl ?_
 obtain⟨ys1,e2,hF⟩:=bnd hF
 obtain⟨G_,hG_⟩:∃G:List (List Kx.V)→List (Nat×B7)→Prop,G=(fun yv ob=>∃(yl_:List (Int×A2)) (v4:Int),yv=yl_.map C4∧ob=[(2000,.box 217 [.l 1 d0 B1,.l 1 d1 A0,.i d2,.i v4]),(2100,.box 171 [.ptr 2000 0]),(2101,.box 4 [.b false])]∧Y8 fuel d0 d1 d2 yl_ v4=some r):=⟨_,rfl⟩
 obtain⟨GX_,hGX_⟩:∃G:Code→List (Nat×B7)→Prop,G=(fun j ob=>(∃(v5:Int),j= .ret∧ob=[(2000,.box 217 [.l 1 d0 B1,.l 1 d1 A0,.i d2,.i v5]),(2100,.box 171 [.ptr 2000 0]),(2101,.box 4 [.b false])]∧Ar6 v5=some r)):=⟨_,rfl⟩
 refine Aj5 (P:=Tryz.prog) (g:=(.tmp 15)) (ps:= #[16,17]) (asg:=(cAt Bg2 [1,1,0,1,0,0])) (bo:=(cAt Bg2 [1,1,0,1,0,1])) (k:=[.inBlock 0,kC Bg2 [1,1,1]]) (gf:=253) (first:=[]) (cap:=[.ptr 15 0]) (xs:=[.rp [.sl 1 (y1.1.map B1),.sl 1 (y1.2.map A0)] 0]) (os:=[]) (S1:=[(1,.ptr 2100 0),(2,.ptr 2101 0)]) (ob0:=[(2000,.box 217 [.l 1 d0 B1,.l 1 d1 A0,.i d2,.i 1]),(2100,.box 171 [.ptr 2000 0]),(2101,.box 4 [.b false])]) [] [1,2] [2000,2100,2101] [.rp [.sl 1 (y1.1.map B1),.sl 1 (y1.2.map A0)] 0] (ysAll:=ys1.map C4) [2000,2100,2101] G_ GX_ rfl (by kernel_rfl) rfl (by kernel_rfl) rfl (by kernel_rfl) (H9.refl _) Dc4 (Bf3 e2) (by kernel_rfl) (by kernel_rfl) (by kernel_rfl) ?_ ?_ ?_ ⟨by kernel_rfl,by kernel_rfl⟩ ?_ ?_ ?_
 ·rw[hG_];exact⟨ys1,1,rfl,by kernel_rfl,hF⟩
 ·intro yv_ ob_ h_;rw[hG_]at h_;obtain⟨_,_,_,rfl,_⟩:=h_;kernel_rfl
 ·intro j_ ob_ h_;rw[hGX_]at h_;rcases h_ with⟨_,_,rfl,_⟩<;>kernel_rfl
 ·intro x_ hxa_ hxb_ hxp_ yv_ ysv_ ob_ h_;rw[hG_]at h_
  obtain⟨yl_,v4,hy_,rfl,hF⟩:=h_
  cases yl_ with
  |nil=>cases hy_
  |cons y12 ys_F163a_L1=>
   cases hy_;rw[Y8]at hF
   refine Bi4 (by kernel_rfl) ?_
   refine Bf5 (S0:=[(1,.ptr 2100 0),(2,.ptr 2101 0),(16,.i y12.1),(17,.agg [.s y12.2.Act,.s y12.2.Gain,.l 2 y12.2.Next A7])]) (O0:=[(3000,.raw x_.D (.deferred (some []))),(3001,.raw x_.L (.loop (E0 x_ .ready none))),(2000,.box 217 [.l 1 d0 B1,.l 1 d1 A0,.i d2,.i v4]),(2100,.box 171 [.ptr 2000 0]),(2101,.box 4 [.b false])]) (T0:=[kC Bg2 [1,1,0,1,0,0],.begR x_.L,kC Bg2 [1,1,0,1,0,1]]) [1,2,16,17] [3000,3001,2000,2100,2101] (by kernel_rfl) rfl ?_
   refine ja 4 (S0:=[(1,.ptr 2100 0),(2,.ptr 2101 0),(4,.ptr 4 0),(16,.i y12.1),(17,.agg [.s y12.2.Act,.s y12.2.Gain,.l 2 y12.2.Next A7])]) (O0:=[(3000,.raw x_.D (.deferred (some []))),(3001,.raw x_.L (.loop (E0 x_ .ready none))),(4,.box 41 [.s y12.2.Act,.s y12.2.Gain,.l 2 y12.2.Next A7]),(2000,.box 217 [.l 1 d0 B1,.l 1 d1 A0,.i d2,.i v4]),(2100,.box 171 [.ptr 2000 0]),(2101,.box 4 [.b false])]) (T0:=[.begR x_.L,kC Bg2 [1,1,0,1,0,1]]) ?_
   refine Aj2 (l:=x_.L) (q:=3001) (k:=[kC Bg2 [1,1,0,1,0,1]]) (rec:=E0 x_ .ready none) rfl rfl rfl ?_
   refine jB 5 hF Dc1 Bf1 fun y13 hF=> ?_
   obtain⟨o3,hO,hF⟩:=bnd hF
   have hR3:J (some x_.L) Tryz.prog 39 [] (Ch9 x_ G_ GX_ (fun _=>False) (ys_F163a_L1.map C4)) ⟨mkT [(2,.ptr 2101 0),(38,.b o3.1)],[(3000,.raw x_.D (.deferred (some []))),(3001,.raw x_.L (.loop (E0 x_ .busy none))),(2000,.box 217 [.l 1 d0 B1,.l 1 d1 A0,.i d2,.i o3.2]),(2100,.box 171 [.ptr 2000 0]),(2101,.box 4 [.b false])],[kO Bg2 [1,1,0,1,0,1,0,1,0],kC Bg2 [1,1,0,1,0,1,0,1,1],.inBlock 1]⟩:=by
    clear hO
    refine jI 1 38 hF ?_ ?_<;>intro hF
    ·refine ja 5 (S0:=[]) (O0:=rob x_ .busy none [(2000,.box 217 [.l 1 d0 B1,.l 1 d1 A0,.i d2,.i o3.2]),(2100,.box 171 [.ptr 2000 0]),(2101,.box 4 [.b false])]) (T0:=[.code (.ret),.inBlock 1]) ?_
     exact Bm8 rfl [(2000,.box 217 [.l 1 d0 B1,.l 1 d1 A0,.i d2,.i o3.2]),(2100,.box 171 [.ptr 2000 0]),(2101,.box 4 [.b false])] (k:=[.inBlock 1]) rfl rfl rfl (by kernel_rfl) (by rw[hGX_];exact⟨o3.2,rfl,rfl,hF⟩)
    ·refine ja 3 (S0:=[]) (O0:=rob x_ .busy none [(2000,.box 217 [.l 1 d0 B1,.l 1 d1 A0,.i d2,.i o3.2]),(2100,.box 171 [.ptr 2000 0]),(2101,.box 4 [.b false])]) (T0:=[]) ?_
     exact Aj4 rfl [(2000,.box 217 [.l 1 d0 B1,.l 1 d1 A0,.i d2,.i o3.2]),(2100,.box 171 [.ptr 2000 0]),(2101,.box 4 [.b false])] rfl rfl (by kernel_rfl) (by rw[hG_];exact⟨ys_F163a_L1,o3.2,rfl,rfl,hF⟩)
   clear hF;rename _=some o3=>hF
   refine jI 13 27 hF ?_ ?_<;>intro hF
   ·cases hF
    exact ja 11 hR3
   ·refine jI 4 31 hF ?_ ?_<;>intro hF
    ·cases hF
     exact ja 7 hR3
    ·obtain⟨y16,e14,hF⟩:=bnd hF
     refine jcr 4 [(2000,2000)] Dm0 (Cj5 e14) ?_
     cases hF
     exact ja 2 hR3
 ·intro D_ ob_ h_;rw[hG_]at h_
  obtain⟨yl_,v4,hy_,rfl,hF⟩:=h_
  cases yl_ with
  |cons _ _=>cases hy_
  |nil=>
   clear hy_;rw[Y8]at hF
   refine Ao4 st_ [(2100,1),(2101,2),(2000,2000)] (by kernel_rfl) (by kernel_rfl) (by kernel_rfl) (by kernel_rfl) ?_
   refine ja 0 (S0:=[(2,.ptr 2 0)]) (O0:=[(2,.box 4 [.b false]),(2000,.box 217 [.l 1 d0 B1,.l 1 d1 A0,.i d2,.i v4])]) (T0:=[.inBlock 0,kC Bg2 [1,1,1]]) ?_
   have hF:=oi hF;subst hF
   exact C5 5 (Ao5 (xs:=[.b true]) st_ [.b true] rfl rfl (by kernel_rfl) (H9.refl _) rfl (by kernel_rfl))
 ·intro D_ ob_ j_ h_;rw[hGX_]at h_
  rcases h_ with⟨v5,rfl,rfl,hF⟩
  ·unfold Ar6 at hF
   refine Ao4 st_ [(2100,1),(2101,2),(2000,2000)] (by kernel_rfl) (by kernel_rfl) (by kernel_rfl) (by kernel_rfl) ?_
   refine ja 0 (S0:=[(2,.ptr 2 0)]) (O0:=[(2,.box 4 [.b false]),(2000,.box 217 [.l 1 d0 B1,.l 1 d1 A0,.i d2,.i v5])]) (T0:=[.code (.ret),.inBlock 0,kC Bg2 [1,1,1]]) ?_
   have hF:=oi hF;subst hF
   exact C5 0 (Ao5 (xs:=[.b false]) st_ [.b false] rfl rfl (by kernel_rfl) (H9.refl _) rfl (by kernel_rfl))
def Cv9(fuel:Nat)(d0:Int)(d1:List Int)(d2:List (List A2))(d3:Int)(d4:Int):Option (Bool×Int):=
 Option.bind (Df2 fuel d3 d0) fun y1=>
 ass (decide (y1≠0))<|
 some (decide ((IntKind.i64.wrap ((IntKind.i64.wrap (Int.tdiv d3 y1))*d0))≤9999),IntKind.i64.wrap ((IntKind.i64.wrap (Int.tdiv d3 y1))*d0))
theorem Cj6{fuel:Nat}{d0:Int}{d1:List Int}{d2:List (List A2)}{d3:Int}{d4:Int}{r:Bool×Int}(hF:Cv9 fuel d0 d1 d2 d3 d4=some r):
 F4 Tryz.prog 209 [(2000,.box 217 [.l 1 d1 B1,.l 1 d2 A0,.i d3,.i d4])] [.ptr 2000 2,.i d0] [(2000,.box 217 [.l 1 d1 B1,.l 1 d2 A0,.i r.2,.i d4])] (.b r.1):=by
 unfold Cv9 at hF
 refine cr 22 Tryz.func209 ?_
 refine jd 5 ?_
 refine dB 8 hF Dm6 By6 fun y1 hF=> ?_
 obtain⟨hb1,hF⟩:=N1 hF
 refine do1 0 (ck hb1) ?_
 refine je 4 ?_
 cases hF
 exact jrr 8
def Af9(fuel:Nat)(d0:List B5)(v8:Int):Nat→Int→Int→Option (Bool×Int)
 |0,_,_=>none
 |nL2+1,v12,v13=>
  bif decide (v13<((d0.map A7).length:Int)) then
   (Option.bind (D6 d0 v13) fun y20=>
   Option.bind (Cp0 fuel y20.P) fun y21=>
   ass (decide (y21.2.1≠0))<|
   (Af9 fuel d0 v8 nL2) (IntKind.i64.wrap (v12+(IntKind.i64.wrap (y21.1*(IntKind.i64.wrap (Int.tdiv v8 y21.2.1)))))) (IntKind.i64.wrap (v13+1)))
  else
   (some (v12==v8,v8))
def Af8(fuel:Nat)(d0:List B5)(d1:List Int)(d2:List (List A2))(d4:Int):Nat→Int→Int→Int→Option (Bool×Int)
 |0,_,_,_=>none
 |nL1+1,v6,v7,v8=>
  bif decide (v7<((d0.map A7).length:Int)) then
   (Option.bind (D6 d0 v7) fun y11=>
   Option.bind (Cp0 fuel y11.P) fun y12=>
   Option.bind (
    bif decide (y11.To≤v6) then
     (some (true,v8))
    else
     (bif decide (y11.To≥((d1.map B1).length:Int)) then
      (some (true,v8))
     else
      (bif !y12.2.2 then
       (some (true,v8))
      else
       (bif decide (y12.1<1) then
        (some (true,v8))
       else
        (Option.bind (Cv9 fuel y12.2.1 d1 d2 v8 d4) fun y15=>
        some (!y15.1,y15.2)))))) fun o3=>
   bif o3.1 then
    (some (false,o3.2))
   else
    ((Af8 fuel d0 d1 d2 d4 nL1) y11.To (IntKind.i64.wrap (v7+1)) o3.2))
  else
   (Af9 fuel d0 v8 fuel 0 0)
def Cw1(fuel:Nat)(d0:List B5)(d1:List Int)(d2:List (List A2))(d3:Int)(d4:Int):Option (Bool×Int):=
 Af8 fuel d0 d1 d2 d4 fuel (-1) 0 d3
abbrev Cx9(d1:List Int)(d2:List (List A2))(d4:Int)(r:Bool×Int):=J none Tryz.prog 94 [] (Bd8 Tryz.prog Tryz.f210 [(2000,.box 217 [.l 1 d1 B1,.l 1 d2 A0,.i r.2,.i d4])] (.b r.1))
theorem Cj7{fuel:Nat}{d0:List B5}{d1:List Int}{d2:List (List A2)}{d3:Int}{d4:Int}{r:Bool×Int}(hF:Cw1 fuel d0 d1 d2 d3 d4=some r):
 F4 Tryz.prog 210 [(2000,.box 217 [.l 1 d1 B1,.l 1 d2 A0,.i d3,.i d4])] [.ptr 2000 0,.l 2 d0 A7] [(2000,.box 217 [.l 1 d1 B1,.l 1 d2 A0,.i r.2,.i d4])] (.b r.1):=by
 unfold Cw1 at hF
 refine cr 94 Tryz.func210 ?_
 have hL1:∀(nL1:Nat) (v6:Int) (v7:Int) (v8:Int),Af8 fuel d0 d1 d2 d4 nL1 v6 v7 v8=some r→Cx9 d1 d2 d4 r ⟨mkT [(0,.ptr 2000 0),(1,.l 2 d0 A7),(5,.i v6),(17,.l 2 d0 A7),(18,.i ((d0.map A7).length:Int)),(19,.i v7)],[(2000,.box 217 [.l 1 d1 B1,.l 1 d2 A0,.i v8,.i d4])],[kL Ck8 [1,1,0,1,0,0],.inBlock 0,kC Ck8 [1,1,1]]⟩:=by
  clear hF;intro nL1
  induction nL1 with
  |zero=>intro v6 v7 v8 hF;cases hF
  |succ nL1 iL1=>
   intro v6 v7 v8 hF
   rw[Af8]at hF
   refine jI 6 20 hF ?_ ?_<;>intro hF
   ·obtain⟨y11,e11,hF⟩:=bnd hF
    refine jo1 6 (gm (f:=A7) e11) ?_
    refine jB 8 hF Dc1 Bf1 fun y12 hF=> ?_
    obtain⟨o3,hO,hF⟩:=bnd hF
    have hR3:Cx9 d1 d2 d4 r ⟨mkT [(0,.ptr 2000 0),(1,.l 2 d0 A7),(7,.ptr 7 0),(17,.l 2 d0 A7),(18,.i ((d0.map A7).length:Int)),(19,.i v7),(60,.b o3.1)],[(7,.box 38 [.i y11.To,.s y11.P]),(2000,.box 217 [.l 1 d1 B1,.l 1 d2 A0,.i o3.2,.i d4])],[kC Ck8 [1,1,0,1,0,0,1,1,0,0,1,1,0,1],kC Ck8 [1,1,0,1,0,0,1,1,0,0,1,1,1],.inBlock 1,kC Ck8 [1,1,0,1,0,0,1,1,1],kL Ck8 [1,1,0,1,0,0],.inBlock 0,kC Ck8 [1,1,1]]⟩:=by
     clear hO
     refine jI 0 60 hF ?_ ?_<;>intro hF
     ·cases hF
      exact jrr 5
     ·exact ja 12 (iL1 _ _ _ hF)
    clear hF;rename _=some o3=>hF
    refine jd 10 ?_
    refine dI 5 34 hF ?_ ?_<;>intro hF
    ·refine je 26 ?_
     cases hF
     exact ja 0 hR3
    ·refine dI 11 45 hF ?_ ?_<;>intro hF
     ·refine je 15 ?_
      cases hF
      exact ja 0 hR3
     ·refine dI 4 49 hF ?_ ?_<;>intro hF
      ·refine je 11 ?_
       cases hF
       exact ja 0 hR3
      ·refine dI 4 53 hF ?_ ?_<;>intro hF
       ·refine je 7 ?_
        cases hF
        exact ja 0 hR3
       ·obtain⟨y15,e15,hF⟩:=bnd hF
        refine dcr 4 [(2000,2000)] Dm0 (Cj6 e15) ?_
        refine je 2 ?_
        cases hF
        exact ja 0 hR3
   ·have hL2:∀(nL2:Nat) (v12:Int) (v13:Int),Af9 fuel d0 v8 nL2 v12 v13=some r→Cx9 d1 d2 d4 r ⟨mkT [(0,.ptr 2000 0),(11,.i v12),(64,.l 2 d0 A7),(65,.i ((d0.map A7).length:Int)),(66,.i v13)],[(2000,.box 217 [.l 1 d1 B1,.l 1 d2 A0,.i v8,.i d4])],[kL Ck8 [1,1,1,1,0,1,0,0],.inBlock 2,kC Ck8 [1,1,1,1,1]]⟩:=by
     clear hF;intro nL2
     induction nL2 with
     |zero=>intro v12 v13 hF;cases hF
     |succ nL2 iL2=>
      intro v12 v13 hF
      rw[Af9]at hF
      refine jI 6 67 hF ?_ ?_<;>intro hF
      ·obtain⟨y20,e20,hF⟩:=bnd hF
       refine jo1 6 (gm (f:=A7) e20) ?_
       refine jB 8 hF Dc1 Bf1 fun y21 hF=> ?_
       obtain⟨hb48,hF⟩:=N1 hF
       refine jo1 16 (ck hb48) ?_
       exact ja 9 (iL2 _ _ hF)
      ·cases hF
       exact jrr 12
    exact ja 15 (hL2 _ _ _ hF)
 exact ja 17 (hL1 _ _ _ _ hF)
def Ar7(v3:Int):Option (Bool×Int):=
 some (false,v3)
def Y9(fuel:Nat)(d0:List Int)(d1:List (List A2))(d3:Int):List (Int×A2)→Int→Option (Bool×Int)
 |[],v2=>
  some (true,v2)
 |y6::ys_F164a_L1,v2=>
  Option.bind (Cw1 fuel y6.2.Next d0 d1 v2 d3) fun y7=>
  bif !y7.1 then
   (Ar7 y7.2)
  else
   ((Y9 fuel d0 d1 d3 ys_F164a_L1) y7.2)
def Cu6(fuel:Nat)(d0:List Int)(d1:List (List A2))(d2:Int)(d3:Int):Option (Bool×Int):=
 Option.bind (Dh7 (⟨d0,d1⟩:B6)) fun y1=>
 Option.bind (Dh9 fuel y1.1 y1.2) fun ys1=>
 Y9 fuel d0 d1 d3 ys1 1
theorem Cj3{fuel:Nat}{d0:List Int}{d1:List (List A2)}{d2:Int}{d3:Int}{r:Bool×Int}(hF:Cu6 fuel d0 d1 d2 d3=some r):
 F4 Tryz.prog 164 [(2000,.box 217 [.l 1 d0 B1,.l 1 d1 A0,.i d2,.i d3])] [.ptr 2000 0] [(2000,.box 217 [.l 1 d0 B1,.l 1 d1 A0,.i r.2,.i d3])] (.b r.1):=by
 unfold Cu6 at hF
 refine At9 (N:=20) (b:=C1 Tryz.f164) Tryz.func164 (by kernel_rfl) rfl rfl (by kernel_rfl) (fun s_ r0_ w00_ M00_ st_=> ?_)
 obtain⟨y1,e1,hF⟩:=bnd hF
 refine jcr 19 [(12,2000)] Dc0 (Bf0 e1) ?_
 refine ja 2 (S0:=[(1,.ptr 1 0),(2,.ptr 2 0),(12,.fn 253 [] [.ptr 12 0])]) (O0:=[(1,.box 171 [.ptr 2000 0]),(2,.box 4 [.b false]),(12,.box 26 [.l 1 y1.1 B1,.l 1 y1.2 A0]),(2000,.box 217 [.l 1 d0 B1,.l 1 d1 A0,.i 1,.i d3])]) (T0:=[kC Bs8 [1,1,0,1,0],.inBlock 0,kC Bs8 [1,1,1]]) ?_
 refine Ab8 [(12,12),(2000,2000),(1,2100),(2,2101)] (by kernel_rfl) (by kernel_rfl) (by kernel_rfl) (by kernel_rfl) ?_
 refine Bf5 (S0:=[(1,.ptr 2100 0),(2,.ptr 2101 0),(12,.fn 253 [] [.ptr 12 0])]) (O0:=[(12,.box 26 [.l 1 y1.1 B1,.l 1 y1.2 A0]),(2000,.box 217 [.l 1 d0 B1,.l 1 d1 A0,.i 1,.i d3]),(2100,.box 171 [.ptr 2000 0]),(2101,.box 4 [.b false])]) (T0:=[kC Bs8 [1,1,0,1,0],.inBlock 0,kC Bs8 [1,1,1]]) [1,2,12] [12,2000,2100,2101] (by kernel_rfl) rfl ?_
 obtain⟨ys1,e2,hF⟩:=bnd hF
 obtain⟨G_,hG_⟩:∃G:List (List Kx.V)→List (Nat×B7)→Prop,G=(fun yv ob=>∃(yl_:List (Int×A2)) (v2:Int),yv=yl_.map C4∧ob=[(2000,.box 217 [.l 1 d0 B1,.l 1 d1 A0,.i v2,.i d3]),(2100,.box 171 [.ptr 2000 0]),(2101,.box 4 [.b false])]∧Y9 fuel d0 d1 d3 yl_ v2=some r):=⟨_,rfl⟩
 obtain⟨GX_,hGX_⟩:∃G:Code→List (Nat×B7)→Prop,G=(fun j ob=>(∃(v3:Int),j= .ret∧ob=[(2000,.box 217 [.l 1 d0 B1,.l 1 d1 A0,.i v3,.i d3]),(2100,.box 171 [.ptr 2000 0]),(2101,.box 4 [.b false])]∧Ar7 v3=some r)):=⟨_,rfl⟩
 refine Aj5 (P:=Tryz.prog) (g:=(.tmp 12)) (ps:= #[13,14]) (asg:=(cAt Bs8 [1,1,0,1,0,0])) (bo:=(cAt Bs8 [1,1,0,1,0,1])) (k:=[.inBlock 0,kC Bs8 [1,1,1]]) (gf:=253) (first:=[]) (cap:=[.ptr 12 0]) (xs:=[.rp [.sl 1 (y1.1.map B1),.sl 1 (y1.2.map A0)] 0]) (os:=[]) (S1:=[(1,.ptr 2100 0),(2,.ptr 2101 0)]) (ob0:=[(2000,.box 217 [.l 1 d0 B1,.l 1 d1 A0,.i 1,.i d3]),(2100,.box 171 [.ptr 2000 0]),(2101,.box 4 [.b false])]) [] [1,2] [2000,2100,2101] [.rp [.sl 1 (y1.1.map B1),.sl 1 (y1.2.map A0)] 0] (ysAll:=ys1.map C4) [2000,2100,2101] G_ GX_ rfl (by kernel_rfl) rfl (by kernel_rfl) rfl (by kernel_rfl) (H9.refl _) Dc4 (Bf3 e2) (by kernel_rfl) (by kernel_rfl) (by kernel_rfl) ?_ ?_ ?_ ⟨by kernel_rfl,by kernel_rfl⟩ ?_ ?_ ?_
 ·rw[hG_];exact⟨ys1,1,rfl,by kernel_rfl,hF⟩
 ·intro yv_ ob_ h_;rw[hG_]at h_;obtain⟨_,_,_,rfl,_⟩:=h_;kernel_rfl
 ·intro j_ ob_ h_;rw[hGX_]at h_;rcases h_ with⟨_,_,rfl,_⟩<;>kernel_rfl
 ·intro x_ hxa_ hxb_ hxp_ yv_ ysv_ ob_ h_;rw[hG_]at h_
  obtain⟨yl_,v2,hy_,rfl,hF⟩:=h_
  cases yl_ with
  |nil=>cases hy_
  |cons y6 ys_F164a_L1=>
   cases hy_;rw[Y9]at hF
   refine Bi4 (by kernel_rfl) ?_
   refine Bf5 (S0:=[(1,.ptr 2100 0),(2,.ptr 2101 0),(13,.i y6.1),(14,.agg [.s y6.2.Act,.s y6.2.Gain,.l 2 y6.2.Next A7])]) (O0:=[(3000,.raw x_.D (.deferred (some []))),(3001,.raw x_.L (.loop (E0 x_ .ready none))),(2000,.box 217 [.l 1 d0 B1,.l 1 d1 A0,.i v2,.i d3]),(2100,.box 171 [.ptr 2000 0]),(2101,.box 4 [.b false])]) (T0:=[kC Bs8 [1,1,0,1,0,0],.begR x_.L,kC Bs8 [1,1,0,1,0,1]]) [1,2,13,14] [3000,3001,2000,2100,2101] (by kernel_rfl) rfl ?_
   refine ja 4 (S0:=[(1,.ptr 2100 0),(2,.ptr 2101 0),(4,.ptr 4 0),(13,.i y6.1),(14,.agg [.s y6.2.Act,.s y6.2.Gain,.l 2 y6.2.Next A7])]) (O0:=[(3000,.raw x_.D (.deferred (some []))),(3001,.raw x_.L (.loop (E0 x_ .ready none))),(4,.box 41 [.s y6.2.Act,.s y6.2.Gain,.l 2 y6.2.Next A7]),(2000,.box 217 [.l 1 d0 B1,.l 1 d1 A0,.i v2,.i d3]),(2100,.box 171 [.ptr 2000 0]),(2101,.box 4 [.b false])]) (T0:=[.begR x_.L,kC Bs8 [1,1,0,1,0,1]]) ?_
   refine Aj2 (l:=x_.L) (q:=3001) (k:=[kC Bs8 [1,1,0,1,0,1]]) (rec:=E0 x_ .ready none) rfl rfl rfl ?_
   obtain⟨y7,e5,hF⟩:=bnd hF
   refine jcr 6 [(2000,2000)] Eb2 (Cj7 e5) ?_
   refine jI 2 19 hF ?_ ?_<;>intro hF
   ·refine ja 5 (S0:=[]) (O0:=rob x_ .busy none [(2000,.box 217 [.l 1 d0 B1,.l 1 d1 A0,.i y7.2,.i d3]),(2100,.box 171 [.ptr 2000 0]),(2101,.box 4 [.b false])]) (T0:=[.code (.ret),.inBlock 1]) ?_
    exact Bm8 rfl [(2000,.box 217 [.l 1 d0 B1,.l 1 d1 A0,.i y7.2,.i d3]),(2100,.box 171 [.ptr 2000 0]),(2101,.box 4 [.b false])] (k:=[.inBlock 1]) rfl rfl rfl (by kernel_rfl) (by rw[hGX_];exact⟨y7.2,rfl,rfl,hF⟩)
   ·refine ja 3 (S0:=[]) (O0:=rob x_ .busy none [(2000,.box 217 [.l 1 d0 B1,.l 1 d1 A0,.i y7.2,.i d3]),(2100,.box 171 [.ptr 2000 0]),(2101,.box 4 [.b false])]) (T0:=[]) ?_
    exact Aj4 rfl [(2000,.box 217 [.l 1 d0 B1,.l 1 d1 A0,.i y7.2,.i d3]),(2100,.box 171 [.ptr 2000 0]),(2101,.box 4 [.b false])] rfl rfl (by kernel_rfl) (by rw[hG_];exact⟨ys_F164a_L1,y7.2,rfl,rfl,hF⟩)
 ·intro D_ ob_ h_;rw[hG_]at h_
  obtain⟨yl_,v2,hy_,rfl,hF⟩:=h_
  cases yl_ with
  |cons _ _=>cases hy_
  |nil=>
   clear hy_;rw[Y9]at hF
   refine Ao4 st_ [(2100,1),(2101,2),(2000,2000)] (by kernel_rfl) (by kernel_rfl) (by kernel_rfl) (by kernel_rfl) ?_
   refine ja 0 (S0:=[(2,.ptr 2 0)]) (O0:=[(2,.box 4 [.b false]),(2000,.box 217 [.l 1 d0 B1,.l 1 d1 A0,.i v2,.i d3])]) (T0:=[.inBlock 0,kC Bs8 [1,1,1]]) ?_
   have hF:=oi hF;subst hF
   exact C5 5 (Ao5 (xs:=[.b true]) st_ [.b true] rfl rfl (by kernel_rfl) (H9.refl _) rfl (by kernel_rfl))
 ·intro D_ ob_ j_ h_;rw[hGX_]at h_
  rcases h_ with⟨v3,rfl,rfl,hF⟩
  ·unfold Ar7 at hF
   refine Ao4 st_ [(2100,1),(2101,2),(2000,2000)] (by kernel_rfl) (by kernel_rfl) (by kernel_rfl) (by kernel_rfl) ?_
   refine ja 0 (S0:=[(2,.ptr 2 0)]) (O0:=[(2,.box 4 [.b false]),(2000,.box 217 [.l 1 d0 B1,.l 1 d1 A0,.i v3,.i d3])]) (T0:=[.code (.ret),.inBlock 0,kC Bs8 [1,1,1]]) ?_
   have hF:=oi hF;subst hF
   exact C5 0 (Ao5 (xs:=[.b false]) st_ [.b false] rfl rfl (by kernel_rfl) (H9.refl _) rfl (by kernel_rfl))
def S6(fuel:Nat)(d0:B6):Nat→Int→Int→Int→Option (B3×Bool)
 |0,_,_,_=>none
 |nL1+1,v4,v5,v6=>
  bif decide (v4<5) then
   (bif decide (v4=0) then
    (Option.bind (Ct8 fuel d0.Owner d0.Choices v5 v6) fun y11=>
    bif !y11 then
     (some ((⟨d0,v5,v6⟩:B3),false))
    else
     ((S6 fuel d0 nL1) (IntKind.i64.wrap (v4+1)) v5 v6))
   else bif decide (v4=1) then
    (Option.bind (Ct9 fuel d0.Owner d0.Choices v5 v6) fun y12=>
    bif !y12 then
     (some ((⟨d0,v5,v6⟩:B3),false))
    else
     ((S6 fuel d0 nL1) (IntKind.i64.wrap (v4+1)) v5 v6))
   else bif decide (v4=2) then
    (Option.bind (Cu2 fuel d0.Owner d0.Choices v5 v6) fun y13=>
    bif !y13 then
     (some ((⟨d0,v5,v6⟩:B3),false))
    else
     ((S6 fuel d0 nL1) (IntKind.i64.wrap (v4+1)) v5 v6))
   else bif decide (v4=3) then
    (Option.bind (Cu5 fuel d0.Owner d0.Choices v5 v6) fun y14=>
    bif !y14.1 then
     (some ((⟨d0,v5,y14.2⟩:B3),false))
    else
     ((S6 fuel d0 nL1) (IntKind.i64.wrap (v4+1)) v5 y14.2))
   else bif decide (v4=4) then
    (Option.bind (Cu6 fuel d0.Owner d0.Choices v5 v6) fun y15=>
    bif !y15.1 then
     (some ((⟨d0,y15.2,v6⟩:B3),false))
    else
     ((S6 fuel d0 nL1) (IntKind.i64.wrap (v4+1)) y15.2 v6))
   else none)
  else
   (some ((⟨d0,v5,v6⟩:B3),true))
def Ds5(fuel:Nat)(d0:B6):Option (B3×Bool):=
 S6 fuel d0 fuel 0 0 0
noncomputable abbrev Dx6:=C1 Tryz.f109
abbrev Ei1(r:B3×Bool):=J none Tryz.prog 22 [] (L3 Tryz.prog Tryz.f109 (.tup [.d (.pt [.sl 1 (r.1.Model.Owner.map B1),.sl 1 (r.1.Model.Choices.map A0),.int .i64 r.1.p,.int .i64 r.1.gains]),.b r.2]))
theorem Cs2{fuel:Nat}{d0:B6}{r:B3×Bool}(hF:Ds5 fuel d0=some r):
 C3 Tryz.prog 109 [.agg [.l 1 d0.Owner B1,.l 1 d0.Choices A0]] (.tup [.d (.pt [.sl 1 (r.1.Model.Owner.map B1),.sl 1 (r.1.Model.Choices.map A0),.int .i64 r.1.p,.int .i64 r.1.gains]),.b r.2]):=by
 unfold Ds5 at hF
 refine cf 22 Tryz.func109 ?_
 have hL1:∀(nL1:Nat) (v4:Int) (v5:Int) (v6:Int),S6 fuel d0 nL1 v4 v5 v6=some r→Ei1 r ⟨mkT [(4,.ptr 10 0),(5,.b true),(11,.agg [.d (.fnc 160),.d (.fnc 161),.d (.fnc 162),.d (.fnc 163),.d (.fnc 164)]),(12,.i v4)],[(10,.box 217 [.l 1 d0.Owner B1,.l 1 d0.Choices A0,.i v5,.i v6])],[kL Dx6 [1,0,1,1,1,0,1,0,0],.inBlock 0,kC Dx6 [1,0,1,1,1,1],.inScope (cAt Dx6 [1,0])]⟩:=by
  clear hF;intro nL1
  induction nL1 with
  |zero=>intro v4 v5 v6 hF;cases hF
  |succ nL1 iL1=>
   intro v4 v5 v6 hF
   rw[S6]at hF
   refine jI 6 13 hF ?_ ?_<;>intro hF
   ·rcases Bool.eq_false_or_eq_true (decide (v4=0)) with hb23|hb23
    ·replace hF:=ift hb23 hF
     refine C5 6 (Z1 (o:=D6 (I3 1 5 ([.fnc 160,.fnc 161,.fnc 162,.fnc 163,.fnc 164]:List Dat)) v4) ([.fnc 160]:List Dat) (by kernel_rfl) (by rw[of_decide_eq_true hb23];rfl) ?_)
     obtain⟨y11,e11,hF⟩:=bnd hF
     refine jcr 6 [(10,2000)] Dz6 (Ci9 e11) ?_
     refine jI 2 18 hF ?_ ?_<;>intro hF
     ·have hF:=oi hF;subst hF
      exact C5 13 (At5 (xs:=[.rp [.sl 1 (d0.Owner.map B1),.sl 1 (d0.Choices.map A0),.int .i64 v5,.int .i64 v6] 0,.b false]) [.d (.pt [.sl 1 ((((⟨d0,v5,v6⟩:B3).Model).Owner).map B1),.sl 1 ((((⟨d0,v5,v6⟩:B3).Model).Choices).map A0),.int .i64 ((⟨d0,v5,v6⟩:B3).p),.int .i64 ((⟨d0,v5,v6⟩:B3).gains)]),.b false] rfl rfl (by kernel_rfl) ⟨Re.pt _,⟨Re.refl _,trivial⟩⟩ rfl)
     ·exact ja 7 (iL1 _ _ _ hF)
    ·replace hF:=Dg4 hb23 hF
     rcases Bool.eq_false_or_eq_true (decide (v4=1)) with hb25|hb25
     ·replace hF:=ift hb25 hF
      refine C5 6 (Z1 (o:=D6 (I3 1 5 ([.fnc 160,.fnc 161,.fnc 162,.fnc 163,.fnc 164]:List Dat)) v4) ([.fnc 161]:List Dat) (by kernel_rfl) (by rw[of_decide_eq_true hb25];rfl) ?_)
      obtain⟨y12,e12,hF⟩:=bnd hF
      refine jcr 6 [(10,2000)] Dz7 (Cj0 e12) ?_
      refine jI 2 18 hF ?_ ?_<;>intro hF
      ·have hF:=oi hF;subst hF
       exact C5 13 (At5 (xs:=[.rp [.sl 1 (d0.Owner.map B1),.sl 1 (d0.Choices.map A0),.int .i64 v5,.int .i64 v6] 0,.b false]) [.d (.pt [.sl 1 ((((⟨d0,v5,v6⟩:B3).Model).Owner).map B1),.sl 1 ((((⟨d0,v5,v6⟩:B3).Model).Choices).map A0),.int .i64 ((⟨d0,v5,v6⟩:B3).p),.int .i64 ((⟨d0,v5,v6⟩:B3).gains)]),.b false] rfl rfl (by kernel_rfl) ⟨Re.pt _,⟨Re.refl _,trivial⟩⟩ rfl)
      ·exact ja 7 (iL1 _ _ _ hF)
     ·replace hF:=Dg4 hb25 hF
      rcases Bool.eq_false_or_eq_true (decide (v4=2)) with hb27|hb27
      ·replace hF:=ift hb27 hF
       refine C5 6 (Z1 (o:=D6 (I3 1 5 ([.fnc 160,.fnc 161,.fnc 162,.fnc 163,.fnc 164]:List Dat)) v4) ([.fnc 162]:List Dat) (by kernel_rfl) (by rw[of_decide_eq_true hb27];rfl) ?_)
       obtain⟨y13,e13,hF⟩:=bnd hF
       refine jcr 6 [(10,2000)] Dz8 (Cj1 e13) ?_
       refine jI 2 18 hF ?_ ?_<;>intro hF
       ·have hF:=oi hF;subst hF
        exact C5 13 (At5 (xs:=[.rp [.sl 1 (d0.Owner.map B1),.sl 1 (d0.Choices.map A0),.int .i64 v5,.int .i64 v6] 0,.b false]) [.d (.pt [.sl 1 ((((⟨d0,v5,v6⟩:B3).Model).Owner).map B1),.sl 1 ((((⟨d0,v5,v6⟩:B3).Model).Choices).map A0),.int .i64 ((⟨d0,v5,v6⟩:B3).p),.int .i64 ((⟨d0,v5,v6⟩:B3).gains)]),.b false] rfl rfl (by kernel_rfl) ⟨Re.pt _,⟨Re.refl _,trivial⟩⟩ rfl)
       ·exact ja 7 (iL1 _ _ _ hF)
      ·replace hF:=Dg4 hb27 hF
       rcases Bool.eq_false_or_eq_true (decide (v4=3)) with hb29|hb29
       ·replace hF:=ift hb29 hF
        refine C5 6 (Z1 (o:=D6 (I3 1 5 ([.fnc 160,.fnc 161,.fnc 162,.fnc 163,.fnc 164]:List Dat)) v4) ([.fnc 163]:List Dat) (by kernel_rfl) (by rw[of_decide_eq_true hb29];rfl) ?_)
        obtain⟨y14,e14,hF⟩:=bnd hF
        refine jcr 6 [(10,2000)] Dz9 (Cj2 e14) ?_
        refine jI 2 18 hF ?_ ?_<;>intro hF
        ·have hF:=oi hF;subst hF
         exact C5 13 (At5 (xs:=[.rp [.sl 1 (d0.Owner.map B1),.sl 1 (d0.Choices.map A0),.int .i64 v5,.int .i64 y14.2] 0,.b false]) [.d (.pt [.sl 1 ((((⟨d0,v5,y14.2⟩:B3).Model).Owner).map B1),.sl 1 ((((⟨d0,v5,y14.2⟩:B3).Model).Choices).map A0),.int .i64 ((⟨d0,v5,y14.2⟩:B3).p),.int .i64 ((⟨d0,v5,y14.2⟩:B3).gains)]),.b false] rfl rfl (by kernel_rfl) ⟨Re.pt _,⟨Re.refl _,trivial⟩⟩ rfl)
        ·exact ja 7 (iL1 _ _ _ hF)
       ·replace hF:=Dg4 hb29 hF
        rcases Bool.eq_false_or_eq_true (decide (v4=4)) with hb31|hb31
        ·replace hF:=ift hb31 hF
         refine C5 6 (Z1 (o:=D6 (I3 1 5 ([.fnc 160,.fnc 161,.fnc 162,.fnc 163,.fnc 164]:List Dat)) v4) ([.fnc 164]:List Dat) (by kernel_rfl) (by rw[of_decide_eq_true hb31];rfl) ?_)
         obtain⟨y15,e15,hF⟩:=bnd hF
         refine jcr 6 [(10,2000)] Ea0 (Cj3 e15) ?_
         refine jI 2 18 hF ?_ ?_<;>intro hF
         ·have hF:=oi hF;subst hF
          exact C5 13 (At5 (xs:=[.rp [.sl 1 (d0.Owner.map B1),.sl 1 (d0.Choices.map A0),.int .i64 y15.2,.int .i64 v6] 0,.b false]) [.d (.pt [.sl 1 ((((⟨d0,y15.2,v6⟩:B3).Model).Owner).map B1),.sl 1 ((((⟨d0,y15.2,v6⟩:B3).Model).Choices).map A0),.int .i64 ((⟨d0,y15.2,v6⟩:B3).p),.int .i64 ((⟨d0,y15.2,v6⟩:B3).gains)]),.b false] rfl rfl (by kernel_rfl) ⟨Re.pt _,⟨Re.refl _,trivial⟩⟩ rfl)
         ·exact ja 7 (iL1 _ _ _ hF)
        ·replace hF:=Dg4 hb31 hF
         cases hF
   ·have hF:=oi hF;subst hF
    exact C5 9 (At5 (xs:=[.rp [.sl 1 (d0.Owner.map B1),.sl 1 (d0.Choices.map A0),.int .i64 v5,.int .i64 v6] 0,.b true]) [.d (.pt [.sl 1 ((((⟨d0,v5,v6⟩:B3).Model).Owner).map B1),.sl 1 ((((⟨d0,v5,v6⟩:B3).Model).Choices).map A0),.int .i64 ((⟨d0,v5,v6⟩:B3).p),.int .i64 ((⟨d0,v5,v6⟩:B3).gains)]),.b true] rfl rfl (by kernel_rfl) ⟨Re.pt _,⟨Re.refl _,trivial⟩⟩ rfl)
 exact ja 28 (hL1 _ _ _ _ hF)
def F61(fuel:Nat)(d0:B6):Option Int:=
 Option.bind (Ds5 fuel d0) fun y1=>
 bif !y1.2 then
  (some 110)
 else
  (some 0)
theorem Cp4{fuel:Nat}{d0:B6}{r:Int}(hF:F61 fuel d0=some r):
 C3 Tryz.prog 61 [.agg [.l 1 d0.Owner B1,.l 1 d0.Choices A0]] (.i r):=by
 unfold F61 at hF
 refine cf 12 Tryz.func61 ?_
 refine jB 9 hF Dy6 Cs2 fun y1 hF=> ?_
 refine jI 11 11 hF ?_ ?_<;>intro hF
 ·cases hF
  exact jr 5
 ·cases hF
  exact jr 6
def Ar8(d0:List Int)(d1:Int):Nat→Int→Option Int
 |0,_=>none
 |nL1+1,v2=>
  bif decide (v2<((d0.map B1).length:Int)) then
   (Option.bind (D6 d0 v2) fun y3=>
   bif d1==y3 then
    (some v2)
   else
    ((Ar8 d0 d1 nL1) (IntKind.i64.wrap (v2+1))))
  else
   (some (-1))
def Dt5(fuel:Nat)(d0:List Int)(d1:Int):Option Int:=
 Ar8 d0 d1 fuel 0
noncomputable abbrev Ef1:=C1 Tryz.f165
abbrev Ei4(r:Int):=J none Tryz.prog 19 [] (L3 Tryz.prog Tryz.f165 (.i r))
theorem Cu7{fuel:Nat}{d0:List Int}{d1:Int}{r:Int}(hF:Dt5 fuel d0 d1=some r):
 C3 Tryz.prog 165 [.l 1 d0 B1,.i d1] (.i r):=by
 unfold Dt5 at hF
 refine cf 19 Tryz.func165 ?_
 have hL1:∀(nL1:Nat) (v2:Int),Ar8 d0 d1 nL1 v2=some r→Ei4 r ⟨mkT [(0,.l 1 d0 B1),(1,.i d1),(7,.i ((d0.map B1).length:Int)),(8,.i v2)],[],[kL Ef1 [1,0,1,0,0],.inBlock 0,kC Ef1 [1,1]]⟩:=by
  clear hF;intro nL1
  induction nL1 with
  |zero=>intro v2 hF;cases hF
  |succ nL1 iL1=>
   intro v2 hF
   rw[Ar8]at hF
   refine jI 6 9 hF ?_ ?_<;>intro hF
   ·obtain⟨y3,e3,hF⟩:=bnd hF
    refine jo1 14 (gm (f:=B1) e3) ?_
    refine jI 3 16 hF ?_ ?_<;>intro hF
    ·cases hF
     exact jr 6
    ·exact ja 7 (iL1 _ hF)
   ·cases hF
    exact jr 6
 exact ja 13 (hL1 _ _ hF)
def Ds6(fuel:Nat)(d0:List Int)(d1:Int):Option Bool:=
 Option.bind (Dt5 fuel d0 d1) fun y1=>
 some (decide (y1≥0))
theorem Cs3{fuel:Nat}{d0:List Int}{d1:Int}{r:Bool}(hF:Ds6 fuel d0 d1=some r):
 C3 Tryz.prog 110 [.l 1 d0 B1,.i d1] (.b r):=by
 unfold Ds6 at hF
 refine cf 9 Tryz.func110 ?_
 refine jB 8 hF Ea1 Cu7 fun y1 hF=> ?_
 cases hF
 exact jr 3
def F62(fuel:Nat)(d0:B6):Option Bool:=
 Option.bind (
  Option.bind (F61 fuel d0) fun y5=>
  bif y5==0 then
   (Option.bind (Ds6 fuel d0.Owner 1) fun y6=>
   some (!y6))
  else
   (some false)) fun o1=>
 some o1
noncomputable abbrev b62:=C1 Tryz.f62
abbrev G62(r:Bool):=J none Tryz.prog 12 [] (L3 Tryz.prog Tryz.f62 (.b r))
theorem Di3{fuel:Nat}{d0:B6}{r:Bool}(hF:F62 fuel d0=some r):
 C3 Tryz.prog 62 [.agg [.l 1 d0.Owner B1,.l 1 d0.Choices A0]] (.b r):=by
 unfold F62 at hF
 refine cf 12 Tryz.func62 ?_
 obtain⟨o1,hO,hF⟩:=bnd hF
 have hR1:G62 r ⟨mkT [(2,.b o1)],[],[kO b62 [1,0],kC b62 [1,1]]⟩:=by
  clear hO
  cases hF
  exact jr 1
 clear hF;rename _=some o1=>hF
 refine jB 8 hF Eh1 Cp4 fun y5 hF=> ?_
 refine jI 2 6 hF ?_ ?_<;>intro hF
 ·refine jB 2 hF Dy7 Cs3 fun y6 hF=> ?_
  cases hF
  exact ja 3 hR1
 ·cases hF
  exact ja 6 hR1
def F34(fuel:Nat)(d0:B6)(d1:Int):Option Int:=
 Option.bind (F61 fuel d0) fun y1=>
 bif y1 !=0 then
  (some y1)
 else
  (Option.bind (F62 fuel d0) fun y2=>
  bif !y2 then
   (some 111)
  else
   (ass (decide (0≤((d0.Owner.map B1).length:Int)))<|
   bif (Int.fdiv d1 (2^(min (Int.toNat ((d0.Owner.map B1).length:Int)) IntKind.u64.bits))) !=0 then
    (some 2)
   else
    (some 0)))
theorem Cp1{fuel:Nat}{d0:B6}{d1:Int}{r:Int}(hF:F34 fuel d0 d1=some r):
 C3 Tryz.prog 34 [.agg [.l 1 d0.Owner B1,.l 1 d0.Choices A0],.n d1] (.i r):=by
 unfold F34 at hF
 refine cf 20 Tryz.func34 ?_
 refine jB 9 hF Eh1 Cp4 fun y1 hF=> ?_
 refine jI 7 9 hF ?_ ?_<;>intro hF
 ·cases hF
  exact jr 6
 ·refine jB 6 hF El8 Di3 fun y2 hF=> ?_
  refine jI 2 13 hF ?_ ?_<;>intro hF
  ·cases hF
   exact jr 5
  ·obtain⟨hb3,hF⟩:=N1 hF
   refine jo1 9 (ck hb3) ?_
   refine jI 2 19 hF ?_ ?_<;>intro hF
   ·cases hF
    exact jr 5
   ·cases hF
    exact jr 6
end
end Go.Proofs.YtdlnalepibeibaaGreatDoor
end
