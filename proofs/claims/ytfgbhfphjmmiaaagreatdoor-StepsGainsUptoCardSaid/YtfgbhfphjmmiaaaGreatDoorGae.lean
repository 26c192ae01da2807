/- One part of the texts that lead to the theorem; it claims nothing by itself. -/
import Derived.Test.YtfgbhfphjmmiaaaGreatDoorGad
open List Go.Proofs.Tryz
section
set_option linter.unusedVariables false
set_option maxRecDepth 100000
namespace Go.Proofs.YtfgbhfphjmmiaaaGreatDoor
open Go Go.RowKit Kx Go.IntKind
section
def F43(fuel:Nat)(d0:A9)(d1:Int)(d2:Int):Option Int:=
 (F93 fuel d0).bind fun y1=>
 bif y1 !=0 then
  (some y1)
 else
  ((
   ass (decide (0<=((d0.Owner.map A3).length:Int)))<|
   bif (u64.wrap (BitVec.ofInt u64.bits d1&&& ~~~BitVec.ofInt u64.bits (u64.wrap ((u64.wrap (1*2^(min (Int.toNat ((d0.Owner.map A3).length:Int)) u64.bits)))-1))).toNat) !=0 then
    (some true)
   else
    (bif decide (d2<0) then
     (some true)
    else
     (some (decide (d2>60))))).bind fun o1=>
  bif o1 then
   (some 2)
  else
   (some 0))
noncomputable abbrev b43:=C0 f43
abbrev G43(r:Int):=GJ prog 29 f43 (.i r)
theorem Cm2{fuel}{d0}{d1}{d2}{r}(hF:F43 fuel d0 d1 d2=some r):
 C1 prog 43 [.agg [.l 1 d0.Owner A3,.l 1 d0.Choices A0],.n d1,.i d2] (.i r):=by
 refine cf 29 func43 ?_;refine jB 9 hF Fp7 fun y1 hF=> ?_
 refine jI 7 11 hF ?_ ?_<;>intro hF
 .cases hF;exact jr 6
 .obtain⟨o1,hO,hF⟩:=bnd hF;have hR1:G43 r ⟨mkT [(28,.b o1)],[],[kO b43 28,kC b43 29,kC b43 15]⟩:=by
   clear hO;refine jI 1 28 hF ?_ ?_<;>intro hF
   .cases hF;exact jr 5
   .cases hF;exact jr 6
  clear hF;rename _=some o1=>hF
  obtain⟨hb9,hF⟩:=O1 hF;refine jo1 9 (ck hb9) ?_;refine jI 4 21 hF ?_ ?_<;>intro hF
  .cases hF;exact ja 7 hR1
  .refine jI 4 25 hF ?_ ?_<;>intro hF
   .cases hF;exact ja 3 hR1
   .cases hF;exact ja 3 hR1
def Bg4(fuel:Nat)(d1:Int)(l1:List A7):Nat->Int->(List A7)->Option (List A7)
 |0,_,_=>none
 |nL1+1,v2,l5=>
  bif decide (v2<((l1.map A8).length:Int)) then
   (ass (decide (0<=v2))<|
   (F51 fuel (i64.wrap (u64.wrap (BitVec.ofInt u64.bits (Int.fdiv d1 (2^(min (Int.toNat v2) u64.bits)))&&&BitVec.ofInt u64.bits 1).toNat)) 1).bind fun y5=>
   (C2 l5 v2).bind fun y6=>
   (some (l5.set (0+Int.toNat v2) y5)).bind fun l6=>
   (Bg4 fuel d1 l1 nL1) (i64.wrap (v2+1)) l6)
  else
   (some l5)
def F44(fuel:Nat)(d0:A9)(d1:Int):Option (List A7):=
 (mkL ((d0.Owner.map A3).length:Int) ((d0.Owner.map A3).length:Int) (⟨(⟨false,[]⟩:A5),(⟨false,[]⟩:A5)⟩:A7)).bind fun l1=>
 Bg4 fuel d1 l1 fuel 0 l1
noncomputable abbrev b44:=C0 f44
abbrev G44(r:List A7):=GJ prog 27 f44 (.l 4 r A8)
theorem Cm3{fuel}{d0}{d1}{r}(hF:F44 fuel d0 d1=some r):
 C1 prog 44 [.agg [.l 1 d0.Owner A3,.l 1 d0.Choices A0],.n d1] (.l 4 r A8):=by
 refine cf 27 func44 ?_;obtain⟨l1,e1,hF⟩:=bnd hF;refine jo2 10 (mm' A8 e1) ?_;have hL1:∀nL1 v2 l5,Bg4 fuel d1 l1 nL1 v2 l5=some r->G44 r ⟨mkT [(1,.n d1),(5,.suf 10 0 0),(12,.i ((l1.map A8).length:Int)),(13,.i v2)],[(10,.buf 0 100 4 (l5.map A8))],[kL b44 116,.inBlock 0,kC b44 15]⟩:=by
  clear hF;refine lpI (fun _ _ h=>by cases h) fun nL1 iL1 v2 l5 hF=> ?_
  refine jI 6 14 hF ?_ ?_<;>intro hF
  .obtain⟨hb6,hF⟩:=O1 hF;refine jo1 14 (ck hb6) ?_;refine jB 2 hF Cm5 fun y5 hF=> ?_
   obtain⟨y6,e9,hF⟩:=bnd hF;refine jo1 0 (gm' A8 e9) ?_;obtain⟨l6,e10,hF⟩:=bnd hF;have hst:=stm (f:=A8) (z:=y5) (k:=0) (xs:=[.bool y5.n_.neg,.sl 1 (y5.n_.mag.map A6),.bool y5.d.neg,.sl 1 (y5.d.mag.map A6)]) (gj e9) rfl;refine B5 0 (G0 (o:=(match(l5.map A8)[0+Int.toNat v2]? with|some old=>some ((l5.map A8).set (0+Int.toNat v2) (Z1 old 0 [.bool y5.n_.neg,.sl 1 (y5.n_.mag.map A6),.bool y5.d.neg,.sl 1 (y5.d.mag.map A6)]))|none=>none)) (l6.map A8) (by kernel_rfl) (by cases e10;exact hst) ?_);exact ja 6 (iL1 _ _ hF)
  .cases hF;exact jr 7
 exact ja 11 (hL1 _ _ _ hF)
def F45(d0:A9)(d1:Int):Option (List Int×List (List A2)×Int):=
 some (d0.Owner,d0.Choices,d1)
noncomputable abbrev b45:=C0 f45
theorem Dg0{d0}{d1}{r}(hF:F45 d0 d1=some r):
 M4 prog 45 [] [.agg [.l 1 d0.Owner A3,.l 1 d0.Choices A0],.n d1] [(2000,.box 34 [.l 1 r.1 A3,.l 1 r.2.1 A0]),(2001,.box 40 [.n r.2.2])] (.fn 94 [] [.ptr 2000 0,.ptr 2001 0]):=by
 unfold F45 at hF;refine cr 6 func45 ?_;refine ja 11 (S0:=[(4,.fn 94 [] [.ptr 2 0,.ptr 3 0])]) (O0:=[(2,.box 34 [.l 1 d0.Owner A3,.l 1 d0.Choices A0]),(3,.box 40 [.n d1])]) (T0:=[kC b45 7]) ?_;refine B5 0 (Ay1 [(2,2000),(3,2001)] (by kernel_rfl) (by kernel_rfl) (by kernel_rfl) (by kernel_rfl) ?_);have hF:=oi hF;subst hF;exact B5 0 (Bl4 (xs:=[.fn 94 [] [.ptr 2000 0,.ptr 2001 0]]) [.fn 94 [] [.ptr 2000 0,.ptr 2001 0]] rfl (by kernel_rfl) (by kernel_rfl) (R1.refl _) rfl)
def Bg6(fuel:Nat)(d0:A2)(d1:List A7):Nat->Int->Bool->(List Int)->Bool->(List Int)->Option A7
 |0,_,_,_,_,_=>none
 |nL1+1,v2,t3,l3,t4,l4=>
  bif decide (v2<((d0.Next.map A4).length:Int)) then
   ((C2 d0.Next v2).bind fun y20=>
   (F48 fuel y20.P).bind fun y25=>
   (C2 d1 y20.To).bind fun y26=>
   (F86 fuel y25 y26).bind fun y27=>
   (F54 fuel (⟨(⟨t3,l3⟩:A5),(⟨t4,l4⟩:A5)⟩:A7) y27).bind fun y28=>
   (Bg6 fuel d0 d1 nL1) (i64.wrap (v2+1)) y28.n_.neg y28.n_.mag y28.d.neg y28.d.mag)
  else
   (some (⟨(⟨t3,l3⟩:A5),(⟨t4,l4⟩:A5)⟩:A7))
def F55(fuel:Nat)(d0:A2)(d1:List A7):Option A7:=
 (F51 fuel 0 1).bind fun y1=>
 Bg6 fuel d0 d1 fuel 0 y1.n_.neg y1.n_.mag y1.d.neg y1.d.mag
noncomputable abbrev b55:=C0 f55
abbrev G55(r:A7):=GJ prog 29 f55 (.agg [.b r.n_.neg,.l 1 r.n_.mag A6,.b r.d.neg,.l 1 r.d.mag A6])
theorem El2{fuel}{d0}{d1}{r}(hF:F55 fuel d0 d1=some r):
 C1 prog 55 [.agg [.s d0.Act,.s d0.Gain,.l 2 d0.Next A4],.l 4 d1 A8] (.agg [.b r.n_.neg,.l 1 r.n_.mag A6,.b r.d.neg,.l 1 r.d.mag A6]):=by
 refine cf 29 func55 ?_;refine jB 7 hF Cm5 fun y1 hF=> ?_
 have hL1:∀nL1 v2 t3 l3 t4 l4,Bg6 fuel d0 d1 nL1 v2 t3 l3 t4 l4=some r->G55 r ⟨mkT [(1,.l 4 d1 A8),(4,.ptr 4 0),(5,.ptr 5 0),(10,.l 2 d0.Next A4),(11,.i ((d0.Next.map A4).length:Int)),(12,.i v2)],[(4,.box 100 [.b false,.esl 1,.b false,.esl 1]),(5,.box 100 [.b t3,.l 1 l3 A6,.b t4,.l 1 l4 A6])],[kL b55 116,.inBlock 0,kC b55 15]⟩:=by
  clear hF;refine lpI (fun _ _ _ _ _ h=>by cases h) fun nL1 iL1 v2 t3 l3 t4 l4 hF=> ?_
  refine jI 6 13 hF ?_ ?_<;>intro hF
  .obtain⟨y20,e20,hF⟩:=bnd hF;refine jo1 6 (gm' A4 e20) ?_;refine jd 4 ?_;refine dB 3 hF Bs0 fun y25 hF=> ?_
   obtain⟨y26,e26,hF⟩:=bnd hF;refine do1 3 (gm' A8 e26) ?_;refine dB 1 hF Fp5 fun y27 hF=> ?_
   refine dB 0 hF El1 fun y28 hF=> ?_
   refine je 1 ?_;exact ja 5 (iL1 _ _ _ _ _ hF)
  .cases hF;exact jr 7
 exact ja 13 (hL1 _ _ _ _ _ _ hF)
def F95(fuel:Nat)(d0:A2)(d1:List A7):Option A7:=
 (F55 fuel d0 d1).bind fun y1=>
 some y1
theorem El6{fuel}{d0}{d1}{r}(hF:F95 fuel d0 d1=some r):
 C1 prog 95 [.agg [.s d0.Act,.s d0.Gain,.l 2 d0.Next A4],.rp [.sl 4 (d1.map A8)] 0] (.agg [.b r.n_.neg,.l 1 r.n_.mag A6,.b r.d.neg,.l 1 r.d.mag A6]):=by
 refine cf 7 func95 ?_;refine jB 9 hF El2 fun y1 hF=> ?_
 cases hF;exact jr 2
def Cm6(v6:Int)(cL1:Int->Int->Bool->(List Int)->Bool->(List Int)->Option (A7×Int))(v7:Int)(t14:Bool)(l10:List Int)(t15:Bool)(l11:List Int):Option (A7×Int):=
 cL1 v7 (i64.wrap (v6+1)) t14 l10 t15 l11
def Bs1(fuel:Nat)(d0:Int)(d2:List A7)(l1:List A2):Nat->Int->Int->Bool->(List Int)->Bool->(List Int)->Option (A7×Int)
 |0,_,_,_,_,_,_=>none
 |nL1+1,v5,v6,t11,l8,t12,l9=>
  bif decide (v6<((l1.map A1).length:Int)) then
   ((C2 l1 v6).bind fun y18=>
   (F95 fuel y18 d2).bind fun y19=>
   (F50 fuel y19 (⟨(⟨t11,l8⟩:A5),(⟨t12,l9⟩:A5)⟩:A7)).bind fun y20=>
   (
    bif d0==0 then
     (bif decide (y20>0) then
      (some true)
     else
      (bif d0==1 then
       (some (decide (y20<0)))
      else
       (some false)))
    else
     (bif d0==1 then
      (some (decide (y20<0)))
     else
      (some false))).bind fun o6=>
   bif o6 then
    (Cm6 v6 (Bs1 fuel d0 d2 l1 nL1) (i64.wrap (v6+1)) y19.n_.neg y19.n_.mag y19.d.neg y19.d.mag)
   else
    (Cm6 v6 (Bs1 fuel d0 d2 l1 nL1) v5 t11 l8 t12 l9))
  else
   (some ((⟨(⟨t11,l8⟩:A5),(⟨t12,l9⟩:A5)⟩:A7),v5))
def F52(fuel:Nat)(d0:Int)(d1:List A2)(d2:List A7):Option (A7×Int):=
 (C2 d1 0).bind fun y1=>
 (F95 fuel y1 d2).bind fun y2=>
 (slc d1 1 (d1.length:Int)).bind fun l1=>
 Bs1 fuel d0 d2 l1 fuel 0 0 y2.n_.neg y2.n_.mag y2.d.neg y2.d.mag
noncomputable abbrev b52:=C0 f52
abbrev G52(r:A7×Int):=GJ prog 53 f52 (.tup [.agg [.b r.1.n_.neg,.l 1 r.1.n_.mag A6,.b r.1.d.neg,.l 1 r.1.d.mag A6],.i r.2])
theorem Fo6{fuel}{d0}{d1}{d2}{r}(hF:F52 fuel d0 d1 d2=some r):
 C1 prog 52 [.i d0,.l 3 d1 A1,.fn 95 [] [.rp [.sl 4 (d2.map A8)] 0]] (.tup [.agg [.b r.1.n_.neg,.l 1 r.1.n_.mag A6,.b r.1.d.neg,.l 1 r.1.d.mag A6],.i r.2]):=by
 refine cf 53 func52 ?_;obtain⟨y1,e1,hF⟩:=bnd hF;refine jo1 9 (gm' A1 e1) ?_;refine jB 1 hF El6 fun y2 hF=> ?_
 obtain⟨l1,e3,hF⟩:=bnd hF;refine jo2 8 (smh (f:=A1) e3) ?_;have hL1:∀nL1 v5 v6 t11 l8 t12 l9,Bs1 fuel d0 d2 l1 nL1 v5 v6 t11 l8 t12 l9=some r->G52 r ⟨mkT [(0,.i d0),(2,.fn 95 [] [.rp [.sl 4 (d2.map A8)] 0]),(6,.ptr 6 0),(8,.i v5),(9,.ptr 9 0),(20,.l 3 l1 A1),(21,.i ((l1.map A1).length:Int)),(22,.i v6)],[(6,.box 100 [.b false,.esl 1,.b false,.esl 1]),(9,.box 100 [.b t11,.l 1 l8 A6,.b t12,.l 1 l9 A6])],[kL b52 116,.inBlock 0,kC b52 15]⟩:=by
  clear hF;refine lpI (fun _ _ _ _ _ _ h=>by cases h) fun nL1 iL1 v5 v6 t11 l8 t12 l9 hF=> ?_
  refine jI 6 23 hF ?_ ?_<;>intro hF
  .have hA2:∀v7 t14 l10 t15 l11,Cm6 v6 (Bs1 fuel d0 d2 l1 nL1) v7 t14 l10 t15 l11=some r->G52 r ⟨mkT [(0,.i d0),(2,.fn 95 [] [.rp [.sl 4 (d2.map A8)] 0]),(6,.ptr 6 0),(8,.i v7),(9,.ptr 9 0),(20,.l 3 l1 A1),(21,.i ((l1.map A1).length:Int)),(22,.i v6)],[(6,.box 100 [.b false,.esl 1,.b false,.esl 1]),(9,.box 100 [.b t14,.l 1 l10 A6,.b t15,.l 1 l11 A6])],[kC b52 935,kL b52 116,.inBlock 0,kC b52 15]⟩:=by
    intro v7 t14 l10 t15 l11 hF;unfold Cm6 at hF;exact ja 4 (iL1 _ _ _ _ _ _ hF)
   obtain⟨y18,e19,hF⟩:=bnd hF;refine jo1 7 (gm' A1 e19) ?_;refine jB 9 hF El6 fun y19 hF=> ?_
   refine jB 7 hF Cm4 fun y20 hF=> ?_
   obtain⟨o6,hO,hF⟩:=bnd hF;have hR6:G52 r ⟨mkT [(0,.i d0),(2,.fn 95 [] [.rp [.sl 4 (d2.map A8)] 0]),(6,.ptr 6 0),(8,.i v5),(9,.ptr 9 0),(10,.i v6),(12,.ptr 12 0),(20,.l 3 l1 A1),(21,.i ((l1.map A1).length:Int)),(22,.i v6),(46,.b o6)],[(6,.box 100 [.b false,.esl 1,.b false,.esl 1]),(9,.box 100 [.b t11,.l 1 l8 A6,.b t12,.l 1 l9 A6]),(12,.box 100 [.b y19.n_.neg,.l 1 y19.n_.mag A6,.b y19.d.neg,.l 1 y19.d.mag A6])],[kO b52 29902,kC b52 29903,.inBlock 1,kC b52 935,kL b52 116,.inBlock 0,kC b52 15]⟩:=by
    clear hO;refine jI 1 46 hF ?_ ?_<;>intro hF
    .refine jd 1 ?_;refine je 5 ?_;exact ja 1 (hA2 _ _ _ _ _ hF)
    .exact ja 3 (hA2 _ _ _ _ _ hF)
   clear hF;rename _=some o6=>hF
   refine jI 7 35 hF ?_ ?_<;>intro hF
   .refine jI 4 39 hF ?_ ?_<;>intro hF
    .cases hF;exact ja 7 hR6
    .refine jI 3 42 hF ?_ ?_<;>intro hF
     .cases hF;exact ja 4 hR6
     .cases hF;exact ja 4 hR6
   .refine jI 7 42 hF ?_ ?_<;>intro hF
    .cases hF;exact ja 4 hR6
    .cases hF;exact ja 4 hR6
  .cases hF;exact jr 9
 exact ja 5 (hL1 _ _ _ _ _ _ _ hF)
def Cm9(v2:Int)(cL1:Int->(List Int)->(List A7)->Option (List A7×List Int))(l28:List Int)(l29:List A7):Option (List A7×List Int):=
 cL1 (i64.wrap (v2+1)) l28 l29
def Bs7(fuel:Nat)(d0:List A7)(d1:List Int)(d2:List (List A2))(d3:Int):Nat->Int->(List Int)->(List A7)->Option (List A7×List Int)
 |0,_,_,_=>none
 |nL1+1,v2,l23,l24=>
  bif decide (v2<((d2.map A0).length:Int)) then
   ((C2 d2 v2).bind fun y36=>
   ass (decide (0<=v2))<|
   bif (u64.wrap (BitVec.ofInt u64.bits (Int.fdiv d3 (2^(min (Int.toNat v2) u64.bits)))&&&BitVec.ofInt u64.bits 1).toNat)==1 then
    ((F51 fuel 1 1).bind fun y37=>
    (C2 l24 v2).bind fun y38=>
    (some (l24.set (0+Int.toNat v2) y37)).bind fun l30=>
    Cm9 v2 (Bs7 fuel d0 d1 d2 d3 nL1) l23 l30)
   else
    ((C2 d1 v2).bind fun y39=>
    (F52 fuel y39 y36 d0).bind fun y40=>
    (C2 l24 v2).bind fun y41=>
    (some (l24.set (0+Int.toNat v2) y40.1)).bind fun l31=>
    (C2 l23 v2).bind fun y42=>
    (some (l23.set (0+Int.toNat v2) y40.2)).bind fun l32=>
    Cm9 v2 (Bs7 fuel d0 d1 d2 d3 nL1) l32 l31))
  else
   (some (l24,l23))
def F94(fuel:Nat)(d0:List A7)(d1:List Int)(d2:List (List A2))(d3:Int):Option (List A7×List Int):=
 (mkL ((d0.map A8).length:Int) ((d0.map A8).length:Int) (⟨(⟨false,[]⟩:A5),(⟨false,[]⟩:A5)⟩:A7)).bind fun l3=>
 (mkL ((d0.map A8).length:Int) ((d0.map A8).length:Int) 0).bind fun l4=>
 Bs7 fuel d0 d1 d2 d3 fuel 0 l4 l3
noncomputable abbrev b94:=C0 f94
abbrev G94(r:List A7×List Int):=GJ prog 53 f94 (.tup [.l 4 r.1 A8,.l 1 r.2 A3])
theorem Dg9{fuel}{d0}{d1}{d2}{d3}{r}(hF:F94 fuel d0 d1 d2 d3=some r):
 C1 prog 94 [.l 4 d0 A8,.rp [.sl 1 (d1.map A3),.sl 1 (d2.map A0)] 0,.rp [.int .u64 d3] 0] (.tup [.l 4 r.1 A8,.l 1 r.2 A3]):=by
 unfold F94 at hF;refine cf 53 func94 ?_;refine jd 7 ?_;obtain⟨l3,e3,hF⟩:=bnd hF;refine do2 2 (mm' A8 e3) ?_;obtain⟨l4,e4,hF⟩:=bnd hF;refine do2 2 (mm' A3 e4) ?_;refine je 2 ?_;have hL1:∀nL1 v2 l23 l24,Bs7 fuel d0 d1 d2 d3 nL1 v2 l23 l24=some r->G94 r ⟨mkT [(1,.rp [.sl 1 (d1.map A3),.sl 1 (d2.map A0)] 0),(2,.rp [.int .u64 d3] 0),(3,.ptr 3 0),(6,.suf 12 0 0),(7,.suf 15 0 0),(17,.l 1 d2 A0),(18,.i ((d2.map A0).length:Int)),(19,.i v2)],[(3,.fzb [.l 4 d0 A8]),(12,.buf 0 100 4 (l24.map A8)),(15,.buf 0 3 1 (l23.map A3))],[kL b94 116,.inBlock 0,kC b94 15]⟩:=by
  clear hF;refine lpI (fun _ _ _ h=>by cases h) fun nL1 iL1 v2 l23 l24 hF=> ?_
  refine jI 6 20 hF ?_ ?_<;>intro hF
  .have hA2:∀l28 l29,Cm9 v2 (Bs7 fuel d0 d1 d2 d3 nL1) l28 l29=some r->G94 r ⟨mkT [(1,.rp [.sl 1 (d1.map A3),.sl 1 (d2.map A0)] 0),(2,.rp [.int .u64 d3] 0),(3,.ptr 3 0),(6,.suf 12 0 0),(7,.suf 15 0 0),(17,.l 1 d2 A0),(18,.i ((d2.map A0).length:Int)),(19,.i v2)],[(3,.fzb [.l 4 d0 A8]),(12,.buf 0 100 4 (l29.map A8)),(15,.buf 0 3 1 (l28.map A3))],[kC b94 935,kL b94 116,.inBlock 0,kC b94 15]⟩:=by
    intro l28 l29 hF;unfold Cm9 at hF;exact ja 4 (iL1 _ _ _ hF)
   obtain⟨y36,e55,hF⟩:=bnd hF;refine jo1 7 (gm' A0 e55) ?_;obtain⟨hb14,hF⟩:=O1 hF;refine jo1 9 (ck hb14) ?_;refine jI 3 28 hF ?_ ?_<;>intro hF
   .refine jB 5 hF Cm5 fun y37 hF=> ?_
    obtain⟨y38,e57,hF⟩:=bnd hF;refine jo1 0 (gm' A8 e57) ?_;obtain⟨l30,e58,hF⟩:=bnd hF;have hst:=stm (f:=A8) (z:=y37) (k:=0) (xs:=[.bool y37.n_.neg,.sl 1 (y37.n_.mag.map A6),.bool y37.d.neg,.sl 1 (y37.d.mag.map A6)]) (gj e57) rfl;refine B5 0 (G0 (o:=(match(l24.map A8)[0+Int.toNat v2]? with|some old=>some ((l24.map A8).set (0+Int.toNat v2) (Z1 old 0 [.bool y37.n_.neg,.sl 1 (y37.n_.mag.map A6),.bool y37.d.neg,.sl 1 (y37.d.mag.map A6)]))|none=>none)) (l30.map A8) (by kernel_rfl) (by cases e58;exact hst) ?_);exact ja 2 (hA2 _ _ hF)
   .obtain⟨y39,e59,hF⟩:=bnd hF;refine jo1 10 (gm' A3 e59) ?_;refine jB 3 hF Fo6 fun y40 hF=> ?_
    obtain⟨y41,e61,hF⟩:=bnd hF;refine jo1 3 (gm' A8 e61) ?_;obtain⟨l31,e62,hF⟩:=bnd hF;have hst:=stm (f:=A8) (z:=y40.1) (k:=0) (xs:=[.bool y40.1.n_.neg,.sl 1 (y40.1.n_.mag.map A6),.bool y40.1.d.neg,.sl 1 (y40.1.d.mag.map A6)]) (gj e61) rfl;refine B5 0 (G0 (o:=(match(l24.map A8)[0+Int.toNat v2]? with|some old=>some ((l24.map A8).set (0+Int.toNat v2) (Z1 old 0 [.bool y40.1.n_.neg,.sl 1 (y40.1.n_.mag.map A6),.bool y40.1.d.neg,.sl 1 (y40.1.d.mag.map A6)]))|none=>none)) (l31.map A8) (by kernel_rfl) (by cases e62;exact hst) ?_);obtain⟨y42,e63,hF⟩:=bnd hF;refine jo1 0 (gm' A3 e63) ?_;obtain⟨l32,e64,hF⟩:=bnd hF;have hst:=stm (f:=A3) (z:=y40.2) (k:=0) (xs:=[.int .i64 y40.2]) (gj e63) rfl;refine B5 0 (G0 (o:=(match(l23.map A3)[0+Int.toNat v2]? with|some old=>some ((l23.map A3).set (0+Int.toNat v2) (Z1 old 0 [.int .i64 y40.2]))|none=>none)) (l32.map A3) (by kernel_rfl) (by cases e64;exact hst) ?_);exact ja 2 (hA2 _ _ hF)
  .cases hF;exact jr 9
 refine B5 10 (Ce3 (te:=88) 3 [.l 4 d0 A8] (by kernel_rfl) (by kernel_rfl) ?_);exact ja 0 (hL1 _ _ _ _ hF)
def Bg5(fuel:Nat)(d0:List A7):Nat->Int->(List (List UInt8))->Option (List (List UInt8))
 |0,_,_=>none
 |nL1+1,v2,l5=>
  bif decide (v2<((d0.map A8).length:Int)) then
   ((C2 d0 v2).bind fun y7=>
   (F87 fuel y7).bind fun y8=>
   (C2 l5 v2).bind fun y9=>
   (some (l5.set (0+Int.toNat v2) y8)).bind fun l6=>
   (Bg5 fuel d0 nL1) (i64.wrap (v2+1)) l6)
  else
   (some l5)
def F46(fuel:Nat)(d0:List A7):Option (List (List UInt8)):=
 (mkL ((d0.map A8).length:Int) ((d0.map A8).length:Int) []).bind fun l1=>
 Bg5 fuel d0 fuel 0 l1
noncomputable abbrev b46:=C0 f46
abbrev G46(r:List (List UInt8)):=GJ prog 23 f46 (.l 1 r e_s)
theorem Dg1{fuel}{d0}{r}(hF:F46 fuel d0=some r):
 C1 prog 46 [.l 4 d0 A8] (.l 1 r e_s):=by
 refine cf 23 func46 ?_;obtain⟨l1,e1,hF⟩:=bnd hF;refine jo2 8 (mm' e_s e1) ?_;have hL1:∀nL1 v2 l5,Bg5 fuel d0 nL1 v2 l5=some r->G46 r ⟨mkT [(3,.suf 8 0 0),(9,.l 4 d0 A8),(10,.i ((d0.map A8).length:Int)),(11,.i v2)],[(8,.buf 0 23 1 (l5.map e_s))],[kL b46 116,.inBlock 0,kC b46 15]⟩:=by
  clear hF;refine lpI (fun _ _ h=>by cases h) fun nL1 iL1 v2 l5 hF=> ?_
  refine jI 6 12 hF ?_ ?_<;>intro hF
  .obtain⟨y7,e10,hF⟩:=bnd hF;refine jo1 7 (gm' A8 e10) ?_;refine jB 9 hF Fp6 fun y8 hF=> ?_
   obtain⟨y9,e12,hF⟩:=bnd hF;refine jo1 0 (gm' e_s e12) ?_;obtain⟨l6,e13,hF⟩:=bnd hF;have hst:=stm (f:=e_s) (z:=y8) (k:=0) (xs:=[.str y8]) (gj e12) rfl;refine B5 0 (G0 (o:=(match(l5.map e_s)[0+Int.toNat v2]? with|some old=>some ((l5.map e_s).set (0+Int.toNat v2) (Z1 old 0 [.str y8]))|none=>none)) (l6.map e_s) (by kernel_rfl) (by cases e13;exact hst) ?_);exact ja 6 (iL1 _ _ hF)
  .cases hF;exact jr 7
 exact ja 11 (hL1 _ _ _ hF)
def Dd1(fuel:Nat)(d2:Int)(y5:List Int×List (List A2)×Int):Nat->(List A7)->Int->Option (List (List UInt8)×Int)
 |0,_,_=>none
 |nL1+1,l2,v2=>
  bif decide (v2<d2) then
   ((F94 fuel l2 y5.1 y5.2.1 y5.2.2).bind fun y8=>
   (Dd1 fuel d2 y5 nL1) y8.1 (i64.wrap (v2+1)))
  else
   ((F46 fuel l2).bind fun y9=>
   some (y9,0))
def F12(fuel:Nat)(d0:A9)(d1:Int)(d2:Int):Option (List (List UInt8)×Int):=
 (F43 fuel d0 d1 d2).bind fun y1=>
 bif y1 !=0 then
  (some ([],y1))
 else
  ((F44 fuel d0 d1).bind fun y4=>
  (F45 d0 d1).bind fun y5=>
  Dd1 fuel d2 y5 fuel y4 0)
noncomputable abbrev b12:=C0 f12
abbrev G12(r:List (List UInt8)×Int):=GJ prog 36 f12 (.tup [.l 1 r.1 e_s,.i r.2])
theorem Ek2{fuel}{d0}{d1}{d2}{r}(hF:F12 fuel d0 d1 d2=some r):
 C1 prog 12 [.agg [.l 1 d0.Owner A3,.l 1 d0.Choices A0],.n d1,.i d2] (.tup [.l 1 r.1 e_s,.i r.2]):=by
 refine cf 36 func12 ?_;refine jB 12 hF Cm2 fun y1 hF=> ?_
 refine jI 7 16 hF ?_ ?_<;>intro hF
 .cases hF;exact jr 7
 .refine jd 3 ?_;refine dB 2 hF Cm3 fun y4 hF=> ?_
  obtain⟨y5,e5,hF⟩:=bnd hF;refine dcr 2 [(23,2000),(1123,2001)] (Dg0 e5) ?_;refine je 2 ?_;have hL1:∀nL1 l2 v2,Dd1 fuel d2 y5 nL1 l2 v2=some r->G12 r ⟨mkT [(9,.l 4 l2 A8),(10,.fn 94 [] [.ptr 23 0,.ptr 1123 0]),(24,.i d2),(25,.i v2)],[(23,.fzb [.l 1 y5.1 A3,.l 1 y5.2.1 A0]),(1123,.fzb [.n y5.2.2])],[kL b12 244,.inBlock 0,kC b12 31]⟩:=by
   clear hF;refine lpI (fun _ _ h=>by cases h) fun nL1 iL1 l2 v2 hF=> ?_
   refine jI 6 26 hF ?_ ?_<;>intro hF
   .refine jB 7 hF Dg9 fun y8 hF=> ?_
    exact ja 10 (iL1 _ _ hF)
   .refine jB 5 hF Dg1 fun y9 hF=> ?_
    cases hF;exact jr 3
  refine B5 8 (Ce3 (te:=40) 1123 [.n y5.2.2] (by kernel_rfl) (by kernel_rfl) ?_);refine B5 0 (Ce3 (te:=34) 23 [.l 1 y5.1 A3,.l 1 y5.2.1 A0] (by kernel_rfl) (by kernel_rfl) ?_);exact ja 0 (hL1 _ _ _ hF)
def K8(x:List Int):List Dat:=[.sl 1 (x.map A3)]
def De2(fuel:Nat)(d2:Int)(y5:List Int×List (List A2)×Int):Nat->(List A7)->Int->(List (List Int))->Option (List (List Int)×Int)
 |0,_,_,_=>none
 |nL1+1,l6,v2,l7=>
  bif decide (v2<d2) then
   ((F94 fuel l6 y5.1 y5.2.1 y5.2.2).bind fun y10=>
   (C2 l7 (i64.wrap ((i64.wrap (d2-1))-v2))).bind fun y11=>
   (some (l7.set (0+Int.toNat (i64.wrap ((i64.wrap (d2-1))-v2))) y10.2)).bind fun l8=>
   (De2 fuel d2 y5 nL1) y10.1 (i64.wrap (v2+1)) l8)
  else
   (some (l7,0))
def F15(fuel:Nat)(d0:A9)(d1:Int)(d2:Int):Option (List (List Int)×Int):=
 (F43 fuel d0 d1 d2).bind fun y1=>
 bif y1 !=0 then
  (some ([],y1))
 else
  ((F44 fuel d0 d1).bind fun y4=>
  (F45 d0 d1).bind fun y5=>
  (mkL d2 d2 []).bind fun l1=>
  De2 fuel d2 y5 fuel y4 0 l1)
noncomputable abbrev b15:=C0 f15
abbrev G15(r:List (List Int)×Int):=GJ prog 46 f15 (.tup [.l 1 r.1 K8,.i r.2])
theorem De3{fuel}{d0}{d1}{d2}{r}(hF:F15 fuel d0 d1 d2=some r):
 C1 prog 15 [.agg [.l 1 d0.Owner A3,.l 1 d0.Choices A0],.n d1,.i d2] (.tup [.l 1 r.1 K8,.i r.2]):=by
 refine cf 46 func15 ?_;refine jB 12 hF Cm2 fun y1 hF=> ?_
 refine jI 7 18 hF ?_ ?_<;>intro hF
 .cases hF;exact jr 7
 .refine jd 3 ?_;refine dB 2 hF Cm3 fun y4 hF=> ?_
  obtain⟨y5,e5,hF⟩:=bnd hF;refine dcr 2 [(25,2000),(1125,2001)] (Dg0 e5) ?_;refine je 2 ?_;obtain⟨l1,e6,hF⟩:=bnd hF;refine jo2 3 (mm' K8 e6) ?_;refine B5 2 (U0 (g:=0) (sz:=1) (e:=22) (shs:=[.o 3 1 [.z]]) (es:=l1.map K8) 27 (by kernel_rfl) ?_);have hL1:∀nL1 l6 v2 l7,De2 fuel d2 y5 nL1 l6 v2 l7=some r->G15 r ⟨mkT [(2,.i d2),(9,.l 4 l6 A8),(10,.fn 94 [] [.ptr 25 0,.ptr 1125 0]),(11,.suf 27 0 0),(28,.i d2),(29,.i v2)],[(25,.fzb [.l 1 y5.1 A3,.l 1 y5.2.1 A0]),(27,.buf 0 22 1 (l7.map K8)),(1125,.fzb [.n y5.2.2])],[kL b15 500,.inBlock 0,kC b15 63]⟩:=by
   clear hF;refine lpI (fun _ _ _ h=>by cases h) fun nL1 iL1 l6 v2 l7 hF=> ?_
   refine jI 6 30 hF ?_ ?_<;>intro hF
   .refine jB 17 hF Dg9 fun y10 hF=> ?_
    obtain⟨y11,e14,hF⟩:=bnd hF;refine jo1 4 (gm' K8 e14) ?_;obtain⟨l8,e15,hF⟩:=bnd hF;have hst:=stm (f:=K8) (z:=y10.2) (k:=0) (xs:=[.sl 1 (y10.2.map A3)]) (gj e14) rfl;refine B5 0 (G0 (o:=(match(l7.map K8)[0+Int.toNat (i64.wrap ((i64.wrap (d2-1))-v2))]? with|some old=>some ((l7.map K8).set (0+Int.toNat (i64.wrap ((i64.wrap (d2-1))-v2))) (Z1 old 0 [.sl 1 (y10.2.map A3)]))|none=>none)) (l8.map K8) (by kernel_rfl) (by cases e15;exact hst) ?_);exact ja 6 (iL1 _ _ _ hF)
   .cases hF;exact jr 8
  refine B5 8 (Ce3 (te:=40) 1125 [.n y5.2.2] (by kernel_rfl) (by kernel_rfl) ?_);refine B5 0 (Ce3 (te:=34) 25 [.l 1 y5.1 A3,.l 1 y5.2.1 A0] (by kernel_rfl) (by kernel_rfl) ?_);exact ja 0 (hL1 _ _ _ _ hF)
end
section
structure C6 where
 What:Int
 State:Int
 At:Int
 N:Int
 Q:List UInt8
 S:List UInt8
 deriving DecidableEq
def Bf9(d1:A9)(l21:List (List A2))(v6:Int)(cL1:Int->(List (List A2))->Option A9):Nat->Int->(List A2)->Option A9
 |0,_,_=>none
 |nL2+1,v8,l27=>
  (C2 d1.Choices v6).bind fun y25=>
  bif decide (v8<((y25.map A1).length:Int)) then
   ((C2 d1.Choices v6).bind fun y26=>
   (C2 y26 v8).bind fun y27=>
   (app [] y27.Next).bind fun l28=>
   (app l27 [(⟨y27.Act,y27.Gain,l28⟩:A2)]).bind fun l29=>
   (Bf9 d1 l21 v6 cL1 nL2) (i64.wrap (v8+1)) l29)
  else
   ((app l21 [l27]).bind fun l30=>
   cL1 (i64.wrap (v6+1)) l30)
def Bg0(d0:C6)(d1:A9)(l1:List Int):Nat->(List (List A2))->Option A9
 |0,_=>none
 |nL3+1,l68=>
  (C2 l68 (Int.tmod (i64.wrap d0.State) ((d1.Owner.map A3).length:Int))).bind fun y39=>
  (some (l68.set (Int.toNat (Int.tmod (i64.wrap d0.State) ((d1.Owner.map A3).length:Int))) y39)).bind fun l69=>
  bif decide (((y39.map A1).length:Int)<5) then
   ((C2 l69 (Int.tmod (i64.wrap d0.State) ((d1.Owner.map A3).length:Int))).bind fun y40=>
   (C2 y40 0).bind fun y41=>
   (app y40 [y41]).bind fun l70=>
   (some (l69.set (Int.toNat (Int.tmod (i64.wrap d0.State) ((d1.Owner.map A3).length:Int))) l70)).bind fun l71=>
   (Bg0 d0 d1 l1 nL3) l71)
  else
   ((some (l1.drop 0)).bind fun l72=>
   some (⟨l72,l69⟩:A9))
def Bg1:Nat->(List (List A2))->(List Int)->Option A9
 |0,_,_=>none
 |nL4+1,l89,l90=>
  bif decide (((l90.map A3).length:Int)<13) then
   ((app l90 [0]).bind fun l91=>
   (C2 l89 0).bind fun y45=>
   (app l89 [y45]).bind fun l92=>
   (Bg1 nL4) l92 l91)
  else
   ((some (l90.drop 0)).bind fun l93=>
   some (⟨l93,l89⟩:A9))
def K7(fuel:Nat)(d0:C6)(d1:A9)(l1:List Int):Nat->Int->(List (List A2))->Option A9
 |0,_,_=>none
 |nL1+1,v6,l21=>
  bif decide (v6<((d1.Owner.map A3).length:Int)) then
   (Bf9 d1 l21 v6 (K7 fuel d0 d1 l1 nL1) fuel 0 [])
  else
   (ass (decide (((d1.Owner.map A3).length:Int)≠0))<|
   (C2 l21 (Int.tmod (i64.wrap d0.State) ((d1.Owner.map A3).length:Int))).bind fun y28=>
   ass (decide (((y28.map A1).length:Int)≠0))<|
   (C2 y28 (Int.tmod (i64.wrap d0.At) ((y28.map A1).length:Int))).bind fun y29=>
   ass (decide (((y29.Next.map A4).length:Int)≠0))<|
   bif (Int.tmod d0.What 12)==0 then
    ((C2 l1 (Int.tmod (i64.wrap d0.State) ((d1.Owner.map A3).length:Int))).bind fun y30=>
    (some (l1.set (0+Int.toNat (Int.tmod (i64.wrap d0.State) ((d1.Owner.map A3).length:Int))) d0.N)).bind fun l31=>
    (some (y28.set (Int.toNat (Int.tmod (i64.wrap d0.At) ((y28.map A1).length:Int))) y29)).bind fun l32=>
    (some (l21.set (Int.toNat (Int.tmod (i64.wrap d0.State) ((d1.Owner.map A3).length:Int))) l32)).bind fun l33=>
    (some (l31.drop 0)).bind fun l34=>
    some (⟨l34,l33⟩:A9))
   else
    (bif (Int.tmod d0.What 12)==1 then
     (ass (decide ((0:Int)<=1)&&decide (1<=(((l1.map A3).drop 0).length:Int)))<|
     (some (y28.set (Int.toNat (Int.tmod (i64.wrap d0.At) ((y28.map A1).length:Int))) y29)).bind fun l35=>
     (some (l21.set (Int.toNat (Int.tmod (i64.wrap d0.State) ((d1.Owner.map A3).length:Int))) l35)).bind fun l36=>
     (some (l1.drop (0+Int.toNat 1))).bind fun l37=>
     some (⟨l37,l36⟩:A9))
    else
     (bif (Int.tmod d0.What 12)==2 then
      ((some (y28.set (Int.toNat (Int.tmod (i64.wrap d0.At) ((y28.map A1).length:Int))) (⟨d0.S,y29.Gain,y29.Next⟩:A2))).bind fun l38=>
      (some (l21.set (Int.toNat (Int.tmod (i64.wrap d0.State) ((d1.Owner.map A3).length:Int))) l38)).bind fun l39=>
      (some (l1.drop 0)).bind fun l40=>
      some (⟨l40,l39⟩:A9))
     else
      (bif (Int.tmod d0.What 12)==3 then
       ((some (y28.set (Int.toNat (Int.tmod (i64.wrap d0.At) ((y28.map A1).length:Int))) (⟨y29.Act,d0.Q,y29.Next⟩:A2))).bind fun l41=>
       (some (l21.set (Int.toNat (Int.tmod (i64.wrap d0.State) ((d1.Owner.map A3).length:Int))) l41)).bind fun l42=>
       (some (l1.drop 0)).bind fun l43=>
       some (⟨l43,l42⟩:A9))
      else
       (bif (Int.tmod d0.What 12)==4 then
        ((C2 y29.Next (Int.tmod (i64.wrap d0.At) ((y29.Next.map A4).length:Int))).bind fun y31=>
        (some (y29.Next.set (0+Int.toNat (Int.tmod (i64.wrap d0.At) ((y29.Next.map A4).length:Int))) (⟨d0.N,y31.P⟩:B7))).bind fun l44=>
        (some (y28.set (Int.toNat (Int.tmod (i64.wrap d0.At) ((y28.map A1).length:Int))) (⟨y29.Act,y29.Gain,l44⟩:A2))).bind fun l45=>
        (some (l21.set (Int.toNat (Int.tmod (i64.wrap d0.State) ((d1.Owner.map A3).length:Int))) l45)).bind fun l46=>
        (some (l1.drop 0)).bind fun l47=>
        some (⟨l47,l46⟩:A9))
       else
        (bif (Int.tmod d0.What 12)==5 then
         ((C2 y29.Next (Int.tmod (i64.wrap d0.At) ((y29.Next.map A4).length:Int))).bind fun y32=>
         (some (y29.Next.set (0+Int.toNat (Int.tmod (i64.wrap d0.At) ((y29.Next.map A4).length:Int))) (⟨y32.To,d0.Q⟩:B7))).bind fun l48=>
         (some (y28.set (Int.toNat (Int.tmod (i64.wrap d0.At) ((y28.map A1).length:Int))) (⟨y29.Act,y29.Gain,l48⟩:A2))).bind fun l49=>
         (some (l21.set (Int.toNat (Int.tmod (i64.wrap d0.State) ((d1.Owner.map A3).length:Int))) l49)).bind fun l50=>
         (some (l1.drop 0)).bind fun l51=>
         some (⟨l51,l50⟩:A9))
        else
         (bif (Int.tmod d0.What 12)==6 then
          ((app y29.Next [(⟨i64.wrap (((d1.Owner.map A3).length:Int)-1),d0.Q⟩:B7)]).bind fun l52=>
          (some (y28.set (Int.toNat (Int.tmod (i64.wrap d0.At) ((y28.map A1).length:Int))) (⟨y29.Act,y29.Gain,l52⟩:A2))).bind fun l53=>
          (some (l21.set (Int.toNat (Int.tmod (i64.wrap d0.State) ((d1.Owner.map A3).length:Int))) l53)).bind fun l54=>
          (some (l1.drop 0)).bind fun l55=>
          some (⟨l55,l54⟩:A9))
         else
          (bif (Int.tmod d0.What 12)==7 then
           ((some (y28.set (Int.toNat (Int.tmod (i64.wrap d0.At) ((y28.map A1).length:Int))) (⟨y29.Act,y29.Gain,[]⟩:A2))).bind fun l56=>
           (some (l21.set (Int.toNat (Int.tmod (i64.wrap d0.State) ((d1.Owner.map A3).length:Int))) l56)).bind fun l57=>
           (some (l1.drop 0)).bind fun l58=>
           some (⟨l58,l57⟩:A9))
          else
           (bif (Int.tmod d0.What 12)==8 then
            ((some (y28.set (Int.toNat (Int.tmod (i64.wrap d0.At) ((y28.map A1).length:Int))) y29)).bind fun l59=>
            (some (l21.set (Int.toNat (Int.tmod (i64.wrap d0.State) ((d1.Owner.map A3).length:Int))) l59)).bind fun l60=>
            Bg0 d0 d1 l1 fuel l60)
           else
            (bif (Int.tmod d0.What 12)==9 then
             ((some (y28.set (Int.toNat (Int.tmod (i64.wrap d0.At) ((y28.map A1).length:Int))) y29)).bind fun l73=>
             (some (l21.set (Int.toNat (Int.tmod (i64.wrap d0.State) ((d1.Owner.map A3).length:Int))) l73)).bind fun l74=>
             (C2 l74 (Int.tmod (i64.wrap d0.State) ((d1.Owner.map A3).length:Int))).bind fun y42=>
             (some (l74.set (0+Int.toNat (Int.tmod (i64.wrap d0.State) ((d1.Owner.map A3).length:Int))) [])).bind fun l75=>
             (some (l1.drop 0)).bind fun l76=>
             some (⟨l76,l75⟩:A9))
            else
             (bif (Int.tmod d0.What 12)==10 then
              ((app l1 [0]).bind fun l77=>
              (some (y28.set (Int.toNat (Int.tmod (i64.wrap d0.At) ((y28.map A1).length:Int))) y29)).bind fun l78=>
              (some (l21.set (Int.toNat (Int.tmod (i64.wrap d0.State) ((d1.Owner.map A3).length:Int))) l78)).bind fun l79=>
              (some (l77.drop 0)).bind fun l80=>
              some (⟨l80,l79⟩:A9))
             else
              ((some (y28.set (Int.toNat (Int.tmod (i64.wrap d0.At) ((y28.map A1).length:Int))) y29)).bind fun l81=>
              (some (l21.set (Int.toNat (Int.tmod (i64.wrap d0.State) ((d1.Owner.map A3).length:Int))) l81)).bind fun l82=>
              Bg1 fuel l82 l1))))))))))))
def F21(fuel:Nat)(d0:C6)(d1:A9):Option A9:=
 (app [] d1.Owner).bind fun l1=>
 K7 fuel d0 d1 l1 fuel 0 []
noncomputable abbrev b21:=C0 f21
abbrev G21(r:A9):=GJ prog 225 f21 (.agg [.l 1 r.Owner A3,.l 1 r.Choices A0])
set_option maxHeartbeats 4000000 in
theorem Fn4{fuel}{d0}{d1}{r}(hF:F21 fuel d0 d1=some r):
 C1 prog 21 [.agg [.y d0.What,.y d0.State,.y d0.At,.i d0.N,.s d0.Q,.s d0.S],.agg [.l 1 d1.Owner A3,.l 1 d1.Choices A0]] (.agg [.l 1 r.Owner A3,.l 1 r.Choices A0]):=by
 refine cf 225 func21 ?_;obtain⟨l1,e1,hF⟩:=bnd hF;refine jo2 18 (am' A3 e1) ?_;refine B5 6 (Bh6 (n:=1) 6 1 59 31 1 (by kernel_rfl) (by kernel_rfl) ?_);refine B5 0 (Dh8 (g:=0) (e:=31) (n:=1) 59 [.o 26 3 [.z,.z,.o 29 2 [.z,.z]]] (by kernel_rfl) (by kernel_rfl) ?_);have hL1:∀nL1 v6 l21,K7 fuel d0 d1 l1 nL1 v6 l21=some r->G21 r ⟨mkT [(2,.ptr 2 0),(3,.ptr 3 0),(4,.ptr 4 0),(5,.i ((d1.Owner.map A3).length:Int)),(6,.ptr 6 0),(7,.i v6)],[(2,.box 55 [.y d0.What,.y d0.State,.y d0.At,.i d0.N,.s d0.Q,.s d0.S]),(3,.box 34 [.l 1 d1.Owner A3,.l 1 d1.Choices A0]),(4,.box 34 [.esl 1,.esl 1]),(6,.box 34 [.suf 21 0 0,.suf 59 0 0]),(21,.buf 0 3 1 (l1.map A3)),(59,.tree 0 31 1 [.o 26 3 [.z,.z,.o 29 2 [.z,.z]]] (l21.map A0) none)],[kL b21 244,.inBlock 0,kC b21 31]⟩:=by
  clear hF;refine lpI (fun _ _ h=>by cases h) fun nL1 iL1 v6 l21 hF=> ?_
  refine jI 8 25 hF ?_ ?_<;>intro hF
  .refine B5 10 (At7 (n:=3) 8 54 26 3 (by kernel_rfl) (by kernel_rfl) ?_);refine B5 0 (Dh8 (g:=0) (e:=26) (n:=3) 54 [.z,.z,.o 29 2 [.z,.z]] (by kernel_rfl) (by kernel_rfl) ?_);have hL2:∀nL2 v8 l27,Bf9 d1 l21 v6 (K7 fuel d0 d1 l1 nL1) nL2 v8 l27=some r->G21 r ⟨mkT [(2,.ptr 2 0),(3,.ptr 3 0),(4,.ptr 4 0),(5,.i ((d1.Owner.map A3).length:Int)),(6,.ptr 6 0),(7,.i v6),(8,.suf 54 0 0),(9,.i v8)],[(2,.box 55 [.y d0.What,.y d0.State,.y d0.At,.i d0.N,.s d0.Q,.s d0.S]),(3,.box 34 [.l 1 d1.Owner A3,.l 1 d1.Choices A0]),(4,.box 34 [.esl 1,.esl 1]),(6,.box 34 [.suf 21 0 0,.suf 59 0 0]),(21,.buf 0 3 1 (l1.map A3)),(54,.tree 0 26 3 [.z,.z,.o 29 2 [.z,.z]] (l27.map A1) none),(59,.tree 0 31 1 [.o 26 3 [.z,.z,.o 29 2 [.z,.z]]] (l21.map A0) none)],[kL b21 62612,.inBlock 2,kC b21 7827,.inBlock 1,kC b21 979,kL b21 244,.inBlock 0,kC b21 31]⟩:=by
    clear hF;refine lpI (fun _ _ h=>by cases h) fun nL2 iL2 v8 l27 hF=> ?_
    obtain⟨y25,e44,hF⟩:=bnd hF;refine jo1 8 (gm' A0 e44) ?_;refine jI 4 35 hF ?_ ?_<;>intro hF
    .obtain⟨y26,e45,hF⟩:=bnd hF;refine jo1 9 (gm' A0 e45) ?_;obtain⟨y27,e46,hF⟩:=bnd hF;refine jo1 2 (gm' A1 e46) ?_;obtain⟨l28,e47,hF⟩:=bnd hF;refine jo2 9 (am' A4 e47) ?_;refine B5 3 (Fq3 (g:=0) (e:=29) (n:=2) (es:=(l28.map A4)) 49 (by kernel_rfl) (by kernel_rfl) ?_);obtain⟨l29,e48,hF⟩:=bnd hF;refine B5 4 (J3 (o:=chk (decide ((l27.map A1).length+1<=2147483648))) [] (by kernel_rfl) (ckA e48) ?_);refine B5 2 (F5 (g:=1) (sz:=3) (e:=26) (shs:=[.z,.z,.o 29 2 [.z,.z]]) (es:=((l27.map A1)++[[]])) (vs:=[.s y27.Act,.s y27.Gain,.suf 49 0 0]) (gd:=0) (ed:=29) (nd:=2) (o:= .tree 0 29 2 [.z,.z] (l28.map A4) none) 54 49 ((l27.map A1).length) (A1 (⟨y27.Act,y27.Gain,l28⟩:A2)) (l29.map A1) (by kernel_rfl) (by kernel_rfl) (by kernel_rfl) (by kernel_rfl) (by kernel_rfl) Eq3 (Di9 e48 rfl) ?_);exact ja 6 (iL2 _ _ hF)
    .obtain⟨l30,e49,hF⟩:=bnd hF;refine B5 7 (J3 (o:=chk (decide ((l21.map A0).length+1<=2147483648))) [] (by kernel_rfl) (ckA e49) ?_);refine B5 3 (F5 (g:=1) (sz:=1) (e:=31) (shs:=[.o 26 3 [.z,.z,.o 29 2 [.z,.z]]]) (es:=((l21.map A0)++[[]])) (vs:=[.suf 54 0 0]) (gd:=0) (ed:=26) (nd:=3) (o:= .tree 0 26 3 [.z,.z,.o 29 2 [.z,.z]] (l27.map A1) none) 59 54 ((l21.map A0).length) (A0 l27) (l30.map A0) (by kernel_rfl) (by kernel_rfl) (by kernel_rfl) (by kernel_rfl) (by kernel_rfl) Eq3 (Di9 e49 rfl) ?_);exact ja 6 (iL1 _ _ hF)
   exact ja 5 (hL2 _ _ _ hF)
  .obtain⟨hb13,hF⟩:=O1 hF;refine jo1 8 (ck hb13) ?_;obtain⟨y28,e50,hF⟩:=bnd hF;refine B5 3 (Dh9 (g:=0) (sz:=1) (e:=31) (shs:=[.o 26 3 [.z,.z,.o 29 2 [.z,.z]]]) (es:=(l21.map A0)) 59 1200 (Int.toNat (Int.tmod (i64.wrap d0.State) ((d1.Owner.map A3).length:Int))) (A0 y28) [.suf 1200 0 0] (.tree 0 26 3 [.z,.z,.o 29 2 [.z,.z]] (y28.map A1) none) (by kernel_rfl) (by kernel_rfl) (by kernel_rfl) (gjo (f:=A0) e50) (by kernel_rfl) ?_);refine jd 0 ?_;refine G9 6 (H8 (o:=chk (decide (0<=(Int.tmod (i64.wrap d0.State) ((d1.Owner.map A3).length:Int)))&&(decide (0+Int.toNat (Int.tmod (i64.wrap d0.State) ((d1.Owner.map A3).length:Int))=Int.toNat (Int.tmod (i64.wrap d0.State) ((d1.Owner.map A3).length:Int)))&&decide (Int.toNat (Int.tmod (i64.wrap d0.State) ((d1.Owner.map A3).length:Int))<(l21.map A0).length)))) [] (by kernel_rfl) (by kernel_rfl) (ckI e50) ?_);refine G9 0 (H8 (o:=chk (decide ((Int.toNat (Int.tmod (i64.wrap d0.State) ((d1.Owner.map A3).length:Int)))=(Int.toNat (Int.tmod (i64.wrap d0.State) ((d1.Owner.map A3).length:Int))))&&decide ((Int.toNat (Int.tmod (i64.wrap d0.State) ((d1.Owner.map A3).length:Int)))<(l21.map A0).length))) [] (by kernel_rfl) (by kernel_rfl) (ckE e50) ?_);obtain⟨hb14,hF⟩:=O1 hF;refine do1 1 (ck hb14) ?_;refine je 1 ?_;obtain⟨y29,e51,hF⟩:=bnd hF;refine B5 1 (Dh9 (g:=0) (sz:=3) (e:=26) (shs:=[.z,.z,.o 29 2 [.z,.z]]) (es:=(y28.map A1)) 1200 1201 (Int.toNat (Int.tmod (i64.wrap d0.At) ((y28.map A1).length:Int))) (A1 y29) [.s y29.Act,.s y29.Gain,.suf 1201 0 0] (.buf 0 29 2 (y29.Next.map A4)) (by kernel_rfl) (by kernel_rfl) (by kernel_rfl) (gjo (f:=A1) e51) (by kernel_rfl) ?_);refine B5 4 (J3 (o:=chk (decide (0<=(Int.tmod (i64.wrap d0.State) ((d1.Owner.map A3).length:Int)))&&(decide (0+Int.toNat (Int.tmod (i64.wrap d0.State) ((d1.Owner.map A3).length:Int))=Int.toNat (Int.tmod (i64.wrap d0.State) ((d1.Owner.map A3).length:Int)))&&decide (Int.toNat (Int.tmod (i64.wrap d0.State) ((d1.Owner.map A3).length:Int))<(l21.map A0).length)))) [] (by kernel_rfl) (ckI e50) ?_);refine B5 0 (J3 (o:=chk (decide ((Int.toNat (Int.tmod (i64.wrap d0.State) ((d1.Owner.map A3).length:Int)))=(Int.toNat (Int.tmod (i64.wrap d0.State) ((d1.Owner.map A3).length:Int))))&&decide ((Int.toNat (Int.tmod (i64.wrap d0.State) ((d1.Owner.map A3).length:Int)))<(l21.map A0).length))) [] (by kernel_rfl) (ckE e50) ?_);refine B5 1 (J3 (o:=chk (decide (0<=(Int.tmod (i64.wrap d0.At) ((y28.map A1).length:Int)))&&(decide (0+Int.toNat (Int.tmod (i64.wrap d0.At) ((y28.map A1).length:Int))=Int.toNat (Int.tmod (i64.wrap d0.At) ((y28.map A1).length:Int)))&&decide (Int.toNat (Int.tmod (i64.wrap d0.At) ((y28.map A1).length:Int))<(y28.map A1).length)))) [] (by kernel_rfl) (ckI e51) ?_);refine jd 3 ?_;refine G9 6 (H8 (o:=chk (decide ((Int.toNat (Int.tmod (i64.wrap d0.At) ((y28.map A1).length:Int)))=(Int.toNat (Int.tmod (i64.wrap d0.At) ((y28.map A1).length:Int))))&&decide ((Int.toNat (Int.tmod (i64.wrap d0.At) ((y28.map A1).length:Int)))<(y28.map A1).length))) [] (by kernel_rfl) (by kernel_rfl) (ckE e51) ?_);obtain⟨hb15,hF⟩:=O1 hF;refine do1 1 (ck hb15) ?_;refine je 1 ?_;refine jI 13 113 hF ?_ ?_<;>intro hF
   .obtain⟨y30,e52,hF⟩:=bnd hF;refine jo1 7 (gm' A3 e52) ?_;obtain⟨l31,e53,hF⟩:=bnd hF;have hst:=stm (f:=A3) (z:=d0.N) (k:=0) (xs:=[.int .i64 d0.N]) (gj e52) rfl;refine B5 0 (G0 (o:=(match(l1.map A3)[0+Int.toNat (Int.tmod (i64.wrap d0.State) ((d1.Owner.map A3).length:Int))]? with|some old=>some ((l1.map A3).set (0+Int.toNat (Int.tmod (i64.wrap d0.State) ((d1.Owner.map A3).length:Int))) (Z1 old 0 [.int .i64 d0.N]))|none=>none)) (l31.map A3) (by kernel_rfl) (by cases e53;exact hst) ?_);obtain⟨l32,e54,hF⟩:=bnd hF;refine B5 1 (F5 (g:=0) (sz:=3) (e:=26) (shs:=[.z,.z,.o 29 2 [.z,.z]]) (es:=(y28.map A1)) (vs:=[.s y29.Act,.s y29.Gain,.suf 1201 0 0]) (gd:=0) (ed:=29) (nd:=2) (o:= .buf 0 29 2 (y29.Next.map A4)) 1200 1201 ((Int.toNat (Int.tmod (i64.wrap d0.At) ((y28.map A1).length:Int)))) (A1 y29) (l32.map A1) (by kernel_rfl) (by kernel_rfl) (by kernel_rfl) (by kernel_rfl) (by kernel_rfl) (glt (f:=A1) e51) (by cases e54;exact shm (f:=A1) (z:=y29)) ?_);obtain⟨l33,e55,hF⟩:=bnd hF;refine B5 0 (F5 (g:=0) (sz:=1) (e:=31) (shs:=[.o 26 3 [.z,.z,.o 29 2 [.z,.z]]]) (es:=(l21.map A0)) (vs:=[.suf 1200 0 0]) (gd:=0) (ed:=26) (nd:=3) (o:= .tree 0 26 3 [.z,.z,.o 29 2 [.z,.z]] (l32.map A1) none) 59 1200 ((Int.toNat (Int.tmod (i64.wrap d0.State) ((d1.Owner.map A3).length:Int)))) (A0 l32) (l33.map A0) (by kernel_rfl) (by kernel_rfl) (by kernel_rfl) (by kernel_rfl) (by kernel_rfl) (glt (f:=A0) e50) (by cases e55;exact shm (f:=A0) (z:=l32)) ?_);refine B5 0 (U0 (g:=0) (sz:=1) (e:=31) (shs:=[.o 26 3 [.z,.z,.o 29 2 [.z,.z]]]) (es:=l33.map A0) 59 (by kernel_rfl) ?_);refine B5 2 (W0 (g:=0) (e:=3) (sz:=1) (es:=l31.map A3) 21 (by kernel_rfl) ?_);obtain⟨l34,e56,hF⟩:=bnd hF;refine B5 0 (Z3 (g:=0) (sz:=1) (es:=l31.map A3) 6 0 21 0 (l34.map A3) (by kernel_rfl) (by kernel_rfl) (by cases e56;exact map_drop.symm) ?_);cases hF;exact jr 4
   .refine jI 6 121 hF ?_ ?_<;>intro hF
    .obtain⟨hb18,hF⟩:=O1 hF;refine jo1 4 (ck hb18) ?_;obtain⟨l35,e57,hF⟩:=bnd hF;refine B5 3 (F5 (g:=0) (sz:=3) (e:=26) (shs:=[.z,.z,.o 29 2 [.z,.z]]) (es:=(y28.map A1)) (vs:=[.s y29.Act,.s y29.Gain,.suf 1201 0 0]) (gd:=0) (ed:=29) (nd:=2) (o:= .buf 0 29 2 (y29.Next.map A4)) 1200 1201 ((Int.toNat (Int.tmod (i64.wrap d0.At) ((y28.map A1).length:Int)))) (A1 y29) (l35.map A1) (by kernel_rfl) (by kernel_rfl) (by kernel_rfl) (by kernel_rfl) (by kernel_rfl) (glt (f:=A1) e51) (by cases e57;exact shm (f:=A1) (z:=y29)) ?_);obtain⟨l36,e58,hF⟩:=bnd hF;refine B5 0 (F5 (g:=0) (sz:=1) (e:=31) (shs:=[.o 26 3 [.z,.z,.o 29 2 [.z,.z]]]) (es:=(l21.map A0)) (vs:=[.suf 1200 0 0]) (gd:=0) (ed:=26) (nd:=3) (o:= .tree 0 26 3 [.z,.z,.o 29 2 [.z,.z]] (l35.map A1) none) 59 1200 ((Int.toNat (Int.tmod (i64.wrap d0.State) ((d1.Owner.map A3).length:Int)))) (A0 l35) (l36.map A0) (by kernel_rfl) (by kernel_rfl) (by kernel_rfl) (by kernel_rfl) (by kernel_rfl) (glt (f:=A0) e50) (by cases e58;exact shm (f:=A0) (z:=l35)) ?_);refine B5 0 (U0 (g:=0) (sz:=1) (e:=31) (shs:=[.o 26 3 [.z,.z,.o 29 2 [.z,.z]]]) (es:=l36.map A0) 59 (by kernel_rfl) ?_);refine B5 2 (W0 (g:=0) (e:=3) (sz:=1) (es:=l1.map A3) 21 (by kernel_rfl) ?_);obtain⟨l37,e59,hF⟩:=bnd hF;refine B5 0 (Z3 (g:=0) (sz:=1) (es:=l1.map A3) 6 0 21 (0+Int.toNat 1) (l37.map A3) (by kernel_rfl) (by kernel_rfl) (by cases e59;exact map_drop.symm) ?_);cases hF;exact jr 4
    .refine jI 6 127 hF ?_ ?_<;>intro hF
     .refine B5 7 (J3 (o:=chk (decide ((Int.toNat (Int.tmod (i64.wrap d0.At) ((y28.map A1).length:Int)))=(Int.toNat (Int.tmod (i64.wrap d0.At) ((y28.map A1).length:Int))))&&decide ((Int.toNat (Int.tmod (i64.wrap d0.At) ((y28.map A1).length:Int)))<(y28.map A1).length))) [] (by kernel_rfl) (ckE e51) ?_);obtain⟨l38,e60,hF⟩:=bnd hF;refine B5 1 (F5 (g:=0) (sz:=3) (e:=26) (shs:=[.z,.z,.o 29 2 [.z,.z]]) (es:=(y28.map A1)) (vs:=[.s d0.S,.s y29.Gain,.suf 1201 0 0]) (gd:=0) (ed:=29) (nd:=2) (o:= .buf 0 29 2 (y29.Next.map A4)) 1200 1201 ((Int.toNat (Int.tmod (i64.wrap d0.At) ((y28.map A1).length:Int)))) (A1 (⟨d0.S,y29.Gain,y29.Next⟩:A2)) (l38.map A1) (by kernel_rfl) (by kernel_rfl) (by kernel_rfl) (by kernel_rfl) (by kernel_rfl) (glt (f:=A1) e51) (by cases e60;exact shm (f:=A1) (z:=(⟨d0.S,y29.Gain,y29.Next⟩:A2))) ?_);obtain⟨l39,e61,hF⟩:=bnd hF;refine B5 0 (F5 (g:=0) (sz:=1) (e:=31) (shs:=[.o 26 3 [.z,.z,.o 29 2 [.z,.z]]]) (es:=(l21.map A0)) (vs:=[.suf 1200 0 0]) (gd:=0) (ed:=26) (nd:=3) (o:= .tree 0 26 3 [.z,.z,.o 29 2 [.z,.z]] (l38.map A1) none) 59 1200 ((Int.toNat (Int.tmod (i64.wrap d0.State) ((d1.Owner.map A3).length:Int)))) (A0 l38) (l39.map A0) (by kernel_rfl) (by kernel_rfl) (by kernel_rfl) (by kernel_rfl) (by kernel_rfl) (glt (f:=A0) e50) (by cases e61;exact shm (f:=A0) (z:=l38)) ?_);refine B5 0 (U0 (g:=0) (sz:=1) (e:=31) (shs:=[.o 26 3 [.z,.z,.o 29 2 [.z,.z]]]) (es:=l39.map A0) 59 (by kernel_rfl) ?_);refine B5 2 (W0 (g:=0) (e:=3) (sz:=1) (es:=l1.map A3) 21 (by kernel_rfl) ?_);obtain⟨l40,e62,hF⟩:=bnd hF;refine B5 0 (Z3 (g:=0) (sz:=1) (es:=l1.map A3) 6 0 21 0 (l40.map A3) (by kernel_rfl) (by kernel_rfl) (by cases e62;exact map_drop.symm) ?_);cases hF;exact jr 4
     .refine jI 6 134 hF ?_ ?_<;>intro hF
      .refine B5 7 (J3 (o:=chk (decide ((Int.toNat (Int.tmod (i64.wrap d0.At) ((y28.map A1).length:Int)))=(Int.toNat (Int.tmod (i64.wrap d0.At) ((y28.map A1).length:Int))))&&decide ((Int.toNat (Int.tmod (i64.wrap d0.At) ((y28.map A1).length:Int)))<(y28.map A1).length))) [] (by kernel_rfl) (ckE e51) ?_);obtain⟨l41,e63,hF⟩:=bnd hF;refine B5 1 (F5 (g:=0) (sz:=3) (e:=26) (shs:=[.z,.z,.o 29 2 [.z,.z]]) (es:=(y28.map A1)) (vs:=[.s y29.Act,.s d0.Q,.suf 1201 0 0]) (gd:=0) (ed:=29) (nd:=2) (o:= .buf 0 29 2 (y29.Next.map A4)) 1200 1201 ((Int.toNat (Int.tmod (i64.wrap d0.At) ((y28.map A1).length:Int)))) (A1 (⟨y29.Act,d0.Q,y29.Next⟩:A2)) (l41.map A1) (by kernel_rfl) (by kernel_rfl) (by kernel_rfl) (by kernel_rfl) (by kernel_rfl) (glt (f:=A1) e51) (by cases e63;exact shm (f:=A1) (z:=(⟨y29.Act,d0.Q,y29.Next⟩:A2))) ?_);obtain⟨l42,e64,hF⟩:=bnd hF;refine B5 0 (F5 (g:=0) (sz:=1) (e:=31) (shs:=[.o 26 3 [.z,.z,.o 29 2 [.z,.z]]]) (es:=(l21.map A0)) (vs:=[.suf 1200 0 0]) (gd:=0) (ed:=26) (nd:=3) (o:= .tree 0 26 3 [.z,.z,.o 29 2 [.z,.z]] (l41.map A1) none) 59 1200 ((Int.toNat (Int.tmod (i64.wrap d0.State) ((d1.Owner.map A3).length:Int)))) (A0 l41) (l42.map A0) (by kernel_rfl) (by kernel_rfl) (by kernel_rfl) (by kernel_rfl) (by kernel_rfl) (glt (f:=A0) e50) (by cases e64;exact shm (f:=A0) (z:=l41)) ?_);refine B5 0 (U0 (g:=0) (sz:=1) (e:=31) (shs:=[.o 26 3 [.z,.z,.o 29 2 [.z,.z]]]) (es:=l42.map A0) 59 (by kernel_rfl) ?_);refine B5 2 (W0 (g:=0) (e:=3) (sz:=1) (es:=l1.map A3) 21 (by kernel_rfl) ?_);obtain⟨l43,e65,hF⟩:=bnd hF;refine B5 0 (Z3 (g:=0) (sz:=1) (es:=l1.map A3) 6 0 21 0 (l43.map A3) (by kernel_rfl) (by kernel_rfl) (by cases e65;exact map_drop.symm) ?_);cases hF;exact jr 4
      .refine jI 6 141 hF ?_ ?_<;>intro hF
       .refine jd 1 ?_;refine G9 3 (H8 (o:=chk (decide ((Int.toNat (Int.tmod (i64.wrap d0.At) ((y28.map A1).length:Int)))=(Int.toNat (Int.tmod (i64.wrap d0.At) ((y28.map A1).length:Int))))&&decide ((Int.toNat (Int.tmod (i64.wrap d0.At) ((y28.map A1).length:Int)))<(y28.map A1).length))) [] (by kernel_rfl) (by kernel_rfl) (ckE e51) ?_);obtain⟨y31,e66,hF⟩:=bnd hF;refine do1 3 (gm' A4 e66) ?_;obtain⟨l44,e67,hF⟩:=bnd hF;have hst:=stm (f:=A4) (z:=(⟨d0.N,y31.P⟩:B7)) (k:=0) (xs:=[.int .i64 d0.N]) (gj e66) rfl;refine G9 1 (Bl2 (o:=(match(y29.Next.map A4)[0+Int.toNat (Int.tmod (i64.wrap d0.At) ((y29.Next.map A4).length:Int))]? with|some old=>some ((y29.Next.map A4).set (0+Int.toNat (Int.tmod (i64.wrap d0.At) ((y29.Next.map A4).length:Int))) (Z1 old 0 [.int .i64 d0.N]))|none=>none)) (l44.map A4) (by kernel_rfl) (by kernel_rfl) (by cases e67;exact hst) ?_);refine je 0 ?_;obtain⟨l45,e68,hF⟩:=bnd hF;refine B5 0 (F5 (g:=0) (sz:=3) (e:=26) (shs:=[.z,.z,.o 29 2 [.z,.z]]) (es:=(y28.map A1)) (vs:=[.s y29.Act,.s y29.Gain,.suf 1201 0 0]) (gd:=0) (ed:=29) (nd:=2) (o:= .buf 0 29 2 (l44.map A4)) 1200 1201 ((Int.toNat (Int.tmod (i64.wrap d0.At) ((y28.map A1).length:Int)))) (A1 (⟨y29.Act,y29.Gain,l44⟩:A2)) (l45.map A1) (by kernel_rfl) (by kernel_rfl) (by kernel_rfl) (by kernel_rfl) (by kernel_rfl) (glt (f:=A1) e51) (by cases e68;exact shm (f:=A1) (z:=(⟨y29.Act,y29.Gain,l44⟩:A2))) ?_);obtain⟨l46,e69,hF⟩:=bnd hF;refine B5 0 (F5 (g:=0) (sz:=1) (e:=31) (shs:=[.o 26 3 [.z,.z,.o 29 2 [.z,.z]]]) (es:=(l21.map A0)) (vs:=[.suf 1200 0 0]) (gd:=0) (ed:=26) (nd:=3) (o:= .tree 0 26 3 [.z,.z,.o 29 2 [.z,.z]] (l45.map A1) none) 59 1200 ((Int.toNat (Int.tmod (i64.wrap d0.State) ((d1.Owner.map A3).length:Int)))) (A0 l45) (l46.map A0) (by kernel_rfl) (by kernel_rfl) (by kernel_rfl) (by kernel_rfl) (by kernel_rfl) (glt (f:=A0) e50) (by cases e69;exact shm (f:=A0) (z:=l45)) ?_);refine B5 0 (U0 (g:=0) (sz:=1) (e:=31) (shs:=[.o 26 3 [.z,.z,.o 29 2 [.z,.z]]]) (es:=l46.map A0) 59 (by kernel_rfl) ?_);refine B5 2 (W0 (g:=0) (e:=3) (sz:=1) (es:=l1.map A3) 21 (by kernel_rfl) ?_);obtain⟨l47,e70,hF⟩:=bnd hF;refine B5 0 (Z3 (g:=0) (sz:=1) (es:=l1.map A3) 6 0 21 0 (l47.map A3) (by kernel_rfl) (by kernel_rfl) (by cases e70;exact map_drop.symm) ?_);cases hF;exact jr 4
       .refine jI 6 152 hF ?_ ?_<;>intro hF
        .refine jd 1 ?_;refine G9 3 (H8 (o:=chk (decide ((Int.toNat (Int.tmod (i64.wrap d0.At) ((y28.map A1).length:Int)))=(Int.toNat (Int.tmod (i64.wrap d0.At) ((y28.map A1).length:Int))))&&decide ((Int.toNat (Int.tmod (i64.wrap d0.At) ((y28.map A1).length:Int)))<(y28.map A1).length))) [] (by kernel_rfl) (by kernel_rfl) (ckE e51) ?_);obtain⟨y32,e71,hF⟩:=bnd hF;refine do1 3 (gm' A4 e71) ?_;obtain⟨l48,e72,hF⟩:=bnd hF;have hst:=stm (f:=A4) (z:=(⟨y32.To,d0.Q⟩:B7)) (k:=1) (xs:=[.str d0.Q]) (gj e71) rfl;refine G9 1 (Bl2 (o:=(match(y29.Next.map A4)[0+Int.toNat (Int.tmod (i64.wrap d0.At) ((y29.Next.map A4).length:Int))]? with|some old=>some ((y29.Next.map A4).set (0+Int.toNat (Int.tmod (i64.wrap d0.At) ((y29.Next.map A4).length:Int))) (Z1 old 1 [.str d0.Q]))|none=>none)) (l48.map A4) (by kernel_rfl) (by kernel_rfl) (by cases e72;exact hst) ?_);refine je 0 ?_;obtain⟨l49,e73,hF⟩:=bnd hF;refine B5 0 (F5 (g:=0) (sz:=3) (e:=26) (shs:=[.z,.z,.o 29 2 [.z,.z]]) (es:=(y28.map A1)) (vs:=[.s y29.Act,.s y29.Gain,.suf 1201 0 0]) (gd:=0) (ed:=29) (nd:=2) (o:= .buf 0 29 2 (l48.map A4)) 1200 1201 ((Int.toNat (Int.tmod (i64.wrap d0.At) ((y28.map A1).length:Int)))) (A1 (⟨y29.Act,y29.Gain,l48⟩:A2)) (l49.map A1) (by kernel_rfl) (by kernel_rfl) (by kernel_rfl) (by kernel_rfl) (by kernel_rfl) (glt (f:=A1) e51) (by cases e73;exact shm (f:=A1) (z:=(⟨y29.Act,y29.Gain,l48⟩:A2))) ?_);obtain⟨l50,e74,hF⟩:=bnd hF;refine B5 0 (F5 (g:=0) (sz:=1) (e:=31) (shs:=[.o 26 3 [.z,.z,.o 29 2 [.z,.z]]]) (es:=(l21.map A0)) (vs:=[.suf 1200 0 0]) (gd:=0) (ed:=26) (nd:=3) (o:= .tree 0 26 3 [.z,.z,.o 29 2 [.z,.z]] (l49.map A1) none) 59 1200 ((Int.toNat (Int.tmod (i64.wrap d0.State) ((d1.Owner.map A3).length:Int)))) (A0 l49) (l50.map A0) (by kernel_rfl) (by kernel_rfl) (by kernel_rfl) (by kernel_rfl) (by kernel_rfl) (glt (f:=A0) e50) (by cases e74;exact shm (f:=A0) (z:=l49)) ?_);refine B5 0 (U0 (g:=0) (sz:=1) (e:=31) (shs:=[.o 26 3 [.z,.z,.o 29 2 [.z,.z]]]) (es:=l50.map A0) 59 (by kernel_rfl) ?_);refine B5 2 (W0 (g:=0) (e:=3) (sz:=1) (es:=l1.map A3) 21 (by kernel_rfl) ?_);obtain⟨l51,e75,hF⟩:=bnd hF;refine B5 0 (Z3 (g:=0) (sz:=1) (es:=l1.map A3) 6 0 21 0 (l51.map A3) (by kernel_rfl) (by kernel_rfl) (by cases e75;exact map_drop.symm) ?_);cases hF;exact jr 4
        .refine jI 6 163 hF ?_ ?_<;>intro hF
         .refine jd 1 ?_;refine G9 4 (H8 (o:=chk (decide ((Int.toNat (Int.tmod (i64.wrap d0.At) ((y28.map A1).length:Int)))=(Int.toNat (Int.tmod (i64.wrap d0.At) ((y28.map A1).length:Int))))&&decide ((Int.toNat (Int.tmod (i64.wrap d0.At) ((y28.map A1).length:Int)))<(y28.map A1).length))) [] (by kernel_rfl) (by kernel_rfl) (ckE e51) ?_);obtain⟨l52,e76,hF⟩:=bnd hF;refine do2 6 (am' A4 e76) ?_;refine G9 2 (H8 (o:=chk (decide ((Int.toNat (Int.tmod (i64.wrap d0.At) ((y28.map A1).length:Int)))=(Int.toNat (Int.tmod (i64.wrap d0.At) ((y28.map A1).length:Int))))&&decide ((Int.toNat (Int.tmod (i64.wrap d0.At) ((y28.map A1).length:Int)))<(y28.map A1).length))) [] (by kernel_rfl) (by kernel_rfl) (ckE e51) ?_);refine je 0 ?_;obtain⟨l53,e77,hF⟩:=bnd hF;refine B5 0 (F5 (g:=0) (sz:=3) (e:=26) (shs:=[.z,.z,.o 29 2 [.z,.z]]) (es:=(y28.map A1)) (vs:=[.s y29.Act,.s y29.Gain,.suf 1201 1 0]) (gd:=1) (ed:=29) (nd:=2) (o:= .buf 1 29 2 (l52.map A4)) 1200 1201 ((Int.toNat (Int.tmod (i64.wrap d0.At) ((y28.map A1).length:Int)))) (A1 (⟨y29.Act,y29.Gain,l52⟩:A2)) (l53.map A1) (by kernel_rfl) (by kernel_rfl) (by kernel_rfl) (by kernel_rfl) (by kernel_rfl) (glt (f:=A1) e51) (by cases e77;exact shm (f:=A1) (z:=(⟨y29.Act,y29.Gain,l52⟩:A2))) ?_);obtain⟨l54,e78,hF⟩:=bnd hF;refine B5 0 (F5 (g:=0) (sz:=1) (e:=31) (shs:=[.o 26 3 [.z,.z,.o 29 2 [.z,.z]]]) (es:=(l21.map A0)) (vs:=[.suf 1200 0 0]) (gd:=0) (ed:=26) (nd:=3) (o:= .tree 0 26 3 [.z,.z,.o 29 2 [.z,.z]] (l53.map A1) none) 59 1200 ((Int.toNat (Int.tmod (i64.wrap d0.State) ((d1.Owner.map A3).length:Int)))) (A0 l53) (l54.map A0) (by kernel_rfl) (by kernel_rfl) (by kernel_rfl) (by kernel_rfl) (by kernel_rfl) (glt (f:=A0) e50) (by cases e78;exact shm (f:=A0) (z:=l53)) ?_);refine B5 0 (U0 (g:=0) (sz:=1) (e:=31) (shs:=[.o 26 3 [.z,.z,.o 29 2 [.z,.z]]]) (es:=l54.map A0) 59 (by kernel_rfl) ?_);refine B5 2 (W0 (g:=0) (e:=3) (sz:=1) (es:=l1.map A3) 21 (by kernel_rfl) ?_);obtain⟨l55,e79,hF⟩:=bnd hF;refine B5 0 (Z3 (g:=0) (sz:=1) (es:=l1.map A3) 6 0 21 0 (l55.map A3) (by kernel_rfl) (by kernel_rfl) (by cases e79;exact map_drop.symm) ?_);cases hF;exact jr 4
         .refine jI 6 179 hF ?_ ?_<;>intro hF
          .refine B5 5 (J3 (o:=chk (decide ((Int.toNat (Int.tmod (i64.wrap d0.At) ((y28.map A1).length:Int)))=(Int.toNat (Int.tmod (i64.wrap d0.At) ((y28.map A1).length:Int))))&&decide ((Int.toNat (Int.tmod (i64.wrap d0.At) ((y28.map A1).length:Int)))<(y28.map A1).length))) [] (by kernel_rfl) (ckE e51) ?_);obtain⟨l56,e80,hF⟩:=bnd hF;refine B5 1 (Ez1 (g:=0) (sz:=3) (e:=26) (shs:=[.z,.z,.o 29 2 [.z,.z]]) (es:=(y28.map A1)) (vs:=[.s y29.Act,.s y29.Gain,.esl 2]) 1200 ((Int.toNat (Int.tmod (i64.wrap d0.At) ((y28.map A1).length:Int)))) (A1 (⟨y29.Act,y29.Gain,[]⟩:A2)) (l56.map A1) (by kernel_rfl) (by kernel_rfl) (by kernel_rfl) (glt (f:=A1) e51) (by cases e80;exact shm (f:=A1) (z:=(⟨y29.Act,y29.Gain,[]⟩:A2))) ?_);obtain⟨l57,e81,hF⟩:=bnd hF;refine B5 0 (F5 (g:=0) (sz:=1) (e:=31) (shs:=[.o 26 3 [.z,.z,.o 29 2 [.z,.z]]]) (es:=(l21.map A0)) (vs:=[.suf 1200 0 0]) (gd:=0) (ed:=26) (nd:=3) (o:= .tree 0 26 3 [.z,.z,.o 29 2 [.z,.z]] (l56.map A1) none) 59 1200 ((Int.toNat (Int.tmod (i64.wrap d0.State) ((d1.Owner.map A3).length:Int)))) (A0 l56) (l57.map A0) (by kernel_rfl) (by kernel_rfl) (by kernel_rfl) (by kernel_rfl) (by kernel_rfl) (glt (f:=A0) e50) (by cases e81;exact shm (f:=A0) (z:=l56)) ?_);refine B5 0 (U0 (g:=0) (sz:=1) (e:=31) (shs:=[.o 26 3 [.z,.z,.o 29 2 [.z,.z]]]) (es:=l57.map A0) 59 (by kernel_rfl) ?_);refine B5 2 (W0 (g:=0) (e:=3) (sz:=1) (es:=l1.map A3) 21 (by kernel_rfl) ?_);obtain⟨l58,e82,hF⟩:=bnd hF;refine B5 0 (Z3 (g:=0) (sz:=1) (es:=l1.map A3) 6 0 21 0 (l58.map A3) (by kernel_rfl) (by kernel_rfl) (by cases e82;exact map_drop.symm) ?_);cases hF;exact jr 4
          .refine jI 6 184 hF ?_ ?_<;>intro hF
           .obtain⟨l59,e83,hF⟩:=bnd hF;refine B5 2 (F5 (g:=0) (sz:=3) (e:=26) (shs:=[.z,.z,.o 29 2 [.z,.z]]) (es:=(y28.map A1)) (vs:=[.s y29.Act,.s y29.Gain,.suf 1201 0 0]) (gd:=0) (ed:=29) (nd:=2) (o:= .buf 0 29 2 (y29.Next.map A4)) 1200 1201 ((Int.toNat (Int.tmod (i64.wrap d0.At) ((y28.map A1).length:Int)))) (A1 y29) (l59.map A1) (by kernel_rfl) (by kernel_rfl) (by kernel_rfl) (by kernel_rfl) (by kernel_rfl) (glt (f:=A1) e51) (by cases e83;exact shm (f:=A1) (z:=y29)) ?_);obtain⟨l60,e84,hF⟩:=bnd hF;refine B5 0 (F5 (g:=0) (sz:=1) (e:=31) (shs:=[.o 26 3 [.z,.z,.o 29 2 [.z,.z]]]) (es:=(l21.map A0)) (vs:=[.suf 1200 0 0]) (gd:=0) (ed:=26) (nd:=3) (o:= .tree 0 26 3 [.z,.z,.o 29 2 [.z,.z]] (l59.map A1) none) 59 1200 ((Int.toNat (Int.tmod (i64.wrap d0.State) ((d1.Owner.map A3).length:Int)))) (A0 l59) (l60.map A0) (by kernel_rfl) (by kernel_rfl) (by kernel_rfl) (by kernel_rfl) (by kernel_rfl) (glt (f:=A0) e50) (by cases e84;exact shm (f:=A0) (z:=l59)) ?_);refine B5 0 (Fq8 (g:=0) (sz:=1) (e:=31) (shs:=[.o 26 3 [.z,.z,.o 29 2 [.z,.z]]]) (es:=(l60.map A0)) 59 [.o 26 3 [.z,.z,.z]] (by kernel_rfl) (by kernel_rfl) ?_);have hL3:∀nL3 l68,Bg0 d0 d1 l1 nL3 l68=some r->G21 r ⟨mkT [(4,.ptr 4 0),(6,.ptr 6 0),(11,.i (Int.tmod (i64.wrap d0.State) ((d1.Owner.map A3).length:Int)))],[(4,.box 34 [.esl 1,.esl 1]),(6,.box 34 [.suf 21 0 0,.suf 59 0 0]),(21,.buf 0 3 1 (l1.map A3)),(59,.tree 0 31 1 [.o 26 3 [.z,.z,.z]] (l68.map A0) none)],[kL b21 4289724408,.inBlock 7,.inBlock 4,kC b21 1023]⟩:=by
             clear hF;refine lpI (fun _ h=>by cases h) fun nL3 iL3 l68 hF=> ?_
             obtain⟨y39,e97,hF⟩:=bnd hF;refine B5 3 (Bh5 (g:=0) (e:=31) (e2:=26) (n:=3) (es:=l68.map A0) 59 1200 (Int.toNat (Int.tmod (i64.wrap d0.State) ((d1.Owner.map A3).length:Int))) (y39.map A1) (by kernel_rfl) (by kernel_rfl) (by kernel_rfl) (gjo (f:=A0) e97) ?_);refine B5 4 (J3 (o:=chk (decide (0<=(Int.tmod (i64.wrap d0.State) ((d1.Owner.map A3).length:Int)))&&(decide (0+Int.toNat (Int.tmod (i64.wrap d0.State) ((d1.Owner.map A3).length:Int))=Int.toNat (Int.tmod (i64.wrap d0.State) ((d1.Owner.map A3).length:Int)))&&decide (Int.toNat (Int.tmod (i64.wrap d0.State) ((d1.Owner.map A3).length:Int))<(l68.map A0).length)))) [] (by kernel_rfl) (ckI e97) ?_);refine B5 0 (J3 (o:=chk (decide ((Int.toNat (Int.tmod (i64.wrap d0.State) ((d1.Owner.map A3).length:Int)))=(Int.toNat (Int.tmod (i64.wrap d0.State) ((d1.Owner.map A3).length:Int))))&&decide ((Int.toNat (Int.tmod (i64.wrap d0.State) ((d1.Owner.map A3).length:Int)))<(l68.map A0).length))) [] (by kernel_rfl) (ckE e97) ?_);obtain⟨l69,e98,hF⟩:=bnd hF;refine B5 3 (Ap8 (g:=0) (gd:=0) (e:=31) (e2:=26) (n:=3) (es:=l68.map A0) (ds:=y39.map A1) 59 1200 (Int.toNat (Int.tmod (i64.wrap d0.State) ((d1.Owner.map A3).length:Int))) (l69.map A0) (by kernel_rfl) (by kernel_rfl) (by kernel_rfl) (by kernel_rfl) (glt (f:=A0) e97) (by cases e98;exact shm (f:=A0) (z:=y39)) ?_);refine ja 0 (S0:=[(4,.ptr 4 0),(6,.ptr 6 0),(11,.i (Int.tmod (i64.wrap d0.State) ((d1.Owner.map A3).length:Int))),(192,.b (decide (((y39.map A1).length:Int)<5)))]) (O0:=[(4,.box 34 [.esl 1,.esl 1]),(6,.box 34 [.suf 21 0 0,.suf 59 0 0]),(21,.buf 0 3 1 (l1.map A3)),(59,.tree 0 31 1 [.o 26 3 [.z,.z,.z]] (l69.map A0) none)]) (T0:=[kC b21 17158897633,kC b21 8579448817,kL b21 4289724408,.inBlock 7,.inBlock 4,kC b21 1023]) ?_;refine jI 0 192 hF ?_ ?_<;>intro hF
             .obtain⟨y40,e99,hF⟩:=bnd hF;refine B5 3 (Bh5 (g:=0) (e:=31) (e2:=26) (n:=3) (es:=l69.map A0) 59 1200 (Int.toNat (Int.tmod (i64.wrap d0.State) ((d1.Owner.map A3).length:Int))) (y40.map A1) (by kernel_rfl) (by kernel_rfl) (by kernel_rfl) (gjo (f:=A0) e99) ?_);refine jd 0 ?_;refine G9 6 (H8 (o:=chk (decide (0<=(Int.tmod (i64.wrap d0.State) ((d1.Owner.map A3).length:Int)))&&(decide (0+Int.toNat (Int.tmod (i64.wrap d0.State) ((d1.Owner.map A3).length:Int))=Int.toNat (Int.tmod (i64.wrap d0.State) ((d1.Owner.map A3).length:Int)))&&decide (Int.toNat (Int.tmod (i64.wrap d0.State) ((d1.Owner.map A3).length:Int))<(l69.map A0).length)))) [] (by kernel_rfl) (by kernel_rfl) (ckI e99) ?_);refine G9 0 (H8 (o:=chk (decide ((Int.toNat (Int.tmod (i64.wrap d0.State) ((d1.Owner.map A3).length:Int)))=(Int.toNat (Int.tmod (i64.wrap d0.State) ((d1.Owner.map A3).length:Int))))&&decide ((Int.toNat (Int.tmod (i64.wrap d0.State) ((d1.Owner.map A3).length:Int)))<(l69.map A0).length))) [] (by kernel_rfl) (by kernel_rfl) (ckE e99) ?_);refine G9 3 (H8 (o:=chk (decide (0<=(Int.tmod (i64.wrap d0.State) ((d1.Owner.map A3).length:Int)))&&(decide (0+Int.toNat (Int.tmod (i64.wrap d0.State) ((d1.Owner.map A3).length:Int))=Int.toNat (Int.tmod (i64.wrap d0.State) ((d1.Owner.map A3).length:Int)))&&decide (Int.toNat (Int.tmod (i64.wrap d0.State) ((d1.Owner.map A3).length:Int))<(l69.map A0).length)))) [] (by kernel_rfl) (by kernel_rfl) (ckI e99) ?_);refine G9 0 (H8 (o:=chk (decide ((Int.toNat (Int.tmod (i64.wrap d0.State) ((d1.Owner.map A3).length:Int)))=(Int.toNat (Int.tmod (i64.wrap d0.State) ((d1.Owner.map A3).length:Int))))&&decide ((Int.toNat (Int.tmod (i64.wrap d0.State) ((d1.Owner.map A3).length:Int)))<(l69.map A0).length))) [] (by kernel_rfl) (by kernel_rfl) (ckE e99) ?_);obtain⟨y41,e100,hF⟩:=bnd hF;refine do1 0 (gm' A1 e100) ?_;refine do1 0 (gjm (f:=A1) (gj e100)) ?_;obtain⟨l70,e101,hF⟩:=bnd hF;refine do2 1 (am' A1 e101) ?_;refine G9 0 (H8 (o:=chk (decide (0<=(Int.tmod (i64.wrap d0.State) ((d1.Owner.map A3).length:Int)))&&(decide (0+Int.toNat (Int.tmod (i64.wrap d0.State) ((d1.Owner.map A3).length:Int))=Int.toNat (Int.tmod (i64.wrap d0.State) ((d1.Owner.map A3).length:Int)))&&decide (Int.toNat (Int.tmod (i64.wrap d0.State) ((d1.Owner.map A3).length:Int))<(l69.map A0).length)))) [] (by kernel_rfl) (by kernel_rfl) (ckI e99) ?_);refine G9 0 (H8 (o:=chk (decide ((Int.toNat (Int.tmod (i64.wrap d0.State) ((d1.Owner.map A3).length:Int)))=(Int.toNat (Int.tmod (i64.wrap d0.State) ((d1.Owner.map A3).length:Int))))&&decide ((Int.toNat (Int.tmod (i64.wrap d0.State) ((d1.Owner.map A3).length:Int)))<(l69.map A0).length))) [] (by kernel_rfl) (by kernel_rfl) (ckE e99) ?_);refine je 0 ?_;obtain⟨l71,e102,hF⟩:=bnd hF;refine B5 0 (Ap8 (g:=0) (gd:=1) (e:=31) (e2:=26) (n:=3) (es:=l69.map A0) (ds:=l70.map A1) 59 1200 (Int.toNat (Int.tmod (i64.wrap d0.State) ((d1.Owner.map A3).length:Int))) (l71.map A0) (by kernel_rfl) (by kernel_rfl) (by kernel_rfl) (by kernel_rfl) (glt (f:=A0) e99) (by cases e102;exact shm (f:=A0) (z:=l70)) ?_);refine ja 0 (S0:=[(4,.ptr 4 0),(6,.ptr 6 0),(11,.i (Int.tmod (i64.wrap d0.State) ((d1.Owner.map A3).length:Int)))]) (O0:=[(4,.box 34 [.esl 1,.esl 1]),(6,.box 34 [.suf 21 0 0,.suf 59 0 0]),(21,.buf 0 3 1 (l1.map A3)),(59,.tree 0 31 1 [.o 26 3 [.z,.z,.z]] (l71.map A0) none)]) (T0:=[.inBlock 8,kL b21 4289724408,.inBlock 7,.inBlock 4,kC b21 1023]) ?_;exact ja 1 (iL3 _ hF)
             .refine B5 4 (W0 (g:=0) (e:=3) (sz:=1) (es:=l1.map A3) 21 (by kernel_rfl) ?_);obtain⟨l72,e103,hF⟩:=bnd hF;refine B5 0 (Z3 (g:=0) (sz:=1) (es:=l1.map A3) 6 0 21 0 (l72.map A3) (by kernel_rfl) (by kernel_rfl) (by cases e103;exact map_drop.symm) ?_);refine B5 4 (U0 (g:=0) (sz:=1) (e:=31) (shs:=[.o 26 3 [.z,.z,.z]]) (es:=l69.map A0) 59 (by kernel_rfl) ?_);cases hF;exact jr 0
            exact ja 1 (hL3 _ _ hF)
           .refine jI 6 211 hF ?_ ?_<;>intro hF
            .obtain⟨l73,e104,hF⟩:=bnd hF;refine B5 1 (F5 (g:=0) (sz:=3) (e:=26) (shs:=[.z,.z,.o 29 2 [.z,.z]]) (es:=(y28.map A1)) (vs:=[.s y29.Act,.s y29.Gain,.suf 1201 0 0]) (gd:=0) (ed:=29) (nd:=2) (o:= .buf 0 29 2 (y29.Next.map A4)) 1200 1201 ((Int.toNat (Int.tmod (i64.wrap d0.At) ((y28.map A1).length:Int)))) (A1 y29) (l73.map A1) (by kernel_rfl) (by kernel_rfl) (by kernel_rfl) (by kernel_rfl) (by kernel_rfl) (glt (f:=A1) e51) (by cases e104;exact shm (f:=A1) (z:=y29)) ?_);obtain⟨l74,e105,hF⟩:=bnd hF;refine B5 0 (F5 (g:=0) (sz:=1) (e:=31) (shs:=[.o 26 3 [.z,.z,.o 29 2 [.z,.z]]]) (es:=(l21.map A0)) (vs:=[.suf 1200 0 0]) (gd:=0) (ed:=26) (nd:=3) (o:= .tree 0 26 3 [.z,.z,.o 29 2 [.z,.z]] (l73.map A1) none) 59 1200 ((Int.toNat (Int.tmod (i64.wrap d0.State) ((d1.Owner.map A3).length:Int)))) (A0 l73) (l74.map A0) (by kernel_rfl) (by kernel_rfl) (by kernel_rfl) (by kernel_rfl) (by kernel_rfl) (glt (f:=A0) e50) (by cases e105;exact shm (f:=A0) (z:=l73)) ?_);refine B5 0 (U0 (g:=0) (sz:=1) (e:=31) (shs:=[.o 26 3 [.z,.z,.o 29 2 [.z,.z]]]) (es:=l74.map A0) 59 (by kernel_rfl) ?_);obtain⟨y42,e106,hF⟩:=bnd hF;refine jo1 4 (gm' A0 e106) ?_;obtain⟨l75,e107,hF⟩:=bnd hF;have hst:=stm (f:=A0) (z:=[]) (k:=0) (xs:=[.sl 3 ([].map A1)]) (gj e106) rfl;refine B5 0 (G0 (o:=(match(l74.map A0)[0+Int.toNat (Int.tmod (i64.wrap d0.State) ((d1.Owner.map A3).length:Int))]? with|some old=>some ((l74.map A0).set (0+Int.toNat (Int.tmod (i64.wrap d0.State) ((d1.Owner.map A3).length:Int))) (Z1 old 0 [.sl 3 ([].map A1)]))|none=>none)) (l75.map A0) (by kernel_rfl) (by cases e107;exact hst) ?_);refine B5 3 (W0 (g:=0) (e:=3) (sz:=1) (es:=l1.map A3) 21 (by kernel_rfl) ?_);obtain⟨l76,e108,hF⟩:=bnd hF;refine B5 0 (Z3 (g:=0) (sz:=1) (es:=l1.map A3) 6 0 21 0 (l76.map A3) (by kernel_rfl) (by kernel_rfl) (by cases e108;exact map_drop.symm) ?_);cases hF;exact jr 4
            .refine jI 6 217 hF ?_ ?_<;>intro hF
             .obtain⟨l77,e109,hF⟩:=bnd hF;refine jo2 5 (am' A3 e109) ?_;obtain⟨l78,e110,hF⟩:=bnd hF;refine B5 3 (F5 (g:=0) (sz:=3) (e:=26) (shs:=[.z,.z,.o 29 2 [.z,.z]]) (es:=(y28.map A1)) (vs:=[.s y29.Act,.s y29.Gain,.suf 1201 0 0]) (gd:=0) (ed:=29) (nd:=2) (o:= .buf 0 29 2 (y29.Next.map A4)) 1200 1201 ((Int.toNat (Int.tmod (i64.wrap d0.At) ((y28.map A1).length:Int)))) (A1 y29) (l78.map A1) (by kernel_rfl) (by kernel_rfl) (by kernel_rfl) (by kernel_rfl) (by kernel_rfl) (glt (f:=A1) e51) (by cases e110;exact shm (f:=A1) (z:=y29)) ?_);obtain⟨l79,e111,hF⟩:=bnd hF;refine B5 0 (F5 (g:=0) (sz:=1) (e:=31) (shs:=[.o 26 3 [.z,.z,.o 29 2 [.z,.z]]]) (es:=(l21.map A0)) (vs:=[.suf 1200 0 0]) (gd:=0) (ed:=26) (nd:=3) (o:= .tree 0 26 3 [.z,.z,.o 29 2 [.z,.z]] (l78.map A1) none) 59 1200 ((Int.toNat (Int.tmod (i64.wrap d0.State) ((d1.Owner.map A3).length:Int)))) (A0 l78) (l79.map A0) (by kernel_rfl) (by kernel_rfl) (by kernel_rfl) (by kernel_rfl) (by kernel_rfl) (glt (f:=A0) e50) (by cases e111;exact shm (f:=A0) (z:=l78)) ?_);refine B5 0 (U0 (g:=0) (sz:=1) (e:=31) (shs:=[.o 26 3 [.z,.z,.o 29 2 [.z,.z]]]) (es:=l79.map A0) 59 (by kernel_rfl) ?_);refine B5 2 (W0 (g:=1) (e:=3) (sz:=1) (es:=l77.map A3) 21 (by kernel_rfl) ?_);obtain⟨l80,e112,hF⟩:=bnd hF;refine B5 0 (Z3 (g:=1) (sz:=1) (es:=l77.map A3) 6 0 21 0 (l80.map A3) (by kernel_rfl) (by kernel_rfl) (by cases e112;exact map_drop.symm) ?_);cases hF;exact jr 4
             .obtain⟨l81,e113,hF⟩:=bnd hF;refine B5 2 (F5 (g:=0) (sz:=3) (e:=26) (shs:=[.z,.z,.o 29 2 [.z,.z]]) (es:=(y28.map A1)) (vs:=[.s y29.Act,.s y29.Gain,.suf 1201 0 0]) (gd:=0) (ed:=29) (nd:=2) (o:= .buf 0 29 2 (y29.Next.map A4)) 1200 1201 ((Int.toNat (Int.tmod (i64.wrap d0.At) ((y28.map A1).length:Int)))) (A1 y29) (l81.map A1) (by kernel_rfl) (by kernel_rfl) (by kernel_rfl) (by kernel_rfl) (by kernel_rfl) (glt (f:=A1) e51) (by cases e113;exact shm (f:=A1) (z:=y29)) ?_);obtain⟨l82,e114,hF⟩:=bnd hF;refine B5 0 (F5 (g:=0) (sz:=1) (e:=31) (shs:=[.o 26 3 [.z,.z,.o 29 2 [.z,.z]]]) (es:=(l21.map A0)) (vs:=[.suf 1200 0 0]) (gd:=0) (ed:=26) (nd:=3) (o:= .tree 0 26 3 [.z,.z,.o 29 2 [.z,.z]] (l81.map A1) none) 59 1200 ((Int.toNat (Int.tmod (i64.wrap d0.State) ((d1.Owner.map A3).length:Int)))) (A0 l81) (l82.map A0) (by kernel_rfl) (by kernel_rfl) (by kernel_rfl) (by kernel_rfl) (by kernel_rfl) (glt (f:=A0) e50) (by cases e114;exact shm (f:=A0) (z:=l81)) ?_);refine B5 0 (U0 (g:=0) (sz:=1) (e:=31) (shs:=[.o 26 3 [.z,.z,.o 29 2 [.z,.z]]]) (es:=l82.map A0) 59 (by kernel_rfl) ?_);have hL4:∀nL4 l89 l90,Bg1 nL4 l89 l90=some r->G21 r ⟨mkT [(4,.ptr 4 0),(6,.ptr 6 0)],[(4,.box 34 [.esl 1,.esl 1]),(6,.box 34 [.suf 21 0 0,.suf 59 0 0]),(21,.buf 0 3 1 (l90.map A3)),(59,.buf 0 31 1 (l89.map A0))],[kL b21 68635590652,.inBlock 5,.inBlock 4,kC b21 1023]⟩:=by
               clear hF;refine lpI (fun _ _ h=>by cases h) fun nL4 iL4 l89 l90 hF=> ?_
               refine jI 9 98 hF ?_ ?_<;>intro hF
               .obtain⟨l91,e121,hF⟩:=bnd hF;refine jo2 8 (am' A3 e121) ?_;refine jd 3 ?_;obtain⟨y45,e122,hF⟩:=bnd hF;refine do1 4 (gm' A0 e122) ?_;refine do1 0 (gjm (f:=A0) (gj e122)) ?_;obtain⟨l92,e123,hF⟩:=bnd hF;refine do2 1 (am' A0 e123) ?_;refine je 2 ?_;exact ja 1 (iL4 _ _ hF)
               .refine B5 4 (W0 (g:=0) (e:=3) (sz:=1) (es:=l90.map A3) 21 (by kernel_rfl) ?_);obtain⟨l93,e124,hF⟩:=bnd hF;refine B5 0 (Z3 (g:=0) (sz:=1) (es:=l90.map A3) 6 0 21 0 (l93.map A3) (by kernel_rfl) (by kernel_rfl) (by cases e124;exact map_drop.symm) ?_);cases hF;exact jr 4
              exact ja 1 (hL4 _ _ _ hF)
 exact ja 5 (hL1 _ _ _ hF)
def Ap1(d0:List UInt8):Nat->Int->Option Bool
 |0,_=>none
 |nL1+1,v2=>
  bif decide (v2<(d0.length:Int)) then
   ((
    (C2 d0 v2).bind fun y17=>
    bif decide ((y17.toNat:Int)<97) then
     (some true)
    else
     ((C2 d0 v2).bind fun y18=>
     some (decide ((y18.toNat:Int)>122)))).bind fun o3=>
   bif o3 then
    (some false)
   else
    ((Ap1 d0 nL1) (i64.wrap (v2+1))))
  else
   (some (decide ((d0.length:Int)<=8)))
def Ek5(fuel:Nat)(d0:List UInt8):Option Bool:=
 Ap1 d0 fuel 0
noncomputable abbrev Fa5:=C0 f147
abbrev Gm6(r:Bool):=GJ prog 23 f147 (.b r)
theorem Ev1{fuel}{d0}{r}(hF:Ek5 fuel d0=some r):
 C1 prog 147 [.s d0] (.b r):=by
 unfold Ek5 at hF;refine cf 23 func147 ?_;have hL1:∀nL1 v2,Ap1 d0 nL1 v2=some r->Gm6 r ⟨mkT [(0,.s d0),(3,.i v2)],[],[kL Fa5 52,.inBlock 0,kC Fa5 7]⟩:=by
  clear hF;refine lpI (fun _ h=>by cases h) fun nL1 iL1 v2 hF=> ?_
  refine jI 9 7 hF ?_ ?_<;>intro hF
  .obtain⟨o3,hO,hF⟩:=bnd hF;have hR3:Gm6 r ⟨mkT [(0,.s d0),(3,.i v2),(19,.b o3)],[],[kO Fa5 840,kC Fa5 841,.inBlock 1,kC Fa5 211,kL Fa5 52,.inBlock 0,kC Fa5 7]⟩:=by
    clear hO;refine jI 1 19 hF ?_ ?_<;>intro hF
    .cases hF;exact jr 5
    .exact ja 8 (iL1 _ hF)
   clear hF;rename _=some o3=>hF
   obtain⟨y17,e17,hF⟩:=bnd hF;refine jo1 8 (gs e17) ?_;refine jI 2 14 hF ?_ ?_<;>intro hF
   .cases hF;exact ja 5 hR3
   .obtain⟨y18,e18,hF⟩:=bnd hF;refine jo1 2 (gs e18) ?_;cases hF;exact ja 2 hR3
  .cases hF;exact jr 9
 exact ja 11 (hL1 _ _ hF)
def Ao3(d0:List UInt8):Nat->Int->Option Bool
 |0,_=>none
 |nL1+1,v2=>
  bif decide (v2<(((d0.drop (Int.toNat 1)).take (Int.toNat ((d0.length:Int)-1))).length:Int)) then
   ((
    (C2 ((d0.drop (Int.toNat 1)).take (Int.toNat ((d0.length:Int)-1))) v2).bind fun y21=>
    bif decide ((y21.toNat:Int)<48) then
     (some true)
    else
     ((C2 ((d0.drop (Int.toNat 1)).take (Int.toNat ((d0.length:Int)-1))) v2).bind fun y22=>
     some (decide ((y22.toNat:Int)>57)))).bind fun o5=>
   bif o5 then
    (some false)
   else
    ((Ao3 d0 nL1) (i64.wrap (v2+1))))
  else
   (some true)
def Ao4(d0:List UInt8):Nat->Int->Option Bool
 |0,_=>none
 |nL2+1,v4=>
  bif decide (v4<(d0.length:Int)) then
   ((
    (C2 d0 v4).bind fun y42=>
    bif decide ((y42.toNat:Int)<48) then
     (some true)
    else
     ((C2 d0 v4).bind fun y43=>
     some (decide ((y43.toNat:Int)>57)))).bind fun o9=>
   bif o9 then
    (some false)
   else
    ((Ao4 d0 nL2) (i64.wrap (v4+1))))
  else
   (some true)
def Fm0(fuel:Nat)(d0:List UInt8):Option Bool:=
 bif d0==[48] then
  (some true)
 else
  ((
   bif decide ((d0.length:Int)>0) then
    ((C2 d0 0).bind fun y45=>
    some ((y45.toNat:Int)==45))
   else
    (some false)).bind fun o1=>
  bif o1 then
   (ass (decide (0<=1)&&decide (1<=(d0.length:Int))&&decide ((d0.length:Int)<=d0.length))<|
   (
    bif (((d0.drop (Int.toNat 1)).take (Int.toNat ((d0.length:Int)-1))).length:Int)==0 then
     (some true)
    else
     ((C2 ((d0.drop (Int.toNat 1)).take (Int.toNat ((d0.length:Int)-1))) 0).bind fun y23=>
     some ((y23.toNat:Int)==48))).bind fun o2=>
   bif o2 then
    (some false)
   else
    (Ao3 d0 fuel 0))
  else
   ((
    bif (d0.length:Int)==0 then
     (some true)
    else
     ((C2 d0 0).bind fun y44=>
     some ((y44.toNat:Int)==48))).bind fun o6=>
   bif o6 then
    (some false)
   else
    (Ao4 d0 fuel 0)))
noncomputable abbrev Ay7:=C0 f122
abbrev Ey4(r:Bool):=GJ prog 42 f122 (.b r)
theorem Dc8{fuel}{d0}{r}(hF:Fm0 fuel d0=some r):
 C1 prog 122 [.s d0] (.b r):=by
 refine cf 42 func122 ?_;refine jI 10 6 hF ?_ ?_<;>intro hF
 .cases hF;exact jr 5
 .obtain⟨o1,hO,hF⟩:=bnd hF;have hR1:Ey4 r ⟨mkT [(3,.s d0),(15,.b o1)],[],[kO Ay7 60,kC Ay7 61,kC Ay7 31]⟩:=by
   clear hO;refine jI 1 15 hF ?_ ?_<;>intro hF
   .obtain⟨hb5,hF⟩:=O1 hF;refine jo1 3 (ck hb5) ?_;obtain⟨o2,hO,hF⟩:=bnd hF;have hR2:Ey4 r ⟨mkT [(3,.s ((d0.drop (Int.toNat 1)).take (Int.toNat ((d0.length:Int)-1)))),(25,.b o2)],[],[kO Ay7 124,kC Ay7 125,kC Ay7 63]⟩:=by
     clear hO;refine jI 1 25 hF ?_ ?_<;>intro hF
     .cases hF;exact jr 5
     .have hL1:∀nL1 v2,Ao3 d0 nL1 v2=some r->Ey4 r ⟨mkT [(3,.s ((d0.drop (Int.toNat 1)).take (Int.toNat ((d0.length:Int)-1)))),(4,.i v2)],[],[kL Ay7 1012,.inBlock 0,kC Ay7 127]⟩:=by
       clear hF;refine lpI (fun _ h=>by cases h) fun nL1 iL1 v2 hF=> ?_
       refine jI 9 29 hF ?_ ?_<;>intro hF
       .obtain⟨o5,hO,hF⟩:=bnd hF;have hR5:Ey4 r ⟨mkT [(3,.s ((d0.drop (Int.toNat 1)).take (Int.toNat ((d0.length:Int)-1)))),(4,.i v2),(41,.b o5)],[],[kO Ay7 16200,kC Ay7 16201,.inBlock 1,kC Ay7 4051,kL Ay7 1012,.inBlock 0,kC Ay7 127]⟩:=by
         clear hO;refine jI 1 41 hF ?_ ?_<;>intro hF
         .cases hF;exact jr 5
         .exact ja 8 (iL1 _ hF)
        clear hF;rename _=some o5=>hF
        obtain⟨y21,e21,hF⟩:=bnd hF;refine jo1 8 (gs e21) ?_;refine jI 2 36 hF ?_ ?_<;>intro hF
        .cases hF;exact ja 5 hR5
        .obtain⟨y22,e22,hF⟩:=bnd hF;refine jo1 2 (gs e22) ?_;cases hF;exact ja 2 hR5
       .cases hF;exact jr 6
      exact ja 9 (hL1 _ _ hF)
    clear hF;rename _=some o2=>hF
    refine jI 9 21 hF ?_ ?_<;>intro hF
    .cases hF;exact ja 4 hR2
    .obtain⟨y23,e23,hF⟩:=bnd hF;refine jo1 1 (gs e23) ?_;cases hF;exact ja 2 hR2
   .obtain⟨o6,hO,hF⟩:=bnd hF;have hR6:Ey4 r ⟨mkT [(3,.s d0),(25,.b o6)],[],[kO Ay7 124,kC Ay7 125,kC Ay7 63]⟩:=by
     clear hO;refine jI 1 25 hF ?_ ?_<;>intro hF
     .cases hF;exact jr 5
     .have hL2:∀nL2 v4,Ao4 d0 nL2 v4=some r->Ey4 r ⟨mkT [(3,.s d0),(4,.i v4)],[],[kL Ay7 1012,.inBlock 0,kC Ay7 127]⟩:=by
       clear hF;refine lpI (fun _ h=>by cases h) fun nL2 iL2 v4 hF=> ?_
       refine jI 9 29 hF ?_ ?_<;>intro hF
       .obtain⟨o9,hO,hF⟩:=bnd hF;have hR9:Ey4 r ⟨mkT [(3,.s d0),(4,.i v4),(41,.b o9)],[],[kO Ay7 16200,kC Ay7 16201,.inBlock 1,kC Ay7 4051,kL Ay7 1012,.inBlock 0,kC Ay7 127]⟩:=by
         clear hO;refine jI 1 41 hF ?_ ?_<;>intro hF
         .cases hF;exact jr 5
         .exact ja 8 (iL2 _ hF)
        clear hF;rename _=some o9=>hF
        obtain⟨y42,e42,hF⟩:=bnd hF;refine jo1 8 (gs e42) ?_;refine jI 2 36 hF ?_ ?_<;>intro hF
        .cases hF;exact ja 5 hR9
        .obtain⟨y43,e43,hF⟩:=bnd hF;refine jo1 2 (gs e43) ?_;cases hF;exact ja 2 hR9
       .cases hF;exact jr 6
      exact ja 9 (hL2 _ _ hF)
    clear hF;rename _=some o6=>hF
    refine jI 9 21 hF ?_ ?_<;>intro hF
    .cases hF;exact ja 4 hR6
    .obtain⟨y44,e44,hF⟩:=bnd hF;refine jo1 1 (gs e44) ?_;cases hF;exact ja 2 hR6
  clear hF;rename _=some o1=>hF
  refine jI 14 11 hF ?_ ?_<;>intro hF
  .obtain⟨y45,e45,hF⟩:=bnd hF;refine jo1 1 (gs e45) ?_;cases hF;exact ja 2 hR1
  .cases hF;exact ja 4 hR1
def F82(fuel:Nat)(d0:List UInt8):Option Bool:=
 (Dz8 fuel d0).bind fun y1=>
 (
  (Fm0 fuel y1.1).bind fun y12=>
  bif !y12 then
   (some true)
  else
   ((Fm0 fuel y1.2.1).bind fun y13=>
   some (!y13))).bind fun o1=>
 bif o1 then
  (some false)
 else
  ((
   bif !y1.2.2 then
    (some true)
   else
    ((F72 fuel y1.2.1 [49]).bind fun y10=>
    bif decide (y10>0) then
     ((Fm1 fuel y1.1 y1.2.1).bind fun y11=>
     some (y11==[49]))
    else
     (some false))).bind fun o2=>
  some o2)
noncomputable abbrev b82:=C0 f82
abbrev G82(r:Bool):=GJ prog 33 f82 (.b r)
theorem Fp4{fuel}{d0}{r}(hF:F82 fuel d0=some r):
 C1 prog 82 [.s d0] (.b r):=by
 refine cf 33 func82 ?_;refine jB 7 hF Dc7 fun y1 hF=> ?_
 obtain⟨o1,hO,hF⟩:=bnd hF;have hR1:G82 r ⟨mkT [(3,.s y1.1),(4,.s y1.2.1),(5,.b y1.2.2),(19,.b o1)],[],[kO b82 28,kC b82 29,kC b82 15]⟩:=by
  clear hO;refine jI 1 19 hF ?_ ?_<;>intro hF
  .cases hF;exact jr 5
  .obtain⟨o2,hO,hF⟩:=bnd hF;have hR2:G82 r ⟨mkT [(2,.b o2)],[],[kO b82 30,kC b82 31]⟩:=by
    clear hO;cases hF;exact jr 1
   clear hF;rename _=some o2=>hF
   refine jI 7 22 hF ?_ ?_<;>intro hF
   .cases hF;exact ja 11 hR2
   .refine jB 1 hF Cm8 fun y10 hF=> ?_
    refine jI 2 26 hF ?_ ?_<;>intro hF
    .refine jB 2 hF Dc9 fun y11 hF=> ?_
     cases hF;exact ja 4 hR2
    .cases hF;exact ja 7 hR2
 clear hF;rename _=some o1=>hF
 refine jB 12 hF Dc8 fun y12 hF=> ?_
 refine jI 2 15 hF ?_ ?_<;>intro hF
 .cases hF;exact ja 4 hR1
 .refine jB 1 hF Dc8 fun y13 hF=> ?_
  cases hF;exact ja 2 hR1
def Fm7(d0:List UInt8):Option Int:=
 (C2 d0 0).bind fun y1=>
 bif (y1.toNat:Int)==45 then
  (some (i64.wrap ((d0.length:Int)-1)))
 else
  (some (d0.length:Int))
theorem De0{d0}{r}(hF:Fm7 d0=some r):
 C1 prog 153 [.s d0] (.i r):=by
 refine cf 11 func153 ?_;obtain⟨y1,e1,hF⟩:=bnd hF;refine jo1 8 (gs e1) ?_;refine jI 2 5 hF ?_ ?_<;>intro hF
 .cases hF;exact jr 8
 .cases hF;exact jr 8
def Ge3(fuel:Nat)(d0:List UInt8)(d1:Int):Option Bool:=
 (F71 fuel d0).bind fun y1=>
 (
  (Fm7 y1.1).bind fun y6=>
  bif decide (y6<=d1) then
   ((Fm7 y1.2).bind fun y7=>
   some (decide (y7<=d1)))
  else
   (some false)).bind fun o1=>
 some o1
noncomputable abbrev Gn5:=C0 f116
abbrev Gr7(r:Bool):=GJ prog 22 f116 (.b r)
theorem Et9{fuel}{d0}{d1}{r}(hF:Ge3 fuel d0 d1=some r):
 C1 prog 116 [.s d0,.i d1] (.b r):=by
 refine cf 22 func116 ?_;refine jB 7 hF Bg9 fun y1 hF=> ?_
 obtain⟨o1,hO,hF⟩:=bnd hF;have hR1:Gr7 r ⟨mkT [(4,.b o1)],[],[kO Gn5 14,kC Gn5 15]⟩:=by
  clear hO;cases hF;exact jr 1
 clear hF;rename _=some o1=>hF
 refine jB 9 hF De0 fun y6 hF=> ?_
 refine jI 3 16 hF ?_ ?_<;>intro hF
 .refine jB 1 hF De0 fun y7 hF=> ?_
  cases hF;exact ja 4 hR1
 .cases hF;exact ja 6 hR1
def Dz2(fuel:Nat)(d0:List UInt8):Option Bool:=
 (
  (F82 fuel d0).bind fun y5=>
  bif y5 then
   ((Ge3 fuel d0 4).bind fun y6=>
   some y6)
  else
   (some false)).bind fun o1=>
 some o1
noncomputable abbrev Go3:=C0 f148
abbrev Gs7(r:Bool):=GJ prog 9 f148 (.b r)
theorem Dd8{fuel}{d0}{r}(hF:Dz2 fuel d0=some r):
 C1 prog 148 [.s d0] (.b r):=by
 refine cf 9 func148 ?_;obtain⟨o1,hO,hF⟩:=bnd hF;have hR1:Gs7 r ⟨mkT [(2,.b o1)],[],[kO Go3 6,kC Go3 7]⟩:=by
  clear hO;cases hF;exact jr 1
 clear hF;rename _=some o1=>hF
 refine jB 7 hF Fp4 fun y5 hF=> ?_
 refine jI 1 5 hF ?_ ?_<;>intro hF
 .refine jB 1 hF Et9 fun y6 hF=> ?_
  cases hF;exact ja 2 hR1
 .cases hF;exact ja 4 hR1
def X2(fuel:Nat)(d0:A2)(d1:Int):Nat->(List UInt8)->Int->Int->Option Bool
 |0,_,_,_=>none
 |nL1+1,x2,v3,v4=>
  bif decide (v4<((d0.Next.map A4).length:Int)) then
   ((C2 d0.Next v4).bind fun y23=>
   (
    bif decide (y23.To<=v3) then
     (some true)
    else
     (bif decide (y23.To>=d1) then
      (some true)
     else
      ((Dz2 fuel y23.P).bind fun y29=>
      bif !y29 then
       (some true)
      else
       ((F41 fuel y23.P).bind fun y30=>
       some (decide (y30<1)))))).bind fun o4=>
   bif o4 then
    (some false)
   else
    ((F37 fuel x2 y23.P).bind fun y28=>
    (X2 fuel d0 d1 nL1) y28 y23.To (i64.wrap (v4+1))))
  else
   (some (x2==[49]))
def Et5(fuel:Nat)(d0:A2)(d1:Int):Option Bool:=
 (
  (Ek5 fuel d0.Act).bind fun y31=>
  bif !y31 then
   (some true)
  else
   ((Dz2 fuel d0.Gain).bind fun y32=>
   bif !y32 then
    (some true)
   else
    ((F41 fuel d0.Gain).bind fun y33=>
    bif decide (y33<0) then
     (some true)
    else
     (bif ((d0.Next.map A4).length:Int)==0 then
      (some true)
     else
      (some (decide (((d0.Next.map A4).length:Int)>d1))))))).bind fun o1=>
 bif o1 then
  (some false)
 else
  (X2 fuel d0 d1 fuel [48] (-1) 0)
noncomputable abbrev Dj3:=C0 f107
abbrev Gf3(r:Bool):=GJ prog 80 f107 (.b r)
theorem Et6{fuel}{d0}{d1}{r}(hF:Et5 fuel d0 d1=some r):
 C1 prog 107 [.agg [.s d0.Act,.s d0.Gain,.l 2 d0.Next A4],.i d1] (.b r):=by
 refine cf 80 func107 ?_;obtain⟨o1,hO,hF⟩:=bnd hF;have hR1:Gf3 r ⟨mkT [(1,.i d1),(2,.ptr 2 0),(37,.b o1)],[(2,.box 26 [.s d0.Act,.s d0.Gain,.l 2 d0.Next A4])],[kO Dj3 12,kC Dj3 13,kC Dj3 7]⟩:=by
  clear hO;refine jI 1 37 hF ?_ ?_<;>intro hF
  .cases hF;exact jr 5
  .have hL1:∀nL1 x2 v3 v4,X2 fuel d0 d1 nL1 x2 v3 v4=some r->Gf3 r ⟨mkT [(1,.i d1),(2,.ptr 2 0),(5,.s x2),(6,.i v3),(7,.i v4)],[(2,.box 26 [.s d0.Act,.s d0.Gain,.l 2 d0.Next A4])],[kL Dj3 244,.inBlock 0,kC Dj3 31]⟩:=by
    clear hF;refine lpI (fun _ _ _ h=>by cases h) fun nL1 iL1 x2 v3 v4 hF=> ?_
    refine jI 10 42 hF ?_ ?_<;>intro hF
    .obtain⟨y23,e23,hF⟩:=bnd hF;refine jo1 9 (gm' A4 e23) ?_;obtain⟨o4,hO,hF⟩:=bnd hF;have hR4:Gf3 r ⟨mkT [(1,.i d1),(2,.ptr 2 0),(5,.s x2),(7,.i v4),(8,.ptr 8 0),(71,.b o4)],[(2,.box 26 [.s d0.Act,.s d0.Gain,.l 2 d0.Next A4]),(8,.box 29 [.i y23.To,.s y23.P])],[kO Dj3 15652,kC Dj3 15653,kC Dj3 7827,.inBlock 1,kC Dj3 979,kL Dj3 244,.inBlock 0,kC Dj3 31]⟩:=by
      clear hO;refine jI 1 71 hF ?_ ?_<;>intro hF
      .cases hF;exact jr 5
      .refine jB 12 hF Fo3 fun y28 hF=> ?_
       exact ja 8 (iL1 _ _ _ hF)
     clear hF;rename _=some o4=>hF
     refine jI 12 54 hF ?_ ?_<;>intro hF
     .cases hF;exact ja 17 hR4
     .refine jI 6 60 hF ?_ ?_<;>intro hF
      .cases hF;exact ja 11 hR4
      .refine jB 2 hF Dd8 fun y29 hF=> ?_
       refine jI 3 66 hF ?_ ?_<;>intro hF
       .cases hF;exact ja 5 hR4
       .refine jB 2 hF El0 fun y30 hF=> ?_
        cases hF;exact ja 2 hR4
    .cases hF;exact jr 8
   exact ja 14 (hL1 _ _ _ _ hF)
 clear hF;rename _=some o1=>hF
 refine jB 10 hF Ev1 fun y31 hF=> ?_
 refine jI 2 13 hF ?_ ?_<;>intro hF
 .cases hF;exact ja 24 hR1
 .refine jB 2 hF Dd8 fun y32 hF=> ?_
  refine jI 3 19 hF ?_ ?_<;>intro hF
  .cases hF;exact ja 18 hR1
  .refine jB 2 hF El0 fun y33 hF=> ?_
   refine jI 3 25 hF ?_ ?_<;>intro hF
   .cases hF;exact ja 12 hR1
   .refine jI 6 31 hF ?_ ?_<;>intro hF
    .cases hF;exact ja 6 hR1
    .cases hF;exact ja 6 hR1
def An9(l65:List (List UInt8))(v24:Int)(y51:A2)(cL2:Int->(List (List UInt8))->(List (List UInt8))->Option (List (List UInt8)×List (List UInt8))):Nat->Int->(List (List UInt8))->Option (List (List UInt8)×List (List UInt8))
 |0,_,_=>none
 |nL3+1,v26,l69=>
  bif decide (v26<((y51.Next.map A4).length:Int)) then
   ((C2 y51.Next v26).bind fun y54=>
   (app l69 [y54.P]).bind fun l70=>
   (An9 l65 v24 y51 cL2 nL3) (i64.wrap (v26+1)) l70)
  else
   (cL2 (i64.wrap (v24+1)) l65 l69)
def Aa1(fuel:Nat)(d0:A9)(v18:Int)(cL1:Int->(List (List UInt8))->(List (List UInt8))->Option (List (List UInt8)×List (List UInt8))):Nat->Int->(List (List UInt8))->(List (List UInt8))->Option (List (List UInt8)×List (List UInt8))
 |0,_,_,_=>none
 |nL2+1,v24,l63,l64=>
  (C2 d0.Choices v18).bind fun y49=>
  bif decide (v24<((y49.map A1).length:Int)) then
   ((C2 d0.Choices v18).bind fun y50=>
   (C2 y50 v24).bind fun y51=>
   (app l63 [y51.Gain]).bind fun l65=>
   An9 l65 v24 y51 (Aa1 fuel d0 v18 cL1 nL2) fuel 0 l64)
  else
   (cL1 (i64.wrap (v18+1)) l63 l64)
def X3(fuel:Nat)(d0:A9):Nat->Int->(List (List UInt8))->(List (List UInt8))->Option (List (List UInt8)×List (List UInt8))
 |0,_,_,_=>none
 |nL1+1,v18,l47,l48=>
  bif decide (v18<((d0.Choices.map A0).length:Int)) then
   (Aa1 fuel d0 v18 (X3 fuel d0 nL1) fuel 0 l47 l48)
  else
   (some (l48,l47))
def Fz6(fuel:Nat)(d0:A9):Option (List (List UInt8)×List (List UInt8)):=
 X3 fuel d0 fuel 0 [] []
noncomputable abbrev Db7:=C0 f108
abbrev Gf4(r:List (List UInt8)×List (List UInt8)):=GJ prog 58 f108 (.tup [.l 1 r.1 e_s,.l 1 r.2 e_s])
theorem Et7{fuel}{d0}{r}(hF:Fz6 fuel d0=some r):
 C1 prog 108 [.agg [.l 1 d0.Owner A3,.l 1 d0.Choices A0]] (.tup [.l 1 r.1 e_s,.l 1 r.2 e_s]):=by
 unfold Fz6 at hF;refine cf 58 func108 ?_;have hL1:∀nL1 v18 l47 l48,X3 fuel d0 nL1 v18 l47 l48=some r->Gf4 r ⟨mkT [(1,.ptr 1 0),(4,.suf 55 0 0),(5,.suf 39 0 0),(6,.i v18)],[(1,.box 34 [.l 1 d0.Owner A3,.l 1 d0.Choices A0]),(39,.buf 0 23 1 (l47.map e_s)),(55,.buf 0 23 1 (l48.map e_s))],[kL Db7 116,.inBlock 0,kC Db7 15]⟩:=by
  clear hF;refine lpI (fun _ _ _ h=>by cases h) fun nL1 iL1 v18 l47 l48 hF=> ?_
  refine jI 10 14 hF ?_ ?_<;>intro hF
  .have hL2:∀nL2 v24 l63 l64,Aa1 fuel d0 v18 (X3 fuel d0 nL1) nL2 v24 l63 l64=some r->Gf4 r ⟨mkT [(1,.ptr 1 0),(4,.suf 55 0 0),(5,.suf 39 0 0),(6,.i v18),(7,.i v24)],[(1,.box 34 [.l 1 d0.Owner A3,.l 1 d0.Choices A0]),(39,.buf 0 23 1 (l63.map e_s)),(55,.buf 0 23 1 (l64.map e_s))],[kL Db7 7460,.inBlock 2,.inBlock 1,kC Db7 467,kL Db7 116,.inBlock 0,kC Db7 15]⟩:=by
    clear hF;refine lpI (fun _ _ _ h=>by cases h) fun nL2 iL2 v24 l63 l64 hF=> ?_
    obtain⟨y49,e81,hF⟩:=bnd hF;refine jo1 8 (gm' A0 e81) ?_;refine jI 4 24 hF ?_ ?_<;>intro hF
    .obtain⟨y50,e82,hF⟩:=bnd hF;refine jo1 9 (gm' A0 e82) ?_;obtain⟨y51,e83,hF⟩:=bnd hF;refine jo1 2 (gm' A1 e83) ?_;obtain⟨l65,e84,hF⟩:=bnd hF;refine jo2 10 (am' e_s e84) ?_;have hL3:∀nL3 v26 l69,An9 l65 v24 y51 (Aa1 fuel d0 v18 (X3 fuel d0 nL1) nL2) nL3 v26 l69=some r->Gf4 r ⟨mkT [(1,.ptr 1 0),(4,.suf 55 0 0),(5,.suf 39 0 0),(6,.i v18),(7,.i v24),(8,.ptr 8 0),(9,.i v26)],[(1,.box 34 [.l 1 d0.Owner A3,.l 1 d0.Choices A0]),(8,.box 26 [.s y51.Act,.s y51.Gain,.l 2 y51.Next A4]),(39,.buf 0 23 1 (l65.map e_s)),(55,.buf 0 23 1 (l69.map e_s))],[kL Db7 1909916,.inBlock 4,.inBlock 3,kC Db7 29843,kL Db7 7460,.inBlock 2,.inBlock 1,kC Db7 467,kL Db7 116,.inBlock 0,kC Db7 15]⟩:=by
      clear hF;refine lpI (fun _ _ h=>by cases h) fun nL3 iL3 v26 l69 hF=> ?_
      refine jI 10 44 hF ?_ ?_<;>intro hF
      .obtain⟨y54,e89,hF⟩:=bnd hF;refine jo1 9 (gm' A4 e89) ?_;obtain⟨l70,e90,hF⟩:=bnd hF;refine jo2 3 (am' e_s e90) ?_;exact ja 8 (iL3 _ _ hF)
      .exact ja 8 (iL2 _ _ _ hF)
     exact ja 8 (hL3 _ _ _ hF)
    .exact ja 8 (iL1 _ _ _ hF)
   exact ja 10 (hL2 _ _ _ _ hF)
  .cases hF;exact jr 9
 refine B5 18 (At7 (n:=1) 4 55 23 1 (by kernel_rfl) (by kernel_rfl) ?_);refine B5 0 (At7 (n:=1) 5 39 23 1 (by kernel_rfl) (by kernel_rfl) ?_);exact ja 0 (hL1 _ _ _ _ hF)
def Ax3(v6:Int)(cL1:Int->Int->Option (Int×Bool))(v7:Int):Option (Int×Bool):=
 cL1 v7 (i64.wrap (v6+1))
def Aa6(d0:List UInt8):Nat->Int->Int->Option (Int×Bool)
 |0,_,_=>none
 |nL1+1,v5,v6=>
  bif decide (v6<(d0.length:Int)) then
   ((C2 d0 v6).bind fun y15=>
   bif (y15.toNat:Int) !=45 then
    ((C2 d0 v6).bind fun y16=>
    Ax3 v6 (Aa6 d0 nL1) (i64.wrap ((i64.wrap (10*v5))-(i64.wrap (IntKind.u8.wrap ((y16.toNat:Int)-48))))))
   else
    (Ax3 v6 (Aa6 d0 nL1) v5))
  else
   ((Bk2 d0).bind fun y17=>
   bif !y17 then
    (some (i64.wrap (0-v5),true))
   else
    (some (v5,true)))
def Fz9(fuel:Nat)(d0:List UInt8):Option (Int×Bool):=
 (
  (F72 fuel d0 [45,57,50,50,51,51,55,50,48,51,54,56,53,52,55,55,53,56,48,56]).bind fun y18=>
  bif decide (y18<0) then
   (some true)
  else
   ((F72 fuel d0 [57,50,50,51,51,55,50,48,51,54,56,53,52,55,55,53,56,48,55]).bind fun y19=>
   some (decide (y19>0)))).bind fun o1=>
 bif o1 then
  (some (0,false))
 else
  (Aa6 d0 fuel 0 0)
noncomputable abbrev Em8:=C0 f149
abbrev Gf9(r:Int×Bool):=GJ prog 38 f149 (.tup [.i r.1,.b r.2])
theorem Ev2{fuel}{d0}{r}(hF:Fz9 fuel d0=some r):
 C1 prog 149 [.s d0] (.tup [.i r.1,.b r.2]):=by
 refine cf 38 func149 ?_;obtain⟨o1,hO,hF⟩:=bnd hF;have hR1:Gf9 r ⟨mkT [(0,.s d0),(13,.b o1)],[],[kO Em8 12,kC Em8 13,kC Em8 7]⟩:=by
  clear hO;refine jI 1 13 hF ?_ ?_<;>intro hF
  .cases hF;exact jr 6
  .have hL1:∀nL1 v5 v6,Aa6 d0 nL1 v5 v6=some r->Gf9 r ⟨mkT [(0,.s d0),(4,.i v5),(5,.i v6)],[],[kL Em8 244,.inBlock 0,kC Em8 31]⟩:=by
    clear hF;refine lpI (fun _ _ h=>by cases h) fun nL1 iL1 v5 v6 hF=> ?_
    refine jI 9 17 hF ?_ ?_<;>intro hF
    .have hA2:∀v7,Ax3 v6 (Aa6 d0 nL1) v7=some r->Gf9 r ⟨mkT [(0,.s d0),(4,.i v7),(5,.i v6)],[],[kC Em8 979,kL Em8 244,.inBlock 0,kC Em8 31]⟩:=by
      intro v7 hF;unfold Ax3 at hF;exact ja 5 (iL1 _ _ hF)
     obtain⟨y15,e15,hF⟩:=bnd hF;refine jo1 8 (gs e15) ?_;refine jI 2 23 hF ?_ ?_<;>intro hF
     .obtain⟨y16,e16,hF⟩:=bnd hF;refine jo1 6 (gs e16) ?_;exact ja 6 (hA2 _ hF)
     .exact ja 3 (hA2 _ hF)
    .refine jB 6 hF L6 fun y17 hF=> ?_
     refine jI 2 34 hF ?_ ?_<;>intro hF
     .cases hF;exact jr 12
     .cases hF;exact jr 8
   exact ja 13 (hL1 _ _ _ hF)
 clear hF;rename _=some o1=>hF
 refine jB 9 hF Cm8 fun y18 hF=> ?_
 refine jI 2 9 hF ?_ ?_<;>intro hF
 .cases hF;exact ja 4 hR1
 .refine jB 1 hF Cm8 fun y19 hF=> ?_
  cases hF;exact ja 2 hR1
def Aw4(v7:Int)(v8:Int)(y9:Int×Bool)(cL1:Int->Int->Option Int):Nat->Int->Option Int
 |0,_=>none
 |nL2+1,v10=>
  ass (decide (y9.1≠0))<|
  bif (Int.tmod v10 y9.1) !=0 then
   ((Aw4 v7 v8 y9 cL1 nL2) (i64.wrap (v10+v7)))
  else
   (bif decide (v10>9999) then
    (some 0)
   else
    (cL1 v10 (i64.wrap (v8+1))))
def Aa2(fuel:Nat)(d1:List (List UInt8)):Nat->Int->Int->Option Int
 |0,_,_=>none
 |nL1+1,v7,v8=>
  (
   bif decide (v8<((d1.map e_s).length:Int)) then
    (some (decide (v7>0)))
   else
    (some false)).bind fun o5=>
  bif o5 then
   ((C2 d1 v8).bind fun y7=>
   (F71 fuel y7).bind fun y8=>
   (Fz9 fuel y8.2).bind fun y9=>
   (
    bif !y9.2 then
     (some true)
    else
     (some (decide (y9.1>9999)))).bind fun o6=>
   bif o6 then
    (some 0)
   else
    (Aw4 v7 v8 y9 (Aa2 fuel d1 nL1) fuel v7))
  else
   (some v7)
def Fl8(fuel:Nat)(d0:Int)(d1:List (List UInt8)):Option Int:=
 Aa2 fuel d1 fuel d0 0
noncomputable abbrev Br1:=C0 f109
abbrev Gb2(r:Int):=GJ prog 52 f109 (.i r)
theorem Dc6{fuel}{d0}{d1}{r}(hF:Fl8 fuel d0 d1=some r):
 C1 prog 109 [.i d0,.l 1 d1 e_s] (.i r):=by
 unfold Fl8 at hF;refine cf 52 func109 ?_;have hL1:∀nL1 v7 v8,Aa2 fuel d1 nL1 v7 v8=some r->Gb2 r ⟨mkT [(0,.i v7),(1,.l 1 d1 e_s),(5,.i v8)],[],[kL Br1 52,.inBlock 0,kC Br1 7]⟩:=by
  clear hF;refine lpI (fun _ _ h=>by cases h) fun nL1 iL1 v7 v8 hF=> ?_
  obtain⟨o5,hO,hF⟩:=bnd hF;have hR5:Gb2 r ⟨mkT [(0,.i v7),(1,.l 1 d1 e_s),(5,.i v8),(18,.b o5)],[],[kO Br1 208,kC Br1 209,kC Br1 105,kL Br1 52,.inBlock 0,kC Br1 7]⟩:=by
   clear hO;refine jI 1 18 hF ?_ ?_<;>intro hF
   .obtain⟨y7,e7,hF⟩:=bnd hF;refine jo1 8 (gm' e_s e7) ?_;refine jB 1 hF Bg9 fun y8 hF=> ?_
    refine jB 9 hF Ev2 fun y9 hF=> ?_
    obtain⟨o6,hO,hF⟩:=bnd hF;have hR6:Gb2 r ⟨mkT [(0,.i v7),(1,.l 1 d1 e_s),(5,.i v8),(8,.i y9.1),(39,.b o6)],[],[kO Br1 6732,kC Br1 6733,kC Br1 3367,.inBlock 1,kC Br1 211,kL Br1 52,.inBlock 0,kC Br1 7]⟩:=by
     clear hO;refine jI 1 39 hF ?_ ?_<;>intro hF
     .cases hF;exact jr 5
     .have hL2:∀nL2 v10,Aw4 v7 v8 y9 (Aa2 fuel d1 nL1) nL2 v10=some r->Gb2 r ⟨mkT [(0,.i v7),(1,.l 1 d1 e_s),(5,.i v8),(8,.i y9.1),(10,.i v10)],[],[kL Br1 53880,.inBlock 2,kC Br1 13471,.inBlock 1,kC Br1 211,kL Br1 52,.inBlock 0,kC Br1 7]⟩:=by
       clear hF;refine lpI (fun _ h=>by cases h) fun nL2 iL2 v10 hF=> ?_
       obtain⟨hb41,hF⟩:=O1 hF;refine jo1 6 (ck hb41) ?_;refine jI 2 44 hF ?_ ?_<;>intro hF
       .exact ja 10 (iL2 _ hF)
       .refine jI 8 49 hF ?_ ?_<;>intro hF
        .cases hF;exact jr 5
        .exact ja 12 (iL1 _ _ hF)
      exact ja 10 (hL2 _ _ hF)
    clear hF;rename _=some o6=>hF
    refine jI 12 36 hF ?_ ?_<;>intro hF
    .cases hF;exact ja 3 hR6
    .cases hF;exact ja 3 hR6
   .cases hF;exact jr 7
  clear hF;rename _=some o5=>hF
  refine jI 9 15 hF ?_ ?_<;>intro hF
  .cases hF;exact ja 3 hR5
  .cases hF;exact ja 3 hR5
 exact ja 11 (hL1 _ _ _ hF)
def F63(fuel:Nat)(d0:A9):Option (Int×Int):=
 (Fz6 fuel d0).bind fun y1=>
 (Fl8 fuel 1 y1.1).bind fun y2=>
 (Fl8 fuel 1 y1.2).bind fun y3=>
 some (y2,y3)
theorem El4{fuel}{d0}{r}(hF:F63 fuel d0=some r):
 C1 prog 63 [.agg [.l 1 d0.Owner A3,.l 1 d0.Choices A0]] (.tup [.i r.1,.i r.2]):=by
 refine cf 15 func63 ?_;refine jB 9 hF Et7 fun y1 hF=> ?_
 refine jB 9 hF Dc6 fun y2 hF=> ?_
 refine jB 1 hF Dc6 fun y3 hF=> ?_
 cases hF;exact jr 3
def Af7(fuel:Nat)(d0:A9)(v6:Int)(cL1:Int->Option Bool):Nat->Int->Option Bool
 |0,_=>none
 |nL2+1,v8=>
  (C2 d0.Choices v6).bind fun y81=>
  bif decide (v8<((y81.map A1).length:Int)) then
   ((C2 d0.Choices v6).bind fun y82=>
   (C2 y82 v8).bind fun y83=>
   (Et5 fuel y83 ((d0.Owner.map A3).length:Int)).bind fun y84=>
   bif !y84 then
    (some false)
   else
    ((Af7 fuel d0 v6 cL1 nL2) (i64.wrap (v8+1))))
  else
   (cL1 (i64.wrap (v6+1)))
def Aj7(fuel:Nat)(d0:A9):Nat->Int->Option Bool
 |0,_=>none
 |nL1+1,v6=>
  bif decide (v6<((d0.Owner.map A3).length:Int)) then
   ((
    (C2 d0.Owner v6).bind fun y85=>
    bif y85 !=0 then
     ((C2 d0.Owner v6).bind fun y86=>
     bif y86 !=1 then
      (some true)
     else
      ((C2 d0.Choices v6).bind fun y87=>
      bif decide (((y87.map A1).length:Int)<1) then
       (some true)
      else
       ((C2 d0.Choices v6).bind fun y88=>
       some (decide (((y88.map A1).length:Int)>4)))))
    else
     ((C2 d0.Choices v6).bind fun y89=>
     bif decide (((y89.map A1).length:Int)<1) then
      (some true)
     else
      ((C2 d0.Choices v6).bind fun y90=>
      some (decide (((y90.map A1).length:Int)>4))))).bind fun o4=>
   bif o4 then
    (some false)
   else
    (Af7 fuel d0 v6 (Aj7 fuel d0 nL1) fuel 0))
  else
   ((F63 fuel d0).bind fun y91=>
   (
    bif decide (y91.1>0) then
     (some (decide (y91.2>0)))
    else
     (some false)).bind fun o5=>
   some o5)
def F62(fuel:Nat)(d0:A9):Option Bool:=
 (
  bif decide (((d0.Owner.map A3).length:Int)<1) then
   (some true)
  else
   (bif decide (((d0.Owner.map A3).length:Int)>12) then
    (some true)
   else
    (some (((d0.Choices.map A0).length:Int) !=((d0.Owner.map A3).length:Int))))).bind fun o1=>
 bif o1 then
  (some false)
 else
  (Aj7 fuel d0 fuel 0)
noncomputable abbrev b62:=C0 f62
abbrev G62(r:Bool):=GJ prog 93 f62 (.b r)
theorem Fo8{fuel}{d0}{r}(hF:F62 fuel d0=some r):
 C1 prog 62 [.agg [.l 1 d0.Owner A3,.l 1 d0.Choices A0]] (.b r):=by
 refine cf 93 func62 ?_;obtain⟨o1,hO,hF⟩:=bnd hF;have hR1:G62 r ⟨mkT [(1,.ptr 1 0),(3,.i ((d0.Owner.map A3).length:Int)),(23,.b o1)],[(1,.box 34 [.l 1 d0.Owner A3,.l 1 d0.Choices A0])],[kO b62 28,kC b62 29,kC b62 15]⟩:=by
  clear hO;refine jI 1 23 hF ?_ ?_<;>intro hF
  .cases hF;exact jr 5
  .have hL1:∀nL1 v6,Aj7 fuel d0 nL1 v6=some r->G62 r ⟨mkT [(1,.ptr 1 0),(3,.i ((d0.Owner.map A3).length:Int)),(4,.i v6)],[(1,.box 34 [.l 1 d0.Owner A3,.l 1 d0.Choices A0])],[kL b62 244,.inBlock 0,kC b62 31]⟩:=by
    clear hF;refine lpI (fun _ h=>by cases h) fun nL1 iL1 v6 hF=> ?_
    refine jI 8 26 hF ?_ ?_<;>intro hF
    .obtain⟨o4,hO,hF⟩:=bnd hF;have hR4:G62 r ⟨mkT [(1,.ptr 1 0),(3,.i ((d0.Owner.map A3).length:Int)),(4,.i v6),(60,.b o4)],[(1,.box 34 [.l 1 d0.Owner A3,.l 1 d0.Choices A0])],[kO b62 7824,kC b62 7825,kC b62 3913,.inBlock 1,kC b62 979,kL b62 244,.inBlock 0,kC b62 31]⟩:=by
      clear hO;refine jI 1 60 hF ?_ ?_<;>intro hF
      .cases hF;exact jr 5
      .have hL2:∀nL2 v8,Af7 fuel d0 v6 (Aj7 fuel d0 nL1) nL2 v8=some r->G62 r ⟨mkT [(1,.ptr 1 0),(3,.i ((d0.Owner.map A3).length:Int)),(4,.i v6),(5,.i v8)],[(1,.box 34 [.l 1 d0.Owner A3,.l 1 d0.Choices A0])],[kL b62 31308,.inBlock 2,.inBlock 1,kC b62 979,kL b62 244,.inBlock 0,kC b62 31]⟩:=by
        clear hF;refine lpI (fun _ h=>by cases h) fun nL2 iL2 v8 hF=> ?_
        obtain⟨y81,e81,hF⟩:=bnd hF;refine jo1 8 (gm' A0 e81) ?_;refine jI 4 68 hF ?_ ?_<;>intro hF
        .obtain⟨y82,e82,hF⟩:=bnd hF;refine jo1 9 (gm' A0 e82) ?_;obtain⟨y83,e83,hF⟩:=bnd hF;refine jo1 2 (gm' A1 e83) ?_;refine jB 2 hF Et6 fun y84 hF=> ?_
         refine jI 2 81 hF ?_ ?_<;>intro hF
         .cases hF;exact jr 5
         .exact ja 8 (iL2 _ hF)
        .exact ja 8 (iL1 _ hF)
       exact ja 8 (hL2 _ _ hF)
     clear hF;rename _=some o4=>hF
     obtain⟨y85,e85,hF⟩:=bnd hF;refine jo1 10 (gm' A3 e85) ?_;refine jI 3 35 hF ?_ ?_<;>intro hF
     .obtain⟨y86,e86,hF⟩:=bnd hF;refine jo1 3 (gm' A3 e86) ?_;refine jI 4 43 hF ?_ ?_<;>intro hF
      .cases hF;exact ja 17 hR4
      .obtain⟨y87,e87,hF⟩:=bnd hF;refine jo1 3 (gm' A0 e87) ?_;refine jI 5 52 hF ?_ ?_<;>intro hF
       .cases hF;exact ja 8 hR4
       .obtain⟨y88,e88,hF⟩:=bnd hF;refine jo1 3 (gm' A0 e88) ?_;cases hF;exact ja 4 hR4
     .obtain⟨y89,e89,hF⟩:=bnd hF;refine jo1 11 (gm' A0 e89) ?_;refine jI 5 52 hF ?_ ?_<;>intro hF
      .cases hF;exact ja 8 hR4
      .obtain⟨y90,e90,hF⟩:=bnd hF;refine jo1 3 (gm' A0 e90) ?_;cases hF;exact ja 4 hR4
    .refine jB 5 hF El4 fun y91 hF=> ?_
     obtain⟨o5,hO,hF⟩:=bnd hF;have hR5:G62 r ⟨mkT [(2,.b o5)],[],[kO b62 126,kC b62 127]⟩:=by
      clear hO;cases hF;exact jr 1
     clear hF;rename _=some o5=>hF
     refine jI 11 89 hF ?_ ?_<;>intro hF
     .cases hF;exact ja 4 hR5
     .cases hF;exact ja 4 hR5
   exact ja 9 (hL1 _ _ hF)
 clear hF;rename _=some o1=>hF
 refine jI 18 13 hF ?_ ?_<;>intro hF
 .cases hF;exact ja 10 hR1
 .refine jI 4 17 hF ?_ ?_<;>intro hF
  .cases hF;exact ja 6 hR1
  .cases hF;exact ja 6 hR1
end
section
def F22(d0:A9):Option Int:=
 ass (decide (0<=((d0.Owner.map A3).length:Int)))<|
 some (u64.wrap ((u64.wrap (1*2^(min (Int.toNat ((d0.Owner.map A3).length:Int)) u64.bits)))-1))
theorem Fn7{d0}{r}(hF:F22 d0=some r):
 C1 prog 22 [.agg [.l 1 d0.Owner A3,.l 1 d0.Choices A0]] (.n r):=by
 refine cf 8 func22 ?_;obtain⟨hb1,hF⟩:=O1 hF;refine jo1 10 (ck hb1) ?_;cases hF;exact jr 3
def F23(fuel:Nat)(d0:A9)(d1:Int)(d2:Int):Option Int:=
 (F62 fuel d0).bind fun y1=>
 bif !y1 then
  (some 110)
 else
  ((
   (F22 d0).bind fun y4=>
   bif (u64.wrap (BitVec.ofInt u64.bits d1&&& ~~~BitVec.ofInt u64.bits y4).toNat) !=0 then
    (some true)
   else
    (bif decide (d2<0) then
     (some true)
    else
     (some (decide (d2>60))))).bind fun o1=>
  bif o1 then
   (some 2)
  else
   (some 0))
noncomputable abbrev b23:=C0 f23
abbrev G23(r:Int):=GJ prog 23 f23 (.i r)
theorem Fn9{fuel}{d0}{d1}{d2}{r}(hF:F23 fuel d0 d1 d2=some r):
 C1 prog 23 [.agg [.l 1 d0.Owner A3,.l 1 d0.Choices A0],.n d1,.i d2] (.i r):=by
 refine cf 23 func23 ?_;refine jB 9 hF Fo8 fun y1 hF=> ?_
 refine jI 2 9 hF ?_ ?_<;>intro hF
 .cases hF;exact jr 5
 .obtain⟨o1,hO,hF⟩:=bnd hF;have hR1:G23 r ⟨mkT [(22,.b o1)],[],[kO b23 28,kC b23 29,kC b23 15]⟩:=by
   clear hO;refine jI 1 22 hF ?_ ?_<;>intro hF
   .cases hF;exact jr 5
   .cases hF;exact jr 6
  clear hF;rename _=some o1=>hF
  refine jB 7 hF Fn7 fun y4 hF=> ?_
  refine jI 3 15 hF ?_ ?_<;>intro hF
  .cases hF;exact ja 7 hR1
  .refine jI 4 19 hF ?_ ?_<;>intro hF
   .cases hF;exact ja 3 hR1
   .cases hF;exact ja 3 hR1
def F36(d0:Int)(d1:Int):Option Bool:=
 ass (decide (0<=d1))<|
 some ((u64.wrap (BitVec.ofInt u64.bits (Int.fdiv d0 (2^(min (Int.toNat d1) u64.bits)))&&&BitVec.ofInt u64.bits 1).toNat)==1)
theorem Fo2{d0}{d1}{r}(hF:F36 d0 d1=some r):
 C1 prog 36 [.n d0,.i d1] (.b r):=by
 refine cf 10 func36 ?_;obtain⟨hb1,hF⟩:=O1 hF;refine jo1 8 (ck hb1) ?_;cases hF;exact jr 4
def Bs2(v2:Int)(cL1:Int->(List (List UInt8))->Option (List (List UInt8)))(l15:List (List UInt8)):Option (List (List UInt8)):=
 cL1 (i64.wrap (v2+1)) l15
def As4(d0:A9)(d1:Int):Nat->Int->(List (List UInt8))->Option (List (List UInt8))
 |0,_,_=>none
 |nL1+1,v2,l12=>
  bif decide (v2<((d0.Owner.map A3).length:Int)) then
   ((F36 d1 v2).bind fun y6=>
   bif y6 then
    ((app l12 [[49]]).bind fun l16=>
    Bs2 v2 (As4 d0 d1 nL1) l16)
   else
    ((app l12 [[48]]).bind fun l17=>
    Bs2 v2 (As4 d0 d1 nL1) l17))
  else
   (some l12)
def F65(fuel:Nat)(d0:A9)(d1:Int):Option (List (List UInt8)):=
 As4 d0 d1 fuel 0 []
noncomputable abbrev b65:=C0 f65
abbrev G65(r:List (List UInt8)):=GJ prog 24 f65 (.l 1 r e_s)
theorem Fo9{fuel}{d0}{d1}{r}(hF:F65 fuel d0 d1=some r):
 C1 prog 65 [.agg [.l 1 d0.Owner A3,.l 1 d0.Choices A0],.n d1] (.l 1 r e_s):=by
 unfold F65 at hF;refine cf 24 func65 ?_;have hL1:∀nL1 v2 l12,As4 d0 d1 nL1 v2 l12=some r->G65 r ⟨mkT [(1,.n d1),(2,.ptr 2 0),(5,.suf 19 0 0),(6,.i v2)],[(2,.box 34 [.l 1 d0.Owner A3,.l 1 d0.Choices A0]),(19,.buf 0 9 1 (l12.map e_s))],[kL b65 116,.inBlock 0,kC b65 15]⟩:=by
  clear hF;refine lpI (fun _ _ h=>by cases h) fun nL1 iL1 v2 l12 hF=> ?_
  refine jI 10 11 hF ?_ ?_<;>intro hF
  .have hA2:∀l15,Bs2 v2 (As4 d0 d1 nL1) l15=some r->G65 r ⟨mkT [(1,.n d1),(2,.ptr 2 0),(5,.suf 19 0 0),(6,.i v2)],[(2,.box 34 [.l 1 d0.Owner A3,.l 1 d0.Choices A0]),(19,.buf 0 9 1 (l15.map e_s))],[kC b65 467,kL b65 116,.inBlock 0,kC b65 15]⟩:=by
    intro l15 hF;unfold Bs2 at hF;exact ja 5 (iL1 _ _ hF)
   refine jB 8 hF Fo2 fun y6 hF=> ?_
   refine jI 1 16 hF ?_ ?_<;>intro hF
   .obtain⟨l16,e17,hF⟩:=bnd hF;refine jo2 4 (am' e_s e17) ?_;exact ja 3 (hA2 _ hF)
   .obtain⟨l17,e18,hF⟩:=bnd hF;refine jo2 4 (am' e_s e18) ?_;exact ja 3 (hA2 _ hF)
  .cases hF;exact jr 7
 refine B5 16 (At7 (n:=1) 5 19 9 1 (by kernel_rfl) (by kernel_rfl) ?_);exact ja 0 (hL1 _ _ _ hF)
def F74(fuel:Nat)(d0:List UInt8)(d1:List UInt8):Option (List UInt8):=
 (F71 fuel d0).bind fun y1=>
 (Ek0 fuel d1 y1.2).bind fun y2=>
 (F66 fuel y1.1 y2.1).bind fun y3=>
 some y3
theorem El5{fuel}{d0}{d1}{r}(hF:F74 fuel d0 d1=some r):
 C1 prog 74 [.s d0,.s d1] (.s r):=by
 refine cf 23 func74 ?_;refine jB 7 hF Bg9 fun y1 hF=> ?_
 refine jB 10 hF Aw7 fun y2 hF=> ?_
 refine jB 10 hF As5 fun y3 hF=> ?_
 cases hF;exact jr 2
def Bh0(fuel:Nat)(d0:A2)(d1:List (List UInt8))(d2:List UInt8):Nat->(List UInt8)->Int->Option (List UInt8)
 |0,_,_=>none
 |nL1+1,x2,v2=>
  bif decide (v2<((d0.Next.map A4).length:Int)) then
   ((C2 d0.Next v2).bind fun y31=>
   (F74 fuel y31.P d2).bind fun y32=>
   (C2 d0.Next v2).bind fun y33=>
   (C2 d1 y33.To).bind fun y34=>
   (F66 fuel y32 y34).bind fun y35=>
   (F73 fuel x2 y35).bind fun y36=>
   (Bh0 fuel d0 d1 d2 nL1) y36 (i64.wrap (v2+1)))
  else
   (some x2)
def F75(fuel:Nat)(d0:A2)(d1:List (List UInt8))(d2:List UInt8):Option (List UInt8):=
 Bh0 fuel d0 d1 d2 fuel [48] 0
noncomputable abbrev b75:=C0 f75
abbrev G75(r:List UInt8):=GJ prog 37 f75 (.s r)
theorem Fp2{fuel}{d0}{d1}{d2}{r}(hF:F75 fuel d0 d1 d2=some r):
 C1 prog 75 [.agg [.s d0.Act,.s d0.Gain,.l 2 d0.Next A4],.l 1 d1 e_s,.s d2] (.s r):=by
 unfold F75 at hF;refine cf 37 func75 ?_;have hL1:∀nL1 x2 v2,Bh0 fuel d0 d1 d2 nL1 x2 v2=some r->G75 r ⟨mkT [(1,.l 1 d1 e_s),(2,.s d2),(3,.ptr 3 0),(7,.s x2),(8,.i v2)],[(3,.box 26 [.s d0.Act,.s d0.Gain,.l 2 d0.Next A4])],[kL b75 116,.inBlock 0,kC b75 15]⟩:=by
  clear hF;refine lpI (fun _ _ h=>by cases h) fun nL1 iL1 x2 v2 hF=> ?_
  refine jI 10 13 hF ?_ ?_<;>intro hF
  .refine jd 4 ?_;obtain⟨y31,e31,hF⟩:=bnd hF;refine do1 4 (gm' A4 e31) ?_;refine dB 3 hF El5 fun y32 hF=> ?_
   obtain⟨y33,e33,hF⟩:=bnd hF;refine do1 4 (gm' A4 e33) ?_;obtain⟨y34,e34,hF⟩:=bnd hF;refine do1 2 (gm' e_s e34) ?_;refine dB 1 hF As5 fun y35 hF=> ?_
   refine dB 0 hF Bs5 fun y36 hF=> ?_
   refine je 1 ?_;exact ja 6 (iL1 _ _ hF)
  .cases hF;exact jr 7
 exact ja 16 (hL1 _ _ _ hF)
def Bs6(v6:Int)(cL1:Int->Int->Option (List UInt8×Int))(v7:Int):Option (List UInt8×Int):=
 cL1 v7 (i64.wrap (v6+1))
def Ab6(fuel:Nat)(d0:Int)(d1:List (List UInt8)):Nat->Int->Int->Option (List UInt8×Int)
 |0,_,_=>none
 |nL1+1,v5,v6=>
  bif decide (v6<((d1.map e_s).length:Int)) then
   ((C2 d1 v6).bind fun y16=>
   (C2 d1 v5).bind fun y17=>
   (F72 fuel y16 y17).bind fun y18=>
   (
    bif d0==0 then
     (bif decide (y18>0) then
      (some true)
     else
      (bif d0==1 then
       (some (decide (y18<0)))
      else
       (some false)))
    else
     (bif d0==1 then
      (some (decide (y18<0)))
     else
      (some false))).bind fun o6=>
   bif o6 then
    (Bs6 v6 (Ab6 fuel d0 d1 nL1) v6)
   else
    (Bs6 v6 (Ab6 fuel d0 d1 nL1) v5))
  else
   ((C2 d1 v5).bind fun y19=>
   some (y19,v5))
def F76(fuel:Nat)(d0:Int)(d1:List (List UInt8)):Option (List UInt8×Int):=
 Ab6 fuel d0 d1 fuel 0 1
noncomputable abbrev b76:=C0 f76
abbrev G76(r:List UInt8×Int):=GJ prog 44 f76 (.tup [.s r.1,.i r.2])
theorem Fp3{fuel}{d0}{d1}{r}(hF:F76 fuel d0 d1=some r):
 C1 prog 76 [.i d0,.l 1 d1 e_s] (.tup [.s r.1,.i r.2]):=by
 unfold F76 at hF;refine cf 44 func76 ?_;have hL1:∀nL1 v5 v6,Ab6 fuel d0 d1 nL1 v5 v6=some r->G76 r ⟨mkT [(0,.i d0),(1,.l 1 d1 e_s),(6,.i v5),(7,.i v6)],[],[kL b76 116,.inBlock 0,kC b76 15]⟩:=by
  clear hF;refine lpI (fun _ _ h=>by cases h) fun nL1 iL1 v5 v6 hF=> ?_
  refine jI 9 12 hF ?_ ?_<;>intro hF
  .have hA2:∀v7,Bs6 v6 (Ab6 fuel d0 d1 nL1) v7=some r->G76 r ⟨mkT [(0,.i d0),(1,.l 1 d1 e_s),(6,.i v7),(7,.i v6)],[],[kC b76 467,kL b76 116,.inBlock 0,kC b76 15]⟩:=by
    intro v7 hF;unfold Bs6 at hF;exact ja 5 (iL1 _ _ hF)
   refine jd 5 ?_;obtain⟨y16,e16,hF⟩:=bnd hF;refine do1 2 (gm' e_s e16) ?_;obtain⟨y17,e17,hF⟩:=bnd hF;refine do1 3 (gm' e_s e17) ?_;refine dB 1 hF Cm8 fun y18 hF=> ?_
   refine je 1 ?_;obtain⟨o6,hO,hF⟩:=bnd hF;have hR6:G76 r ⟨mkT [(0,.i d0),(1,.l 1 d1 e_s),(6,.i v5),(7,.i v6),(37,.b o6)],[],[kO b76 3730,kC b76 3731,.inBlock 1,kC b76 467,kL b76 116,.inBlock 0,kC b76 15]⟩:=by
    clear hO;refine jI 1 37 hF ?_ ?_<;>intro hF
    .exact ja 6 (hA2 _ hF)
    .exact ja 3 (hA2 _ hF)
   clear hF;rename _=some o6=>hF
   refine jI 5 26 hF ?_ ?_<;>intro hF
   .refine jI 4 30 hF ?_ ?_<;>intro hF
    .cases hF;exact ja 7 hR6
    .refine jI 3 33 hF ?_ ?_<;>intro hF
     .cases hF;exact ja 4 hR6
     .cases hF;exact ja 4 hR6
   .refine jI 7 33 hF ?_ ?_<;>intro hF
    .cases hF;exact ja 4 hR6
    .cases hF;exact ja 4 hR6
  .obtain⟨y19,e19,hF⟩:=bnd hF;refine jo1 6 (gm' e_s e19) ?_;cases hF;exact jr 5
 exact ja 16 (hL1 _ _ _ hF)
def Bg8(fuel:Nat)(d0:List (List UInt8))(d1:List UInt8):Nat->Int->(List (List UInt8))->Option (List (List UInt8))
 |0,_,_=>none
 |nL1+1,v2,l4=>
  bif decide (v2<((d0.map e_s).length:Int)) then
   ((C2 d0 v2).bind fun y5=>
   (F88 fuel y5 d1).bind fun y6=>
   (app l4 [y6]).bind fun l5=>
   (Bg8 fuel d0 d1 nL1) (i64.wrap (v2+1)) l5)
  else
   (some l4)
def F68(fuel:Nat)(d0:List (List UInt8))(d1:List UInt8):Option (List (List UInt8)):=
 Bg8 fuel d0 d1 fuel 0 []
noncomputable abbrev b68:=C0 f68
abbrev G68(r:List (List UInt8)):=GJ prog 23 f68 (.l 1 r e_s)
theorem Fp0{fuel}{d0}{d1}{r}(hF:F68 fuel d0 d1=some r):
 C1 prog 68 [.l 1 d0 e_s,.s d1] (.l 1 r e_s):=by
 unfold F68 at hF;refine cf 23 func68 ?_;have hL1:∀nL1 v2 l4,Bg8 fuel d0 d1 nL1 v2 l4=some r->G68 r ⟨mkT [(0,.l 1 d0 e_s),(1,.s d1),(5,.suf 21 0 0),(6,.i v2)],[(21,.buf 0 23 1 (l4.map e_s))],[kL b68 116,.inBlock 0,kC b68 15]⟩:=by
  clear hF;refine lpI (fun _ _ h=>by cases h) fun nL1 iL1 v2 l4 hF=> ?_
  refine jI 9 10 hF ?_ ?_<;>intro hF
  .obtain⟨y5,e7,hF⟩:=bnd hF;refine jo1 8 (gm' e_s e7) ?_;refine jB 2 hF Dg8 fun y6 hF=> ?_
   obtain⟨l5,e9,hF⟩:=bnd hF;refine jo2 1 (am' e_s e9) ?_;exact ja 8 (iL1 _ _ hF)
  .cases hF;exact jr 7
 refine B5 15 (At7 (n:=1) 5 21 23 1 (by kernel_rfl) (by kernel_rfl) ?_);exact ja 0 (hL1 _ _ _ hF)
def Dg7(d0:List Int)(d1:List Int):Nat->Int->Option Bool
 |0,_=>none
 |nL1+1,v2=>
  bif decide (v2<((d0.map A3).length:Int)) then
   ((C2 d0 v2).bind fun y5=>
   (C2 d1 v2).bind fun y6=>
   bif y5 !=y6 then
    (some false)
   else
    ((Dg7 d0 d1 nL1) (i64.wrap (v2+1))))
  else
   (some true)
def F69(fuel:Nat)(d0:List Int)(d1:List Int):Option Bool:=
 bif ((d0.map A3).length:Int) !=((d1.map A3).length:Int) then
  (some false)
 else
  (Dg7 d0 d1 fuel 0)
noncomputable abbrev b69:=C0 f69
abbrev G69(r:Bool):=GJ prog 26 f69 (.b r)
theorem Fp1{fuel}{d0}{d1}{r}(hF:F69 fuel d0 d1=some r):
 C1 prog 69 [.l 1 d0 A3,.l 1 d1 A3] (.b r):=by
 refine cf 26 func69 ?_;refine jI 13 10 hF ?_ ?_<;>intro hF
 .cases hF;exact jr 5
 .have hL1:∀nL1 v2,Dg7 d0 d1 nL1 v2=some r->G69 r ⟨mkT [(0,.l 1 d0 A3),(1,.l 1 d1 A3),(5,.i v2)],[],[kL b69 116,.inBlock 0,kC b69 15]⟩:=by
   clear hF;refine lpI (fun _ h=>by cases h) fun nL1 iL1 v2 hF=> ?_
   refine jI 9 14 hF ?_ ?_<;>intro hF
   .refine jd 5 ?_;obtain⟨y5,e5,hF⟩:=bnd hF;refine do1 2 (gm' A3 e5) ?_;obtain⟨y6,e6,hF⟩:=bnd hF;refine do1 3 (gm' A3 e6) ?_;refine je 2 ?_;refine jI 0 25 hF ?_ ?_<;>intro hF
    .cases hF;exact jr 5
    .exact ja 8 (iL1 _ hF)
   .cases hF;exact jr 6
  exact ja 9 (hL1 _ _ hF)
def Df9(fuel:Nat)(d0:List (List Int))(d1:List (List Int)):Nat->Int->Option Bool
 |0,_=>none
 |nL1+1,v2=>
  bif decide (v2<((d0.map K8).length:Int)) then
   ((C2 d0 v2).bind fun y7=>
   (C2 d1 v2).bind fun y8=>
   (F69 fuel y7 y8).bind fun y9=>
   bif !y9 then
    (some false)
   else
    ((Df9 fuel d0 d1 nL1) (i64.wrap (v2+1))))
  else
   (some true)
def F26(fuel:Nat)(d0:List (List Int))(d1:List (List Int)):Option Bool:=
 bif ((d0.map K8).length:Int) !=((d1.map K8).length:Int) then
  (some false)
 else
  (Df9 fuel d0 d1 fuel 0)
noncomputable abbrev b26:=C0 f26
abbrev G26(r:Bool):=GJ prog 27 f26 (.b r)
theorem Ek8{fuel}{d0}{d1}{r}(hF:F26 fuel d0 d1=some r):
 C1 prog 26 [.l 1 d0 K8,.l 1 d1 K8] (.b r):=by
 refine cf 27 func26 ?_;refine jI 13 10 hF ?_ ?_<;>intro hF
 .cases hF;exact jr 5
 .have hL1:∀nL1 v2,Df9 fuel d0 d1 nL1 v2=some r->G26 r ⟨mkT [(0,.l 1 d0 K8),(1,.l 1 d1 K8),(5,.i v2)],[],[kL b26 116,.inBlock 0,kC b26 15]⟩:=by
   clear hF;refine lpI (fun _ h=>by cases h) fun nL1 iL1 v2 hF=> ?_
   refine jI 9 14 hF ?_ ?_<;>intro hF
   .refine jd 5 ?_;obtain⟨y7,e7,hF⟩:=bnd hF;refine do1 2 (gm' K8 e7) ?_;obtain⟨y8,e8,hF⟩:=bnd hF;refine do1 3 (gm' K8 e8) ?_;refine dB 1 hF Fp1 fun y9 hF=> ?_
    refine je 1 ?_;refine jI 0 26 hF ?_ ?_<;>intro hF
    .cases hF;exact jr 5
    .exact ja 8 (iL1 _ hF)
   .cases hF;exact jr 6
  exact ja 9 (hL1 _ _ hF)
def F11(d0:Int)(d1:List UInt8):Option B7:=
 some (⟨d0,d1⟩:B7)
theorem As1{d0}{d1}{r}(hF:F11 d0 d1=some r):
 C1 prog 11 [.i d0,.s d1] (.agg [.i r.To,.s r.P]):=by
 unfold F11 at hF;refine cf 8 func11 ?_;cases hF;exact jr 11
def F10(d0:List UInt8)(d1:List B7):Option A2:=
 some (⟨[],d0,d1⟩:A2)
theorem Br8{d0}{d1}{r}(hF:F10 d0 d1=some r):
 C1 prog 10 [.s d0,.l 2 d1 A4] (.agg [.s r.Act,.s r.Gain,.l 2 r.Next A4]):=by
 unfold F10 at hF;refine cf 8 func10 ?_;cases hF;exact jr 11
def F16:Option A9:=
 (F11 0 [49,47,50]).bind fun y1=>
 (F11 1 [49,47,50]).bind fun y2=>
 (F10 [49] [y1,y2]).bind fun y3=>
 (F11 1 [51,47,52]).bind fun y4=>
 (F11 2 [49,47,52]).bind fun y5=>
 (F10 [48] [y4,y5]).bind fun y6=>
 (F11 0 [49]).bind fun y7=>
 (F10 [50] [y7]).bind fun y8=>
 (F11 1 [49,47,50]).bind fun y9=>
 (F11 2 [49,47,50]).bind fun y10=>
 (F10 [49,47,50] [y9,y10]).bind fun y11=>
 (F11 2 [49]).bind fun y12=>
 (F10 [48] [y12]).bind fun y13=>
 some (⟨[0,1,0],[[y3,y6],[y8,y11],[y13]]⟩:A9)
theorem Cl9{r}(hF:F16=some r):
 C1 prog 16 [] (.agg [.l 1 r.Owner A3,.l 1 r.Choices A0]):=by
 refine cf 25 func16 ?_;refine jB 7 hF As1 fun y1 hF=> ?_
 refine jB 0 hF As1 fun y2 hF=> ?_
 refine jB 1 hF Br8 fun y3 hF=> ?_
 refine jB 0 hF As1 fun y4 hF=> ?_
 refine jB 0 hF As1 fun y5 hF=> ?_
 refine jB 1 hF Br8 fun y6 hF=> ?_
 refine jB 1 hF As1 fun y7 hF=> ?_
 refine jB 1 hF Br8 fun y8 hF=> ?_
 refine jB 0 hF As1 fun y9 hF=> ?_
 refine jB 0 hF As1 fun y10 hF=> ?_
 refine jB 1 hF Br8 fun y11 hF=> ?_
 refine jB 1 hF As1 fun y12 hF=> ?_
 refine jB 1 hF Br8 fun y13 hF=> ?_
 cases hF;exact jr 5
def De6(d0:List (List UInt8))(d1:List (List UInt8)):Nat->Int->Option Bool
 |0,_=>none
 |nL1+1,v2=>
  bif decide (v2<((d0.map e_s).length:Int)) then
   ((C2 d0 v2).bind fun y5=>
   (C2 d1 v2).bind fun y6=>
   bif !(y5==y6) then
    (some false)
   else
    ((De6 d0 d1 nL1) (i64.wrap (v2+1))))
  else
   (some true)
def F17(fuel:Nat)(d0:List (List UInt8))(d1:List (List UInt8)):Option Bool:=
 bif ((d0.map e_s).length:Int) !=((d1.map e_s).length:Int) then
  (some false)
 else
  (De6 d0 d1 fuel 0)
noncomputable abbrev b17:=C0 f17
abbrev G17(r:Bool):=GJ prog 26 f17 (.b r)
theorem Ek7{fuel}{d0}{d1}{r}(hF:F17 fuel d0 d1=some r):
 C1 prog 17 [.l 1 d0 e_s,.l 1 d1 e_s] (.b r):=by
 refine cf 26 func17 ?_;refine jI 13 10 hF ?_ ?_<;>intro hF
 .cases hF;exact jr 5
 .have hL1:∀nL1 v2,De6 d0 d1 nL1 v2=some r->G17 r ⟨mkT [(0,.l 1 d0 e_s),(1,.l 1 d1 e_s),(12,.i ((d0.map e_s).length:Int)),(13,.i v2)],[],[kL b17 116,.inBlock 0,kC b17 15]⟩:=by
   clear hF;refine lpI (fun _ h=>by cases h) fun nL1 iL1 v2 hF=> ?_
   refine jI 6 14 hF ?_ ?_<;>intro hF
   .refine jd 10 ?_;obtain⟨y5,e5,hF⟩:=bnd hF;refine do1 2 (gm' e_s e5) ?_;obtain⟨y6,e6,hF⟩:=bnd hF;refine do1 3 (gm' e_s e6) ?_;refine je 2 ?_;refine jI 0 24 hF ?_ ?_<;>intro hF
    .cases hF;exact jr 5
    .exact ja 7 (iL1 _ hF)
   .cases hF;exact jr 6
  exact ja 11 (hL1 _ _ hF)
def F57(fuel:Nat)(d0:Int)(d1:List (List UInt8)):Option Bool:=
 (F16).bind fun y1=>
 (F12 fuel y1 4 d0).bind fun y2=>
 (
  bif y2.2==0 then
   ((F17 fuel y2.1 d1).bind fun y5=>
   some y5)
  else
   (some false)).bind fun o1=>
 some o1
noncomputable abbrev b57:=C0 f57
abbrev G57(r:Bool):=GJ prog 20 f57 (.b r)
theorem Cm7{fuel}{d0}{d1}{r}(hF:F57 fuel d0 d1=some r):
 C1 prog 57 [.i d0,.l 1 d1 e_s] (.b r):=by
 refine cf 20 func57 ?_;refine jB 6 hF Cl9 fun y1 hF=> ?_
 refine jB 1 hF Ek2 fun y2 hF=> ?_
 obtain⟨o1,hO,hF⟩:=bnd hF;have hR1:G57 r ⟨mkT [(4,.b o1)],[],[kO b57 14,kC b57 15]⟩:=by
  clear hO;cases hF;exact jr 1
 clear hF;rename _=some o1=>hF
 refine jI 11 15 hF ?_ ?_<;>intro hF
 .refine jB 2 hF Ek7 fun y5 hF=> ?_
  cases hF;exact ja 2 hR1
 .cases hF;exact ja 5 hR1
def F53(fuel:Nat)(d0:A2)(d1:List A7):Option A7:=
 (F48 fuel d0.Gain).bind fun y4=>
 (F55 fuel d0 d1).bind fun y5=>
 (F54 fuel y4 y5).bind fun y6=>
 some y6
def Dg2(v6:Int)(cL1:Int->Int->Bool->(List Int)->Bool->(List Int)->Option (A7×Int))(v7:Int)(t14:Bool)(l10:List Int)(t15:Bool)(l11:List Int):Option (A7×Int):=
 cL1 v7 (i64.wrap (v6+1)) t14 l10 t15 l11
def Dg3(fuel:Nat)(d0:Int)(d2:List A7)(l1:List A2):Nat->Int->Int->Bool->(List Int)->Bool->(List Int)->Option (A7×Int)
 |0,_,_,_,_,_,_=>none
 |nL1+1,v5,v6,t11,l8,t12,l9=>
  bif decide (v6<((l1.map A1).length:Int)) then
   ((C2 l1 v6).bind fun y18=>
   (F53 fuel y18 d2).bind fun y19=>
   (F50 fuel y19 (⟨(⟨t11,l8⟩:A5),(⟨t12,l9⟩:A5)⟩:A7)).bind fun y20=>
   (
    bif d0==0 then
     (bif decide (y20>0) then
      (some true)
     else
      (bif d0==1 then
       (some (decide (y20<0)))
      else
       (some false)))
    else
     (bif d0==1 then
      (some (decide (y20<0)))
     else
      (some false))).bind fun o6=>
   bif o6 then
    (Dg2 v6 (Dg3 fuel d0 d2 l1 nL1) (i64.wrap (v6+1)) y19.n_.neg y19.n_.mag y19.d.neg y19.d.mag)
   else
    (Dg2 v6 (Dg3 fuel d0 d2 l1 nL1) v5 t11 l8 t12 l9))
  else
   (some ((⟨(⟨t11,l8⟩:A5),(⟨t12,l9⟩:A5)⟩:A7),v5))
def Fk1(fuel:Nat)(d0:A2)(d1:List A7):Option A7:=
 (F48 fuel d0.Gain).bind fun y4=>
 (F55 fuel d0 d1).bind fun y5=>
 (F54 fuel y4 y5).bind fun y6=>
 some y6
theorem Dg5{fuel}{d0}{d1}{r}(hF:Fk1 fuel d0 d1=some r):
 M4 prog 53 [(2000,.box 88 [.l 4 d1 A8])] [.agg [.s d0.Act,.s d0.Gain,.l 2 d0.Next A4],.ptr 2000 0] [(2000,.box 88 [.l 4 d1 A8])] (.agg [.b r.n_.neg,.l 1 r.n_.mag A6,.b r.d.neg,.l 1 r.d.mag A6]):=by
 unfold Fk1 at hF;refine cr 11 func53 ?_;refine jd 6 ?_;refine dB 2 hF Bs0 fun y4 hF=> ?_
 refine dB 2 hF El2 fun y5 hF=> ?_
 refine dB 0 hF El1 fun y6 hF=> ?_
 refine je 1 ?_;cases hF;exact jrr 0
def Ap6(v6:Int)(cL1:Int->Int->Bool->(List Int)->Bool->(List Int)->Option (A7×Int))(v7:Int)(t14:Bool)(l10:List Int)(t15:Bool)(l11:List Int):Option (A7×Int):=
 cL1 v7 (i64.wrap (v6+1)) t14 l10 t15 l11
def Ab4(fuel:Nat)(d0:Int)(d2:List A7)(l1:List A2):Nat->Int->Int->Bool->(List Int)->Bool->(List Int)->Option (A7×Int)
 |0,_,_,_,_,_,_=>none
 |nL1+1,v5,v6,t11,l8,t12,l9=>
  bif decide (v6<((l1.map A1).length:Int)) then
   ((C2 l1 v6).bind fun y18=>
   (Fk1 fuel y18 d2).bind fun y19=>
   (F50 fuel y19 (⟨(⟨t11,l8⟩:A5),(⟨t12,l9⟩:A5)⟩:A7)).bind fun y20=>
   (
    bif d0==0 then
     (bif decide (y20>0) then
      (some true)
     else
      (bif d0==1 then
       (some (decide (y20<0)))
      else
       (some false)))
    else
     (bif d0==1 then
      (some (decide (y20<0)))
     else
      (some false))).bind fun o6=>
   bif o6 then
    (Ap6 v6 (Ab4 fuel d0 d2 l1 nL1) (i64.wrap (v6+1)) y19.n_.neg y19.n_.mag y19.d.neg y19.d.mag)
   else
    (Ap6 v6 (Ab4 fuel d0 d2 l1 nL1) v5 t11 l8 t12 l9))
  else
   (some ((⟨(⟨t11,l8⟩:A5),(⟨t12,l9⟩:A5)⟩:A7),v5))
def Ey3(fuel:Nat)(d0:Int)(d1:List A2)(d2:List A7):Option (A7×Int):=
 (C2 d1 0).bind fun y1=>
 (Fk1 fuel y1 d2).bind fun y2=>
 (slc d1 1 (d1.length:Int)).bind fun l1=>
 Ab4 fuel d0 d2 l1 fuel 0 0 y2.n_.neg y2.n_.mag y2.d.neg y2.d.mag
abbrev Gg3(d2:List A7)(r:A7×Int):=J none prog 53 [] (Do2 prog f52 [(2000,.box 88 [.l 4 d2 A8])] (.tup [.agg [.b r.1.n_.neg,.l 1 r.1.n_.mag A6,.b r.1.d.neg,.l 1 r.1.d.mag A6],.i r.2]))
theorem Dg4{fuel}{d0}{d1}{d2}{r}(hF:Ey3 fuel d0 d1 d2=some r):
 M4 prog 52 [(2000,.box 88 [.l 4 d2 A8])] [.i d0,.l 3 d1 A1,.fn 53 [] [.ptr 2000 0]] [(2000,.box 88 [.l 4 d2 A8])] (.tup [.agg [.b r.1.n_.neg,.l 1 r.1.n_.mag A6,.b r.1.d.neg,.l 1 r.1.d.mag A6],.i r.2]):=by
 unfold Ey3 at hF;refine cr 53 func52 ?_;obtain⟨y1,e1,hF⟩:=bnd hF;refine jo1 9 (gm' A1 e1) ?_;obtain⟨y2,e2,hF⟩:=bnd hF;refine jcr 1 [(2000,2000)] (Dg5 e2) ?_;obtain⟨l1,e3,hF⟩:=bnd hF;refine jo2 8 (smh (f:=A1) e3) ?_;have hL1:∀nL1 v5 v6 t11 l8 t12 l9,Ab4 fuel d0 d2 l1 nL1 v5 v6 t11 l8 t12 l9=some r->Gg3 d2 r ⟨mkT [(0,.i d0),(2,.fn 53 [] [.ptr 2000 0]),(6,.ptr 6 0),(8,.i v5),(9,.ptr 9 0),(20,.l 3 l1 A1),(21,.i ((l1.map A1).length:Int)),(22,.i v6)],[(6,.box 100 [.b false,.esl 1,.b false,.esl 1]),(9,.box 100 [.b t11,.l 1 l8 A6,.b t12,.l 1 l9 A6]),(2000,.box 88 [.l 4 d2 A8])],[kL b52 116,.inBlock 0,kC b52 15]⟩:=by
  clear hF;refine lpI (fun _ _ _ _ _ _ h=>by cases h) fun nL1 iL1 v5 v6 t11 l8 t12 l9 hF=> ?_
  refine jI 6 23 hF ?_ ?_<;>intro hF
  .have hA2:∀v7 t14 l10 t15 l11,Ap6 v6 (Ab4 fuel d0 d2 l1 nL1) v7 t14 l10 t15 l11=some r->Gg3 d2 r ⟨mkT [(0,.i d0),(2,.fn 53 [] [.ptr 2000 0]),(6,.ptr 6 0),(8,.i v7),(9,.ptr 9 0),(20,.l 3 l1 A1),(21,.i ((l1.map A1).length:Int)),(22,.i v6)],[(6,.box 100 [.b false,.esl 1,.b false,.esl 1]),(9,.box 100 [.b t14,.l 1 l10 A6,.b t15,.l 1 l11 A6]),(2000,.box 88 [.l 4 d2 A8])],[kC b52 935,kL b52 116,.inBlock 0,kC b52 15]⟩:=by
    intro v7 t14 l10 t15 l11 hF;unfold Ap6 at hF;exact ja 4 (iL1 _ _ _ _ _ _ hF)
   obtain⟨y18,e19,hF⟩:=bnd hF;refine jo1 7 (gm' A1 e19) ?_;obtain⟨y19,e20,hF⟩:=bnd hF;refine jcr 9 [(2000,2000)] (Dg5 e20) ?_;refine jB 7 hF Cm4 fun y20 hF=> ?_
   obtain⟨o6,hO,hF⟩:=bnd hF;have hR6:Gg3 d2 r ⟨mkT [(0,.i d0),(2,.fn 53 [] [.ptr 2000 0]),(6,.ptr 6 0),(8,.i v5),(9,.ptr 9 0),(10,.i v6),(12,.ptr 12 0),(20,.l 3 l1 A1),(21,.i ((l1.map A1).length:Int)),(22,.i v6),(46,.b o6)],[(6,.box 100 [.b false,.esl 1,.b false,.esl 1]),(9,.box 100 [.b t11,.l 1 l8 A6,.b t12,.l 1 l9 A6]),(12,.box 100 [.b y19.n_.neg,.l 1 y19.n_.mag A6,.b y19.d.neg,.l 1 y19.d.mag A6]),(2000,.box 88 [.l 4 d2 A8])],[kO b52 29902,kC b52 29903,.inBlock 1,kC b52 935,kL b52 116,.inBlock 0,kC b52 15]⟩:=by
    clear hO;refine jI 1 46 hF ?_ ?_<;>intro hF
    .refine jd 1 ?_;refine je 5 ?_;exact ja 1 (hA2 _ _ _ _ _ hF)
    .exact ja 3 (hA2 _ _ _ _ _ hF)
   clear hF;rename _=some o6=>hF
   refine jI 7 35 hF ?_ ?_<;>intro hF
   .refine jI 4 39 hF ?_ ?_<;>intro hF
    .cases hF;exact ja 7 hR6
    .refine jI 3 42 hF ?_ ?_<;>intro hF
     .cases hF;exact ja 4 hR6
     .cases hF;exact ja 4 hR6
   .refine jI 7 42 hF ?_ ?_<;>intro hF
    .cases hF;exact ja 4 hR6
    .cases hF;exact ja 4 hR6
  .cases hF;exact jrr 9
 exact ja 5 (hL1 _ _ _ _ _ _ _ hF)
def Bf6(fuel:Nat)(d0:A9)(l26:List A7)(v11:Int)(cL2:Int->(List A7)->Option (List (List UInt8)×Int)):Nat->Int->(List A7)->Option (List (List UInt8)×Int)
 |0,_,_=>none
 |nL3+1,v13,l31=>
  bif decide (v13<((d0.Choices.map A0).length:Int)) then
   ((C2 d0.Choices v13).bind fun y59=>
   (C2 d0.Owner v13).bind fun y60=>
   (Ey3 fuel y60 y59 l26).bind fun y61=>
   (C2 l31 v13).bind fun y62=>
   (some (l31.set (0+Int.toNat v13) y61.1)).bind fun l32=>
   (Bf6 fuel d0 l26 v11 cL2 nL3) (i64.wrap (v13+1)) l32)
  else
   (cL2 (i64.wrap (v11+1)) l31)
def Aj2(fuel:Nat)(d0:A9)(d1:Int):Nat->Int->(List A7)->Option (List (List UInt8)×Int)
 |0,_,_=>none
 |nL2+1,v11,l26=>
  bif decide (v11<d1) then
   ((mkL ((l26.map A8).length:Int) ((l26.map A8).length:Int) (⟨(⟨false,[]⟩:A5),(⟨false,[]⟩:A5)⟩:A7)).bind fun l27=>
   Bf6 fuel d0 l26 v11 (Aj2 fuel d0 d1 nL2) fuel 0 l27)
  else
   ((F46 fuel l26).bind fun y63=>
   some (y63,0))
def Bf5(fuel:Nat)(d0:A9)(d1:Int)(y2:List A7):Nat->Int->(List A7)->Option (List (List UInt8)×Int)
 |0,_,_=>none
 |nL1+1,v5,l11=>
  bif decide (v5<((d0.Choices.map A0).length:Int)) then
   ((C2 d0.Choices v5).bind fun y23=>
   (C2 d0.Owner v5).bind fun y24=>
   (Ey3 fuel y24 y23 y2).bind fun y25=>
   (C2 l11 v5).bind fun y26=>
   (some (l11.set (0+Int.toNat v5) y25.1)).bind fun l12=>
   (Bf5 fuel d0 d1 y2 nL1) (i64.wrap (v5+1)) l12)
  else
   (Aj2 fuel d0 d1 fuel (i64.wrap (0+1)) l11)
def F14(fuel:Nat)(d0:A9)(d1:Int):Option (List (List UInt8)×Int):=
 (F43 fuel d0 0 d1).bind fun y1=>
 bif y1 !=0 then
  (some ([],y1))
 else
  ((F44 fuel d0 0).bind fun y2=>
  bif decide (0<d1) then
   ((mkL ((y2.map A8).length:Int) ((y2.map A8).length:Int) (⟨(⟨false,[]⟩:A5),(⟨false,[]⟩:A5)⟩:A7)).bind fun l7=>
   Bf5 fuel d0 d1 y2 fuel 0 l7)
  else
   ((F46 fuel y2).bind fun y64=>
   some (y64,0)))
noncomputable abbrev b14:=C0 f14
abbrev G14(r:List (List UInt8)×Int):=GJ prog 52 f14 (.tup [.l 1 r.1 e_s,.i r.2])
theorem Ek6{fuel}{d0}{d1}{r}(hF:F14 fuel d0 d1=some r):
 C1 prog 14 [.agg [.l 1 d0.Owner A3,.l 1 d0.Choices A0],.i d1] (.tup [.l 1 r.1 e_s,.i r.2]):=by
 refine cf 52 func14 ?_;refine jB 11 hF Cm2 fun y1 hF=> ?_
 refine jI 7 15 hF ?_ ?_<;>intro hF
 .cases hF;exact jr 7
 .refine jB 5 hF Cm3 fun y2 hF=> ?_
  refine jI 17 21 hF ?_ ?_<;>intro hF
  .obtain⟨l7,e19,hF⟩:=bnd hF;refine jo2 8 (mm' A8 e19) ?_;have hL1:∀nL1 v5 l11,Bf5 fuel d0 d1 y2 nL1 v5 l11=some r->G14 r ⟨mkT [(2,.ptr 2 0),(7,.ptr 7 0),(8,.suf 24 0 0),(19,.i d1),(20,.i 0),(26,.l 1 d0.Choices A0),(27,.i ((d0.Choices.map A0).length:Int)),(28,.i v5)],[(2,.box 34 [.l 1 d0.Owner A3,.l 1 d0.Choices A0]),(7,.box 88 [.l 4 y2 A8]),(24,.buf 0 100 4 (l11.map A8))],[kL b14 125332,.inBlock 2,kC b14 15667,.inBlock 1,kC b14 1959,kL b14 244,.inBlock 0,kC b14 31]⟩:=by
    clear hF;refine lpI (fun _ _ h=>by cases h) fun nL1 iL1 v5 l11 hF=> ?_
    refine jI 6 29 hF ?_ ?_<;>intro hF
    .obtain⟨y23,e30,hF⟩:=bnd hF;refine jo1 7 (gm' A0 e30) ?_;obtain⟨y24,e31,hF⟩:=bnd hF;refine jo1 10 (gm' A3 e31) ?_;obtain⟨y25,e32,hF⟩:=bnd hF;refine jcr 3 [(7,2000)] (Dg4 e32) ?_;obtain⟨y26,e33,hF⟩:=bnd hF;refine jo1 3 (gm' A8 e33) ?_;obtain⟨l12,e34,hF⟩:=bnd hF;have hst:=stm (f:=A8) (z:=y25.1) (k:=0) (xs:=[.bool y25.1.n_.neg,.sl 1 (y25.1.n_.mag.map A6),.bool y25.1.d.neg,.sl 1 (y25.1.d.mag.map A6)]) (gj e33) rfl;refine B5 0 (G0 (o:=(match(l11.map A8)[0+Int.toNat v5]? with|some old=>some ((l11.map A8).set (0+Int.toNat v5) (Z1 old 0 [.bool y25.1.n_.neg,.sl 1 (y25.1.n_.mag.map A6),.bool y25.1.d.neg,.sl 1 (y25.1.d.mag.map A6)]))|none=>none)) (l12.map A8) (by kernel_rfl) (by cases e34;exact hst) ?_);exact ja 6 (iL1 _ _ hF)
    .have hL2:∀nL2 v11 l26,Aj2 fuel d0 d1 nL2 v11 l26=some r->G14 r ⟨mkT [(2,.ptr 2 0),(7,.ptr 7 0),(19,.i d1),(20,.i v11)],[(2,.box 34 [.l 1 d0.Owner A3,.l 1 d0.Choices A0]),(7,.box 88 [.suf 24 0 0]),(24,.buf 0 100 4 (l26.map A8))],[kL b14 244,.inBlock 0,kC b14 31]⟩:=by
      clear hF;refine lpI (fun _ _ h=>by cases h) fun nL2 iL2 v11 l26 hF=> ?_
      refine jI 6 21 hF ?_ ?_<;>intro hF
      .refine B5 5 (W0 (g:=0) (e:=100) (sz:=4) (es:=l26.map A8) 24 (by kernel_rfl) ?_);refine ja 0 (S0:=[(2,.ptr 2 0),(7,.ptr 7 0),(19,.i d1),(20,.i v11)]) (O0:=[(2,.box 34 [.l 1 d0.Owner A3,.l 1 d0.Choices A0]),(7,.box 88 [.l 4 l26 A8])]) (T0:=[kC b14 7832,kC b14 7833,.inBlock 1,kC b14 1959,kL b14 244,.inBlock 0,kC b14 31]) ?_;obtain⟨l27,e67,hF⟩:=bnd hF;refine jo2 3 (mm' A8 e67) ?_;have hL3:∀nL3 v13 l31,Bf6 fuel d0 l26 v11 (Aj2 fuel d0 d1 nL2) nL3 v13 l31=some r->G14 r ⟨mkT [(2,.ptr 2 0),(7,.ptr 7 0),(8,.suf 24 0 0),(19,.i d1),(20,.i v11),(26,.l 1 d0.Choices A0),(27,.i ((d0.Choices.map A0).length:Int)),(28,.i v13)],[(2,.box 34 [.l 1 d0.Owner A3,.l 1 d0.Choices A0]),(7,.box 88 [.l 4 l26 A8]),(24,.buf 0 100 4 (l31.map A8))],[kL b14 125332,.inBlock 2,kC b14 15667,.inBlock 1,kC b14 1959,kL b14 244,.inBlock 0,kC b14 31]⟩:=by
        clear hF;refine lpI (fun _ _ h=>by cases h) fun nL3 iL3 v13 l31 hF=> ?_
        refine jI 6 29 hF ?_ ?_<;>intro hF
        .obtain⟨y59,e78,hF⟩:=bnd hF;refine jo1 7 (gm' A0 e78) ?_;obtain⟨y60,e79,hF⟩:=bnd hF;refine jo1 10 (gm' A3 e79) ?_;obtain⟨y61,e80,hF⟩:=bnd hF;refine jcr 3 [(7,2000)] (Dg4 e80) ?_;obtain⟨y62,e81,hF⟩:=bnd hF;refine jo1 3 (gm' A8 e81) ?_;obtain⟨l32,e82,hF⟩:=bnd hF;have hst:=stm (f:=A8) (z:=y61.1) (k:=0) (xs:=[.bool y61.1.n_.neg,.sl 1 (y61.1.n_.mag.map A6),.bool y61.1.d.neg,.sl 1 (y61.1.d.mag.map A6)]) (gj e81) rfl;refine B5 0 (G0 (o:=(match(l31.map A8)[0+Int.toNat v13]? with|some old=>some ((l31.map A8).set (0+Int.toNat v13) (Z1 old 0 [.bool y61.1.n_.neg,.sl 1 (y61.1.n_.mag.map A6),.bool y61.1.d.neg,.sl 1 (y61.1.d.mag.map A6)]))|none=>none)) (l32.map A8) (by kernel_rfl) (by cases e82;exact hst) ?_);exact ja 6 (iL3 _ _ hF)
        .exact ja 11 (iL2 _ _ hF)
       exact ja 12 (hL3 _ _ _ hF)
      .refine jB 5 hF Dg1 fun y63 hF=> ?_
       cases hF;exact jr 3
     exact ja 11 (hL2 _ _ _ hF)
   exact ja 12 (hL1 _ _ _ hF)
  .refine jB 5 hF Dg1 fun y64 hF=> ?_
   cases hF;exact jr 3
def F58(fuel:Nat)(d0:Int)(d1:List (List UInt8)):Option Bool:=
 (F16).bind fun y1=>
 (F14 fuel y1 d0).bind fun y2=>
 (
  bif y2.2==0 then
   ((F17 fuel y2.1 d1).bind fun y5=>
   some y5)
  else
   (some false)).bind fun o1=>
 some o1
noncomputable abbrev b58:=C0 f58
abbrev G58(r:Bool):=GJ prog 20 f58 (.b r)
theorem Dg6{fuel}{d0}{d1}{r}(hF:F58 fuel d0 d1=some r):
 C1 prog 58 [.i d0,.l 1 d1 e_s] (.b r):=by
 refine cf 20 func58 ?_;refine jB 6 hF Cl9 fun y1 hF=> ?_
 refine jB 1 hF Ek6 fun y2 hF=> ?_
 obtain⟨o1,hO,hF⟩:=bnd hF;have hR1:G58 r ⟨mkT [(4,.b o1)],[],[kO b58 14,kC b58 15]⟩:=by
  clear hO;cases hF;exact jr 1
 clear hF;rename _=some o1=>hF
 refine jI 11 15 hF ?_ ?_<;>intro hF
 .refine jB 2 hF Ek7 fun y5 hF=> ?_
  cases hF;exact ja 2 hR1
 .cases hF;exact ja 5 hR1
def Dd4(fuel:Nat)(d1:Int)(y3:A7)(y13:List Int×List (List A2)×Int):Nat->(List A7)->Int->Option (Int×Int)
 |0,_,_=>none
 |nL1+1,l2,v2=>
  bif decide (v2<61) then
   ((C2 l2 d1).bind fun y20=>
   (F50 fuel y20 y3).bind fun y21=>
   bif decide (y21>=0) then
    (some (v2,0))
   else
    ((F94 fuel l2 y13.1 y13.2.1 y13.2.2).bind fun y22=>
    (Dd4 fuel d1 y3 y13 nL1) y22.1 (i64.wrap (v2+1))))
  else
   (some (0,4))
def F13(fuel:Nat)(d0:A9)(d1:Int)(d2:Int)(d3:List UInt8):Option (Int×Int):=
 (F43 fuel d0 d2 0).bind fun y1=>
 bif y1 !=0 then
  (some (0,y1))
 else
  ((
   bif decide (d1<0) then
    (some true)
   else
    (some (decide (d1>=((d0.Owner.map A3).length:Int))))).bind fun o1=>
  bif o1 then
   (some (0,2))
  else
   ((F47 fuel d3).bind fun y2=>
   bif y2 !=0 then
    (some (0,5))
   else
    ((F48 fuel d3).bind fun y3=>
    (
     (F49 y3).bind fun y23=>
     bif decide (y23<0) then
      (some true)
     else
      ((F51 fuel 1 1).bind fun y24=>
      (F50 fuel y3 y24).bind fun y25=>
      some (decide (y25>0)))).bind fun o2=>
    bif o2 then
     (some (0,2))
    else
     ((F44 fuel d0 d2).bind fun y12=>
     (F45 d0 d2).bind fun y13=>
     Dd4 fuel d1 y3 y13 fuel y12 0))))
noncomputable abbrev b13:=C0 f13
abbrev G13(r:Int×Int):=GJ prog 68 f13 (.tup [.i r.1,.i r.2])
theorem Fm3{fuel}{d0}{d1}{d2}{d3}{r}(hF:F13 fuel d0 d1 d2 d3=some r):
 C1 prog 13 [.agg [.l 1 d0.Owner A3,.l 1 d0.Choices A0],.i d1,.n d2,.s d3] (.tup [.i r.1,.i r.2]):=by
 refine cf 68 func13 ?_;refine jB 11 hF Cm2 fun y1 hF=> ?_
 refine jI 7 19 hF ?_ ?_<;>intro hF
 .cases hF;exact jr 7
 .obtain⟨o1,hO,hF⟩:=bnd hF;have hR1:G13 r ⟨mkT [(1,.i d1),(2,.n d2),(3,.s d3),(4,.ptr 4 0),(29,.b o1)],[(4,.box 34 [.l 1 d0.Owner A3,.l 1 d0.Choices A0])],[kO b13 28,kC b13 29,kC b13 15]⟩:=by
   clear hO;refine jI 1 29 hF ?_ ?_<;>intro hF
   .cases hF;exact jr 6
   .refine jB 6 hF Fo4 fun y2 hF=> ?_
    refine jI 2 32 hF ?_ ?_<;>intro hF
    .cases hF;exact jr 6
    .refine jB 5 hF Bs0 fun y3 hF=> ?_
     obtain⟨o2,hO,hF⟩:=bnd hF;have hR2:G13 r ⟨mkT [(1,.i d1),(2,.n d2),(4,.ptr 4 0),(11,.ptr 11 0),(43,.b o2)],[(4,.box 34 [.l 1 d0.Owner A3,.l 1 d0.Choices A0]),(11,.box 100 [.b y3.n_.neg,.l 1 y3.n_.mag A6,.b y3.d.neg,.l 1 y3.d.mag A6])],[kC b13 253,kC b13 127]⟩:=by
      clear hO;refine jI 0 43 hF ?_ ?_<;>intro hF
      .cases hF;exact jr 6
      .refine jd 3 ?_;refine dB 2 hF Cm3 fun y12 hF=> ?_
       obtain⟨y13,e13,hF⟩:=bnd hF;refine dcr 2 [(49,2000),(1149,2001)] (Dg0 e13) ?_;refine je 2 ?_;have hL1:∀nL1 l2 v2,Dd4 fuel d1 y3 y13 nL1 l2 v2=some r->G13 r ⟨mkT [(1,.i d1),(11,.ptr 11 0),(12,.l 4 l2 A8),(13,.fn 94 [] [.ptr 49 0,.ptr 1149 0]),(50,.i v2)],[(11,.box 100 [.b y3.n_.neg,.l 1 y3.n_.mag A6,.b y3.d.neg,.l 1 y3.d.mag A6]),(49,.fzb [.l 1 y13.1 A3,.l 1 y13.2.1 A0]),(1149,.fzb [.n y13.2.2])],[kL b13 4084,.inBlock 0,kC b13 511]⟩:=by
        clear hF;refine lpI (fun _ _ h=>by cases h) fun nL1 iL1 l2 v2 hF=> ?_
        refine jI 6 51 hF ?_ ?_<;>intro hF
        .refine jd 11 ?_;obtain⟨y20,e20,hF⟩:=bnd hF;refine do1 2 (gm' A8 e20) ?_;refine dB 2 hF Cm4 fun y21 hF=> ?_
         refine je 1 ?_;refine jI 0 59 hF ?_ ?_<;>intro hF
         .cases hF;exact jr 7
         .refine jB 5 hF Dg9 fun y22 hF=> ?_
          exact ja 10 (iL1 _ _ hF)
        .cases hF;exact jr 7
       refine B5 7 (Ce3 (te:=40) 1149 [.n y13.2.2] (by kernel_rfl) (by kernel_rfl) ?_);refine B5 0 (Ce3 (te:=34) 49 [.l 1 y13.1 A3,.l 1 y13.2.1 A0] (by kernel_rfl) (by kernel_rfl) ?_);exact ja 0 (hL1 _ _ _ hF)
     clear hF;rename _=some o2=>hF
     refine jd 5 ?_;refine dB 1 hF Fo5 fun y23 hF=> ?_
     refine dI 2 38 hF ?_ ?_<;>intro hF
     .refine je 5 ?_;cases hF;exact ja 0 hR2
     .refine dB 1 hF Cm5 fun y24 hF=> ?_
      refine dB 0 hF Cm4 fun y25 hF=> ?_
      refine je 2 ?_;cases hF;exact ja 0 hR2
  clear hF;rename _=some o1=>hF
  refine jI 8 23 hF ?_ ?_<;>intro hF
  .cases hF;exact ja 6 hR1
  .cases hF;exact ja 6 hR1
def F59(fuel:Nat)(d0:Int)(d1:Int)(d2:List UInt8)(d3:Int)(d4:Int):Option Bool:=
 (F16).bind fun y1=>
 (F13 fuel y1 d0 d1 d2).bind fun y2=>
 (
  bif y2.1==d3 then
   (some (y2.2==d4))
  else
   (some false)).bind fun o1=>
 some o1
noncomputable abbrev b59:=C0 f59
abbrev G59(r:Bool):=GJ prog 29 f59 (.b r)
theorem Ax8{fuel}{d0}{d1}{d2}{d3}{d4}{r}(hF:F59 fuel d0 d1 d2 d3 d4=some r):
 C1 prog 59 [.i d0,.n d1,.s d2,.i d3,.i d4] (.b r):=by
 refine cf 29 func59 ?_;refine jB 6 hF Cl9 fun y1 hF=> ?_
 refine jB 3 hF Fm3 fun y2 hF=> ?_
 obtain⟨o1,hO,hF⟩:=bnd hF;have hR1:G59 r ⟨mkT [(10,.b o1)],[],[kO b59 14,kC b59 15]⟩:=by
  clear hO;cases hF;exact jr 1
 clear hF;rename _=some o1=>hF
 refine jI 12 24 hF ?_ ?_<;>intro hF
 .cases hF;exact ja 5 hR1
 .cases hF;exact ja 5 hR1
def F19(fuel:Nat):Option Bool:=
 (F16).bind fun y1=>
 (F15 fuel y1 4 2).bind fun y2=>
 (F15 fuel y1 5 1).bind fun y3=>
 (F15 fuel y1 4 0).bind fun y4=>
 (F12 fuel y1 4 61).bind fun y5=>
 (
  (F57 fuel 0 [[48],[48],[49]]).bind fun y50=>
  bif y50 then
   ((F57 fuel 1 [[49,47,52],[48],[49]]).bind fun y51=>
   bif y51 then
    ((F57 fuel 2 [[49,47,52],[49,47,52],[49]]).bind fun y52=>
    bif y52 then
     ((F57 fuel 3 [[55,47,49,54],[49,47,52],[49]]).bind fun y53=>
     bif y53 then
      (bif y2.2==0 then
       (bif y3.2==0 then
        (bif y4.2==0 then
         (bif y5.2==2 then
          (some (((y4.1.map K8).length:Int)==0))
         else
          (some false))
        else
         (some false))
       else
        (some false))
      else
       (some false))
     else
      (some false))
    else
     (some false))
   else
    (some false))
  else
   (some false)).bind fun o1=>
 (
  bif o1 then
   ((F26 fuel y2.1 [[1,0,0],[1,0,0]]).bind fun y45=>
   bif y45 then
    ((F26 fuel y3.1 [[0,1,0]]).bind fun y46=>
    bif y46 then
     ((F58 fuel 0 [[48],[48],[48]]).bind fun y47=>
     bif y47 then
      ((F58 fuel 1 [[49],[49,47,50],[48]]).bind fun y48=>
      bif y48 then
       ((F58 fuel 2 [[55,47,52],[51,47,52],[48]]).bind fun y49=>
       some y49)
      else
       (some false))
     else
      (some false))
    else
     (some false))
   else
    (some false))
  else
   (some false)).bind fun o2=>
 (
  bif o2 then
   ((F59 fuel 0 4 [49,47,52] 1 0).bind fun y38=>
   bif y38 then
    ((F59 fuel 1 4 [49,47,52] 2 0).bind fun y39=>
    bif y39 then
     ((F59 fuel 0 4 [48] 0 0).bind fun y40=>
     bif y40 then
      ((F59 fuel 0 0 [49,47,50] 0 4).bind fun y41=>
      bif y41 then
       ((F59 fuel 3 4 [49] 0 2).bind fun y42=>
       bif y42 then
        ((F59 fuel 0 4 [53,47,52] 0 2).bind fun y43=>
        bif y43 then
         ((F59 fuel 0 4 [120] 0 5).bind fun y44=>
         some y44)
        else
         (some false))
       else
        (some false))
      else
       (some false))
     else
      (some false))
    else
     (some false))
   else
    (some false))
  else
   (some false)).bind fun o3=>
 some o3
noncomputable abbrev b19:=C0 f19
abbrev G19(r:Bool):=GJ prog 115 f19 (.b r)
theorem Fn2{fuel}{r}(hF:F19 fuel=some r):
 C1 prog 19 [] (.b r):=by
 refine cf 115 func19 ?_;refine jB 6 hF Cl9 fun y1 hF=> ?_
 refine jB 6 hF De3 fun y2 hF=> ?_
 refine jB 9 hF De3 fun y3 hF=> ?_
 refine jB 9 hF De3 fun y4 hF=> ?_
 refine jB 9 hF Ek2 fun y5 hF=> ?_
 obtain⟨o1,hO,hF⟩:=bnd hF;have hR1:G19 r ⟨mkT [(2,.l 1 y2.1 K8),(4,.l 1 y3.1 K8),(10,.b o1)],[],[kO b19 254,kC b19 255]⟩:=by
  clear hO;obtain⟨o2,hO,hF⟩:=bnd hF;have hR2:G19 r ⟨mkT [(10,.b o2)],[],[kO b19 510,kC b19 511]⟩:=by
   clear hO;obtain⟨o3,hO,hF⟩:=bnd hF;have hR3:G19 r ⟨mkT [(0,.b o3)],[],[kO b19 1022,kC b19 1023]⟩:=by
    clear hO;cases hF;exact jr 1
   clear hF;rename _=some o3=>hF
   refine jI 5 94 hF ?_ ?_<;>intro hF
   .refine jB 0 hF Ax8 fun y38 hF=> ?_
    refine jI 2 97 hF ?_ ?_<;>intro hF
    .refine jB 0 hF Ax8 fun y39 hF=> ?_
     refine jI 2 100 hF ?_ ?_<;>intro hF
     .refine jB 0 hF Ax8 fun y40 hF=> ?_
      refine jI 2 103 hF ?_ ?_<;>intro hF
      .refine jB 0 hF Ax8 fun y41 hF=> ?_
       refine jI 2 106 hF ?_ ?_<;>intro hF
       .refine jB 0 hF Ax8 fun y42 hF=> ?_
        refine jI 2 109 hF ?_ ?_<;>intro hF
        .refine jB 0 hF Ax8 fun y43 hF=> ?_
         refine jI 2 112 hF ?_ ?_<;>intro hF
         .refine jB 0 hF Ax8 fun y44 hF=> ?_
          cases hF;exact ja 2 hR3
         .cases hF;exact ja 3 hR3
        .cases hF;exact ja 6 hR3
       .cases hF;exact ja 9 hR3
      .cases hF;exact ja 12 hR3
     .cases hF;exact ja 15 hR3
    .cases hF;exact ja 18 hR3
   .cases hF;exact ja 21 hR3
  clear hF;rename _=some o2=>hF
  refine jI 5 68 hF ?_ ?_<;>intro hF
  .refine jB 4 hF Ek8 fun y45 hF=> ?_
   refine jI 2 75 hF ?_ ?_<;>intro hF
   .refine jB 3 hF Ek8 fun y46 hF=> ?_
    refine jI 2 81 hF ?_ ?_<;>intro hF
    .refine jB 1 hF Dg6 fun y47 hF=> ?_
     refine jI 2 85 hF ?_ ?_<;>intro hF
     .refine jB 1 hF Dg6 fun y48 hF=> ?_
      refine jI 2 89 hF ?_ ?_<;>intro hF
      .refine jB 1 hF Dg6 fun y49 hF=> ?_
       cases hF;exact ja 2 hR2
      .cases hF;exact ja 4 hR2
     .cases hF;exact ja 8 hR2
    .cases hF;exact ja 12 hR2
   .cases hF;exact ja 18 hR2
  .cases hF;exact ja 25 hR2
 clear hF;rename _=some o1=>hF
 refine jB 9 hF Cm7 fun y50 hF=> ?_
 refine jI 1 34 hF ?_ ?_<;>intro hF
 .refine jB 1 hF Cm7 fun y51 hF=> ?_
  refine jI 2 38 hF ?_ ?_<;>intro hF
  .refine jB 1 hF Cm7 fun y52 hF=> ?_
   refine jI 2 42 hF ?_ ?_<;>intro hF
   .refine jB 1 hF Cm7 fun y53 hF=> ?_
    refine jI 2 46 hF ?_ ?_<;>intro hF
    .refine jI 4 50 hF ?_ ?_<;>intro hF
     .refine jI 4 54 hF ?_ ?_<;>intro hF
      .refine jI 4 58 hF ?_ ?_<;>intro hF
       .refine jI 4 62 hF ?_ ?_<;>intro hF
        .cases hF;exact ja 5 hR1
        .cases hF;exact ja 5 hR1
       .cases hF;exact ja 9 hR1
      .cases hF;exact ja 13 hR1
     .cases hF;exact ja 17 hR1
    .cases hF;exact ja 21 hR1
   .cases hF;exact ja 25 hR1
  .cases hF;exact ja 29 hR1
 .cases hF;exact ja 33 hR1
end
section
def Ak2(x:A9):List Dat:=[.sl 1 (x.Owner.map A3),.sl 1 (x.Choices.map A0)]
noncomputable abbrev b4:=C0 f4
end
section
noncomputable abbrev b5:=C0 f5
end
section
def Bg3(fuel:Nat)(d0:A9)(l60:List (List UInt8))(l80:List (List UInt8))(v24:Int)(y6:List UInt8)(y185:List UInt8)(cL2:Int->(List (List UInt8))->Option (List (List UInt8)×Int)):Nat->Int->(List (List UInt8))->Option (List (List UInt8)×Int)
 |0,_,_=>none
 |nL3+1,v26,l86=>
  (C2 d0.Choices v24).bind fun y262=>
  bif decide (v26<((y262.map A1).length:Int)) then
   ((C2 d0.Choices v24).bind fun y263=>
   (C2 y263 v26).bind fun y264=>
   (F74 fuel y264.Gain y185).bind fun y268=>
   (F75 fuel y264 l60 y6).bind fun y269=>
   (F73 fuel y268 y269).bind fun y270=>
   (app l86 [y270]).bind fun l88=>
   (Bg3 fuel d0 l60 l80 v24 y6 y185 cL2 nL3) (i64.wrap (v26+1)) l88)
  else
   ((C2 d0.Owner v24).bind fun y271=>
   (F76 fuel y271 l86).bind fun y272=>
   (app l80 [y272.1]).bind fun l89=>
   cL2 (i64.wrap (v24+1)) l89)
def Af6(fuel:Nat)(d0:A9)(l60:List (List UInt8))(v18:Int)(y6:List UInt8)(y185:List UInt8)(cL1:(List UInt8)->(List (List UInt8))->Int->Option (List (List UInt8)×Int)):Nat->Int->(List (List UInt8))->Option (List (List UInt8)×Int)
 |0,_,_=>none
 |nL2+1,v24,l80=>
  bif decide (v24<((d0.Owner.map A3).length:Int)) then
   (Bg3 fuel d0 l60 l80 v24 y6 y185 (Af6 fuel d0 l60 v18 y6 y185 cL1 nL2) fuel 0 [])
  else
   (cL1 y185 l80 (i64.wrap (v18+1)))
def Aj5(fuel:Nat)(d0:A9)(d1:Int)(y6:List UInt8):Nat->(List UInt8)->(List (List UInt8))->Int->Option (List (List UInt8)×Int)
 |0,_,_,_=>none
 |nL1+1,x2,l60,v18=>
  bif decide (v18<d1) then
   ((F66 fuel x2 y6).bind fun y185=>
   Af6 fuel d0 l60 v18 y6 y185 (Aj5 fuel d0 d1 y6 nL1) fuel 0 [])
  else
   ((F68 fuel l60 x2).bind fun y273=>
   some (y273,0))
def F28(fuel:Nat)(d0:A9)(d1:Int):Option (List (List UInt8)×Int):=
 (F23 fuel d0 0 d1).bind fun y1=>
 bif y1 !=0 then
  (some ([],y1))
 else
  ((F63 fuel d0).bind fun y2=>
  (F64 y2.1).bind fun y6=>
  (F64 y2.2).bind fun y7=>
  (F65 fuel d0 0).bind fun y8=>
  Aj5 fuel d0 d1 y6 fuel y7 y8 0)
noncomputable abbrev b28:=C0 f28
abbrev G28(r:List (List UInt8)×Int):=GJ prog 100 f28 (.tup [.l 1 r.1 e_s,.i r.2])
theorem Fo1{fuel}{d0}{d1}{r}(hF:F28 fuel d0 d1=some r):
 C1 prog 28 [.agg [.l 1 d0.Owner A3,.l 1 d0.Choices A0],.i d1] (.tup [.l 1 r.1 e_s,.i r.2]):=by
 refine cf 100 func28 ?_;refine jB 11 hF Fn9 fun y1 hF=> ?_
 refine jI 7 24 hF ?_ ?_<;>intro hF
 .cases hF;exact jr 7
 .refine jB 5 hF El4 fun y2 hF=> ?_
  refine jd 7 ?_;refine dB 1 hF Ab5 fun y6 hF=> ?_
  refine dB 1 hF Ab5 fun y7 hF=> ?_
  refine dB 1 hF Fo9 fun y8 hF=> ?_
  refine je 3 ?_;have hL1:∀nL1 x2 l60 v18,Aj5 fuel d0 d1 y6 nL1 x2 l60 v18=some r->G28 r ⟨mkT [(1,.i d1),(2,.ptr 2 0),(9,.s y6),(10,.s x2),(11,.l 1 l60 e_s),(12,.i v18)],[(2,.box 34 [.l 1 d0.Owner A3,.l 1 d0.Choices A0])],[kL b28 500,.inBlock 0,kC b28 63]⟩:=by
   clear hF;refine lpI (fun _ _ _ h=>by cases h) fun nL1 iL1 x2 l60 v18 hF=> ?_
   refine jI 8 39 hF ?_ ?_<;>intro hF
   .refine jB 8 hF As5 fun y185 hF=> ?_
    have hL2:∀nL2 v24 l80,Af6 fuel d0 l60 v18 y6 y185 (Aj5 fuel d0 d1 y6 nL1) nL2 v24 l80=some r->G28 r ⟨mkT [(1,.i d1),(2,.ptr 2 0),(9,.s y6),(10,.s y185),(11,.l 1 l60 e_s),(12,.i v18),(13,.suf 95 0 0),(14,.i v24)],[(2,.box 34 [.l 1 d0.Owner A3,.l 1 d0.Choices A0]),(95,.buf 0 9 1 (l80.map e_s))],[kL b28 256308,.inBlock 2,kC b28 32039,.inBlock 1,kC b28 2003,kL b28 500,.inBlock 0,kC b28 63]⟩:=by
     clear hF;refine lpI (fun _ _ h=>by cases h) fun nL2 iL2 v24 l80 hF=> ?_
     refine jI 10 49 hF ?_ ?_<;>intro hF
     .have hL3:∀nL3 v26 l86,Bg3 fuel d0 l60 l80 v24 y6 y185 (Af6 fuel d0 l60 v18 y6 y185 (Aj5 fuel d0 d1 y6 nL1) nL2) nL3 v26 l86=some r->G28 r ⟨mkT [(1,.i d1),(2,.ptr 2 0),(9,.s y6),(10,.s y185),(11,.l 1 l60 e_s),(12,.i v18),(13,.suf 95 0 0),(14,.i v24),(15,.suf 81 0 0),(16,.i v26)],[(2,.box 34 [.l 1 d0.Owner A3,.l 1 d0.Choices A0]),(81,.buf 0 9 1 (l86.map e_s)),(95,.buf 0 9 1 (l80.map e_s))],[kL b28 65614996,.inBlock 4,kC b28 8201875,.inBlock 3,kC b28 1025235,kL b28 256308,.inBlock 2,kC b28 32039,.inBlock 1,kC b28 2003,kL b28 500,.inBlock 0,kC b28 63]⟩:=by
       clear hF;refine lpI (fun _ _ h=>by cases h) fun nL3 iL3 v26 l86 hF=> ?_
       obtain⟨y262,e322,hF⟩:=bnd hF;refine jo1 8 (gm' A0 e322) ?_;refine jI 4 59 hF ?_ ?_<;>intro hF
       .obtain⟨y263,e323,hF⟩:=bnd hF;refine jo1 9 (gm' A0 e323) ?_;obtain⟨y264,e324,hF⟩:=bnd hF;refine jo1 2 (gm' A1 e324) ?_;refine jd 4 ?_;refine dB 4 hF El5 fun y268 hF=> ?_
        refine dB 3 hF Fp2 fun y269 hF=> ?_
        refine dB 0 hF Bs5 fun y270 hF=> ?_
        obtain⟨l88,e332,hF⟩:=bnd hF;refine do2 1 (am' e_s e332) ?_;refine je 1 ?_;exact ja 6 (iL3 _ _ hF)
       .obtain⟨y271,e333,hF⟩:=bnd hF;refine jo1 7 (gm' A3 e333) ?_;refine jB 2 hF Fp3 fun y272 hF=> ?_
        obtain⟨l89,e335,hF⟩:=bnd hF;refine jo2 10 (am' e_s e335) ?_;exact ja 8 (iL2 _ _ hF)
      refine B5 15 (At7 (n:=1) 15 81 9 1 (by kernel_rfl) (by kernel_rfl) ?_);exact ja 0 (hL3 _ _ _ hF)
     .refine B5 12 (Dh7 11 (by kernel_rfl) (by kernel_rfl) ?_);exact ja 0 (iL1 _ _ _ hF)
    refine B5 13 (At7 (n:=1) 13 95 9 1 (by kernel_rfl) (by kernel_rfl) ?_);exact ja 0 (hL2 _ _ _ hF)
   .refine jB 6 hF Fp0 fun y273 hF=> ?_
    cases hF;exact jr 3
  exact ja 7 (hL1 _ _ _ _ hF)
def Bs4(fuel:Nat)(d2:Int)(v6:Int)(y41:A9)(cL1:Int->Option Bool):Nat->Int->Option Bool
 |0,_=>none
 |nL2+1,v8=>
  bif decide (v8<2) then
   ((C2 [d2,Int.tmod d2 7] v8).bind fun y54=>
   (F14 fuel y41 y54).bind fun y55=>
   (F28 fuel y41 y54).bind fun y56=>
   (
    bif y55.2 !=y56.2 then
     (some true)
    else
     ((F25 fuel y55.1 y56.1).bind fun y59=>
     some (!y59))).bind fun o9=>
   bif o9 then
    (some false)
   else
    ((Bs4 fuel d2 v6 y41 cL1 nL2) (i64.wrap (v8+1))))
  else
   (cL1 (i64.wrap (v6+1)))
def Bs3(fuel:Nat)(d2:Int)(y1:A9)(y2:A9):Nat->Int->Option Bool
 |0,_=>none
 |nL1+1,v6=>
  bif decide (v6<2) then
   ((C2 [y1,y2] v6).bind fun y41=>
   Bs4 fuel d2 v6 y41 (Bs3 fuel d2 y1 y2 nL1) fuel 0)
  else
   ((F19 fuel).bind fun y60=>
   some y60)
def F6(fuel:Nat)(d0:B4)(d1:C6)(d2:Int):Option Bool:=
 (F20 fuel d0).bind fun y1=>
 (F21 fuel d1 y1).bind fun y2=>
 Bs3 fuel d2 y1 y2 fuel 0
noncomputable abbrev b6:=C0 f6
abbrev G6(r:Bool):=GJ prog 57 f6 (.b r)
theorem Gf2{fuel}{d0}{d1}{d2}{r}(hF:F6 fuel d0 d1 d2=some r):
 C1 prog 6 [.agg [.y d0.States,.y d0.Owners,.y d0.Grain,.y d0.Cents,.l 8 d0.Picks B6],.agg [.y d1.What,.y d1.State,.y d1.At,.i d1.N,.s d1.Q,.s d1.S],.i d2] (.b r):=by
 refine cf 57 func6 ?_;refine jB 9 hF Fn3 fun y1 hF=> ?_
 refine jd 5 ?_;refine dB 3 hF Fn4 fun y2 hF=> ?_
 refine je 2 ?_;have hL1:∀nL1 v6,Bs3 fuel d2 y1 y2 nL1 v6=some r->G6 r ⟨mkT [(2,.i d2),(22,.agg [.l 1 y1.Owner A3,.l 1 y1.Choices A0,.l 1 y2.Owner A3,.l 1 y2.Choices A0]),(23,.i v6)],[],[kL b6 116,.inBlock 0,kC b6 15]⟩:=by
  clear hF;refine lpI (fun _ h=>by cases h) fun nL1 iL1 v6 hF=> ?_
  refine jI 6 24 hF ?_ ?_<;>intro hF
  .obtain⟨y41,e41,hF⟩:=bnd hF;refine jo1 6 (gm' Ak2 e41) ?_;have hL2:∀nL2 v8,Bs4 fuel d2 v6 y41 (Bs3 fuel d2 y1 y2 nL1) nL2 v8=some r->G6 r ⟨mkT [(2,.i d2),(9,.ptr 9 0),(22,.agg [.l 1 y1.Owner A3,.l 1 y1.Choices A0,.l 1 y2.Owner A3,.l 1 y2.Choices A0]),(23,.i v6),(29,.agg [.i d2,.i (Int.tmod d2 7)]),(30,.i v8)],[(9,.box 34 [.l 1 y41.Owner A3,.l 1 y41.Choices A0])],[kL b6 29900,.inBlock 2,.inBlock 1,kC b6 935,kL b6 116,.inBlock 0,kC b6 15]⟩:=by
    clear hF;refine lpI (fun _ h=>by cases h) fun nL2 iL2 v8 hF=> ?_
    refine jI 6 31 hF ?_ ?_<;>intro hF
    .obtain⟨y54,e54,hF⟩:=bnd hF;refine jo1 6 (gm' A3 e54) ?_;refine jB 6 hF Ek6 fun y55 hF=> ?_
     refine jB 10 hF Fo1 fun y56 hF=> ?_
     obtain⟨o9,hO,hF⟩:=bnd hF;have hR9:G6 r ⟨mkT [(2,.i d2),(9,.ptr 9 0),(22,.agg [.l 1 y1.Owner A3,.l 1 y1.Choices A0,.l 1 y2.Owner A3,.l 1 y2.Choices A0]),(23,.i v6),(29,.agg [.i d2,.i (Int.tmod d2 7)]),(30,.i v8),(53,.b o9)],[(9,.box 34 [.l 1 y41.Owner A3,.l 1 y41.Choices A0])],[kO b6 7654606,kC b6 7654607,.inBlock 3,kC b6 239207,kL b6 29900,.inBlock 2,.inBlock 1,kC b6 935,kL b6 116,.inBlock 0,kC b6 15]⟩:=by
      clear hO;refine jI 1 53 hF ?_ ?_<;>intro hF
      .cases hF;exact jr 5
      .exact ja 7 (iL2 _ hF)
     clear hF;rename _=some o9=>hF
     refine jI 12 48 hF ?_ ?_<;>intro hF
     .cases hF;exact ja 5 hR9
     .refine jB 2 hF Fo0 fun y59 hF=> ?_
      cases hF;exact ja 2 hR9
    .exact ja 7 (iL1 _ hF)
   exact ja 13 (hL2 _ _ hF)
  .refine jB 4 hF Fn2 fun y60 hF=> ?_
   cases hF;exact jr 2
 exact ja 2 (hL1 _ _ hF)
end
end Go.Proofs.YtfgbhfphjmmiaaaGreatDoor
end
section
namespace Go.Proofs.YtfgbhfphjmmiaaaGreatDoor
open Go Go.RowKit Kx Go.IntKind
set_option maxRecDepth 100000
section
def val(B:Int):List Int->Int
 |[]=>0
 |x::l=>x+B*val B l
def dig(B:Int)(l:List Int):Prop:=∀x∈l,0<=x/\x<B
theorem J2{B:Int}:dig B []:=fun _ h=>by cases h
theorem E1{B x:Int}{l:List Int}:dig B (x::l)↔(0<=x/\x<B)/\dig B l:=by
 unfold dig;simp
theorem Ah9{B:Int}{l m:List Int}:dig B (l++m)↔dig B l/\dig B m:=by
 unfold dig;simp only[List.mem_append];exact⟨fun h=>⟨fun x hx=>h x (Or.inl hx),fun x hx=>h x (Or.inr hx)⟩,fun h x hx=>hx.elim (h.1 x) (h.2 x)⟩
theorem F2{B:Int}{l:List Int}(h:dig B l)(i:Nat):dig B (l.take i):=fun x hx=>h x (mem_of_mem_take hx)
theorem L5{B:Int}{l:List Int}(h:dig B l)(i:Nat):dig B (l.drop i):=fun x hx=>h x (mem_of_mem_drop hx)
theorem Dl6{B:Int}{l:List Int}(h:dig B l){i:Nat}(hi:i<l.length):0<=l[i]/\l[i]<B:=h _ (af_ hi)
theorem Ai0{B:Int}{l:List Int}(h:dig B l)(i:Nat){y:Int}(hy:0<=y/\y<B):dig B (l.set i y):=fun x hx=>by
 rcases b2_ hx with h1|h1
 .exact h x h1
 .subst h1;exact hy
theorem Ak1{B:Int}(hB:0<B)(n:Nat):dig B (List.replicate n 0):=fun x hx=>by
 rw[(List.mem_replicate.mp hx).2];omega
theorem Ai7{B:Int}:∀(l m:List Int),val B (l++m)=val B l+B^l.length*val B m
 |[],m=>by simp[val]
 |x::l,m=>by
  rw[cons_append,val,val,Ai7 l m,length_cons,cy_];grind
theorem M3{B:Int}(hB:0<B):∀{l:List Int},dig B l->0<=val B l
 |[],_=>Int.le_refl _
 |x::l,h=>by
  have h:=E1.mp h;have:=M3 hB h.2;rw[val];have:=bo_ (aj_ hB) this;omega
theorem Q7{B:Int}(hB:0<B)(n:Nat):0<B^n:=Int.pow_pos hB
theorem An4{B:Int}(hB:0<B):∀{l:List Int},dig B l->val B l<B^l.length
 |[],_=>by simp[val]
 |x::l,h=>by
  have h:=E1.mp h;have h1:=An4 hB h.2;rw[val,length_cons,cy_];have h2:val B l+1<=B^l.length:=h1;have h3:=ar_ h2 (aj_ hB);rw[Int.mul_add]at h3;omega
theorem T4{B:Int}(l:List Int)(i:Nat)(hi:i<=l.length):val B l=val B (l.take i)+B^i*val B (l.drop i):=by
 have:=Ai7 (B:=B) (l.take i) (l.drop i)
 rwa [ao_,length_take,bv_ hi]at this
theorem Ai8{B:Int}:∀(l:List Int) (i:Nat) (hi:i<l.length) (y:Int),val B (l.set i y)=val B l+(y-l[i])*B^i
 |x::l,0,_,y=>by simp[val];omega
 |x::l,i+1,hi,y=>by
  have ih:=Ai8 (B:=B) l i (by simpa using hi) y;rw[set_cons_succ,val,val,ih,getElem_cons_succ,cy_];grind
theorem An5{B:Int}:∀(n:Nat),val B (List.replicate n 0)=0
 |0=>rfl
 |n+1=>by rw[List.replicate_succ,val,An5 n];simp
theorem Q9{B:Int}{l:List Int}{i:Nat}(hi:i<l.length):val B (l.take (i+1))=val B (l.take i)+l[i]*B^i:=by
 rw[b0_ hi,Ai7,length_take,bv_ (by omega)];simp[val];grind
theorem Aw1{B:Int}{l:List Int}{i:Nat}(hi:i<l.length):val B (l.drop i)=l[i]+B*val B (l.drop (i+1)):=by
 rw[ai_ hi,val]
def dgF(B:Int):Nat->Int->List Int
 |0,_=>[]
 |k+1,n=>if n<=0 then[] else n%B::dgF B k (n/B)
def dg(B:Int)(n:Int):List Int:=dgF B n.toNat n
theorem Cg5{B n:Int}(hB:1<B)(hn:0<n):n/B<n:=by
 have h1:=a9_ n B;have h2:=a4_ n (show B≠0 by omega);have h3:=a5_ (aj_ hn) (show(0:Int)<=B by omega);by_cases h:n/B=0
 .omega
 .have h4:=ae_ (show(2:Int)<=B by omega) h3;omega
theorem Cp2{B:Int}(hB:1<B):∀(k j:Nat) (n:Int),n.toNat<=k->n.toNat<=j->dgF B k n=dgF B j n
 |0,0,_,_,_=>rfl
 |0,j+1,n,h,_=>by rw[dgF,dgF,if_pos (by omega)]
 |k+1,0,n,_,h=>by rw[dgF,dgF,if_pos (by omega)]
 |k+1,j+1,n,h,h'=>by
  rw[dgF,dgF];split
  .rfl
  .have:=Cg5 hB (n:=n) (by omega);rw[Cp2 hB k j (n/B) (by omega) (by omega)]
theorem E7{B n:Int}(hn:n<=0):dg B n=[]:=by
 unfold dg;rw[show n.toNat=0 by omega];rfl
theorem M9{B n:Int}(hB:1<B)(hn:0<n):dg B n=n%B::dg B (n/B):=by
 unfold dg;obtain⟨k,hk⟩:∃k,n.toNat=k+1:=⟨n.toNat-1,by omega⟩
 have:=Cg5 hB hn;rw[hk,dgF,if_neg (by omega),Cp2 hB k (n/B).toNat (n/B) (by omega) (ad_ _)]
theorem Bu9{B:Int}(hB:1<B){P:Int->Prop}(h0:P 0)(h1:∀n,0<n->P (n/B)->P n):∀(n:Int),0<=n->P n:=by
 have:∀(k:Nat) (n:Int),0<=n->n.toNat<=k->P n:=by
  intro k
  induction k with
  |zero=>intro n hn hk;rw[show n=0 by omega];exact h0
  |succ k ih=>
   intro n hn hk;by_cases h:n=0
   .rw[h];exact h0
   .have:=Cg5 hB (n:=n) (by omega);exact h1 n (by omega) (ih (n/B) (a5_ hn (by omega)) (by omega))
 exact fun n hn=>this n.toNat n hn (ad_ _)
theorem I8{B:Int}(hB:1<B):∀n,0<=n->val B (dg B n)=n:=
 Bu9 hB (by rw[E7 (Int.le_refl _)];rfl) fun n hn ih=>by
  rw[M9 hB hn,val,ih];exact a9_ n B
theorem H1{B:Int}(hB:1<B):∀n,0<=n->dig B (dg B n):=
 Bu9 hB (by rw[E7 (Int.le_refl _)];exact J2) fun n hn ih=>by
  rw[M9 hB hn];exact E1.mpr ⟨⟨a4_ _ (by omega),a2_ _ (by omega)⟩,ih⟩
theorem Cg2{B x v:Int}(hB:1<B)(hx:0<=x/\x<B)(_:0<=v)(h:0<x+B*v):dg B (x+B*v)=x::dg B v:=by
 rw[M9 hB h];have e1:(x+B*v)%B=x:=by
  rw[Int.add_mul_emod_self_left];exact bd_ hx.1 hx.2
 have e2:(x+B*v)/B=v:=by
  rw[Int.add_mul_ediv_left _ _ (by omega),bw_ hx.1 hx.2];omega
 rw[e1,e2]
def Bd5:List Int->List Int
 |[]=>[]
 |x::l=>match Bd5 l with
  |[]=>if x=0 then[] else[x]
  |y::m=>x::y::m
theorem Bd6{B:Int}(hB:1<B):∀{l:List Int},dig B l->Bd5 l=dg B (val B l)
 |[],_=>by rw[val,E7 (Int.le_refl _)];rfl
 |x::l,h=>by
  have h:=E1.mp h;have ih:=Bd6 hB h.2;have hn:=M3 (show 0<B by omega) h.2;rw[Bd5,val];by_cases hv:val B l=0
  .rw[hv,E7 (Int.le_refl _)]at ih;rw[ih,hv];dsimp only;by_cases hx:x=0
   .rw[if_pos hx,hx,E7 (by omega)]
   .rw[if_neg hx,Cg2 hB h.1 (Int.le_refl _) (by omega),E7 (Int.le_refl _)]
  .have hp:0<B*val B l:=c1_ (by omega) (by omega);rw[Cg2 hB h.1 hn (by omega),<-ih];have:Bd5 l≠[]:=by
    rw[ih,M9 hB (by omega)];simp
   cases ht:Bd5 l with
   |nil=>exact absurd ht this
   |cons y m=>rfl
theorem As0:∀(l:List Int),Bd5 (l++[0])=Bd5 l
 |[]=>rfl
 |x::l=>by rw[cons_append,Bd5,As0 l,Bd5]
theorem Am7{y:Int}(hy:y≠0):∀(l:List Int),Bd5 (l++[y])=l++[y]
 |[]=>by simp[Bd5,hy]
 |x::l=>by
  rw[cons_append,Bd5,Am7 hy l];cases l<;>rfl
theorem G4{B:Int}(hB:1<B):∀{L:Nat} {n:Int},n<B^L->(dg B n).length<=L
 |0,n,h=>by rw[E7 (by simp at h;omega)];simp
 |L+1,n,h=>by
  by_cases hn:n<=0
  .rw[E7 hn];simp
  .rw[M9 hB (by omega),length_cons];have:n/B<B^L:=ba_ (by omega) (by rw[a3_]at h;exact h);have:=G4 hB this;omega
theorem Ah8{B:Int}(hB:1<B){n:Int}(hn:0<=n):n<B^(dg B n).length:=by
 have:=An4 (show 0<B by omega) (H1 hB n hn)
 rwa [I8 hB n hn]at this
theorem Ed0{B:Int}(hB:1<B){n:Int}(hn:0<n):B^((dg B n).length-1)<=n:=by
 have key:∀n,0<=n->0<n->B^((dg B n).length-1)<=n:=by
  refine Bu9 hB (fun h=>absurd h (by omega)) fun n hn ih h=> ?_
  rw[M9 hB hn,length_cons,cn_];have h0:=a5_ (aj_ hn) (show(0:Int)<=B by omega);by_cases hq:n/B=0
  .rw[hq,E7 (Int.le_refl _)];simp;omega
  .have ih:=ih (by omega);have hl:(dg B (n/B)).length=((dg B (n/B)).length-1)+1:=by
    have:0<(dg B (n/B)).length:=by rw[M9 hB (by omega)];simp
    omega
   rw[hl,cy_];have h1:=ar_ ih (show(0:Int)<=B by omega);have h2:=a9_ n B;have h3:=a4_ n (show B≠0 by omega);omega
 exact key n (aj_ hn) hn
theorem E8{B:Int}(hB:1<B){i j:Nat}(h:i<=j):B^i<=B^j:=by
 obtain⟨d,rfl⟩:=Nat.le.dest h;rw[Int.pow_add];have h1:=Q7 (show 0<B by omega) i;have h2:=Q7 (show 0<B by omega) d;have:=ar_ (show 1<=B^d by omega) (aj_ h1);rw[Int.mul_one]at this;exact this
theorem K0{B:Int}(hB:1<B){a b:Int}(ha:0<=a)(hb:0<=b)(h:(dg B a).length<(dg B b).length):a<b:=by
 have h1:=Ah8 hB ha;have hb':0<b:=by
  by_cases h0:b=0
  .rw[h0,E7 (Int.le_refl _)]at h;simp at h
  .omega
 have h2:=Ed0 hB hb';have h3:=E8 hB (show(dg B a).length<=(dg B b).length-1 by omega);omega
theorem Aq5{B:Int}(hB:1<B){n:Int}(hn:0<n):∃l y,dg B n=l++[y]/\0<y/\y<B:=by
 have key:∀n,0<=n->0<n->∃l y,dg B n=l++[y]/\0<y/\y<B:=by
  refine Bu9 hB (fun h=>absurd h (by omega)) fun n hn ih h=> ?_
  rw[M9 hB hn];have h0:=a5_ (aj_ hn) (show(0:Int)<=B by omega);have h2:=a9_ n B;have h3:=a4_ n (show B≠0 by omega);have h4:=a2_ n (show 0<B by omega);by_cases hq:n/B=0
  .rw[hq]at h2;exact⟨[],n%B,by rw[hq,E7 (Int.le_refl _)];rfl,by omega,h4⟩
  .obtain⟨l,y,e,hy⟩:=ih (by omega);exact⟨n%B::l,y,by rw[e];rfl,hy⟩
 exact key n (aj_ hn) hn
theorem Be7{B:Int}(hB:1<B){n:Int}(hn:0<n):dg B n≠[]:=by rw[M9 hB hn];simp
theorem Cy4{B:Int}(hB:1<B){n:Int}(hn:0<=n):dg B n=[]↔n=0:=by
 constructor
 .intro h;by_cases h0:n=0
  .exact h0
  .exact absurd h (Be7 hB (by omega))
 .intro h;rw[h];exact E7 (Int.le_refl _)
theorem En7{B:Int}(hB:1<B){l:List Int}{y:Int}(hd:dig B (l++[y]))(hy:y≠0):dg B (val B (l++[y]))=l++[y]:=by
 rw[<-Bd6 hB hd,Am7 hy]
theorem Br0{B:Int}(hB:0<B){m o:List Int}(hm:dig B m)(ho:dig B o){i:Nat}(h1:i<m.length)(h2:i<o.length)(he:m.drop (i+1)=o.drop (i+1))(hl:m[i]<o[i]):val B m<val B o:=by
 rw[T4 m i (by omega),T4 o i (by omega),Aw1 h1,Aw1 h2,he];have a:=An4 hB (F2 hm i);rw[length_take,bv_ (by omega)]at a;have b:=M3 hB (F2 ho i);have p:=Q7 hB i;have c:=ar_ (show m[i]+1<=o[i] from hl) (aj_ p);rw[Int.mul_add]at c;rw[Int.mul_add,Int.mul_add];omega
end
section
def Ev(p:Nat->Prop):Prop:=∃k,∀n,k<=n->p n
theorem Ev.of{p:Nat->Prop}(h:∀n,p n):Ev p:=⟨0,fun n _=>h n⟩
theorem Ev.from_{p:Nat->Prop}(k:Nat)(h:∀n,k<=n->p n):Ev p:=⟨k,h⟩
theorem Ev.mono{p q:Nat->Prop}(hp:Ev p)(h:∀n,p n->q n):Ev q:=hp.imp fun _ hk n hn=>h n (hk n hn)
theorem Ev.and{p q:Nat->Prop}(hp:Ev p)(hq:Ev q):Ev fun n=>p n/\q n:=by
 obtain⟨a,ha⟩:=hp;obtain⟨b,hb⟩:=hq;exact⟨a+b,fun n hn=>⟨ha n (by omega),hb n (by omega)⟩⟩
theorem Ev.ex{p:Nat->Prop}(hp:Ev p):∃n,p n:=by obtain⟨k,h⟩:=hp;exact⟨k,h k (ad_ _)⟩
theorem sb{α β:Type}(x:α)(f:α->Option β):Option.bind (some x) f=f x:=rfl
theorem E3{i:Int}(h0: -9223372036854775808<=i)(h1:i<9223372036854775808):i64.wrap i=i:=by
 have e64:(2^i64.bits:Int)=18446744073709551616:=rfl;have e63:(2^(i64.bits-1):Int)=9223372036854775808:=rfl;unfold IntKind.wrap;simp only[e64,e63,show i64.signed=true from rfl,Bool.true_and,decide_eq_true_eq];split<;>omega
theorem N6{i:Int}(h0:0<=i)(h1:i<18446744073709551616):u64.wrap i=i:=by
 have e64:(2^u64.bits:Int)=18446744073709551616:=rfl;unfold IntKind.wrap;simp only[e64,show u64.signed=false from rfl,Bool.false_and];rw[if_neg (by decide)];exact bd_ h0 h1
theorem An7{i:Int}(h0:0<=i)(h1:i<4294967296):u32.wrap i=i:=by
 have e64:(2^u32.bits:Int)=4294967296:=rfl;unfold IntKind.wrap;simp only[e64,show u32.signed=false from rfl,Bool.false_and];rw[if_neg (by decide)];exact bd_ h0 h1
theorem Gl8{i:Int}(h0: -9223372036854775808<=i)(h1:i<0):u64.wrap (0-u64.wrap i)= -i:=by
 have e64:(2^u64.bits:Int)=18446744073709551616:=rfl;unfold IntKind.wrap;simp only[e64,show u64.signed=false from rfl,Bool.false_and];rw[if_neg (by decide),if_neg (by decide)];omega
theorem tdm{a b:Int}(ha:0<=a):Int.tdiv a b=a/b/\Int.tmod a b=a%b:=⟨Int.tdiv_eq_ediv_of_nonneg ha,Int.tmod_eq_emod_of_nonneg ha⟩
theorem D3{α:Type}(l:List α)(k:Nat):C2 l (k:Int)=l[k]? :=by simp[C2]
theorem C3{α:Type}{l:List α}{k:Nat}(h:k<l.length):C2 l (k:Int)=some l[k]:=by rw[D3,aa_ h]
theorem Ep5{α:Type}{l:List α}{v:Int}(h0:0<=v)(h:v.toNat<l.length):C2 l v=some l[v.toNat]:=by
 obtain⟨k,rfl⟩:∃k:Nat,v=(k:Int):=⟨v.toNat,by omega⟩
 exact C3 (by simpa using h)
theorem D1{α:Type}{b:Bool}{x:Option α}(h:b=true):ass b x=x:=by subst h;rfl
theorem T8{α:Type}(l m:List α)(h:l.length+m.length<=2147483648):app l m=some (l++m):=by
 unfold app;rw[show decide (l.length+m.length<=2147483648)=true from dT_ h];rfl
theorem dlt{α β:Type}{l:List α}{f:α->β}{i:Nat}(h:i<l.length):decide ((i:Int)<((l.map f).length:Int))=true:=dT_ (by rw[length_map];omega)
theorem dge{α β:Type}{l:List α}{f:α->β}{i:Nat}(h:l.length<=i):decide ((i:Int)<((l.map f).length:Int))=false:=dF_ (by rw[length_map];omega)
theorem wi(i:Nat)(h:i<4000000000000000000):i64.wrap ((i:Int)+1)=((i+1:Nat):Int):=by
 rw[E3 (i:=(i:Int)+1) (by omega) (by omega)];omega
theorem wip(i:Nat)(h:i<4000000000000000000):i64.wrap ((i:Int)-1)=(i:Int)-1:=E3 (by omega) (by omega)
theorem Eg2{α:Type}{c:Int}(h0:0<=c)(h:c<=2147483648)(x:α):mkL 0 c x=some []:=by
 unfold mkL;rw[show(decide ((0:Int)<=0)&&decide ((0:Int)<=c)&&decide (c<=2147483648))=true by simp;omega];rfl
theorem At9{α:Type}{n:Nat}(h:n<=2147483648)(x:α):mkL (n:Int) (n:Int) x=some (List.replicate n x):=by
 unfold mkL;rw[show(decide ((0:Int)<=(n:Int))&&decide ((n:Int)<=(n:Int))&&decide ((n:Int)<=2147483648))=true by simp;omega];simp
def N7(a b:Int):Int:=if a<b then-1 else if a>b then 1 else 0
theorem I0{a:Int}:N7 a a=0:=by simp[N7]
theorem D4{a b:Int}(h:a<b):N7 a b= -1:=by simp[N7,h]
theorem D6{a b:Int}(h:b<a):N7 a b=1:=by unfold N7;rw[if_neg (by omega),if_pos h]
theorem En3{a b:Int}:N7 a b=0↔a=b:=by
 unfold N7;split
 .constructor<;>intro h<;>omega
 .split<;>constructor<;>intro h<;>omega
theorem Co8{a b:Int}:N7 (-a) (-b)=N7 b a:=by
 unfold N7;split<;>split<;>first|rfl|(split<;>first|rfl|omega)|omega
theorem Co9(a b:Int):Fm4 a b=some (N7 a b):=by
 unfold Fm4 Fn0 N7;simp only[sb,bne_self_eq_false,cond_false];by_cases h:a<b
 .simp[h]
 .by_cases h':a>b<;>simp[h,h']
theorem Ec8(a b:Int):Ga1 a b=some (N7 a b):=by
 unfold Ga1 Fn8 N7;simp only[sb,bne_self_eq_false,cond_false];by_cases h:a<b
 .simp[h]
 .by_cases h':a>b<;>simp[h,h']
theorem Gc1{a b:Int}:(N7 a b !=0)=decide (a≠b):=by
 by_cases h:a=b
 .subst h;simp[I0]
 .have:N7 a b≠0:=fun e=>h (En3.1 e)
  simp[h,this]
def sg(neg:Bool)(v:Int):Int:=bif neg then-v else v
def W(n:Int):A5:=⟨decide (n<0),dg 1000000000 (n.natAbs:Int)⟩
theorem hB1:(1:Int)<1000000000:=by decide
theorem Gh0{neg:Bool}{v:Int}(hv:0<=v):W (sg neg v)=⟨neg&&decide (v≠0),dg 1000000000 v⟩:=by
 unfold W sg;cases neg
 .simp only[cond_false,Bool.false_and];rw[show((v.natAbs:Nat):Int)=v by omega,dF_ (by omega)]
 .simp only[cond_true,Bool.true_and];rw[show(((-v).natAbs:Nat):Int)=v by omega];congr 1;rw[decide_eq_decide];omega
def sz(L:Nat)(n:Int):Prop:=(n.natAbs:Int)<1000000000^L
theorem Dy5{d0:Bool}:∀(k:Nat) (l:List Int),l.length<k->l.length<=2147483648->Ax2 d0 k l=some ⟨d0&&decide (Bd5 l≠[]),Bd5 l⟩
 |0,l,h,_=>absurd h (by omega)
 |k+1,l,h,hl=>by
  unfold Ax2;rcases eq_nil_or_concat l with rfl|⟨m,y,rfl⟩
  .simp[Bd5]
  .rw[concat_eq_append]at*;simp only[length_append,length_cons,length_nil]at h hl;have hw:i64.wrap ((((m++[y]).map A6).length:Int)-1)=((m.length:Nat):Int):=by
    rw[length_map,length_append];simp only[length_cons,length_nil];rw[E3 (by omega) (by omega)];omega
   have hg:C2 (m++[y]) ((m.length:Nat):Int)=some y:=by rw[D3];simp
   have hp:decide ((((m++[y]).map A6).length:Int)>0)=true:=dT_ (by rw[length_map,length_append];simp);rw[hp,hw,hg];simp only[cond_true,sb];by_cases hy:y=0
   .subst hy;have hs:slc (m++[0]) 0 ((m.length:Nat):Int)=some m:=by
     unfold slc;have:((m.length:Nat):Int)<=(((m++[(0:Int)]).length:Nat):Int):=by simp;omega
     simp only[dT_ this,Int.le_refl,decide_true,Bool.and_true,dT_ (Int.natCast_nonneg m.length),cond_true];simp
    simp only[beq_self_eq_true,cond_true,hs,sb];rw[Dy5 k m (by omega) (by omega),As0]
   .have:(y==0)=false:=by simpa using hy
    simp only[this,cond_false];rw[Am7 hy];cases d0<;>simp
theorem P3{fuel:Nat}{neg:Bool}{l:List Int}(hd:dig 1000000000 l)(hl:l.length<=2147483648)(hf:l.length<fuel):Be1 fuel neg l=some (W (sg neg (val 1000000000 l))):=by
 have hv:=M3 (show(0:Int)<1000000000 by decide) hd;unfold Be1;rw[Dy5 fuel l hf hl,Gh0 hv,Bd6 hB1 hd];congr 2;rw[decide_eq_decide.2 (show dg 1000000000 (val 1000000000 l)≠[]↔val 1000000000 l≠0 from not_congr (Cy4 hB1 hv))]
theorem Bq5{d0:Int}:∀(v:Int),0<=v->v<18446744073709551616->∀(k:Nat) (acc:List Int),(dg 1000000000 v).length<k->acc.length+(dg 1000000000 v).length<=2147483648->V9 d0 k v acc=some ⟨decide (d0<0),acc++dg 1000000000 v⟩:=by
 intro v hv;refine Bu9 hB1 (P:=fun v=>v<18446744073709551616->∀(k:Nat) (acc:List Int),(dg 1000000000 v).length<k->acc.length+(dg 1000000000 v).length<=2147483648->V9 d0 k v acc=some ⟨decide (d0<0),acc++dg 1000000000 v⟩) ?_ ?_ v hv
 .intro _ k acc hk _;cases k with
  |zero=>omega
  |succ k=>
   unfold V9;simp[E7]
 .intro n hn ih h64 k acc hk hl;rw[M9 hB1 hn,length_cons]at hk hl;cases k with
  |zero=>omega
  |succ k=>
   unfold V9;have h1:=a4_ n (show(1000000000:Int)≠0 by decide);have h2:=a2_ n (show(0:Int)<1000000000 by decide);have h3:n/1000000000<=n:=b9_ _ (by omega);have h4:0<=n/1000000000:=a5_ (by omega) (by decide);rw[dT_ (show n>0 from hn),(tdm (by omega:0<=n)).1,(tdm (by omega:0<=n)).2,An7 h1 (by omega),N6 h4 (by omega),T8 _ _ (by simp;omega)];simp only[cond_true,sb];rw[ih (by omega) k _ (by omega) (by simp;omega),M9 hB1 hn];simp
theorem Cu9{d0:Int}:∀(k:Nat) (v:Int) (acc:List Int),Bh2 d0 k v acc=V9 d0 k v acc
 |0,_,_=>rfl
 |k+1,v,acc=>by
  unfold Bh2 V9;have:Bh2 d0 k=V9 d0 k:=by funext v acc;exact Cu9 k v acc
  rw[this]
theorem Am5{fuel:Nat}{n:Int}(h0: -9223372036854775808<=n)(h1:n<9223372036854775808)(hf:10<=fuel):F99 fuel n=some (W n):=by
 have hl:∀v:Int,0<=v->v<18446744073709551616->(dg 1000000000 v).length<=3:=fun v _ h=>G4 hB1 (by
  have:(1000000000:Int)^3=1000000000000000000000000000:=by decide
  omega)
 unfold F99 W;by_cases h:n<0
 .rw[dT_ h];simp only[cond_true];have:=hl (-n) (by omega) (by omega);rw[Gl8 h0 h,Bq5 _ (by omega) (by omega) _ _ (by omega) (by simp;omega),dT_ h,show((n.natAbs:Nat):Int)= -n by omega];rfl
 .rw[dF_ h];simp only[cond_false];have:=hl n (by omega) (by omega);rw[N6 (by omega) (by omega),Cu9,Bq5 _ (by omega) (by omega) _ _ (by omega) (by simp;omega),dF_ h,show((n.natAbs:Nat):Int)=n by omega];rfl
theorem Bu7{m o:List Int}(hm:dig 1000000000 m)(ho:dig 1000000000 o)(he:m.length=o.length)(hl:m.length<=2147483648):∀(i k:Nat),i<=m.length->i<k->m.drop i=o.drop i->Ao9 m o k ((i:Int)-1)=some (N7 (val 1000000000 m) (val 1000000000 o))
 |0,0,_,h,_=>absurd h (by omega)
 |0,k+1,_,_,hd=>by
  unfold Ao9;rw[drop_zero,drop_zero]at hd;subst hd;simp[I0]
 |i+1,0,_,h,_=>absurd h (by omega)
 |i+1,k+1,hi,hk,hd=>by
  unfold Ao9;rw[show(((i+1:Nat):Int)-1)=((i:Nat):Int) by omega,dT_ (show((i:Nat):Int)>=0 by omega),C3 (l:=m) (by omega),C3 (l:=o) (by omega)];simp only[cond_true,sb,Ec8,Gc1];by_cases h:m[i]=o[i]
  .rw[dF_ (by simpa using h)];simp only[cond_false];rw[wip i (by omega)];exact Bu7 hm ho he hl i k (by omega) (by omega) (by rw[ai_ (show i<m.length by omega),ai_ (show i<o.length by omega),h,hd])
  .rw[dT_ h];simp only[cond_true];rcases Int.lt_or_gt_of_ne h with h'|h'
   .rw[D4 h',D4 (Br0 (by decide) hm ho (by omega) (by omega) hd h')]
   .rw[D6 h',D6 (Br0 (by decide) ho hm (by omega) (by omega) hd.symm h')]
theorem Ae0{fuel:Nat}{a b:Int}(ha:0<=a)(hb:0<=b)(hl:(dg 1000000000 a).length<=2147483648)(hl2:(dg 1000000000 b).length<=2147483648)(hf:(dg 1000000000 a).length<fuel):Dz1 fuel (dg 1000000000 a) (dg 1000000000 b)=some (N7 a b):=by
 unfold Dz1;rw[Co9,sb,Gc1,length_map,length_map];by_cases h:(dg 1000000000 a).length=(dg 1000000000 b).length
 .rw[dF_ (by omega)];simp only[cond_false];rw[wip _ (by omega),Bu7 (H1 hB1 a ha) (H1 hB1 b hb) h hl _ fuel (ad_ _) hf (by rw[ag_ (ad_ _),ag_ (by omega)]),I8 hB1 a ha,I8 hB1 b hb]
 .rw[dT_ (by omega)];simp only[cond_true];rcases Nat.lt_or_gt_of_ne h with h'|h'
  .rw[D4 (by omega),D4 (K0 hB1 ha hb h')]
  .rw[D6 (by omega),D6 (K0 hB1 hb ha h')]
end
section
theorem An6{l:List Int}(h:dig 1000000000 l){i:Nat}(hi:i<l.length):0<=l[i]/\l[i]<1000000000:=Dl6 h hi
theorem Af5{l:List Int}{i:Nat}(hi:i<l.length):val 1000000000 (l.drop i)=l[i]+1000000000*val 1000000000 (l.drop (i+1)):=Aw1 hi
theorem N8{l:List Int}{i:Nat}(hi:l.length<=i):val 1000000000 (l.drop i)=0:=by rw[ag_ hi];rfl
theorem Cb8(x:Int)(l:List Int):val 1000000000 (x::l)=x+1000000000*val 1000000000 l:=rfl
theorem Ct1{m o:List Int}(hm:dig 1000000000 m)(ho:dig 1000000000 o)(hle:o.length<=m.length)(hb:m.length<=1073741824):∀(r i k:Nat) (c:Int) (acc:List Int),i+r=m.length->r<k->0<=c->c<=1->acc.length=i->
 ∃t,X6 m o k c (i:Int) acc=some (acc++t)/\dig 1000000000 t/\t.length<=r+1/\val 1000000000 t=val 1000000000 (m.drop i)+val 1000000000 (o.drop i)+c
 |0,i,0,_,_,_,h,_,_,_=>absurd h (by omega)
 |r+1,i,0,_,_,_,h,_,_,_=>absurd h (by omega)
 |0,i,k+1,c,acc,hi,_,h0,h1,ha=>by
  unfold X6;rw[dge (by omega),N8 (by omega:m.length<=i),N8 (by omega:o.length<=i)];simp only[cond_false];by_cases hc:c>0
  .rw[dT_ hc,T8 _ _ (by simp;omega)];refine⟨[c],rfl,E1.2 ⟨⟨h0,by omega⟩,J2⟩,by simp,by simp[val]⟩
  .rw[dF_ hc];refine⟨[],by simp,J2,by simp,by simp[val];omega⟩
 |r+1,i,k+1,c,acc,hi,hk,h0,h1,ha=>by
  unfold X6;obtain⟨a1,a2⟩:=An6 hm (show i<m.length by omega);rw[dlt (by omega),C3 (l:=m) (by omega),Af5 (l:=m) (by omega)];simp only[cond_true,sb];rw[An7 (i:=m[i]+c) (by omega) (by omega),wi i (by omega)];by_cases hio:i<o.length
  .obtain⟨b1,b2⟩:=An6 ho hio;rw[dlt hio,C3 (l:=o) hio,Af5 (l:=o) hio];simp only[cond_true,sb];rw[An7 (i:=m[i]+c+o[i]) (by omega) (by omega),(tdm (show 0<=m[i]+c+o[i] by omega)).1,(tdm (show 0<=m[i]+c+o[i] by omega)).2,An7 (by omega) (by omega),T8 _ _ (by simp;omega)];simp only[sb];obtain⟨t,e1,e2,e3,e4⟩:=Ct1 hm ho hle hb r (i+1) k ((m[i]+c+o[i])/1000000000) (acc++[(m[i]+c+o[i])%1000000000]) (by omega) (by omega) (by omega) (by omega) (by simp;omega);refine⟨(m[i]+c+o[i])%1000000000::t,by rw[e1];simp,E1.2 ⟨⟨by omega,by omega⟩,e2⟩,by simp;omega,?_⟩;rw[Cb8,e4];omega
  .rw[dge (by omega),N8 (by omega:o.length<=i)];simp only[cond_false];rw[(tdm (show 0<=m[i]+c by omega)).1,(tdm (show 0<=m[i]+c by omega)).2,An7 (by omega) (by omega),T8 _ _ (by simp;omega)];simp only[sb];obtain⟨t,e1,e2,e3,e4⟩:=Ct1 hm ho hle hb r (i+1) k ((m[i]+c)/1000000000) (acc++[(m[i]+c)%1000000000]) (by omega) (by omega) (by omega) (by omega) (by simp;omega);refine⟨(m[i]+c)%1000000000::t,by rw[e1];simp,E1.2 ⟨⟨by omega,by omega⟩,e2⟩,by simp;omega,?_⟩;rw[Cb8,e4,N8 (by omega:o.length<=i+1)];omega
theorem Dt6{m o:List Int}:∀(k:Nat),Ap0 m o k=X6 o m k
 |0=>by funext c i acc;rfl
 |k+1=>by
  funext c i acc;unfold Ap0 X6;rw[Dt6 k]
theorem Ff9{fuel:Nat}{m o:List Int}(hm:dig 1000000000 m)(ho:dig 1000000000 o)(h1:m.length<=1073741823)(h2:o.length<=1073741823)(hf:m.length+o.length<fuel):
 ∃t,Fm5 fuel m o=some t/\dig 1000000000 t/\t.length<=m.length+o.length+1/\val 1000000000 t=val 1000000000 m+val 1000000000 o:=by
 unfold Fm5;rw[length_map,length_map];by_cases h:m.length<o.length
 .rw[dT_ (by omega)];simp only[cond_true];rw[E3 (by omega) (by omega),Eg2 (by omega) (by omega)];simp only[sb];rw[Dt6];obtain⟨t,e1,e2,e3,e4⟩:=Ct1 ho hm (by omega) (by omega) o.length 0 fuel 0 [] (by omega) (by omega) (by omega) (by omega) rfl;refine⟨t,e1,e2,by omega,?_⟩;rw[e4,drop_zero,drop_zero];omega
 .rw[dF_ (by omega)];simp only[cond_false];rw[E3 (by omega) (by omega),Eg2 (by omega) (by omega)];simp only[sb];obtain⟨t,e1,e2,e3,e4⟩:=Ct1 hm ho (by omega) (by omega) m.length 0 fuel 0 [] (by omega) (by omega) (by omega) (by omega) rfl;refine⟨t,e1,e2,by omega,?_⟩;rw[e4,drop_zero,drop_zero];omega
theorem Dr2{m o:List Int}(hm:dig 1000000000 m)(ho:dig 1000000000 o)(hle:o.length<=m.length)(hb:m.length<=1073741824):∀(r i k:Nat) (c:Int) (acc:List Int),i+r=m.length->r<k->0<=c->c<=1->acc.length=i->
 ∃t,U8 m o k c (i:Int) acc=some (acc++t)/\dig 1000000000 t/\t.length=r/\(val 1000000000 t=val 1000000000 (m.drop i)-val 1000000000 (o.drop i)-c\/val 1000000000 t=val 1000000000 (m.drop i)-val 1000000000 (o.drop i)-c+1000000000^r)
 |0,i,0,_,_,_,h,_,_,_=>absurd h (by omega)
 |r+1,i,0,_,_,_,h,_,_,_=>absurd h (by omega)
 |0,i,k+1,c,acc,hi,_,h0,h1,ha=>by
  unfold U8;rw[dge (by omega),N8 (by omega:m.length<=i),N8 (by omega:o.length<=i)];refine⟨[],by simp,J2,rfl,?_⟩;simp only[val,Int.pow_zero];omega
 |r+1,i,k+1,c,acc,hi,hk,h0,h1,ha=>by
  unfold U8;obtain⟨a1,a2⟩:=An6 hm (show i<m.length by omega);have hp:(1000000000:Int)^(r+1)=1000000000*1000000000^r:=cy_ ..;rw[dlt (by omega),C3 (l:=m) (by omega),Af5 (l:=m) (by omega),hp];simp only[cond_true,sb];rw[E3 (i:=m[i]) (by omega) (by omega),E3 (i:=m[i]-c) (by omega) (by omega),wi i (by omega)];have key:∀(d c' y:Int),0<=d->d<1000000000->0<=c'->c'<=1->d=m[i]-c-y+1000000000*c'->val 1000000000 (o.drop i)=y+1000000000*val 1000000000 (o.drop (i+1))->
   ∃t,Option.bind (app acc [d]) (fun l=>U8 m o k c' ((i+1:Nat):Int) l)=some (acc++t)/\dig 1000000000 t/\t.length=r+1/\(val 1000000000 t=m[i]+1000000000*val 1000000000 (m.drop (i+1))-val 1000000000 (o.drop i)-c\/val 1000000000 t=m[i]+1000000000*val 1000000000 (m.drop (i+1))-val 1000000000 (o.drop i)-c+1000000000*1000000000^r):=by
   intro d c' y d0 d1 c0 c1 hd hv;rw[T8 _ _ (by simp;omega)];simp only[sb];obtain⟨t,e1,e2,e3,e4⟩:=Dr2 hm ho hle hb r (i+1) k c' (acc++[d]) (by omega) (by omega) c0 c1 (by simp;omega);refine⟨d::t,by rw[e1];simp,E1.2 ⟨⟨d0,d1⟩,e2⟩,by simp;omega,?_⟩;rw[Cb8,hv];rcases e4 with e4|e4
   .left;rw[e4];omega
   .right;rw[e4];omega
  by_cases hio:i<o.length
  .obtain⟨b1,b2⟩:=An6 ho hio;rw[dlt hio,C3 (l:=o) hio];simp only[cond_true,sb];rw[E3 (i:=o[i]) (by omega) (by omega),E3 (i:=m[i]-c-o[i]) (by omega) (by omega)];by_cases hn:m[i]-c-o[i]<0
   .rw[dT_ hn];simp only[cond_true];rw[E3 (by omega) (by omega),An7 (by omega) (by omega)];exact key _ 1 o[i] (by omega) (by omega) (by omega) (by omega) (by omega) (Af5 hio)
   .rw[dF_ hn];simp only[cond_false];rw[An7 (by omega) (by omega)];exact key _ 0 o[i] (by omega) (by omega) (by omega) (by omega) (by omega) (Af5 hio)
  .have hv:val 1000000000 (o.drop i)=0+1000000000*val 1000000000 (o.drop (i+1)):=by rw[N8 (by omega:o.length<=i),N8 (by omega:o.length<=i+1)];rfl
   rw[dge (by omega)];simp only[cond_false];by_cases hn:m[i]-c<0
   .rw[dT_ hn];simp only[cond_true];rw[E3 (by omega) (by omega),An7 (by omega) (by omega)];exact key _ 1 0 (by omega) (by omega) (by omega) (by omega) (by omega) hv
   .rw[dF_ hn];simp only[cond_false];rw[An7 (by omega) (by omega)];exact key _ 0 0 (by omega) (by omega) (by omega) (by omega) (by omega) hv
theorem Cs0{fuel:Nat}{m o:List Int}(hm:dig 1000000000 m)(ho:dig 1000000000 o)(hle:o.length<=m.length)(hb:m.length<=1073741824)(hv:val 1000000000 o<=val 1000000000 m)(hf:m.length<fuel):
 ∃t,Ev0 fuel m o=some t/\dig 1000000000 t/\t.length=m.length/\val 1000000000 t=val 1000000000 m-val 1000000000 o:=by
 unfold Ev0;rw[length_map,Eg2 (by omega) (by omega)];simp only[sb];obtain⟨t,e1,e2,e3,e4⟩:=Dr2 hm ho hle hb m.length 0 fuel 0 [] (by omega) hf (by omega) (by omega) rfl;rw[drop_zero,drop_zero]at e4;refine⟨t,e1,e2,e3,?_⟩;rcases e4 with e4|e4
 .omega
 .have:=An4 (show(0:Int)<1000000000 by decide) e2;rw[e3]at this;omega
def ln(n:Int):Nat:=(dg 1000000000 (n.natAbs:Int)).length
theorem Ce5(n:Int):dig 1000000000 (dg 1000000000 (n.natAbs:Int)):=H1 hB1 _ (by omega)
theorem Cx5(n:Int):val 1000000000 (dg 1000000000 (n.natAbs:Int))=(n.natAbs:Int):=I8 hB1 _ (by omega)
theorem Dv9{a:Int}:Et3 (W a)=some (N7 a 0):=by
 unfold Et3;show(bif (((dg 1000000000 (a.natAbs:Int)).map A6).length:Int)==0 then some 0 else bif decide (a<0) then some (-1) else some 1)=_;by_cases h:a=0
 .subst h;rfl
 .have:((((dg 1000000000 (a.natAbs:Int)).map A6).length:Int)==0)=false:=by
   rw[length_map];have:=Be7 hB1 (show 0<(a.natAbs:Int) by omega);have:=as_.2 this;simp;omega
  rw[this];simp only[cond_false];by_cases hn:a<0
  .rw[dT_ hn,D4 hn];rfl
  .rw[dF_ hn,D6 (by omega)];rfl
theorem Fr8{fuel:Nat}{a b:Int}(ha:ln a<=1073741820)(hb:ln b<=1073741820)(hf:ln a+ln b+2<fuel):Et4 fuel (W a) (W b)=some (W (a+b)):=by
 unfold ln at ha hb hf;have va:=Cx5 a;have vb:=Cx5 b;have da:=Ce5 a;have db:=Ce5 b;unfold Et4;show(bif decide (a<0)==decide (b<0) then Option.bind (Fm5 fuel (dg 1000000000 (a.natAbs:Int)) (dg 1000000000 (b.natAbs:Int))) (fun y1=>Option.bind (Be1 fuel (decide (a<0)) y1) fun y2=>some y2) else
  (Dz1 fuel (dg 1000000000 (a.natAbs:Int)) (dg 1000000000 (b.natAbs:Int))).bind fun y3=>bif decide (y3<0) then Option.bind (Ev0 fuel (dg 1000000000 (b.natAbs:Int)) (dg 1000000000 (a.natAbs:Int))) (fun y4=>Option.bind (Be1 fuel (decide (b<0)) y4) fun y5=>some y5) else
   (Ev0 fuel (dg 1000000000 (a.natAbs:Int)) (dg 1000000000 (b.natAbs:Int))).bind fun y6=>Option.bind (Be1 fuel (decide (a<0)) y6) fun y7=>some y7)=_
 by_cases hs:decide (a<0)=decide (b<0)
 .rw[hs];simp only[beq_self_eq_true,cond_true];obtain⟨t,e1,e2,e3,e4⟩:=Ff9 da db (by omega) (by omega) (show _<fuel by omega);rw[e1,sb,P3 e2 (by omega) (by omega),sb,e4,va,vb];congr 2;have hs:a<0↔b<0:=by simpa using hs
  unfold sg;by_cases h:b<0
  .rw[dT_ h];simp only[cond_true];omega
  .rw[dF_ h];simp only[cond_false];omega
 .have:(decide (a<0)==decide (b<0))=false:=by simpa using hs
  rw[this];have hs:¬(a<0↔b<0):=by simpa using hs
  simp only[cond_false];rw[Ae0 (by omega) (by omega) (by omega) (by omega) (by omega),sb];by_cases hc:(a.natAbs:Int)<(b.natAbs:Int)
  .rw[D4 hc];simp only[show decide ((-1:Int)<0)=true from rfl,cond_true];have hlen:(dg 1000000000 (a.natAbs:Int)).length<=(dg 1000000000 (b.natAbs:Int)).length:=by
    rcases bc_ (dg 1000000000 (b.natAbs:Int)).length (dg 1000000000 (a.natAbs:Int)).length with h|h
    .have:=K0 hB1 (show 0<=(b.natAbs:Int) by omega) (show 0<=(a.natAbs:Int) by omega) h;omega
    .exact h
   obtain⟨t,e1,e2,e3,e4⟩:=Cs0 db da hlen (by omega) (by rw[va,vb];omega) (show _<fuel by omega);rw[e1,sb,P3 e2 (by omega) (by omega),sb,e4,va,vb];congr 2;unfold sg;by_cases h:b<0
   .rw[dT_ h];simp only[cond_true];omega
   .rw[dF_ h];simp only[cond_false];omega
  .have h0:decide (N7 (a.natAbs:Int) (b.natAbs:Int)<0)=false:=by
    apply dF_;unfold N7;rw[if_neg hc];split<;>omega
   rw[h0];simp only[cond_false];have hlen:(dg 1000000000 (b.natAbs:Int)).length<=(dg 1000000000 (a.natAbs:Int)).length:=by
    rcases bc_ (dg 1000000000 (a.natAbs:Int)).length (dg 1000000000 (b.natAbs:Int)).length with h|h
    .have:=K0 hB1 (show 0<=(a.natAbs:Int) by omega) (show 0<=(b.natAbs:Int) by omega) h;omega
    .exact h
   obtain⟨t,e1,e2,e3,e4⟩:=Cs0 da db hlen (by omega) (by rw[va,vb];omega) (show _<fuel by omega);rw[e1,sb,P3 e2 (by omega) (by omega),sb,e4,va,vb];congr 2;unfold sg;by_cases h:a<0
   .rw[dT_ h];simp only[cond_true];omega
   .rw[dF_ h];simp only[cond_false];omega
theorem Cl2{fuel:Nat}{a b:Int}(ha:ln a<=1073741820)(hb:ln b<=1073741820)(hf:ln a+ln b<fuel):Dy9 fuel (W a) (W b)=some (N7 a b):=by
 unfold ln at ha hb hf;unfold Dy9;simp only[Dv9,sb,Co9,Gc1];by_cases hs:N7 a 0=N7 b 0
 .rw[dF_ (by simpa using hs)];simp only[cond_false];show(bif (((dg 1000000000 (a.natAbs:Int)).map A6).length:Int)==0 then some (N7 (N7 a 0) (N7 b 0)) else bif decide (a<0) then Option.bind (Dz1 fuel (dg 1000000000 (b.natAbs:Int)) (dg 1000000000 (a.natAbs:Int))) (fun y4=>some y4) else (Dz1 fuel (dg 1000000000 (a.natAbs:Int)) (dg 1000000000 (b.natAbs:Int))).bind fun y5=>some y5)=_;by_cases h:a=0
  .subst h;rw[I0]at hs;have:=En3.1 hs.symm;subst this;rfl
  .have hl:((((dg 1000000000 (a.natAbs:Int)).map A6).length:Int)==0)=false:=by
    rw[length_map];have:=Be7 hB1 (show 0<(a.natAbs:Int) by omega);have:=as_.2 this;simp;omega
   rw[hl];simp only[cond_false];by_cases hn:a<0
   .rw[dT_ hn];simp only[cond_true];have hb':b<0:=by
     rw[D4 hn]at hs;rcases bk_ b 0 with h|h|h
     .exact h
     .rw[h,I0]at hs;omega
     .rw[D6 h]at hs;omega
    rw[Ae0 (by omega) (by omega) (by omega) (by omega) (by omega),sb,show((b.natAbs:Nat):Int)= -b by omega,show((a.natAbs:Nat):Int)= -a by omega,Co8]
   .rw[dF_ hn];simp only[cond_false];have hb':0<b:=by
     rw[D6 (by omega)]at hs;rcases bk_ b 0 with h|h|h
     .rw[D4 h]at hs;omega
     .rw[h,I0]at hs;omega
     .exact h
    rw[Ae0 (by omega) (by omega) (by omega) (by omega) (by omega),sb,show((b.natAbs:Nat):Int)=b by omega,show((a.natAbs:Nat):Int)=a by omega]
 .rw[dT_ hs];simp only[cond_true];rcases bk_ a 0 with h|h|h<;>rcases bk_ b 0 with h'|h'|h'<;>first|(rw[D4 h,D4 h']at hs;exact absurd rfl hs)|(rw[D6 h,D6 h']at hs;exact absurd rfl hs)|(subst h;subst h';exact absurd rfl hs)|skip
  .rw[D4 h,h',I0,D4 h];rfl
  .rw[D4 h,D6 h',D4 (show(-1:Int)<1 by omega),D4 (show a<b by omega)];rfl
  .rw[h,I0,D4 h',D6 h'];rfl
  .rw[h,I0,D6 h',D4 h'];rfl
  .rw[D6 h,D4 h',D6 (show(-1:Int)<1 by omega),D6 (show b<a by omega)];rfl
  .rw[D6 h,h',I0,D6 h];rfl
end
section
theorem Dr7{x y X Y:Int}(h0:0<=x)(h1:x<X)(h2:0<=y)(h3:y<Y):0<=x*y/\x*y<=(X-1)*(Y-1):=by
 refine⟨bo_ h0 h2,?_⟩;have a:=ae_ (show x<=X-1 by omega) h2;have b:=ar_ (show y<=Y-1 by omega) (show 0<=X-1 by omega);omega
theorem By6{x y:Int}(h0:0<=x)(h1:x<1000000000)(h2:0<=y)(h3:y<1000000000):0<=x*y/\x*y<=999999998000000001:=by
 have:=Dr7 h0 h1 h2 h3;omega
theorem Cu4{m:List Int}{y:Int}(hm:dig 1000000000 m)(hb:m.length<=1073741824)(y0:0<=y)(y1:y<1000000000):∀(r i k:Nat) (c:Int) (acc:List Int),i+r=m.length->r<k->0<=c->c<1000000000->acc.length=i->
 ∃t,Ab1 m y k c (i:Int) acc=some (acc++t)/\dig 1000000000 t/\t.length=r+1/\val 1000000000 t=val 1000000000 (m.drop i)*y+c
 |0,i,0,_,_,_,h,_,_,_=>absurd h (by omega)
 |r+1,i,0,_,_,_,h,_,_,_=>absurd h (by omega)
 |0,i,k+1,c,acc,hi,_,h0,h1,ha=>by
  unfold Ab1;rw[dge (by omega),N8 (by omega:m.length<=i)];simp only[cond_false];rw[An7 h0 (by omega),T8 _ _ (by simp;omega)];exact⟨[c],rfl,E1.2 ⟨⟨h0,h1⟩,J2⟩,rfl,by simp[val]⟩
 |r+1,i,k+1,c,acc,hi,hk,h0,h1,ha=>by
  unfold Ab1;obtain⟨a1,a2⟩:=An6 hm (show i<m.length by omega);obtain⟨p1,p2⟩:=By6 a1 a2 y0 y1;rw[dlt (by omega),C3 (l:=m) (by omega),Af5 (l:=m) (by omega)];simp only[cond_true,sb];rw[N6 (i:=m[i]) (by omega) (by omega),N6 (i:=y) (by omega) (by omega),N6 (i:=m[i]*y) (by omega) (by omega),N6 (i:=m[i]*y+c) (by omega) (by omega),wi i (by omega),(tdm (show 0<=m[i]*y+c by omega)).1,(tdm (show 0<=m[i]*y+c by omega)).2,An7 (by omega) (by omega),N6 (by omega) (by omega),T8 _ _ (by simp;omega)];simp only[sb];obtain⟨t,e1,e2,e3,e4⟩:=Cu4 hm hb y0 y1 r (i+1) k ((m[i]*y+c)/1000000000) (acc++[(m[i]*y+c)%1000000000]) (by omega) (by omega) (by omega) (by omega) (by simp;omega);refine⟨(m[i]*y+c)%1000000000::t,by rw[e1];simp,E1.2 ⟨⟨by omega,by omega⟩,e2⟩,by simp;omega,?_⟩;rw[Cb8,e4,Int.add_mul,Int.mul_assoc];omega
theorem Ca7{fuel:Nat}{m:List Int}{y:Int}(hm:dig 1000000000 m)(hb:m.length<=1073741824)(y0:0<=y)(y1:y<1000000000)(hf:m.length<fuel):
 ∃t,Ex3 fuel m y=some t/\dig 1000000000 t/\t.length=m.length+1/\val 1000000000 t=val 1000000000 m*y:=by
 unfold Ex3;rw[length_map,E3 (by omega) (by omega),Eg2 (by omega) (by omega)];simp only[sb];obtain⟨t,e1,e2,e3,e4⟩:=Cu4 hm hb y0 y1 m.length 0 fuel 0 [] (by omega) hf (by omega) (by omega) rfl;rw[drop_zero]at e4;exact⟨t,e1,e2,e3,by omega⟩
theorem Cu5:∀(m:List Int) (y:Int) (k:Nat),Aj4 m y k=Ab1 m y k
 |m,y,0=>by funext c i acc;rfl
 |m,y,k+1=>by
  funext c i acc;unfold Aj4 Ab1;rw[Cu5 m y k]
theorem Db2{fuel:Nat}{m:List Int}{y:Int}:Ea9 fuel m y=Ex3 fuel m y:=by
 unfold Ea9 Ex3;rw[Cu5]
def Bf2(m:List Int):Nat->List (Int×Int)
 |0=>[]
 |i+1=>((i:Nat),m.getD i 0)::Bf2 m i
theorem Em9{m:List Int}(hb:m.length<=2147483648):∀(i k:Nat),i<=m.length->i<k->Ap5 m k ((i:Int)-1)=some (Bf2 m i)
 |0,0,_,h=>absurd h (by omega)
 |i+1,0,_,h=>absurd h (by omega)
 |0,k+1,_,_=>by
  unfold Ap5;rfl
 |i+1,k+1,hi,hk=>by
  unfold Ap5;rw[show(((i+1:Nat):Int)-1)=(i:Int) by omega,dT_ (show(i:Int)>=0 by omega),C3 (l:=m) (by omega),wip i (by omega)];simp only[cond_true,sb];rw[Em9 hb i k (by omega) (by omega)];simp only[sb,Bf2];rw[ak_,aa_ (show i<m.length by omega)];rfl
theorem Dj4{fuel:Nat}{m:List Int}(hb:m.length<=2147483648)(hf:m.length<fuel):Fk0 fuel m=some (Bf2 m m.length):=by
 unfold Fk0;rw[length_map,wip _ (by omega)];exact Em9 hb m.length fuel (ad_ _) hf
theorem Fu6{m:List Int}{i:Nat}(h:i<m.length):m.getD i 0=m[i]:=by
 rw[ak_,aa_ h];rfl
theorem Fi7{l:List Int}{i:Nat}(hi:i<l.length):val 1000000000 (l.take (i+1))=val 1000000000 (l.take i)+l[i]*1000000000^i:=Q9 hi
theorem Dv8{m:List Int}{y:Int}(hm:dig 1000000000 m)(hb:m.length<=1073741824)(y0:0<y)(y1:y<1000000000):∀(i:Nat) (rest:Int) (out:List Int),i<=m.length->out.length=m.length->0<=rest->rest<y->
 ∃q r,Ab0 y (Bf2 m i) rest out=some (q++out.drop i,r)/\dig 1000000000 q/\q.length=i/\0<=r/\r<y/\rest*1000000000^i+val 1000000000 (m.take i)=y*val 1000000000 q+r
 |0,rest,out,_,ho,r0,r1=>by
  unfold Bf2 Ab0;refine⟨[],rest,by rw[An7 r0 (by omega)];simp,J2,rfl,r0,r1,by simp[val]⟩
 |i+1,rest,out,hi,ho,r0,r1=>by
  obtain⟨a1,a2⟩:=An6 hm (show i<m.length by omega);unfold Bf2 Ab0;rw[Fu6 (by omega)];have hy:u64.wrap y=y:=N6 (by omega) (by omega);have hn0:0<=rest*1000000000+m[i]:=by omega
  have hq:(rest*1000000000+m[i])/y<1000000000:=ba_ y0 (by
   have:=ae_ (show rest+1<=y by omega) (show(0:Int)<=1000000000 by decide);rw[bf_ 1000000000 y];omega)
  have hq0:0<=(rest*1000000000+m[i])/y:=a5_ hn0 (by omega);have hr0:=a4_ (rest*1000000000+m[i]) (show y≠0 by omega);have hr1:=a2_ (rest*1000000000+m[i]) y0;have hqr:=a9_ (rest*1000000000+m[i]) y;rw[hy,D1 (by simp;omega),D1 (by simp;omega)];dsimp only;rw[C3 (l:=out) (by omega),sb,N6 (i:=rest*1000000000) (by omega) (by omega),N6 (i:=m[i]) (by omega) (by omega),N6 hn0 (by omega),(tdm hn0).1,(tdm hn0).2,N6 hq0 (by omega),An7 hq0 (by omega),sb];rw[show 0+Int.toNat (i:Int)=i by omega];obtain⟨q,r,e1,e2,e3,e4,e5,e6⟩:=Dv8 hm hb y0 y1 i ((rest*1000000000+m[i])%y) (out.set i ((rest*1000000000+m[i])/y)) (by omega) (by simpa using ho) hr0 hr1;refine⟨q++[(rest*1000000000+m[i])/y],r,?_,Ah9.2 ⟨e2,E1.2 ⟨⟨hq0,hq⟩,J2⟩⟩,by simp;omega,e4,e5,?_⟩
  .rw[e1,ai_ (show i<(out.set i ((rest*1000000000+m[i])/y)).length by simp;omega),drop_set_of_lt (by omega)];simp
  .rw[Ai7,e3,Fi7 (by omega),a3_];have hv1:val 1000000000 [(rest*1000000000+m[i])/y]=(rest*1000000000+m[i])/y:=by simp[val]
   rw[hv1];generalize (rest*1000000000+m[i])/y=Q at*;generalize (rest*1000000000+m[i])%y=R at*;generalize (1000000000:Int)^i=X at*;grind
theorem Cu6{fuel:Nat}{m:List Int}{y:Int}(hm:dig 1000000000 m)(hb:m.length<=1073741824)(y0:0<y)(y1:y<1000000000)(hf:m.length<fuel):
 ∃q,Fj7 fuel m y=some (q,val 1000000000 m%y)/\dig 1000000000 q/\q.length=m.length/\val 1000000000 q=val 1000000000 m/y:=by
 unfold Fj7 Fj9;rw[length_map,At9 (by omega),sb,sb,Dj4 (by omega) hf,sb];obtain⟨q,r,e1,e2,e3,e4,e5,e6⟩:=Dv8 hm hb y0 y1 m.length 0 (List.replicate m.length 0) (ad_ _) (by simp) (by omega) y0;rw[take_length,Int.zero_mul,c6_]at e6;have h1:val 1000000000 m%y=r:=by rw[e6,cz_];exact bd_ e4 e5
 have h2:val 1000000000 m/y=val 1000000000 q:=by rw[e6,Int.mul_add_ediv_left _ _ (by omega),bw_ e4 e5];omega
 exact⟨q,by rw[e1,h1,ag_ (by simp)];simp,e2,e3,h2.symm⟩
theorem Eq6{b:Int}{y:Int}{i:Nat}{rec_:Int->List Int->Option A5}(y0:0<=y)(y1:y<1000000000)(hb:ln b<=1073741820)(hi:i<=1073741820):∀(r j k:Nat) (c:Int) (out:List Int),j+r=ln b->r<k->0<=c->c<1000000000->dig 1000000000 out->(hl:i+ln b<out.length)->out[i+ln b]=0->
 ∃out',An8 (W b) (i:Int) y rec_ k c (j:Int) out=rec_ ((i+1:Nat):Int) out'/\dig 1000000000 out'/\out'.length=out.length/\out'.drop (i+ln b+1)=out.drop (i+ln b+1)/\val 1000000000 out'=val 1000000000 out+(y*val 1000000000 ((dg 1000000000 (b.natAbs:Int)).drop j)+c)*1000000000^(i+j)
 |0,j,0,_,_,_,h,_,_,_,_,_=>absurd h (by omega)
 |r+1,j,0,_,_,_,h,_,_,_,_,_=>absurd h (by omega)
 |0,j,k+1,c,out,hj,_,c0,c1,hd,hl,hz=>by
  unfold An8;have hlen:(W b).mag.length=ln b:=rfl;rw[dge (by omega)];simp only[cond_false];rw[length_map,hlen,E3 (i:=(i:Int)+(ln b:Int)) (by omega) (by omega),show(i:Int)+(ln b:Int)=((i+ln b:Nat):Int) by omega,C3 hl,wi i (by omega),An7 c0 (by omega)];simp only[sb];rw[show 0+Int.toNat ((i+ln b:Nat):Int)=i+ln b by omega];refine⟨_,rfl,Ai0 hd _ ⟨c0,c1⟩,by simp,by rw[drop_set_of_lt (by omega)],?_⟩;rw[Ai8 _ _ hl,hz,N8 (show(dg 1000000000 (b.natAbs:Int)).length<=j by show ln b<=j;omega),show i+j=i+ln b by omega];simp
 |r+1,j,k+1,c,out,hj,hk,c0,c1,hd,hl,hz=>by
  have hlen:(W b).mag.length=ln b:=rfl;have hjl:j<(dg 1000000000 (b.natAbs:Int)).length:=by show j<ln b;omega
  unfold An8;have hg:C2 (W b).mag (j:Int)=some (dg 1000000000 (b.natAbs:Int))[j]:=C3 hjl;rw[dlt (by omega),hg];obtain⟨a1,a2⟩:=An6 (Ce5 b) hjl;rw[Af5 hjl];generalize hxx:(dg 1000000000 (b.natAbs:Int))[j]=x at*;obtain⟨p1,p2⟩:=By6 y0 y1 a1 a2;obtain⟨o1,o2⟩:=An6 hd (show i+j<out.length by omega);simp only[cond_true,sb];rw[E3 (i:=(i:Int)+(j:Int)) (by omega) (by omega),show(i:Int)+(j:Int)=((i+j:Nat):Int) by omega,C3 (l:=out) (by omega)];simp only[sb];rw[show 0+Int.toNat ((i+j:Nat):Int)=i+j by omega,N6 (i:=y) (by omega) (by omega),N6 (i:=x) (by omega) (by omega),N6 (i:=y*x) (by omega) (by omega),N6 (i:=out[i+j]) (by omega) (by omega),N6 (i:=y*x+out[i+j]) (by omega) (by omega),N6 (i:=y*x+out[i+j]+c) (by omega) (by omega),(tdm (show 0<=y*x+out[i+j]+c by omega)).1,(tdm (show 0<=y*x+out[i+j]+c by omega)).2,An7 (by omega) (by omega),N6 (by omega) (by omega),wi j (by omega)];obtain⟨out',e1,e2,e3,e4,e5⟩:=Eq6 (rec_:=rec_) y0 y1 hb hi r (j+1) k ((y*x+out[i+j]+c)/1000000000) (out.set (i+j) ((y*x+out[i+j]+c)%1000000000)) (by omega) (by omega) (by omega) (by omega) (Ai0 hd _ ⟨by omega,by omega⟩) (by simpa using hl) (by rw[List.getElem_set_ne (by omega)];exact hz);refine⟨out',e1,e2,by simpa using e3,by rw[e4,drop_set_of_lt (by omega)],?_⟩;rw[e5,Ai8 _ _ (by omega),show i+(j+1)=i+j+1 by omega,a3_];have hqr:=a9_ (y*x+out[i+j]+c) 1000000000;generalize (y*x+out[i+j]+c)/1000000000=Q at*;generalize (y*x+out[i+j]+c)%1000000000=R at*;generalize (1000000000:Int)^(i+j)=X at*;grind
theorem Eq5{fuel:Nat}{a b:Int}(ha:ln a<=1073741820)(hb:ln b<=1073741820)(hab:ln a+ln b<=1073741820)(hf:ln a+ln b+1<fuel):∀(r i k:Nat) (out:List Int),i+r=ln a->r<k->dig 1000000000 out->out.length=ln a+ln b->out.drop (i+ln b)=List.replicate r 0->
 val 1000000000 out=val 1000000000 ((dg 1000000000 (a.natAbs:Int)).take i)*(b.natAbs:Int)->Aa0 fuel (W a) (W b) k (i:Int) out=some (W (a*b))
 |0,i,0,_,_,h,_,_,_,_=>absurd h (by omega)
 |r+1,i,0,_,_,h,_,_,_,_=>absurd h (by omega)
 |0,i,k+1,out,hi,_,hd,hl,hz,hv=>by
  have hlen:(W a).mag.length=ln a:=rfl;unfold Aa0;rw[dge (by omega)];simp only[cond_false];rw[ap_ (show(dg 1000000000 (a.natAbs:Int)).length<=i by show ln a<=i;omega),Cx5]at hv;rw[P3 hd (by omega) (by omega),sb,hv];congr 2;show sg (!(decide (a<0)==decide (b<0))) _=_;have hn:(a.natAbs:Int)*(b.natAbs:Int)=((a*b).natAbs:Int):=by rw[bm_];simp
  rw[hn];unfold sg;by_cases h1:a<0<;>by_cases h2:b<0
  .have:=cf_ h1 h2;simp[h1,h2];omega
  .have:=Int.mul_nonpos_of_nonpos_of_nonneg (show a<=0 by omega) (show 0<=b by omega);simp[h1,h2];omega
  .have:=Int.mul_nonpos_of_nonneg_of_nonpos (show 0<=a by omega) (show b<=0 by omega);simp[h1,h2];omega
  .have:=bo_ (show 0<=a by omega) (show 0<=b by omega);simp[h1,h2];omega
 |r+1,i,k+1,out,hi,hk,hd,hl,hz,hv=>by
  have hlen:(W a).mag.length=ln a:=rfl;have hil:i<(dg 1000000000 (a.natAbs:Int)).length:=by show i<ln a;omega
  unfold Aa0;have hg:C2 (W a).mag (i:Int)=some (dg 1000000000 (a.natAbs:Int))[i]:=C3 hil;rw[dlt (by omega),hg];obtain⟨a1,a2⟩:=An6 (Ce5 a) hil;simp only[cond_true,sb];have hz0:out[i+ln b]'(by omega)=0:=by
   have:=congrArg (fun l=>l[0]?) hz;simp only[getElem?_drop,Nat.add_zero]at this;rw[aa_ (by omega),List.getElem?_replicate,if_pos (by omega)]at this;exact ax_ this
  obtain⟨out',e1,e2,e3,e4,e5⟩:=Eq6 (rec_:=Aa0 fuel (W a) (W b) k) a1 a2 hb (by omega:i<=1073741820) (ln b) 0 fuel 0 out (by omega) (by omega) (by omega) (by omega) hd (by omega) hz0;rw[show((0:Nat):Int)=(0:Int) from rfl]at e1;rw[e1];refine Eq5 ha hb hab hf r (i+1) k out' (by omega) (by omega) e2 (by omega) ?_ ?_
  .rw[show i+1+ln b=i+ln b+1 by omega,e4,<-az_ (i:=1),hz];simp
  .rw[e5,hv,Fi7 hil,drop_zero,Cx5,Nat.add_zero,c7_];generalize (1000000000:Int)^i=X at*;grind
theorem Bb4{fuel:Nat}{a b:Int}(hab:ln a+ln b<=1073741820)(hf:ln a+ln b+1<fuel):Br7 fuel (W a) (W b)=some (W (a*b)):=by
 have h1:(W a).mag.length=ln a:=rfl;have h2:(W b).mag.length=ln b:=rfl;unfold Br7;rw[length_map,length_map,h1,h2,E3 (by omega) (by omega),show(ln a:Int)+(ln b:Int)=((ln a+ln b:Nat):Int) by omega,At9 (by omega),sb];exact Eq5 (by omega) (by omega) hab hf (ln a) 0 fuel _ (by omega) (by omega) (Ak1 (by decide) _) (by simp) (by rw[drop_replicate];congr 1;omega) (by rw[An5];simp[val])
end
section
theorem Bw9{l:List Int}{p i:Nat}(h:p+i<l.length):C2 (l.drop p) (i:Int)=some l[p+i]:=by
 rw[D3,getElem?_drop,aa_ h]
theorem Eq1{p:Nat}{o:List Int}{t:Int}(ho:dig 1000000000 o)(t0:0<=t)(t1:t<1000000000)(hb:o.length<=1073741824):∀(r i k:Nat) (c bo:Int) (l:List Int),i+r=o.length+1->r<k->0<=c->c<1000000000->(r=0->c=0)->(bo=0\/bo=1)->dig 1000000000 l->p+o.length<l.length->
 ∃l' bo',Q2 p o t k c bo (i:Int) l=some (decide (bo'>0),l')/\dig 1000000000 l'/\l'.length=l.length/\l'.take p=l.take p/\l'.drop (p+o.length+1)=l.drop (p+o.length+1)/\(bo'=0\/bo'=1)/\val 1000000000 l'=val 1000000000 l-(t*val 1000000000 (o.drop i)+c+bo)*1000000000^(p+i)+bo'*1000000000^(p+o.length+1)
 |0,i,0,_,_,_,_,h,_,_,_,_,_,_=>absurd h (by omega)
 |r+1,i,0,_,_,_,_,h,_,_,_,_,_,_=>absurd h (by omega)
 |0,i,k+1,c,bo,l,hi,_,c0,c1,hc,hbo,hd,hl=>by
  unfold Q2;rw[length_map,E3 (i:=(o.length:Int)+1) (by omega) (by omega),dF_ (by omega)];simp only[cond_false];refine⟨l,bo,rfl,hd,rfl,rfl,rfl,hbo,?_⟩;rw[N8 (by omega:o.length<=i),hc rfl,show p+i=p+o.length+1 by omega];simp
 |r+1,i,k+1,c,bo,l,hi,hk,c0,c1,hc,hbo,hd,hl=>by
  have hb0:0<=bo/\bo<=1:=by omega
  obtain⟨x0,x1⟩:=An6 hd (show p+i<l.length by omega);have hset:∀z:Int,(l.set (0+p+i) z)=l.set (p+i) z:=fun z=>by rw[Nat.zero_add]
  have step:∀(N Y c':Int),0<=N->N/1000000000<1000000000->(r=0->N/1000000000=0)->c'=N/1000000000->t*val 1000000000 (o.drop i)+c=N+1000000000*(t*val 1000000000 (o.drop (i+1)))->Y=N%1000000000->
   ∃l' bo',(bif decide (l[p+i]-Y-bo<0) then Option.bind (some (l.set (p+i) (l[p+i]-Y-bo+1000000000))) (fun l11=>Q2 p o t k c' 1 ((i+1:Nat):Int) l11) else Option.bind (some (l.set (p+i) (l[p+i]-Y-bo))) (fun l12=>Q2 p o t k c' 0 ((i+1:Nat):Int) l12))=some (decide (bo'>0),l')/\dig 1000000000 l'/\l'.length=l.length/\l'.take p=l.take p/\l'.drop (p+o.length+1)=l.drop (p+o.length+1)/\(bo'=0\/bo'=1)/\val 1000000000 l'=val 1000000000 l-(t*val 1000000000 (o.drop i)+c+bo)*1000000000^(p+i)+bo'*1000000000^(p+o.length+1):=by
   intro N Y c' hN hN1 hN2 hc' hv hY;have hq:=a9_ N 1000000000;have hY0:0<=Y:=by omega
   have hY1:Y<1000000000:=by omega
   have fin:∀(z b1:Int),0<=z->z<1000000000->(b1=0\/b1=1)->z=l[p+i]-Y-bo+1000000000*b1->∃l' bo',Option.bind (some (l.set (p+i) z)) (fun l11=>Q2 p o t k c' b1 ((i+1:Nat):Int) l11)=some (decide (bo'>0),l')/\dig 1000000000 l'/\l'.length=l.length/\l'.take p=l.take p/\l'.drop (p+o.length+1)=l.drop (p+o.length+1)/\(bo'=0\/bo'=1)/\val 1000000000 l'=val 1000000000 l-(t*val 1000000000 (o.drop i)+c+bo)*1000000000^(p+i)+bo'*1000000000^(p+o.length+1):=by
    intro z b1 z0 z1 hb1 hz;obtain⟨l',bo',e1,e2,e3,e4,e5,e6,e7⟩:=Eq1 ho t0 t1 hb r (i+1) k c' b1 (l.set (p+i) z) (by omega) (by omega) (by omega) (by omega) (fun h=>by rw[hc'];exact hN2 h) hb1 (Ai0 hd _ ⟨z0,z1⟩) (by simpa using hl);refine⟨l',bo',e1,e2,by simpa using e3,by rw[e4,take_set_of_le (by omega)],by rw[e5,drop_set_of_lt (by omega)],e6,?_⟩;rw[e7,Ai8 _ _ (by omega),show p+(i+1)=p+i+1 by omega,a3_,hv,hz,hc',hY];generalize N/1000000000=Q at*;generalize N%1000000000=R at*;generalize (1000000000:Int)^(p+i)=X at*;generalize bo'*1000000000^(p+o.length+1)=Z at*;grind
   by_cases hn:l[p+i]-Y-bo<0
   .rw[dT_ hn];exact fin _ 1 (by omega) (by omega) (.inr rfl) (by omega)
   .rw[dF_ hn];exact fin _ 0 (by omega) (by omega) (.inl rfl) (by omega)
  unfold Q2;rw[length_map,E3 (i:=(o.length:Int)+1) (by omega) (by omega),dT_ (by omega)];simp only[cond_true];rw[Bw9 (by omega),wi i (by omega)];simp only[sb];rw[show p+Int.toNat (i:Int)=p+i by omega,E3 (i:=l[p+i]) (by omega) (by omega)];by_cases hio:i<o.length
  .obtain⟨y0,y1⟩:=An6 ho hio;obtain⟨p1,p2⟩:=By6 t0 t1 y0 y1;rw[dT_ (by omega),C3 hio];simp only[cond_true,sb];rw[N6 (i:=o[i]) (by omega) (by omega),N6 (i:=t*o[i]) (by omega) (by omega),N6 (i:=c+t*o[i]) (by omega) (by omega),(tdm (show 0<=c+t*o[i] by omega)).1,(tdm (show 0<=c+t*o[i] by omega)).2,N6 (i:=(c+t*o[i])/1000000000) (by omega) (by omega),E3 (i:=(c+t*o[i])%1000000000) (by omega) (by omega),E3 (i:=l[p+i]-(c+t*o[i])%1000000000) (by omega) (by omega),E3 (i:=l[p+i]-(c+t*o[i])%1000000000-bo) (by omega) (by omega)];have hx:∀z:Int,-9223372036854775808<=z->z<9223372036854775808->i64.wrap z=z:=fun z h h'=>E3 h h'
   have hstep:=step (c+t*o[i]) _ _ (by omega) (by omega) (fun h=>by omega) rfl (by rw[Af5 hio,Int.mul_add];grind) rfl;by_cases hn:l[p+i]-(c+t*o[i])%1000000000-bo<0
   .rw[dT_ hn]at hstep⊢;simp only[cond_true]at hstep⊢;rw[E3 (by omega) (by omega),An7 (by omega) (by omega)];exact hstep
   .rw[dF_ hn]at hstep⊢;simp only[cond_false]at hstep⊢;rw[An7 (by omega) (by omega)];exact hstep
  .rw[dF_ (by omega)];simp only[cond_false];rw[(tdm c0).1,(tdm c0).2,N6 (i:=c/1000000000) (by omega) (by omega),E3 (i:=c%1000000000) (by omega) (by omega),E3 (i:=l[p+i]-c%1000000000) (by omega) (by omega),E3 (i:=l[p+i]-c%1000000000-bo) (by omega) (by omega)];have hstep:=step c _ _ (by omega) (by omega) (fun h=>by omega) rfl (by rw[N8 (by omega:o.length<=i),N8 (by omega:o.length<=i+1)];omega) rfl;by_cases hn:l[p+i]-c%1000000000-bo<0
   .rw[dT_ hn]at hstep⊢;simp only[cond_true]at hstep⊢;rw[E3 (by omega) (by omega),An7 (by omega) (by omega)];exact hstep
   .rw[dF_ hn]at hstep⊢;simp only[cond_false]at hstep⊢;rw[An7 (by omega) (by omega)];exact hstep
theorem Ep0{p:Nat}{o:List Int}(ho:dig 1000000000 o)(hb:o.length<=1073741824):∀(r i k:Nat) (c:Int) (l:List Int),i+r=o.length+1->r<k->(c=0\/c=1)->dig 1000000000 l->p+o.length<l.length->
 ∃l' c',Ab2 p o k c (i:Int) l=some l'/\dig 1000000000 l'/\l'.length=l.length/\l'.take p=l.take p/\l'.drop (p+o.length+1)=l.drop (p+o.length+1)/\(c'=0\/c'=1)/\val 1000000000 l'=val 1000000000 l+(val 1000000000 (o.drop i)+c)*1000000000^(p+i)-c'*1000000000^(p+o.length+1)
 |0,i,0,_,_,_,h,_,_,_=>absurd h (by omega)
 |r+1,i,0,_,_,_,h,_,_,_=>absurd h (by omega)
 |0,i,k+1,c,l,hi,_,hc,hd,hl=>by
  unfold Ab2;rw[length_map,E3 (i:=(o.length:Int)+1) (by omega) (by omega),dF_ (by omega)];simp only[cond_false];refine⟨l,c,rfl,hd,rfl,rfl,rfl,hc,?_⟩;rw[N8 (by omega:o.length<=i),show p+i=p+o.length+1 by omega,c6_];omega
 |r+1,i,k+1,c,l,hi,hk,hc,hd,hl=>by
  obtain⟨x0,x1⟩:=An6 hd (show p+i<l.length by omega);have step:∀(y:Int),0<=y->y<1000000000->val 1000000000 (o.drop i)=y+1000000000*val 1000000000 (o.drop (i+1))->
   ∃l' c',Ab2 p o k ((l[p+i]+c+y)/1000000000) ((i+1:Nat):Int) (l.set (p+i) ((l[p+i]+c+y)%1000000000))=some l'/\dig 1000000000 l'/\l'.length=l.length/\l'.take p=l.take p/\l'.drop (p+o.length+1)=l.drop (p+o.length+1)/\(c'=0\/c'=1)/\val 1000000000 l'=val 1000000000 l+(val 1000000000 (o.drop i)+c)*1000000000^(p+i)-c'*1000000000^(p+o.length+1):=by
   intro y y0 y1 hv;obtain⟨l',c',e1,e2,e3,e4,e5,e6,e7⟩:=Ep0 ho hb r (i+1) k ((l[p+i]+c+y)/1000000000) (l.set (p+i) ((l[p+i]+c+y)%1000000000)) (by omega) (by omega) (by omega) (Ai0 hd _ ⟨by omega,by omega⟩) (by simpa using hl);refine⟨l',c',e1,e2,by simpa using e3,by rw[e4,take_set_of_le (by omega)],by rw[e5,drop_set_of_lt (by omega)],e6,?_⟩;have hq:=a9_ (l[p+i]+c+y) 1000000000;rw[e7,Ai8 _ _ (by omega),show p+(i+1)=p+i+1 by omega,a3_,hv];generalize (l[p+i]+c+y)/1000000000=Q at*;generalize (l[p+i]+c+y)%1000000000=R at*;generalize (1000000000:Int)^(p+i)=X at*;generalize c'*1000000000^(p+o.length+1)=Z at*;grind
  unfold Ab2;rw[length_map,E3 (i:=(o.length:Int)+1) (by omega) (by omega),dT_ (by omega)];simp only[cond_true];rw[Bw9 (by omega),wi i (by omega)];simp only[sb];rw[show p+Int.toNat (i:Int)=p+i by omega,An7 (i:=l[p+i]+c) (by omega) (by omega)];by_cases hio:i<o.length
  .obtain⟨y0,y1⟩:=An6 ho hio;rw[dT_ (by omega),C3 hio];simp only[cond_true,sb];rw[An7 (i:=l[p+i]+c+o[i]) (by omega) (by omega),(tdm (show 0<=l[p+i]+c+o[i] by omega)).1,(tdm (show 0<=l[p+i]+c+o[i] by omega)).2,An7 (by omega) (by omega)];exact step _ y0 y1 (Af5 hio)
  .rw[dF_ (by omega)];simp only[cond_false];rw[(tdm (show 0<=l[p+i]+c by omega)).1,(tdm (show 0<=l[p+i]+c by omega)).2,An7 (by omega) (by omega)];have:=step 0 (by omega) (by omega) (by rw[N8 (by omega:o.length<=i),N8 (by omega:o.length<=i+1)];rfl);rw[c7_]at this;exact this
theorem Fe1{fuel p:Nat}{o l:List Int}{t:Int}(ho:dig 1000000000 o)(t0:0<=t)(t1:t<1000000000)(hb:o.length<=1073741824)(hd:dig 1000000000 l)(hl:p+o.length<l.length)(hf:o.length+1<fuel):
 ∃l' bo',Fj8 fuel p o t l=some (decide (bo'>0),l')/\dig 1000000000 l'/\l'.length=l.length/\l'.take p=l.take p/\l'.drop (p+o.length+1)=l.drop (p+o.length+1)/\(bo'=0\/bo'=1)/\val 1000000000 l'=val 1000000000 l-t*val 1000000000 o*1000000000^p+bo'*1000000000^(p+o.length+1):=by
 have:=Eq1 ho t0 t1 hb (o.length+1) 0 fuel 0 0 l (by omega) hf (by omega) (by omega) (fun _=>rfl) (.inl rfl) hd hl;rw[drop_zero]at this;unfold Fj8;simpa using this
theorem Fd2{fuel p:Nat}{o l:List Int}(ho:dig 1000000000 o)(hb:o.length<=1073741824)(hd:dig 1000000000 l)(hl:p+o.length<l.length)(hf:o.length+1<fuel):
 ∃l' c',Fn5 fuel p o l=some l'/\dig 1000000000 l'/\l'.length=l.length/\l'.take p=l.take p/\l'.drop (p+o.length+1)=l.drop (p+o.length+1)/\(c'=0\/c'=1)/\val 1000000000 l'=val 1000000000 l+val 1000000000 o*1000000000^p-c'*1000000000^(p+o.length+1):=by
 have:=Ep0 ho hb (o.length+1) 0 fuel 0 l (by omega) hf (.inl rfl) hd hl;rw[drop_zero]at this;unfold Fn5;simpa using this
end
section
theorem Ef1{A b T3 al bl X g h:Int}(hA:A=T3*X+al)(hb:b=h*X+bl)(hX:0<X)(al0:0<=al)(_:al<X)(bl0:0<=bl)(bl1:bl<X)(g0:0<=g)(g1:g<1000000000)(hh:1000000000<=h)(he:g*h<=T3):g<=A/b+1:=by
 have hb0:0<b:=by
  have:=ae_ (show 1<=h by omega) (aj_ hX);omega
 have h1:(g-1)*b<=A:=by
  have e1:=ae_ he (aj_ hX);have e2:=ar_ (aj_ bl1) g0;have e3:=ae_ (show g<=h by omega) (aj_ hX);have e4:(g-1)*b=g*h*X+g*bl-b:=by rw[hb];grind
  omega
 have:=ce_ hb0 h1;omega
theorem Ef2{A b T3 al bl X g h:Int}(hA:A=T3*X+al)(hb:b=h*X+bl)(hX:0<X)(al1:al<X)(bl0:0<=bl)(g0:0<=g)(hb0:0<b)(he:T3<g*h):A/b<g:=by
 have h1:A<g*b:=by
  have e1:=ae_ (show T3+1<=g*h by omega) (aj_ hX);have e2:=bo_ g0 bl0;have e3:g*b=g*h*X+g*bl:=by rw[hb];grind
  have e4:(T3+1)*X=T3*X+X:=by grind
  omega
 exact ba_ hb0 h1
theorem Ba4{A b top al2 Y b1:Int}(hA:A=top*Y+al2)(al1:al2<Y)(hY:0<Y)(hb:b1*Y<=b)(hb1:0<b1)(hA0:0<=A):A/b<=top/b1:=by
 have hb0:0<b:=by
  have:=ae_ (show 1<=b1 by omega) (aj_ hY);omega
 have hq:=co_ A (show b≠0 by omega);have hq0:0<=A/b:=a5_ hA0 (by omega);generalize A/b=Q at*;refine ce_ hb1 ?_;have e1:=ar_ hb hq0;have e2:Q*(b1*Y)=Q*b1*Y:=by grind
 by_cases h:Q*b1<=top
 .exact h
 .exfalso;have e3:=ae_ (show top+1<=Q*b1 by omega) (aj_ hY);have e4:(top+1)*Y=top*Y+Y:=by grind
  omega
theorem An3(l:List Int)(i:Nat)(h:i<=l.length):val 1000000000 l=val 1000000000 (l.take i)+1000000000^i*val 1000000000 (l.drop i):=T4 l i h
theorem vlt{l:List Int}(h:dig 1000000000 l):val 1000000000 l<1000000000^l.length:=An4 (by decide) h
theorem vnn{l:List Int}(h:dig 1000000000 l):0<=val 1000000000 l:=M3 (by decide) h
theorem p9(n:Nat):(0:Int)<1000000000^n:=Q7 (by decide) n
theorem vtl{l:List Int}(h:dig 1000000000 l)(i:Nat)(hi:i<=l.length):val 1000000000 (l.take i)<1000000000^i:=by
 have:=vlt (F2 h i)
 rwa [length_take,bv_ hi]at this
theorem Bq8{l:List Int}(h:dig 1000000000 l){n:Nat}(hn:n<=l.length)(hv:val 1000000000 l<1000000000^n):val 1000000000 (l.drop n)=0:=by
 rw[An3 l n hn]at hv;have h1:=vnn (F2 h n);have h2:=vnn (L5 h n);by_cases h0:val 1000000000 (l.drop n)=0
 .exact h0
 .exfalso;have:=ar_ (show 1<=val 1000000000 (l.drop n) by omega) (aj_ (p9 n));omega
theorem Fw5{al bl:List Int}{i:Nat}(ha:dig 1000000000 al)(hb:dig 1000000000 bl)(hn:2<=bl.length)(hi:i+bl.length<al.length)(hA:val 1000000000 (al.drop (i+1))<val 1000000000 bl):
 ∃X lo lob:Int,0<X/\0<=lo/\lo<X/\0<=lob/\lob<X/\val 1000000000 bl=(bl[bl.length-1]*1000000000+bl[bl.length-2])*X+lob/\
  val 1000000000 (al.drop i)=((al[i+bl.length]*1000000000+al[i+bl.length-1])*1000000000+al[i+bl.length-2])*X+lo/\
  val 1000000000 (al.drop (i+bl.length+1))=0/\val 1000000000 (al.drop i)<val 1000000000 bl*1000000000:=by
 have hz:val 1000000000 (al.drop (i+bl.length+1))=0:=by
  have:=Bq8 (L5 ha (i+1)) (n:=bl.length) (by rw[length_drop];omega) (Int.lt_trans hA (vlt hb))
  rwa [az_,show i+1+bl.length=i+bl.length+1 by omega]at this
 refine⟨1000000000^(bl.length-2),val 1000000000 ((al.drop i).take (bl.length-2)),val 1000000000 (bl.take (bl.length-2)),p9 _,vnn (F2 (L5 ha i) _),vtl (L5 ha i) _ (by rw[length_drop];omega),vnn (F2 hb _),vtl hb _ (by omega),?_,?_,hz,?_⟩
 .have e1:=An3 bl (bl.length-2) (by omega);have e2:=Af5 (l:=bl) (i:=bl.length-2) (by omega);have e3:=Af5 (l:=bl) (i:=bl.length-2+1) (by omega);have e4:=N8 (l:=bl) (i:=bl.length-2+1+1) (by omega);have e5:bl[bl.length-2+1]=bl[bl.length-1]:=by congr 1;omega
  rw[e5]at e3;rw[e1,e2,e3,e4];generalize (1000000000:Int)^(bl.length-2)=X;grind
 .have e1:=An3 (al.drop i) (bl.length-2) (by rw[length_drop];omega);rw[az_]at e1;have e2:=Af5 (l:=al) (i:=i+(bl.length-2)) (by omega);have e3:=Af5 (l:=al) (i:=i+(bl.length-2)+1) (by omega);have e4:=Af5 (l:=al) (i:=i+(bl.length-2)+1+1) (by omega);have e5:al[i+(bl.length-2)]=al[i+bl.length-2]:=by congr 1;omega
  have e6:al[i+(bl.length-2)+1]=al[i+bl.length-1]:=by congr 1;omega
  have e7:al[i+(bl.length-2)+1+1]=al[i+bl.length]:=by congr 1;omega
  rw[show i+(bl.length-2)+1+1+1=i+bl.length+1 by omega,hz,e7]at e4;rw[e6]at e3;rw[e5]at e2;rw[e1,e2,e3,e4];generalize (1000000000:Int)^(bl.length-2)=X;grind
 .have e1:=Af5 (l:=al) (i:=i) (by omega);have e2:=(An6 ha (show i<al.length by omega)).2;rw[e1];omega
theorem Fh8{α:Type}{l:List α}{n:Nat}(h:n<=l.length):slc l 0 (n:Int)=some (l.take n):=by
 unfold slc;simp only[Int.le_refl,decide_true,Bool.true_and,dT_ (Int.natCast_nonneg n),dT_ (show(n:Int)<=(l.length:Int) by omega),cond_true];simp
set_option maxHeartbeats 4000000 in
theorem Gc8{fuel:Nat}{bl ql:List Int}{rec_:Int->List Int->List Int->Option (List Int×List Int)}{al:List Int}{i:Nat}(hf:bl.length+1<fuel)(ha:dig 1000000000 al)(hb:dig 1000000000 bl)(hn:2<=bl.length)(hi:i+bl.length<al.length)(hlen:al.length<=1073741824)(hq:i<ql.length)(hA:val 1000000000 (al.drop (i+1))<val 1000000000 bl)(hb1:0<bl[bl.length-1]):
 ∃al',dig 1000000000 al'/\al'.length=al.length/\val 1000000000 al'=val 1000000000 al-val 1000000000 (al.drop i)/val 1000000000 bl*val 1000000000 bl*1000000000^i/\val 1000000000 (al'.drop i)<val 1000000000 bl/\
  ∀(k:Nat) (g:Int),0<=g->g.toNat<k->g<1000000000->g*bl[bl.length-1]<=al[i+bl.length]*1000000000+al[i+bl.length-1]->val 1000000000 (al.drop i)/val 1000000000 bl<=g->
   Ax6 fuel bl ql al (i:Int) al[i+bl.length] al[i+bl.length-1] rec_ k g=rec_ ((i:Int)-1) (ql.set i (val 1000000000 (al.drop i)/val 1000000000 bl)) al':=by
 obtain⟨X,lo,lob,hX,lo0,lo1,lb0,lb1,eb,eA,ez,hAB⟩:=Fw5 ha hb hn hi hA;obtain⟨t0,t1⟩:=An6 ha hi;obtain⟨s0,s1⟩:=An6 ha (show i+bl.length-1<al.length by omega);obtain⟨u0,u1⟩:=An6 ha (show i+bl.length-2<al.length by omega);obtain⟨b0,b1⟩:=An6 hb (show bl.length-2<bl.length by omega);obtain⟨c0,c1⟩:=An6 hb (show bl.length-1<bl.length by omega);have hbp:0<val 1000000000 bl:=by
  have:=ae_ (show 1<=bl[bl.length-1]*1000000000+bl[bl.length-2] by omega) (aj_ hX);omega
 have hA0:=vnn (L5 ha i);have hQ0:0<=val 1000000000 (al.drop i)/val 1000000000 bl:=a5_ hA0 (by omega);have hQ1:val 1000000000 (al.drop i)/val 1000000000 bl<1000000000:=ba_ hbp (by rw[bf_];exact hAB);have hqr:=a9_ (val 1000000000 (al.drop i)) (val 1000000000 bl);have hr0:=a4_ (val 1000000000 (al.drop i)) (show val 1000000000 bl≠0 by omega);have hr1:=a2_ (val 1000000000 (al.drop i)) hbp;have hW:val 1000000000 (al.drop i)<1000000000^(bl.length+1):=by
  have:=ae_ (aj_ (vlt hb)) (show(0:Int)<=1000000000 by decide);rw[a3_];omega
 have hbl:val 1000000000 bl<1000000000^(bl.length+1):=by
  have:=vlt hb;have:=p9 bl.length;rw[a3_];omega
 have win:∀l:List Int,dig 1000000000 l->l.length=al.length->l.take i=al.take i->l.drop (i+bl.length+1)=al.drop (i+bl.length+1)->val 1000000000 l=val 1000000000 (al.take i)+1000000000^i*val 1000000000 (l.drop i)/\0<=val 1000000000 (l.drop i)/\val 1000000000 (l.drop i)<1000000000^(bl.length+1):=by
  intro l hd hl h1 h2;refine⟨by rw[<-h1];exact An3 l i (by omega),vnn (L5 hd i),?_⟩;rw[An3 (l.drop i) (bl.length+1) (by rw[length_drop];omega),az_,show i+(bl.length+1)=i+bl.length+1 by omega,h2,ez];have:=vtl (L5 hd i) (bl.length+1) (by rw[length_drop];omega);omega
 have canc:∀{x y:Int},1000000000^i*x=1000000000^i*y->x=y:=fun{x y} h=>Int.eq_of_mul_eq_mul_left (show(1000000000:Int)^i≠0 by have:=p9 i;omega) h
 have hal:=(win al ha rfl rfl rfl).1;have epow:(1000000000:Int)^(i+bl.length+1)=1000000000^i*1000000000^(bl.length+1):=by rw[Nat.add_assoc,Int.pow_add]
 have lose1:∀g:Int,0<=g->g<1000000000->∃l' bo',Fj8 fuel i bl g al=some (decide (bo'>0),l')/\dig 1000000000 l'/\l'.length=al.length/\l'.take i=al.take i/\l'.drop (i+bl.length+1)=al.drop (i+bl.length+1)/\(bo'=0\/bo'=1)/\val 1000000000 (l'.drop i)=val 1000000000 (al.drop i)-g*val 1000000000 bl+bo'*1000000000^(bl.length+1):=by
  intro g g0 g1;obtain⟨l',bo',e1,e2,e3,e4,e5,e6,e7⟩:=Fe1 (p:=i) hb g0 g1 (by omega) ha hi hf;refine⟨l',bo',e1,e2,e3,e4,e5,e6,canc ?_⟩;have:=(win l' e2 e3 e4 e5).1;rw[epow]at e7;generalize (1000000000:Int)^(bl.length+1)=Y at*;generalize (1000000000:Int)^i=Z at*;grind
 obtain⟨l1,bo1,e1,e2,e3,e4,e5,e6,e7⟩:=lose1 _ hQ0 hQ1;have hbo1:bo1=0:=by
  rcases e6 with h|h
  .exact h
  .exfalso;have:=(win l1 e2 e3 e4 e5).2.2;rw[e7,h,bf_ _ (val 1000000000 bl)]at this;omega
 have hl1:val 1000000000 (l1.drop i)=val 1000000000 (al.drop i)%val 1000000000 bl:=by
  rw[e7,hbo1,bf_ _ (val 1000000000 bl)];omega
 have uniq:∀l:List Int,dig 1000000000 l->l.length=al.length->l.take i=al.take i->l.drop (i+bl.length+1)=al.drop (i+bl.length+1)->val 1000000000 (l.drop i)=val 1000000000 (l1.drop i)->l=l1:=by
  intro l hd hl h1 h2 h3;have:∀(x y:List Int),dig 1000000000 x->dig 1000000000 y->x.length=y.length->val 1000000000 x=val 1000000000 y->x=y:=by
   intro x
   induction x with
   |nil=>intro y _ _ hl _;cases y with|nil=>rfl|cons _ _=>simp at hl
   |cons a x ih=>
    intro y hx hy hl hv;cases y with
    |nil=>simp at hl
    |cons b y=>
     have hx:=E1.1 hx;have hy:=E1.1 hy;rw[Cb8,Cb8]at hv;have e1:a=b:=by omega
     have e2:val 1000000000 x=val 1000000000 y:=by omega
     rw[e1,ih y hx.2 hy.2 (by simpa using hl) e2]
  refine this l l1 hd e2 (by omega) ?_;rw[(win l hd hl h1 h2).1,(win l1 e2 e3 e4 e5).1,h3]
 refine⟨l1,e2,e3,?_,by rw[hl1];exact hr1,?_⟩
 .have:=(win l1 e2 e3 e4 e5).1;rw[this,hal,e7,hbo1];generalize val 1000000000 (al.drop i)/val 1000000000 bl*val 1000000000 bl=Q;generalize (1000000000:Int)^i=Z;grind
 intro k
 induction k with
 |zero=>intro g _ h;omega
 |succ k ih=>
  intro g g0 gk g1 hg1 hgQ;unfold Ax6;have hT:=By6 g0 g1 c0 c1;have hU:=By6 g0 g1 b0 b1;rw[length_map];rw[E3 (i:=(bl.length:Int)-2) (by omega) (by omega),E3 (i:=(bl.length:Int)-1) (by omega) (by omega),E3 (i:=(i:Int)+(bl.length:Int)) (by omega) (by omega),E3 (i:=(i:Int)+(bl.length:Int)-2) (by omega) (by omega)];rw[show(bl.length:Int)-2=((bl.length-2:Nat):Int) by omega,show(bl.length:Int)-1=((bl.length-1:Nat):Int) by omega,show(i:Int)+(bl.length:Int)-2=((i+bl.length-2:Nat):Int) by omega,C3 (l:=bl) (show bl.length-2<bl.length by omega),C3 (l:=bl) (show bl.length-1<bl.length by omega),C3 (l:=al) (show i+bl.length-2<al.length by omega)];simp only[sb];rw[N6 (i:=bl[bl.length-2]) (by omega) (by omega),N6 (i:=bl[bl.length-1]) (by omega) (by omega),N6 (i:=al[i+bl.length]) (by omega) (by omega),N6 (i:=al[i+bl.length-1]) (by omega) (by omega),N6 (i:=al[i+bl.length-2]) (by omega) (by omega),N6 (i:=g*bl[bl.length-2]) (by omega) (by omega),N6 (i:=g*bl[bl.length-1]) (by omega) (by omega),N6 (i:=al[i+bl.length]*1000000000) (by omega) (by omega),N6 (i:=al[i+bl.length]*1000000000+al[i+bl.length-1]) (by omega) (by omega),N6 (i:=al[i+bl.length]*1000000000+al[i+bl.length-1]-g*bl[bl.length-1]) (by omega) (by omega)]
  have hcond:∀w:Int,(al[i+bl.length]*1000000000+al[i+bl.length-1]-g*bl[bl.length-1]<1000000000->w=(al[i+bl.length]*1000000000+al[i+bl.length-1]-g*bl[bl.length-1])*1000000000+al[i+bl.length-2])->
   (bif decide (g*bl[bl.length-2]>w) then some (decide (al[i+bl.length]*1000000000+al[i+bl.length-1]-g*bl[bl.length-1]<1000000000)) else some false)=some (decide (¬g*(bl[bl.length-1]*1000000000+bl[bl.length-2])<=(al[i+bl.length]*1000000000+al[i+bl.length-1])*1000000000+al[i+bl.length-2])):=by
   intro w hw;have em:g*(bl[bl.length-1]*1000000000+bl[bl.length-2])=g*bl[bl.length-1]*1000000000+g*bl[bl.length-2]:=by grind
   rw[em];by_cases hs:al[i+bl.length]*1000000000+al[i+bl.length-1]-g*bl[bl.length-1]<1000000000
   .rw[hw hs,dT_ hs];by_cases hc:g*bl[bl.length-2]>(al[i+bl.length]*1000000000+al[i+bl.length-1]-g*bl[bl.length-1])*1000000000+al[i+bl.length-2]
    .rw[dT_ hc,dT_ (by omega)];rfl
    .rw[dF_ hc,dF_ (by omega)];rfl
   .rw[dF_ hs,dF_ (show¬¬(g*bl[bl.length-1]*1000000000+g*bl[bl.length-2]<=(al[i+bl.length]*1000000000+al[i+bl.length-1])*1000000000+al[i+bl.length-2]) by omega)];cases decide (g*bl[bl.length-2]>w)<;>rfl
  rw[hcond _ (fun hs=>by rw[N6 (i:=(al[i+bl.length]*1000000000+al[i+bl.length-1]-g*bl[bl.length-1])*1000000000) (by omega) (by omega),N6 (by omega) (by omega)])];simp only[sb];by_cases hd:g*(bl[bl.length-1]*1000000000+bl[bl.length-2])<=(al[i+bl.length]*1000000000+al[i+bl.length-1])*1000000000+al[i+bl.length-2]
  .rw[dF_ (by simpa using hd)];simp only[cond_false];have hle:=Ef1 eA eb hX lo0 lo1 lb0 lb1 g0 g1 (by omega) hd;rw[D1 (by simp;omega)];rw[show 0+Int.toNat (i:Int)=i by omega];have hqg:C2 ql (i:Int)=some ql[i]:=C3 hq;by_cases hgq:g=val 1000000000 (al.drop i)/val 1000000000 bl
   .rw[hgq,e1,sb];dsimp only;rw[hbo1];simp only[show decide ((0:Int)>0)=false from rfl,cond_false];simp only[hqg,sb];rw[An7 (by omega) (by omega),wip i (by omega)]
   .have hgq1:g=val 1000000000 (al.drop i)/val 1000000000 bl+1:=by omega
    obtain⟨l2,bo2,f1,f2,f3,f4,f5,f6,f7⟩:=lose1 g g0 g1;have hmul:g*val 1000000000 bl=val 1000000000 bl*(val 1000000000 (al.drop i)/val 1000000000 bl)+val 1000000000 bl:=by
     rw[hgq1];generalize val 1000000000 (al.drop i)/val 1000000000 bl=Q;grind
    have hbo2:bo2=1:=by
     rcases f6 with h|h
     .exfalso;have:=(win l2 f2 f3 f4 f5).2.1;rw[f7,h,hmul]at this;omega
     .exact h
    rw[f1,sb];dsimp only;rw[hbo2];simp only[show decide ((1:Int)>0)=true from rfl,cond_true];rw[D1 (by simp;omega)];obtain⟨l3,c3,g1',g2,g3,g4,g5,g6,g7⟩:=Fd2 (fuel:=fuel) (p:=i) hb (by omega) f2 (by omega) hf;have hl3:l3=l1:=by
     refine uniq l3 g2 (by omega) (by rw[g4,f4]) (by rw[g5,f5]) ?_;have h3:=win l3 g2 (by omega) (by rw[g4,f4]) (by rw[g5,f5]);have h2:=win l2 f2 f3 f4 f5;have hv:val 1000000000 (l3.drop i)=val 1000000000 (l2.drop i)+val 1000000000 bl-c3*1000000000^(bl.length+1):=by
      refine canc ?_;have h3':=h3.1;have h2':=h2.1;rw[epow]at g7;generalize (1000000000:Int)^(bl.length+1)=Y at*;generalize (1000000000:Int)^i=Z at*;grind
     rw[hl1];rw[f7,hbo2,hmul]at hv;rcases g6 with h|h<;>rw[h]at hv<;>omega
    simp only[g1',sb,hl3,hqg];rw[N6 (i:=g-1) (by omega) (by omega),An7 (i:=g-1) (by omega) (by omega),wip i (by omega),hgq1,show val 1000000000 (al.drop i)/val 1000000000 bl+1-1=val 1000000000 (al.drop i)/val 1000000000 bl by omega]
  .rw[dT_ hd];simp only[cond_true];have hlt:=Ef2 eA eb hX lo1 lb0 g0 hbp (show _<g*_ by omega);have hm:(g-1)*bl[bl.length-1]=g*bl[bl.length-1]-bl[bl.length-1]:=by grind
   rw[N6 (i:=g-1) (by omega) (by omega)];exact ih (g-1) (by omega) (by omega) (by omega) (by omega) (by omega)
end
end Go.Proofs.YtfgbhfphjmmiaaaGreatDoor
end
section
namespace Go.Proofs.YtfgbhfphjmmiaaaGreatDoor
open Go Go.RowKit Kx Go.IntKind
set_option maxRecDepth 100000
set_option maxHeartbeats 4000000 in
section
theorem Eo0{fuel:Nat}{bl:List Int}{y4 V u:Int}(hb:dig 1000000000 bl)(hn:2<=bl.length)(hb1:0<bl[bl.length-1])(hy0:0<=y4)(hy1:y4<1000000000)(hu:u=1000000000/(y4+1))(hu0:0<u)(hu1:u<1000000000):
 ∀(m k:Nat) (ql al:List Int),m<k->al.length+1000000000<fuel->dig 1000000000 al->dig 1000000000 ql->al.length<=1073741824->m+bl.length<=al.length->ql.length<=1073741824->m<=ql.length->ql.take m=List.replicate m 0->val 1000000000 (al.drop m)<val 1000000000 bl->val 1000000000 bl*val 1000000000 ql+val 1000000000 al=V->
 ∃q r,Aa7 fuel bl y4 k ((m:Int)-1) ql al=some (q,r)/\dig 1000000000 q/\dig 1000000000 r/\q.length=ql.length/\r.length<=al.length/\val 1000000000 q=V/val 1000000000 bl/\val 1000000000 r=V%val 1000000000 bl/u
 |0,0,_,_,h,_,_,_,_,_,_,_,_,_,_=>absurd h (by omega)
 |m+1,0,_,_,h,_,_,_,_,_,_,_,_,_,_=>absurd h (by omega)
 |0,k+1,ql,al,_,hf,ha,hq,hal,hl,hql,_,_,hA,hV=>by
  rw[drop_zero]at hA;unfold Aa7;rw[dF_ (by omega)];simp only[cond_false];rw[length_map,Fh8 (by omega),sb];have hz:=Bq8 ha (n:=bl.length) (by omega) (Int.lt_trans hA (vlt hb));have hv:val 1000000000 (al.take bl.length)=val 1000000000 al:=by rw[An3 al bl.length (by omega),hz];omega
  have hv0:=vnn ha;rw[P3 (F2 ha _) (by rw[length_take];omega) (by rw[length_take];omega),sb,hv,Gh0 hv0];dsimp only;rw[N6 (i:=y4) (by omega) (by omega),N6 (i:=y4+1) (by omega) (by omega),(tdm (show(0:Int)<=1000000000 by decide)).1,<-hu,N6 (by omega) (by omega),An7 (by omega) (by omega)];have hlen:(dg 1000000000 (val 1000000000 al)).length<=al.length:=G4 hB1 (vlt ha);obtain⟨q,e1,e2,e3,e4⟩:=Cu6 (fuel:=fuel) (H1 hB1 _ hv0) (by omega) hu0 hu1 (by omega);rw[e1,sb];have hpos:0<val 1000000000 bl:=by omega
  have d1:V/val 1000000000 bl=val 1000000000 ql:=by rw[<-hV,Int.mul_add_ediv_left _ _ (by omega),bw_ hv0 hA];omega
  have d2:V%val 1000000000 bl=val 1000000000 al:=by rw[<-hV,cz_];exact bd_ hv0 hA
  exact⟨ql,q,rfl,hq,e2,rfl,by omega,d1.symm,by rw[e4,I8 hB1 _ hv0,d2]⟩
 |m+1,k+1,ql,al,hk,hf,ha,hq,hal,hl,hql,hmq,hz,hA,hV=>by
  unfold Aa7;rw[show(((m+1:Nat):Int)-1)=(m:Int) by omega,dT_ (by omega)];simp only[cond_true];obtain⟨al',e1,e2,e3,e4,e5⟩:=Gc8 (fuel:=fuel) (rec_:=Aa7 fuel bl y4 k) (ql:=ql) (i:=m) (by omega) ha hb hn (by omega) hal (by omega) hA hb1;obtain⟨t0,t1⟩:=An6 ha (show m+bl.length<al.length by omega);obtain⟨s0,s1⟩:=An6 ha (show m+bl.length-1<al.length by omega);obtain⟨c0,c1⟩:=An6 hb (show bl.length-1<bl.length by omega);obtain⟨X,lo,lob,hX,lo0,lo1,lb0,lb1,eb,eA,ez,hAB⟩:=Fw5 ha hb hn (show m+bl.length<al.length by omega) hA;rw[length_map,E3 (i:=(m:Int)+(bl.length:Int)) (by omega) (by omega),E3 (i:=(m:Int)+(bl.length:Int)-1) (by omega) (by omega),E3 (i:=(bl.length:Int)-1) (by omega) (by omega)];rw[show(m:Int)+(bl.length:Int)=((m+bl.length:Nat):Int) by omega,show((m+bl.length:Nat):Int)-1=((m+bl.length-1:Nat):Int) by omega,show(bl.length:Int)-1=((bl.length-1:Nat):Int) by omega,C3 (show m+bl.length<al.length by omega),C3 (show m+bl.length-1<al.length by omega),C3 (show bl.length-1<bl.length by omega)];simp only[sb];have hT0:0<=al[m+bl.length]*1000000000+al[m+bl.length-1]:=by omega
  have hg0:0<=(al[m+bl.length]*1000000000+al[m+bl.length-1])/bl[bl.length-1]:=a5_ hT0 (by omega);have hg1:(al[m+bl.length]*1000000000+al[m+bl.length-1])/bl[bl.length-1]<=al[m+bl.length]*1000000000+al[m+bl.length-1]:=b9_ _ hT0;rw[N6 (i:=bl[bl.length-1]) (by omega) (by omega),D1 (by simp;omega),N6 (i:=al[m+bl.length]) (by omega) (by omega),N6 (i:=al[m+bl.length-1]) (by omega) (by omega),N6 (i:=al[m+bl.length]*1000000000) (by omega) (by omega),N6 (i:=al[m+bl.length]*1000000000+al[m+bl.length-1]) (by omega) (by omega),(tdm hT0).1,N6 hg0 (by omega)];have hbp:0<val 1000000000 bl:=by
   have:=ae_ (show 1<=bl[bl.length-1]*1000000000+bl[bl.length-2] by have:=(An6 hb (show bl.length-2<bl.length by omega)).1;omega) (aj_ hX);omega
  have hA0:=vnn (L5 ha m);have hQ0:0<=val 1000000000 (al.drop m)/val 1000000000 bl:=a5_ hA0 (by omega);have hQ1:val 1000000000 (al.drop m)/val 1000000000 bl<1000000000:=ba_ hbp (by rw[bf_];exact hAB);have hfirst:val 1000000000 (al.drop m)/val 1000000000 bl<=(al[m+bl.length]*1000000000+al[m+bl.length-1])/bl[bl.length-1]:=by
   refine Ba4 (al2:=al[m+bl.length-2]*X+lo) (Y:=1000000000*X) ?_ ?_ (by omega) ?_ (by omega) hA0
   .rw[eA];grind
   .have:=ae_ (show al[m+bl.length-2]<=999999999 by have:=(An6 ha (show m+bl.length-2<al.length by omega)).2;omega) (aj_ hX);omega
   .rw[eb];have:=bo_ (An6 hb (show bl.length-2<bl.length by omega)).1 (aj_ hX);have e:(bl[bl.length-1]*1000000000+bl[bl.length-2])*X=bl[bl.length-1]*(1000000000*X)+bl[bl.length-2]*X:=by grind
    omega
  have hmul:=co_ (al[m+bl.length]*1000000000+al[m+bl.length-1]) (show bl[bl.length-1]≠0 by omega);have hgl:∀g:Int,g=(bif decide (999999999<(al[m+bl.length]*1000000000+al[m+bl.length-1])/bl[bl.length-1]) then 999999999 else(al[m+bl.length]*1000000000+al[m+bl.length-1])/bl[bl.length-1])->0<=g/\g<1000000000/\g*bl[bl.length-1]<=al[m+bl.length]*1000000000+al[m+bl.length-1]/\val 1000000000 (al.drop m)/val 1000000000 bl<=g:=by
   intro g hg;by_cases hc:999999999<(al[m+bl.length]*1000000000+al[m+bl.length-1])/bl[bl.length-1]
   .rw[dT_ hc]at hg;simp only[cond_true]at hg;have:=ae_ (show g<=(al[m+bl.length]*1000000000+al[m+bl.length-1])/bl[bl.length-1] by omega) c0;exact⟨by omega,by omega,by omega,by omega⟩
   .rw[dF_ hc]at hg;simp only[cond_false]at hg;rw[hg];exact⟨by omega,by omega,hmul,hfirst⟩
  obtain⟨g0,g1,g2,g3⟩:=hgl _ rfl;rw[e5 fuel _ g0 (by omega) g1 g2 g3];have hqm:ql[m]=0:=by
   have:=congrArg (fun l=>l[m]?) hz;simp only[getElem?_take_of_lt (show m<m+1 by omega)]at this;rw[aa_ (by omega),List.getElem?_replicate,if_pos (by omega)]at this;exact ax_ this
  obtain⟨q,r,f1,f2,f3,f4,f5,f6,f7⟩:=Eo0 (fuel:=fuel) (V:=V) hb hn hb1 hy0 hy1 hu hu0 hu1 m k (ql.set m (val 1000000000 (al.drop m)/val 1000000000 bl)) al' (by omega) (by omega) e1 (Ai0 hq _ ⟨hQ0,hQ1⟩) (by omega) (by omega) (by simpa using hql) (by simp;omega) (by
   rw[take_set_of_le (ad_ _)];have:=congrArg (List.take m) hz;rw[take_take,bv_ (by omega),take_replicate,bv_ (by omega)]at this;exact this) e4 (by
   rw[Ai8 _ _ (by omega),e3,hqm,<-hV];generalize val 1000000000 (al.drop m)/val 1000000000 bl=Q;generalize (1000000000:Int)^m=Z;grind)
  exact⟨q,r,f1,f2,f3,by simpa using f4,by omega,f6,f7⟩
theorem dg1{y:Int}(h0:0<y)(h1:y<1000000000):dg 1000000000 y=[y]:=by
 have:=Cg2 hB1 (x:=y) (v:=0) ⟨by omega,h1⟩ (Int.le_refl _) (by omega);rw[Int.mul_zero,c7_]at this;rw[this,E7 (Int.le_refl _)]
set_option maxHeartbeats 4000000 in
theorem Bi4{fuel:Nat}{a b:Int}(ha:0<=a)(hb:0<b)(hla:(dg 1000000000 a).length<=1073741820)(hlb:(dg 1000000000 b).length<=1073741820)(hf:(dg 1000000000 a).length+(dg 1000000000 b).length+1000000010<fuel):
 ∃q r,Ew0 fuel (dg 1000000000 a) (dg 1000000000 b)=some (q,r)/\dig 1000000000 q/\dig 1000000000 r/\q.length<=(dg 1000000000 a).length+1/\r.length<=(dg 1000000000 a).length+1/\val 1000000000 q=a/b/\val 1000000000 r=a%b:=by
 have da:=H1 hB1 a ha;have db:=H1 hB1 b (by omega);have va:=I8 hB1 a ha;have vb:=I8 hB1 b (by omega);unfold Ew0;rw[Ae0 ha (by omega) (by omega) (by omega) (by omega),sb];by_cases hab:a<b
 .rw[D4 hab];refine⟨[],dg 1000000000 a,rfl,J2,da,by simp,by omega,?_,?_⟩
  .rw[bw_ ha hab];rfl
  .rw[va,bd_ ha hab]
 .have h0:decide (N7 a b<0)=false:=by
   apply dF_;unfold N7;rw[if_neg hab];split<;>omega
  rw[h0];simp only[cond_false];rw[length_map];have hbne:=Be7 hB1 hb;have hbl:=as_.2 hbne;by_cases h1:(dg 1000000000 b).length=1
  .rw[show(((dg 1000000000 b).length:Int)==1)=true by rw[h1];rfl];simp only[cond_true];have hb9:b<1000000000:=by
    have:=Ah8 hB1 (show 0<=b by omega);rw[h1]at this;simpa using this
   rw[dg1 hb hb9];rw[show C2 [b] 0=some b from rfl,sb];obtain⟨q,e1,e2,e3,e4⟩:=Cu6 (fuel:=fuel) da (by omega) hb hb9 (by omega);rw[e1,sb];rw[va]at e4;have hr0:=a4_ a (show b≠0 by omega);have hr1:=a2_ a hb;refine⟨q,[a%b],by rw[va],e2,E1.2 ⟨⟨hr0,by omega⟩,J2⟩,by omega,by simp,e4,by simp[val]⟩
  .rw[show(((dg 1000000000 b).length:Int)==1)=false by simp;omega];simp only[cond_false];obtain⟨l0,y4,el,hy0,hy1⟩:=Aq5 hB1 hb;have hl0:(dg 1000000000 b).length=l0.length+1:=by rw[el];simp
   have hg:C2 (dg 1000000000 b) (((dg 1000000000 b).length:Int)-1)=some y4:=by
    rw[show((dg 1000000000 b).length:Int)-1=((l0.length:Nat):Int) by omega,D3,el];simp
   have hu0:0<1000000000/(y4+1):=by
    have:=ce_ (show 0<y4+1 by omega) (show 1*(y4+1)<=1000000000 by omega);omega
   have hu1:1000000000/(y4+1)<1000000000:=ba_ (by omega) (by omega);have huy:=co_ 1000000000 (show y4+1≠0 by omega);rw[E3 (i:=((dg 1000000000 b).length:Int)-1) (by omega) (by omega),hg];simp only[sb];rw[N6 (i:=y4) (by omega) (by omega),N6 (i:=y4+1) (by omega) (by omega),D1 (by simp;omega),(tdm (show(0:Int)<=1000000000 by decide)).1,N6 (i:=1000000000/(y4+1)) (by omega) (by omega),An7 (i:=1000000000/(y4+1)) (by omega) (by omega)];rw[Db2];obtain⟨u,hu⟩:∃u,u=1000000000/(y4+1):=⟨_,rfl⟩
   rw[<-hu]at hu0 hu1 huy⊢;obtain⟨al,p1,p2,p3,p4⟩:=Ca7 (fuel:=fuel) da (by omega) (by omega) hu1 (by omega);obtain⟨bl',r1,r2,r3,r4⟩:=Ca7 (fuel:=fuel) db (by omega) (by omega) hu1 (by omega);rw[p1,sb,r1,sb,length_map,Fh8 (by omega),sb];rw[va]at p4;rw[vb]at r4
   have hbU:b<(y4+1)*1000000000^l0.length:=by
    have h1:=vb;rw[el,Ai7]at h1;have h2:=An4 (show(0:Int)<1000000000 by decide) (Ah9.1 (el▸db)).1;have h3:val 1000000000 [y4]=y4:=by simp[val]
    rw[h3]at h1;have h4:(y4+1)*1000000000^l0.length=1000000000^l0.length*y4+1000000000^l0.length:=by grind
    omega
   have hbuP:b*u<1000000000^(dg 1000000000 b).length:=by
    have h1:=cd_ hbU hu0;have h2:=ae_ huy (aj_ (p9 l0.length));have h3:(y4+1)*1000000000^l0.length*u=u*(y4+1)*1000000000^l0.length:=by grind
    rw[hl0,a3_];have h4:(1000000000:Int)^l0.length*1000000000=1000000000*1000000000^l0.length:=by grind
    omega
   have hbL:1000000000^l0.length<=b:=by
    have:=Ed0 hB1 hb
    rwa [hl0,cn_]at this
   have hbz:=Bq8 r2 (n:=(dg 1000000000 b).length) (by omega) (by rw[r4];exact hbuP);have hvb:val 1000000000 (bl'.take (dg 1000000000 b).length)=b*u:=by
    rw[<-r4,An3 bl' (dg 1000000000 b).length (by omega),hbz];omega
   obtain⟨bl,ebl⟩:∃bl,bl=bl'.take (dg 1000000000 b).length:=⟨_,rfl⟩
   rw[<-ebl]at hvb⊢;have hbll:bl.length=(dg 1000000000 b).length:=by rw[ebl,length_take];omega
   have hbld:dig 1000000000 bl:=by rw[ebl];exact F2 r2 _
   have hbu:b<=b*u:=by
    have:=ar_ (show 1<=u by omega) (show 0<=b by omega);omega
   have hb1:0<bl[bl.length-1]'(by omega):=by
    have e1:=An3 bl (bl.length-1) (by omega);have e2:=Af5 (l:=bl) (i:=bl.length-1) (by omega);have e3:=N8 (l:=bl) (i:=bl.length-1+1) (by omega);have e4:=vtl hbld (bl.length-1) (by omega);have e5:=(An6 hbld (show bl.length-1<bl.length by omega)).1;by_cases h0:bl[bl.length-1]'(by omega)=0
    .exfalso;rw[h0,e3]at e2;rw[e2,hvb]at e1;rw[show bl.length-1=l0.length by omega]at e1 e4;omega
    .omega
   have hla0:(dg 1000000000 b).length<=(dg 1000000000 a).length:=by
    rcases bc_ (dg 1000000000 a).length (dg 1000000000 b).length with h|h
    .have:=K0 hB1 ha (show 0<=b by omega) h;omega
    .exact h
   rw[length_map,E3 (by omega) (by omega),show(al.length:Int)-(bl.length:Int)=((al.length-bl.length:Nat):Int) by omega,At9 (by omega),sb,wip _ (by omega)];obtain⟨q,r,f1,f2,f3,f4,f5,f6,f7⟩:=Eo0 (fuel:=fuel) (V:=a*u) hbld (by omega) hb1 (by omega) hy1 hu hu0 hu1 (al.length-bl.length) fuel (List.replicate (al.length-bl.length) 0) al (by omega) (by omega) p2 (Ak1 (by decide) _) (by omega) (by omega) (by simp;omega) (by simp) (by simp) (by
    have e1:=An3 al (al.length-bl.length) (by omega);have e2:=vnn (F2 p2 (al.length-bl.length));have e3:=Ah8 hB1 ha;have e5:=cd_ e3 hu0;have e6:(1000000000:Int)^(dg 1000000000 a).length=1000000000^(al.length-bl.length)*1000000000^l0.length:=by rw[<-Int.pow_add];congr 1;omega
    have e7:=ae_ hbL (aj_ hu0);rw[hvb];have e8:1000000000^(al.length-bl.length)*val 1000000000 (al.drop (al.length-bl.length))<1000000000^(al.length-bl.length)*(1000000000^l0.length*u):=by
     rw[e6]at e5;have:(1000000000:Int)^(al.length-bl.length)*1000000000^l0.length*u=1000000000^(al.length-bl.length)*(1000000000^l0.length*u):=Int.mul_assoc ..;omega
    have e9:=Int.lt_of_mul_lt_mul_left e8 (aj_ (p9 _));omega) (by rw[An5,p4];omega)
   rw[f1];refine⟨q,r,rfl,f2,f3,by simp at f4;omega,by omega,?_,?_⟩
   .rw[f6,hvb,Int.mul_ediv_mul_of_pos_left _ _ hu0]
   .rw[f7,hvb,bf_ a u,bf_ b u,Int.mul_emod_mul_of_pos _ _ hu0,bf_ u,Int.mul_ediv_cancel _ (by omega)]
end
end Go.Proofs.YtfgbhfphjmmiaaaGreatDoor
end
section
namespace Go.Proofs.YtfgbhfphjmmiaaaGreatDoor
open Go Go.RowKit Kx Go.IntKind
set_option maxRecDepth 100000
section
theorem Gq6:ln 0=0:=by unfold ln;rw[show(((0:Int).natAbs:Nat):Int)=0 from rfl,E7 (Int.le_refl _)];rfl
theorem Dq3(n:Int):(n.natAbs:Int)<1000000000^ln n:=Ah8 hB1 (by omega)
theorem Da0{n:Int}{L:Nat}(h:(n.natAbs:Int)<1000000000^L):ln n<=L:=G4 hB1 h
theorem Dq4{a b:Int}(h:a.natAbs<=b.natAbs):ln a<=ln b:=Da0 (Int.lt_of_le_of_lt (by omega) (Dq3 b))
theorem Bb2(a b:Int):ln (a*b)<=ln a+ln b:=Da0 (by
 rw[bm_,b4_,Int.pow_add];have h1:=Dq3 a;have h2:=Dq3 b;have:=p9 (ln a);have:=p9 (ln b);have h3:=Int.mul_le_mul (aj_ h1) (aj_ h2) (by omega) (by omega);rcases cp_ h3 with h|h
 .exact h
 .exfalso;have h4:=c0_ h2 (show(0:Int)<1000000000^ln a by omega);have h5:=ae_ (aj_ h1) (show(0:Int)<=(b.natAbs:Int) by omega);omega)
theorem Fv5(a b:Int):ln (a+b)<=max (ln a) (ln b)+1:=Da0 (by
 have h1:=Dq3 a;have h2:=Dq3 b;have h3:=E8 hB1 (Nat.le_max_left (ln a) (ln b));have h4:=E8 hB1 (Nat.le_max_right (ln a) (ln b));rw[a3_];omega)
theorem Ef4{a:Int}(h:(a.natAbs:Int)<1000000000000000000):ln a<=2:=Da0 (by
 have:(1000000000:Int)^2=1000000000000000000:=by decide
 omega)
theorem Eo1{fuel:Nat}{a b:Int}(hb:b≠0)(hd:b∣a)(ha:ln a<=1073741800)(hlb:ln b<=1073741800)(hf:ln a+ln b+1000000010<fuel):Eu8 fuel (W a) (W b)=some (W (a/b),W 0):=by
 unfold ln at*;obtain⟨q,r,e1,e2,e3,e4,e5,e6,e7⟩:=Bi4 (fuel:=fuel) (a:=(a.natAbs:Int)) (b:=(b.natAbs:Int)) (by omega) (by omega) (by omega) (by omega) (by omega);have hdn:(b.natAbs:Int)∣(a.natAbs:Int):=by exact_mod_cast Int.natAbs_dvd_natAbs.2 hd
 have hr:(a.natAbs:Int)%(b.natAbs:Int)=0:=Int.emod_eq_zero_of_dvd hdn;unfold Eu8;show Option.bind (Ew0 fuel (dg 1000000000 (a.natAbs:Int)) (dg 1000000000 (b.natAbs:Int))) _=_;rw[e1,sb];dsimp only;rw[P3 e2 (by omega) (by omega),sb,P3 e3 (by omega) (by omega),sb,e6,e7,hr];have h0:sg (W a).neg 0=0:=by unfold sg;cases (W a).neg<;>rfl
 rw[h0,Dv9,sb,I0];simp only[bne_self_eq_false,cond_false,sb];congr 2;congr 1;show sg (!(decide (a<0)==decide (b<0))) _=_;obtain⟨c,rfl⟩:=hd;rw[bp_ _ hb];have hc:((b*c).natAbs:Int)/(b.natAbs:Int)=(c.natAbs:Int):=by
  rw[bm_];push_cast;exact bp_ _ (by omega)
 rw[hc];unfold sg;by_cases hc0:c=0
 .subst hc0;simp
 by_cases h1:b<0<;>by_cases h2:c<0
 .have:=cf_ h1 h2;rw[dF_ (show¬b*c<0 by omega),dT_ h1];simp;omega
 .have:=Int.mul_neg_of_neg_of_pos h1 (show 0<c by omega);rw[dT_ (show b*c<0 by omega),dT_ h1];simp;omega
 .have:=Int.mul_neg_of_pos_of_neg (show 0<b by omega) h2;rw[dT_ (show b*c<0 by omega),dF_ h1];simp;omega
 .have:=c1_ (show 0<b by omega) (show 0<c by omega);rw[dF_ (show¬b*c<0 by omega),dF_ h1];simp;omega
theorem Dy2{m:List Int}(hm:dig 1000000000 m):∀(i:Nat) (v:Int),i<=m.length->0<=v->v*1000000000^i+val 1000000000 (m.take i)<18446744073709551616->Aa8 (Bf2 m i) v=some (v*1000000000^i+val 1000000000 (m.take i))
 |0,v,_,_,_=>by
  unfold Bf2 Aa8;simp[val]
 |i+1,v,hi,hv,hb=>by
  obtain⟨a1,a2⟩:=An6 hm (show i<m.length by omega);unfold Bf2 Aa8;rw[Fu6 (by omega)];dsimp only;rw[Fi7 (show i<m.length by omega)]at hb⊢;have e:v*1000000000^(i+1)+(val 1000000000 (m.take i)+m[i]*1000000000^i)=(v*1000000000+m[i])*1000000000^i+val 1000000000 (m.take i):=by
   rw[a3_];grind
  rw[e]at hb⊢;have h1:=vnn (F2 hm i);have h2:=ar_ (show(1:Int)<=1000000000^i by have:=p9 i;omega) (show 0<=v*1000000000+m[i] by omega);rw[N6 (i:=v*1000000000) (by omega) (by omega),N6 (i:=m[i]) (by omega) (by omega),N6 (i:=v*1000000000+m[i]) (by omega) (by omega)];exact Dy2 hm i _ (by omega) (by omega) hb
theorem Cv9{fuel:Nat}{a:Int}(ha:0<=a)(h:a<18446744073709551616)(hf:10<fuel):Fj5 fuel (dg 1000000000 a)=some a:=by
 have hl:(dg 1000000000 a).length<=3:=G4 hB1 (by
  have:(1000000000:Int)^3=1000000000000000000000000000:=by decide
  omega)
 unfold Fj5 Fj9;have hv:=I8 hB1 a ha;rw[sb,Dj4 (by omega) (by omega),sb,Dy2 (H1 hB1 a ha) _ 0 (ad_ _) (Int.le_refl _) (by rw[take_length,hv];omega),take_length,hv];congr 1;omega
theorem Ak9{a b:Int}(ha:0<=a)(hb:0<=b):Int.gcd a b=Int.gcd b (a%b):=by
 obtain⟨m,rfl⟩:=ck_ ha;obtain⟨n,rfl⟩:=ck_ hb;rw[<-Int.natCast_emod,Int.gcd_natCast_natCast,Int.gcd_natCast_natCast,Nat.gcd_comm,Nat.gcd_rec,Nat.gcd_comm]
theorem Fu5:∀(v:Int),0<=v->v<18446744073709551616->∀(k:Nat) (acc:List Int),(dg 1000000000 v).length<k->acc.length+(dg 1000000000 v).length<=2147483648->Ah0 k v acc=some ⟨false,acc++dg 1000000000 v⟩:=by
 intro v hv h64 k acc hk hl;have e:∀(k:Nat) (v:Int) (acc:List Int),Ah0 k v acc=V9 0 k v acc:=by
  intro k
  induction k with
  |zero=>intro v acc;rfl
  |succ k ih=>
   intro v acc;unfold Ah0 V9;have:Ah0 k=V9 0 k:=by funext v acc;exact ih v acc
   rw[this];rfl
 rw[e,Bq5 v hv h64 k acc hk hl];rfl
theorem Gn3{v:Int}(h:0<=v):W v=⟨false,dg 1000000000 v⟩:=by
 unfold W;rw[dF_ (by omega),show((v.natAbs:Nat):Int)=v by omega]
theorem Ep2{fuel:Nat}(hf:10<fuel):∀(k:Nat) (x y:Int),y.toNat<k->0<=x->0<=y->x<18446744073709551616->y<18446744073709551616->Ax1 fuel k x y=some (W (Int.gcd x y))
 |0,_,_,h,_,_,_,_=>absurd h (by omega)
 |k+1,x,y,hk,hx,hy,hx1,hy1=>by
  unfold Ax1;by_cases h:y>0
  .rw[dT_ h,D1 (by simp;omega)];simp only[cond_true];have h1:=a4_ x (show y≠0 by omega);have h2:=a2_ x h;rw[(tdm hx).2,Ep2 hf k y (x%y) (by omega) hy h1 hy1 (by omega),<-Ak9 hx hy]
  .rw[dF_ h];simp only[cond_false];have:y=0:=by omega
   subst this;have hl:(dg 1000000000 x).length<=3:=G4 hB1 (by
    have:(1000000000:Int)^3=1000000000000000000000000000:=by decide
    omega)
   rw[Fu5 x hx hx1 fuel [] (by omega) (by simp;omega),cq_,Gn3 (by omega),show((x.natAbs:Nat):Int)=x by omega];rfl
theorem Ep1{fuel:Nat}{L:Nat}(hL:L<=536870900)(hf:18446744073709551616+L<fuel):∀(k:Nat) (a b:Int),b.toNat<k->0<=a->0<=b->(dg 1000000000 a).length<=L->(dg 1000000000 b).length<=L->Ao8 fuel k (dg 1000000000 a) (dg 1000000000 b)=some (W (Int.gcd a b))
 |0,_,_,h,_,_,_,_=>absurd h (by omega)
 |k+1,a,b,hk,ha,hb,hla,hlb=>by
  unfold Ao8;rw[length_map];by_cases h0:b=0
  .subst h0;have hl:(dg 1000000000 (0:Int)).length=0:=by rw[E7 (Int.le_refl _)];rfl
   rw[hl,dF_ (by omega),cq_];simp only[cond_false];rw[show(((0:Nat):Int)==0)=true from rfl];simp only[cond_true];rw[P3 (H1 hB1 a ha) (by omega) (by omega),sb,I8 hB1 a ha];unfold sg;simp only[cond_false];rw[show((a.natAbs:Nat):Int)=a by omega]
  .have hbp:0<b:=by omega
   have h1:=a4_ a (show b≠0 by omega);have h2:=a2_ a hbp;obtain⟨q,r,e1,e2,e3,e4,e5,e6,e7⟩:=Bi4 (fuel:=fuel) ha hbp (by omega) (by omega) (by omega);have hw:Be1 fuel false r=some ⟨false,dg 1000000000 (a%b)⟩:=by
    rw[P3 e3 (by omega) (by omega),e7,Gh0 h1];rfl
   have hlr:(dg 1000000000 (a%b)).length<=(dg 1000000000 b).length:=by
    rcases bc_ (dg 1000000000 b).length (dg 1000000000 (a%b)).length with h|h
    .have:=K0 hB1 hb h1 h;omega
    .exact h
   by_cases hc:(dg 1000000000 b).length>2
   .rw[dT_ (by omega)];simp only[cond_true];rw[e1,sb];dsimp only;rw[hw,sb];dsimp only;rw[Ep1 hL hf k b (a%b) (by omega) hb h1 hlb (by omega),<-Ak9 ha hb]
   .rw[dF_ (by omega)];simp only[cond_false];have hne:=as_.2 (Be7 hB1 hbp);rw[show(((dg 1000000000 b).length:Int)==0)=false by rw[beq_eq_false_iff_ne];omega];simp only[cond_false];have hb18:b<1000000000000000000:=by
     have:=Ah8 hB1 hb;have h3:=E8 hB1 (show(dg 1000000000 b).length<=2 by omega);have:(1000000000:Int)^2=1000000000000000000:=by decide
     omega
    rw[e1,sb,Cv9 hb (by omega) (by omega),sb];dsimp only;rw[hw,sb];dsimp only;rw[Cv9 h1 (by omega) (by omega),sb,Ep2 (by omega) fuel b (a%b) (by omega) hb h1 (by omega) (by omega),<-Ak9 ha hb]
theorem Ep3{fuel:Nat}{a b:Int}(ha:ln a<=536870900)(hb:ln b<=536870900)(hf:18446744073709551616+536870900+b.natAbs<fuel):Eu5 fuel (W a) (W b)=some (W (Int.gcd a b)):=by
 unfold Eu5;show Ao8 fuel fuel (dg 1000000000 (a.natAbs:Int)) (dg 1000000000 (b.natAbs:Int))=_;unfold ln at*;rw[Ep1 (L:=536870900) (ad_ _) (by omega) fuel (a.natAbs:Int) (b.natAbs:Int) (by omega) (by omega) (by omega) ha hb];congr 2
def R(r:Rat):A7:=⟨W r.num,W (r.den:Int)⟩
def nsz(L:Nat)(r:Rat):Prop:=ln r.num<=L/\ln (r.den:Int)<=L
theorem Cj0{fuel:Nat}{n d:Int}(hd:0<d)(ha:ln n<=536870900)(hb:ln d<=536870900)(hf:18446744073709551616+10000000000+d.natAbs<fuel):Ej7 fuel (W n) (W d)=some (R (Rat.divInt n d)):=by
 have hg0:0<Int.gcd n d:=ct_ _ (by omega);have hgn:((Int.gcd n d:Nat):Int)∣n:=cw_ ..;have hgd:((Int.gcd n d:Nat):Int)∣d:=dc_ ..;have hgle:((Int.gcd n d:Nat):Int)<=d:=Int.le_of_dvd hd hgd;have hR:R (Rat.divInt n d)=⟨W (n/(Int.gcd n d:Nat)),W (d/(Int.gcd n d:Nat))⟩:=by
  unfold R;rw[db_,cu_,if_neg (by omega),ca_ hd,Int.one_mul,c8_];congr 2;push_cast;rw[show((d.natAbs:Nat):Int)=d by omega]
 have hlg:ln ((Int.gcd n d:Nat):Int)<=ln d:=Dq4 (by omega);unfold Ej7;rw[Ep3 ha hb (by omega),sb];have hdn:(W d).neg=false:=dF_ (by omega);rw[hdn];simp only[cond_false];have hwn:(W ((Int.gcd n d:Nat):Int)).neg=false:=dF_ (show¬((Int.gcd n d:Nat):Int)<0 by omega);have hwm:(W ((Int.gcd n d:Nat):Int)).mag=dg 1000000000 ((Int.gcd n d:Nat):Int):=by rw[Gn3 (by omega)]
 rw[hwn,hwm,length_map];have ho:(bif decide ((((dg 1000000000 ((Int.gcd n d:Nat):Int)).length:Nat):Int)>1) then some true else bif false then some true else (C2 (dg 1000000000 ((Int.gcd n d:Nat):Int)) 0).bind fun y12=>some (y12 !=1))=some (!decide (Int.gcd n d=1)):=by
  by_cases hl:(dg 1000000000 ((Int.gcd n d:Nat):Int)).length>1
  .rw[dT_ (by omega),dF_ (fun h=>by
    rw[h]at hl;rw[show((1:Nat):Int)=1 from rfl,dg1 (by decide) (by decide)]at hl;simp at hl)]
   rfl
  .rw[dF_ (by omega)];simp only[cond_false];have h9:((Int.gcd n d:Nat):Int)<1000000000:=by
    have:=Ah8 hB1 (show 0<=((Int.gcd n d:Nat):Int) by omega);have h3:=E8 hB1 (show(dg 1000000000 ((Int.gcd n d:Nat):Int)).length<=1 by omega);rw[Int.pow_one]at h3;omega
   rw[dg1 (by omega) h9,show C2 [((Int.gcd n d:Nat):Int)] 0=some ((Int.gcd n d:Nat):Int) from rfl,sb];congr 1;by_cases h1:Int.gcd n d=1
   .rw[h1];rfl
   .rw[dF_ h1];simp;omega
 rw[ho,sb];by_cases h1:Int.gcd n d=1
 .rw[dT_ h1];simp only[Bool.not_true,cond_false];rw[hR,h1];simp
 .rw[dF_ h1];simp only[Bool.not_false,cond_true];rw[Eo1 (by omega) hgn (by omega) (by omega) (by omega),sb,Eo1 (by omega) hgd (by omega) (by omega) (by omega),sb,hR]
theorem Gk0{fuel:Nat}{n d:Int}(h0: -9223372036854775808<=n)(h1:n<9223372036854775808)(hd:0<d)(hd1:d<9223372036854775808)(hf:40000000000000000000<fuel):F51 fuel n d=some (R (Rat.divInt n d)):=by
 have hl:∀a:Int,(a.natAbs:Int)<=9223372036854775808->ln a<=3:=fun a h=>Da0 (by
  have:(1000000000:Int)^3=1000000000000000000000000000:=by decide
  omega)
 have:=hl n (by omega);have:=hl d (by omega);unfold F51;rw[Am5 h0 h1 (by omega),sb,Am5 (by omega) hd1 (by omega),sb,Cj0 hd (by omega) (by omega) (by omega),sb]
theorem den_pos(r:Rat):(0:Int)<(r.den:Int):=by have:=r.den_pos;omega
theorem Fe7{fuel L:Nat}{x y:Rat}(hx:nsz L x)(hy:nsz L y)(hL:L<=100000000)(hf:18446744073709551616+10000000000+x.den*y.den<fuel):F54 fuel (R x) (R y)=some (R (x+y)):=by
 obtain⟨x1,x2⟩:=hx;obtain⟨y1,y2⟩:=hy;have m1:=Bb2 x.num y.den;have m2:=Bb2 y.num x.den;have m3:=Bb2 x.den y.den;have a1:=Fv5 (x.num*y.den) (y.num*x.den);have hp:=c1_ (den_pos x) (den_pos y);unfold F54;show Option.bind (Br7 fuel (W x.num) (W y.den)) (fun y1=>Option.bind (Br7 fuel (W y.num) (W x.den)) fun y2=>Option.bind (Et4 fuel y1 y2) fun y3=>Option.bind (Br7 fuel (W x.den) (W y.den)) fun y4=>Option.bind (Ej7 fuel y3 y4) fun y5=>some y5)=_;rw[Bb4 (by omega) (by omega),sb,Bb4 (by omega) (by omega),sb,Fr8 (by omega) (by omega) (by omega),sb,Bb4 (by omega) (by omega),sb,Cj0 hp (by omega) (by omega) (by
  have:((x.den:Int)*(y.den:Int)).natAbs=x.den*y.den:=by rw[<-b4_,a6_]
  omega),sb]
 congr 2;rw[Rat.add_def',<-Rat.divInt_ofNat];push_cast;rfl
theorem Ff0{fuel L:Nat}{x y:Rat}(hx:nsz L x)(hy:nsz L y)(hL:L<=100000000)(hf:18446744073709551616+10000000000+x.den*y.den<fuel):F86 fuel (R x) (R y)=some (R (x*y)):=by
 obtain⟨x1,x2⟩:=hx;obtain⟨y1,y2⟩:=hy;have m1:=Bb2 x.num y.num;have m3:=Bb2 x.den y.den;have hp:=c1_ (den_pos x) (den_pos y);unfold F86;show Option.bind (Br7 fuel (W x.num) (W y.num)) (fun y1=>Option.bind (Br7 fuel (W x.den) (W y.den)) fun y2=>Option.bind (Ej7 fuel y1 y2) fun y3=>some y3)=_;rw[Bb4 (by omega) (by omega),sb,Bb4 (by omega) (by omega),sb,Cj0 hp (by omega) (by omega) (by
  have:((x.den:Int)*(y.den:Int)).natAbs=x.den*y.den:=by rw[<-b4_,a6_]
  omega),sb]
 congr 2;rw[Rat.mul_def',<-Rat.divInt_ofNat];push_cast;rfl
def Br4(a b:Rat):Int:=if a<b then-1 else if b<a then 1 else 0
theorem Fe8{fuel L:Nat}{x y:Rat}(hx:nsz L x)(hy:nsz L y)(hL:L<=100000000)(hf:10000000000<fuel):F50 fuel (R x) (R y)=some (Br4 x y):=by
 obtain⟨x1,x2⟩:=hx;obtain⟨y1,y2⟩:=hy;have m1:=Bb2 x.num y.den;have m2:=Bb2 y.num x.den;unfold F50;show Option.bind (Br7 fuel (W x.num) (W y.den)) (fun y1=>Option.bind (Br7 fuel (W y.num) (W x.den)) fun y2=>Option.bind (Dy9 fuel y1 y2) fun y3=>some y3)=_;rw[Bb4 (by omega) (by omega),sb,Bb4 (by omega) (by omega),sb,Cl2 (by omega) (by omega) (by omega),sb];congr 1;unfold N7 Br4;simp only[Rat.lt_iff,gt_iff_lt]
end
section
def chr(x:Int):UInt8:=UInt8.ofNat (48+x.toNat)
theorem Az0{x:Int}(h0:0<=x)(h1:x<10):((chr x).toNat:Int)=48+x:=by
 unfold chr;rw[UInt8.toNat_ofNat'];have:(48+x.toNat)%2^8=48+x.toNat:=Nat.mod_eq_of_lt (by omega);rw[this];omega
def ltr(l:List Int):List UInt8:=l.reverse.map chr
theorem K2(l:List Int):(ltr l).length=l.length:=by simp[ltr]
theorem S5(l m:List Int):ltr (l++m)=ltr m++ltr l:=by simp[ltr]
theorem Cr8(x:Int)(m:List Int):ltr (x::m)=ltr m++[chr x]:=by simp[ltr]
def dtx(n:Int):List UInt8:=if n<=0 then[48] else ltr (dg 10 n)
def tx(n:Int):List UInt8:=if n<0 then 45::dtx (-n) else dtx n
theorem h10:(1:Int)<10:=by decide
theorem Dl3:∀(u:Nat),Lib.decDigits u=dtx (u:Int):=by
 have key:∀(k u:Nat),u<=k->Lib.decDigits u=dtx (u:Int):=by
  intro k
  induction k with
  |zero=>
   intro u hu;have:u=0:=by omega
   subst this;rw[Lib.decDigits_one (by decide)];rfl
  |succ k ih=>
   intro u hu;unfold dtx;by_cases h0:u=0
   .subst h0;rw[Lib.decDigits_one (by decide)];rfl
   rw[if_neg (by omega),M9 h10 (by omega)];rw[Lib.decDigits];by_cases h:u<10
   .rw[dif_pos h,show((u:Int)%10)=(u:Int) by omega,show((u:Int)/10)=0 by omega,E7 (Int.le_refl _)];simp[ltr,chr]
   .rw[dif_neg h,ih (u/10) (by omega),Cr8];unfold dtx;rw[if_neg (by omega)];have e:((u/10:Nat):Int)=(u:Int)/10:=by omega
    rw[e];congr 1
 exact fun u=>key u u (ad_ _)
theorem Fd8(n:Int):Lib.itoa n=tx n:=by
 unfold Lib.itoa tx;by_cases h:n<0
 .rw[if_pos h,if_pos h,Dl3,show((n.natAbs:Nat):Int)= -n by omega]
 .rw[if_neg h,if_neg h,Dl3,show((n.toNat:Nat):Int)=n by omega]
theorem Ef3{n:Int}(h0: -9223372036854775808<=n)(h1:n<=9223372036854775807):Ci7 n=some (tx n):=by
 have:∃r,Ci7 n=some r:=by
  unfold Ci7;rw[dT_ h0,dT_ h1];exact⟨_,rfl⟩
 obtain⟨r,hr⟩:=this;rw[hr,(Cr6 hr).2,Fd8]
def pd:Nat->Int->List Int
 |0,_=>[]
 |k+1,x=>x%10::pd k (x/10)
theorem Cs9:∀(k:Nat) (x:Int),(pd k x).length=k
 |0,_=>rfl
 |k+1,x=>by rw[pd,length_cons,Cs9 k]
theorem O4(k:Nat):(10:Int)^(k+1)=10*10^k:=cy_ ..
theorem Fw4:∀(k:Nat) (x:Int),0<=x->x<10^k->val 10 (pd k x)=x
 |0,x,h0,h1=>by simp at h1;simp[pd,val];omega
 |k+1,x,h0,h1=>by
  rw[O4]at h1;rw[pd,val,Fw4 k (x/10) (by omega) (by omega)];omega
theorem Fb4:∀(k:Nat) (x v:Int),0<=x->x<10^k->0<v->dg 10 (x+10^k*v)=pd k x++dg 10 v
 |0,x,v,h0,h1,_=>by
  simp at h1;have:x=0:=by omega
  subst this;simp[pd]
 |k+1,x,v,h0,h1,hv=>by
  rw[O4]at h1;have hp:(0:Int)<10^k:=Q7 (by decide) k;have hm:=c1_ hp hv;rw[O4,Int.mul_assoc];rw[M9 h10 (by omega),pd,cons_append,<-Fb4 k (x/10) v (by omega) (by omega) hv];have e1:(x+10*(10^k*v))%10=x%10:=by omega
  have e2:(x+10*(10^k*v))/10=x/10+10^k*v:=by omega
  rw[e1,e2]
theorem Ff6:∀(k:Nat) (x:Int),0<=x->x<10^k->pd k x=dg 10 x++List.replicate (k-(dg 10 x).length) 0
 |0,x,h0,h1=>by
  simp at h1;have:x=0:=by omega
  subst this;rw[E7 (Int.le_refl _)];rfl
 |k+1,x,h0,h1=>by
  rw[O4]at h1;rw[pd,Ff6 k (x/10) (by omega) (by omega)];by_cases hx:x=0
  .subst hx;rw[show(0:Int)/10=0 from rfl,E7 (Int.le_refl _)];simp[List.replicate_succ]
  .rw[M9 h10 (show 0<x by omega)];simp
theorem Cp1{k:Nat}{x:Int}(h1:x<10^k):(dg 10 x).length<=k:=G4 h10 h1
def fv:Int->List UInt8->Int
 |a,[]=>a
 |a,c::s=>fv (10*a+((c.toNat:Int)-48)) s
theorem Eo8:∀(s t:List UInt8) (a:Int),fv a (s++t)=fv (fv a s) t
 |[],_,_=>rfl
 |_::s,t,_=>Eo8 s t _
theorem Bw7:∀(l:List Int),dig 10 l->∀a,fv a (ltr l)=a*10^l.length+val 10 l
 |[],_,a=>by simp[ltr,fv,val]
 |x::l,h,a=>by
  have h:=E1.1 h;rw[Cr8,Eo8,Bw7 l h.2,length_cons,O4,val];show 10*(a*10^l.length+val 10 l)+(((chr x).toNat:Int)-48)=_;rw[Az0 h.1.1 h.1.2];grind
theorem By3{l:List Int}(h:dig 10 l):∀c∈ltr l,48<=c.toNat/\c.toNat<=57:=by
 intro c hc;unfold ltr at hc;obtain⟨x,hx,rfl⟩:=av_.1 hc;obtain⟨h0,h1⟩:=h x (List.mem_reverse.1 hx);have:=Az0 h0 h1;omega
def dgs(s:List UInt8):List Int:=(s.map fun c=>(c.toNat:Int)-48).reverse
theorem Fb5{s:List UInt8}(h:∀c∈s,48<=c.toNat/\c.toNat<=57):dig 10 (dgs s):=by
 intro x hx;unfold dgs at hx;obtain⟨c,hc,rfl⟩:=av_.1 (List.mem_reverse.1 hx);have:=h c hc;omega
theorem Dq5{s:List UInt8}(h:∀c∈s,48<=c.toNat/\c.toNat<=57):ltr (dgs s)=s:=by
 unfold ltr dgs;rw[List.reverse_reverse,List.map_map];have:∀c∈s,(chr∘fun c:UInt8=>(c.toNat:Int)-48) c=c:=fun c hc=>by
  have:=h c hc;unfold chr;show UInt8.ofNat (48+((c.toNat:Int)-48).toNat)=c;rw[show 48+((c.toNat:Int)-48).toNat=c.toNat by omega,UInt8.ofNat_toNat]
 rw[b8_ this];simp
theorem An0{n:Int}(h:0<=n):tx n=dtx n:=if_neg (by omega)
theorem L7{n:Int}(h:0<n):dtx n=ltr (dg 10 n):=if_neg (by omega)
theorem Gi9:dtx 0=[48]:=rfl
theorem H2{n:Int}(h:0<=n):∀c∈dtx n,48<=c.toNat/\c.toNat<=57:=by
 by_cases h0:n=0
 .subst h0;intro c hc;rw[Gi9]at hc;simp at hc;subst hc;decide
 .rw[L7 (by omega)];exact By3 (H1 h10 n h)
theorem Bi5{n:Int}:dtx n≠[]:=by
 unfold dtx;split
 .simp
 .intro h;have:=congrArg List.length h;rw[K2]at this;have h2:=as_.2 (Be7 h10 (show 0<n by omega));simp at this;rw[this]at h2;simp at h2
theorem Bn3{n:Int}(h:0<n):∃c s,dtx n=c::s/\49<=c.toNat/\c.toNat<=57:=by
 obtain⟨l,y,e,h0,h1⟩:=Aq5 h10 h;refine⟨chr y,ltr l,?_,?_⟩
 .rw[L7 h,e,S5];rfl
 .have:=Az0 (aj_ h0) h1;omega
theorem Ai1{n:Int}(h:0<n):(dtx n).length=(dg 10 n).length:=by rw[L7 h,K2]
theorem Cp7{n:Int}{k:Nat}(hk:0<k)(h:n<10^k):(dtx n).length<=k:=by
 by_cases h0:n<=0
 .unfold dtx;rw[if_pos h0];exact hk
 .rw[Ai1 (by omega)];exact G4 h10 h
theorem Bw6{n:Int}(h:0<=n):fv 0 (dtx n)=n:=by
 by_cases h0:n=0
 .subst h0;rfl
 .rw[L7 (by omega),Bw7 _ (H1 h10 n h),I8 h10 n h];omega
theorem Dm0{a b:Int}(ha:0<=a)(hb:0<=b)(h:dtx a=dtx b):a=b:=by rw[<-Bw6 ha,<-Bw6 hb,h]
theorem Am9{a b:Int}(h:tx a=tx b):a=b:=by
 have hh:∀{x y:Int},x<0->0<=y->tx x≠tx y:=fun{x y} hx hy h=>by
  unfold tx at h;rw[if_pos hx,if_neg (by omega)]at h;have:=H2 hy 45 (by rw[<-h];exact ab_);exact absurd this.1 (by decide)
 by_cases h1:a<0<;>by_cases h2:b<0
 .unfold tx at h;rw[if_pos h1,if_pos h2]at h;have:=Dm0 (by omega) (by omega) (cl_ h).2;omega
 .exact absurd h (hh h1 (by omega))
 .exact absurd h.symm (hh h2 (by omega))
 .rw[An0 (by omega),An0 (by omega)]at h;exact Dm0 (by omega) (by omega) h
theorem Ft3{s:List UInt8}(h:∀c∈s,48<=c.toNat/\c.toNat<=57){c:UInt8}{r:List UInt8}(hs:s=c::r)(hc:c.toNat≠48):s=dtx (fv 0 s)/\0<fv 0 s:=by
 have hd:=Fb5 h;have e:dgs s=dgs r++[(c.toNat:Int)-48]:=by subst hs;simp[dgs]
 have hv:fv 0 s=val 10 (dgs s):=by
  have:=Bw7 (dgs s) hd 0;rw[Dq5 h]at this;omega
 have hcan:=En7 h10 (l:=dgs r) (y:=(c.toNat:Int)-48) (e▸hd) (by omega);rw[<-e]at hcan;have hpos:0<fv 0 s:=by
  rw[hv];by_cases h0:val 10 (dgs s)<=0
  .rw[E7 h0,e]at hcan;simp at hcan
  .omega
 refine⟨?_,hpos⟩;rw[L7 hpos,hv,hcan,Dq5 h]
end
section
theorem Dx6(s:List UInt8):(s.map toI).map (fun x=>x.toNat.toUInt8)=s:=by
 rw[List.map_map];have:∀c∈s,((fun x:Int=>x.toNat.toUInt8)∘toI) c=c:=fun c _=>by
  show((c.toNat:Int)).toNat.toUInt8=c;simp
 rw[b8_ this];simp
theorem Fi6{s:List UInt8}(h0:0<s.length)(h1:s.length<=2147483648){k:Nat}(hk:k=s.length):Fz0 (s.map toI) 0 (k:Int)=some s:=by
 subst hk;unfold Fz0;rw[dT_ (show 0<(s.length:Int) by omega),dT_ (show 0+(s.length:Int).toNat<=(s.map toI).length by simp),dT_ (show(s.length:Int)<=2147483648 by omega)];simp only[Bool.and_self,cond_true,drop_zero];rw[ap_ (by simp),Dx6]
theorem Fx9{s:List UInt8}(h0:0<s.length)(h1:s.length<=2147483648):Ev5 (s.map toI)=some s:=by
 unfold Ev5;rw[D1 (by rw[length_map,length_map];exact dT_ h0),length_map,length_map,Fi6 h0 h1 rfl,sb]
theorem Ba8{n:Int}(h0: -9223372036854775808<=n)(h1:n<=9223372036854775807):Ej8 n=some (tx n):=Ef3 h0 h1
theorem Fj1{s t:List UInt8}(h:t.length+s.length<=2147483648):Cl7 s (t.map toI)=some ((s.length:Int),false,(t++s).map toI):=by
 unfold Cl7 Ea4;rw[sb,T8 _ _ (by simpa using h),sb,List.map_append]
def pdl:List Int->List Int
 |[]=>[]
 |x::l=>pd 9 x++pdl l
theorem Dt3:∀(l m:List Int),pdl (l++m)=pdl l++pdl m
 |[],m=>rfl
 |x::l,m=>by rw[cons_append,pdl,pdl,Dt3 l m,List.append_assoc]
theorem Dt4:∀(l:List Int),(pdl l).length=9*l.length
 |[]=>rfl
 |x::l=>by rw[pdl,length_append,Cs9,Dt4 l,length_cons];omega
theorem Fi4:(10:Int)^9=1000000000:=by decide
theorem Bm9:∀(l:List Int) (y:Int),dig 1000000000 l->0<y->y<1000000000->dg 10 (val 1000000000 (l++[y]))=pdl l++dg 10 y/\0<val 1000000000 (l++[y])
 |[],y,_,h0,h1=>by simp[val,pdl,h0]
 |x::l,y,hd,h0,h1=>by
  have hd:=E1.1 hd;obtain⟨e1,e2⟩:=Bm9 l y hd.2 h0 h1;rw[cons_append,Cb8];refine⟨?_,by omega⟩;have:=Fb4 9 x (val 1000000000 (l++[y])) hd.1.1 (by rw[Fi4];exact hd.1.2) e2;rw[Fi4]at this;rw[this,e1,pdl,List.append_assoc]
theorem Gk4{x:Int}(h0:0<=x)(h1:x<1000000000):List.replicate (9-(dtx x).length) 48++dtx x=ltr (pd 9 x)/\(dtx x).length<=9:=by
 have hl:(dg 10 x).length<=9:=Cp1 (by rw[Fi4];exact h1);rw[Ff6 9 x h0 (by rw[Fi4];exact h1),S5];have hr:∀n,ltr (List.replicate n (0:Int))=List.replicate n 48:=fun n=>by
  unfold ltr;rw[List.reverse_replicate,cb_];rfl
 rw[hr];by_cases hx:x=0
 .subst hx;rw[E7 (Int.le_refl _)];exact⟨rfl,by decide⟩
 .rw[L7 (by omega),K2];exact⟨rfl,hl⟩
theorem Dy8{k:Nat}(_:k<=9):([48,48,48,48,48,48,48,48,48].drop (Int.toNat (k:Int))).take (Int.toNat (([48,48,48,48,48,48,48,48,48].length:Int)-(k:Int)))=List.replicate (9-k) (48:UInt8):=by
 have e:([48,48,48,48,48,48,48,48,48]:List UInt8)=List.replicate 9 48:=rfl;rw[e,drop_replicate,ap_ (by simp)];congr 1
theorem Dx0{n:Int}(hl:ln n<=100000000):∀(i k:Nat) (acc:List UInt8),i<ln n->i<k->acc.length+9*i<=2147483648->0<acc.length->
 Q0 (W n) k ((i:Int)-1) (acc.map toI)=some (acc++ltr (pdl ((dg 1000000000 (n.natAbs:Int)).take i)))
 |0,0,_,_,h,_,_=>absurd h (by omega)
 |i+1,0,_,_,h,_,_=>absurd h (by omega)
 |0,k+1,acc,_,_,hacc,h0=>by
  unfold Q0;rw[dF_ (by omega)];simp only[cond_false];rw[Fx9 h0 (by omega),sb];simp[pdl,ltr]
 |i+1,k+1,acc,hi,hk,hacc,h0=>by
  have hil:i<(dg 1000000000 (n.natAbs:Int)).length:=by show i<ln n;omega
  obtain⟨a1,a2⟩:=An6 (Ce5 n) hil;obtain⟨p1,p2⟩:=Gk4 a1 a2;have hg:C2 (W n).mag (i:Int)=some (dg 1000000000 (n.natAbs:Int))[i]:=C3 hil;have hlen:(W n).mag.length=ln n:=rfl;unfold Q0;rw[show(((i+1:Nat):Int)-1)=(i:Int) by omega,dT_ (show(i:Int)>=0 by omega),hg];simp only[cond_true,sb];rw[E3 (i:=(dg 1000000000 (n.natAbs:Int))[i]) (by omega) (by omega),Ba8 (by omega) (by omega),sb,An0 a1,length_map,hlen,E3 (i:=(ln n:Int)-1) (by omega) (by omega),dT_ (show(i:Int)<(ln n:Int)-1 by omega)];simp only[cond_true];rw[D1 (by simp;omega),Dy8 p2];have hzl:(List.replicate (9-(dtx (dg 1000000000 (n.natAbs:Int))[i]).length) (48:UInt8)).length=9-(dtx (dg 1000000000 (n.natAbs:Int))[i]).length:=bn_;rw[Fj1 (by rw[hzl];omega),sb];dsimp only;rw[Fj1 (by rw[length_append,hzl];omega),sb,wip i (by omega),List.append_assoc,p1];have hpl:(ltr (pd 9 (dg 1000000000 (n.natAbs:Int))[i])).length=9:=by rw[K2,Cs9]
  rw[Dx0 hl i k (acc++ltr (pd 9 (dg 1000000000 (n.natAbs:Int))[i])) (by omega) (by omega) (by rw[length_append,hpl];omega) (by rw[length_append];omega)];rw[b0_ hil,Dt3,S5,List.append_assoc];simp[pdl]
theorem Fi5{w:A5}:∀(k:Nat),Ao5 w k=Q0 w k
 |0=>by funext v l;rfl
 |k+1=>by funext v l;unfold Ao5 Q0;rw[Fi5 k]
theorem Dx1{w:A5}:∀(k:Nat),Ao6 w k=Q0 w k
 |0=>by funext v l;rfl
 |k+1=>by funext v l;unfold Ao6 Q0;rw[Dx1 k]
theorem Aw2{fuel:Nat}{n:Int}(hl:ln n<=100000000)(hf:ln n+1<fuel):Ek1 fuel (W n)=some (tx n):=by
 have hlen:(W n).mag.length=ln n:=rfl;unfold Ek1;rw[length_map,hlen];by_cases h0:n=0
 .subst h0;rw[Gq6];rfl
 have hpos:0<(n.natAbs:Int):=by omega
 obtain⟨l,y,e,y0,y1⟩:=Aq5 hB1 hpos;have hL:ln n=l.length+1:=by show(dg 1000000000 (n.natAbs:Int)).length=_;rw[e];simp
 have hd:dig 1000000000 l:=(Ah9.1 (e▸Ce5 n)).1;obtain⟨e1,_⟩:=Bm9 l y hd y0 y1;rw[<-e,Cx5]at e1;have htx:dtx (n.natAbs:Int)=dtx y++ltr (pdl ((dg 1000000000 (n.natAbs:Int)).take (ln n-1))):=by
  rw[L7 hpos,e1,S5,L7 y0,hL,cn_,e,bq_]
 have hdy:(dtx y).length<=9:=(Gk4 (aj_ y0) y1).2;have hdy0:=as_.2 (Bi5 (n:=y));have hg:C2 (W n).mag ((ln n-1:Nat):Int)=some y:=by
  show C2 (dg 1000000000 (n.natAbs:Int)) _=_;rw[D3,e,hL];simp
 rw[show((ln n:Int)==0)=false by rw[beq_eq_false_iff_ne];omega,E3 (i:=(ln n:Int)-1) (by omega) (by omega),show(ln n:Int)-1=((ln n-1:Nat):Int) by omega];simp only[cond_false];show(bif decide (n<0) then _ else _)=_;by_cases hn:n<0
 .rw[dT_ hn];simp only[cond_true];unfold Ga0 Fj6;rw[sb,T8 _ _ (by simp),sb,sb];obtain⟨f,rfl⟩:∃f,fuel=f+1:=⟨fuel-1,by omega⟩
  unfold Q0;rw[dT_ (show((ln n-1:Nat):Int)>=0 by omega),hg];simp only[cond_true,sb];rw[E3 (i:=y) (by omega) (by omega),Ba8 (by omega) (by omega),sb,An0 (by omega),length_map,hlen,E3 (i:=(ln n:Int)-1) (by omega) (by omega),dF_ (by omega)];simp only[cond_false];rw[show([]++[45]:List Int)=([45]:List UInt8).map toI from rfl,Fj1 (by simp;omega),sb,wip _ (by omega)];rw[Dx0 hl (ln n-1) f ([45]++dtx y) (by omega) (by omega) (by simp;omega) (by simp)];unfold tx;rw[if_pos hn,show-n=(n.natAbs:Int) by omega,htx];simp
 .rw[dF_ hn];simp only[cond_false];rw[dT_ (show((ln n-1:Nat):Int)>=0 by omega),hg];simp only[cond_true,sb];rw[E3 (i:=y) (by omega) (by omega),Ba8 (by omega) (by omega),sb,An0 (by omega),dF_ (by omega)];simp only[cond_false];unfold De4 Fj6;rw[sb,T8 _ _ (by simp;omega),sb,sb,wip _ (by omega),Dx1];dsimp only;rw[nil_append,Dx0 hl (ln n-1) fuel (dtx y) (by omega) (by omega) (by omega) hdy0];have hnn:tx n=dtx (n.natAbs:Int):=by rw[An0 (show 0<=n by omega)];congr 1;omega
  rw[hnn,htx]
theorem Dq2{n:Int}(h0:n≠0):∃y:Int,0<y/\y<1000000000/\C2 (W n).mag (((ln n:Nat):Int)-1)=some y/\(dtx (n.natAbs:Int)).length=9*(ln n-1)+(dtx y).length/\0<ln n:=by
 have hpos:0<(n.natAbs:Int):=by omega
 obtain⟨l,y,e,y0,y1⟩:=Aq5 hB1 hpos;have hL:ln n=l.length+1:=by show(dg 1000000000 (n.natAbs:Int)).length=_;rw[e];simp
 have hd:dig 1000000000 l:=(Ah9.1 (e▸Ce5 n)).1;obtain⟨e1,_⟩:=Bm9 l y hd y0 y1;rw[<-e,Cx5]at e1;refine⟨y,y0,y1,?_,?_,by omega⟩
 .show C2 (dg 1000000000 (n.natAbs:Int)) _=_;rw[hL,show((l.length+1:Nat):Int)-1=(l.length:Int) by omega,D3,e];simp
 .rw[L7 hpos,e1,K2,length_append,Dt4,L7 y0,K2,hL];omega
theorem Bv1{n:Int}(hl:ln n<=100000000):Fm9 (W n)=some ((dtx (n.natAbs:Int)).length:Int):=by
 have hlen:(W n).mag.length=ln n:=rfl;unfold Fm9;rw[length_map,hlen];by_cases h0:n=0
 .subst h0;rw[Gq6];rfl
 obtain⟨y,y0,y1,hg,hd,hp⟩:=Dq2 h0;have hdy:(dtx y).length<=9:=(Gk4 (aj_ y0) y1).2;rw[show((ln n:Int)==0)=false by rw[beq_eq_false_iff_ne];omega];simp only[cond_false];rw[E3 (i:=(ln n:Int)-1) (by omega) (by omega),hg,sb,E3 (i:=y) (by omega) (by omega),Ba8 (by omega) (by omega),sb,An0 (by omega),E3 (i:=9*((ln n:Int)-1)) (by omega) (by omega),E3 (by omega) (by omega)];congr 1;omega
theorem Gw2{s:List UInt8}:Ga7 s [45]=some (s.head? ==some 45):=by
 unfold Ga7;cases s with
 |nil=>rfl
 |cons c s=>
  rw[dT_ (show(((c::s).length:Nat):Int)>=(([45]:List UInt8).length:Int) by simp;omega)];simp only[cond_true];rw[D1 (by simp),sb];congr 1;simp
theorem Fy6{s:List UInt8}:Fj3 s [45]=some (if s.head? =some 45 then s.tail else s):=by
 unfold Fj3 Ge6;rw[Gw2,sb];cases s with
 |nil=>rfl
 |cons c s=>
  by_cases h:c=45
  .subst h;simp only[head?_cons,beq_self_eq_true,cond_true,if_true];rw[D1 (by simp;omega),sb];simp
  .have:((c::s).head? ==some 45)=false:=by simpa using h
   rw[this];simp[h]
theorem Gq7{s:List UInt8}(hs:∀c∈s,48<=c.toNat/\c.toNat<=57)(hl:s.length<=9):∀(r i k:Nat) (a:Int),i+r=s.length->r<k->0<=a->a<10^i->Aa9 s k a (i:Int)=some (fv a (s.drop i),false)
 |0,i,0,_,_,h,_,_=>absurd h (by omega)
 |r+1,i,0,_,_,h,_,_=>absurd h (by omega)
 |0,i,k+1,a,hi,_,_,_=>by
  unfold Aa9;rw[dge (by rw[length_map];omega),ag_ (by omega)];rfl
 |r+1,i,k+1,a,hi,hk,h0,h1=>by
  unfold Aa9;have hil:i<s.length:=by omega
  have hc:=hs s[i] (af_ hil);have hcI:48<=(s[i].toNat:Int)/\(s[i].toNat:Int)<=57:=by omega
  have hg:C2 (s.map toI) (i:Int)=some (s[i].toNat:Int):=by rw[C3 (by simpa using hil)];simp[toI]
  rw[dlt (by rw[length_map];omega),hg];simp only[cond_true,sb];rw[dT_ hcI.1,dT_ hcI.2];have h95:(bif ((s[i].toNat:Int))==95 then some () else some ())=some ():=by cases ((s[i].toNat:Int))==95<;>rfl
  rw[h95];simp only[cond_true,sb];have wu8:∀{x:Int},0<=x->x<256->IntKind.u8.wrap x=x:=fun{x} h h'=>by
   have e8:(2^IntKind.u8.bits:Int)=256:=rfl;unfold IntKind.wrap;simp only[e8,show IntKind.u8.signed=false from rfl,Bool.false_and];rw[if_neg (by decide)];exact bd_ h h'
  have h9:(10:Int)^i<=100000000:=by
   have h8:i<=8:=by omega
   have:=E8 h10 h8;have:(10:Int)^8=100000000:=by decide
   omega
  have hmax:u64.wrap ((u64.wrap (1*2^(min (Int.toNat (u64.wrap 32)) u64.bits)))-1)=4294967295:=by kernel_rfl
  unfold Bl0;rw[wu8 (x:=(s[i].toNat:Int)-48) (by omega) (by omega),wu8 (x:=10) (by decide) (by decide),dF_ (by omega),hmax];simp only[cond_false];rw[dF_ (show¬a>=1844674407370955162 by omega)];simp only[cond_false];rw[N6 (i:=10) (by decide) (by decide),N6 (i:=a*10) (by omega) (by omega),N6 (i:=(s[i].toNat:Int)-48) (by omega) (by omega),N6 (i:=a*10+((s[i].toNat:Int)-48)) (by omega) (by omega),dF_ (show¬a*10+((s[i].toNat:Int)-48)<a*10 by omega),dF_ (show¬a*10+((s[i].toNat:Int)-48)>4294967295 by omega)];simp only[cond_false,sb];rw[wi i (by omega),Gq7 hs hl r (i+1) k _ (by omega) (by omega) (by omega) (by rw[a3_];omega),ai_ hil];rw[fv,show a*10+((s[i].toNat:Int)-48)=10*a+((s[i].toNat:Int)-48) by omega]
theorem Gk6{fuel:Nat}{s:List UInt8}(hs:∀c∈s,48<=c.toNat/\c.toNat<=57)(h0:s≠[])(hl:s.length<=9)(hf:10<fuel):Fz8 fuel s=some (fv 0 s,false):=by
 unfold Fz8 Ge7;rw[show(s==[])=false by simpa using h0];simp only[cond_false];rw[D1 (by decide),show(0:Int)=((0:Nat):Int) from rfl,Gq7 hs hl s.length 0 fuel _ (by omega) (by omega) (by omega) (by decide),sb,drop_zero];rfl
theorem Er7{fuel:Nat}{d0 y1:List UInt8}(hf:10<fuel)(hb:y1.length<=1000000000):∀(k:Nat) (l:List Int) (t:List UInt8) (acc:List Int),dig 10 l->y1=ltr l++t->l.length<k->acc.length+l.length<=2000000000->
 ∃m,Ax9 fuel d0 y1 k (l.length:Int) acc=Option.bind (Be1 fuel (decide ((y1.length:Int)<(d0.length:Int))) (acc++m)) (fun y5=>some y5)/\dig 1000000000 m/\m.length<=l.length/\val 1000000000 m=val 10 l
 |0,_,_,_,_,_,h,_=>absurd h (by omega)
 |k+1,l,t,acc,hd,hy,hk,hacc=>by
  have hylen:y1.length=l.length+t.length:=by rw[hy,length_append,K2]
  unfold Ax9;by_cases h0:l.length=0
  .have:l=[]:=a1_ h0;subst this;rw[dF_ (by simp)];simp only[cond_false];exact⟨[],by simp,J2,by simp,rfl⟩
  .rw[dT_ (show(l.length:Int)>0 by omega),E3 (i:=(l.length:Int)-9) (by omega) (by omega)];simp only[cond_true];have hst:(bif decide ((l.length:Int)-9>0) then(l.length:Int)-9 else 0)=((l.drop 9).length:Int):=by
    rw[length_drop];by_cases h:(l.length:Int)-9>0
    .rw[dT_ h];simp only[cond_true];omega
    .rw[dF_ h];simp only[cond_false];omega
   have hdl:(l.drop 9).length<=l.length:=by rw[length_drop];omega
   rw[hst,D1 (by simp;omega)];have hp:(y1.drop (Int.toNat ((l.drop 9).length:Int))).take (Int.toNat ((l.length:Int)-((l.drop 9).length:Int)))=ltr (l.take 9):=by
    have e:ltr l=ltr (l.drop 9)++ltr (l.take 9):=by rw[<-S5,ao_]
    have e2:((l.drop 9).length:Int).toNat=(ltr (l.drop 9)).length:=by rw[K2];omega
    have e3:((l.length:Int)-((l.drop 9).length:Int)).toNat=(ltr (l.take 9)).length:=by rw[K2,length_take,length_drop];omega
    rw[hy,e,e2,e3,List.append_assoc,b1_,bq_]
   have hpl:(ltr (l.take 9)).length<=9:=by rw[K2,length_take];omega
   rw[hp,Gk6 (By3 (F2 hd 9)) (fun h=>by
    have:=congrArg List.length h;rw[K2,length_take,length_nil]at this;omega) hpl hf,sb]
   dsimp only;have hv:=Bw7 (l.take 9) (F2 hd 9) 0;rw[Int.zero_mul,c6_]at hv;have hv0:=M3 (show(0:Int)<10 by decide) (F2 hd 9);have hv1:val 10 (l.take 9)<1000000000:=by
    have h1:=An4 (show(0:Int)<10 by decide) (F2 hd 9);have h2:=E8 h10 (show(l.take 9).length<=9 by rw[length_take];omega);rw[Fi4]at h2;omega
   rw[hv,An7 hv0 (by omega),T8 _ _ (by simp;omega),sb];by_cases h9:l.length<=9
   .have hd9:l.drop 9=[]:=ag_ h9;have ht9:l.take 9=l:=ap_ h9;rw[ht9]at hv0 hv1⊢;obtain⟨k',rfl⟩:∃k',k=k'+1:=⟨k-1,by omega⟩
    unfold Ax9;rw[dF_ (show¬(l.length:Int)-9>0 by omega)];simp only[cond_false];exact⟨[val 10 l],rfl,E1.2 ⟨⟨hv0,hv1⟩,J2⟩,by simp;omega,by simp[val]⟩
   .have e9:(l.length:Int)-9=((l.drop 9).length:Int):=by rw[length_drop];omega
    obtain⟨m,e1,e2,e3,e4⟩:=Er7 (fuel:=fuel) (d0:=d0) (y1:=y1) hf hb k (l.drop 9) (ltr (l.take 9)++t) (acc++[val 10 (l.take 9)]) (L5 hd 9) (by rw[hy,<-List.append_assoc,<-S5,ao_]) (by rw[length_drop];omega) (by rw[length_append,length_drop];simp;omega);rw[e9,e1];refine⟨val 10 (l.take 9)::m,by simp,E1.2 ⟨⟨hv0,hv1⟩,e2⟩,by rw[length_drop]at e3;simp;omega,?_⟩;rw[Cb8,e4,T4 (B:=10) l 9 (by omega),Fi4]
def dg0(n:Int):List Int:=if n<=0 then[0] else dg 10 n
theorem Bn2(n:Int):dtx n=ltr (dg0 n):=by
 unfold dtx dg0;split
 .rfl
 .rfl
theorem Dl4{n:Int}:dig 10 (dg0 n):=by
 unfold dg0;split
 .exact E1.2 ⟨⟨by decide,by decide⟩,J2⟩
 .exact H1 h10 n (by omega)
theorem Dl5{n:Int}(h:0<=n):val 10 (dg0 n)=n:=by
 unfold dg0;split
 .simp[val];omega
 .exact I8 h10 n h
theorem Bc5{fuel:Nat}{n:Int}(hl:(tx n).length<=1000000000)(hf:(tx n).length+10<fuel):F98 fuel (tx n)=some (W n):=by
 have key:∀(d0:List UInt8) (x:Int) (neg:Bool),0<=x->(dtx x).length<=1000000000->(dtx x).length+10<fuel->decide (((dtx x).length:Int)<(d0.length:Int))=neg->Ax9 fuel d0 (dtx x) fuel ((dtx x).length:Int) []=some (W (sg neg x)):=by
  intro d0 x neg hx h1 h2 h3;have hll:(dtx x).length=(dg0 x).length:=by rw[Bn2,K2]
  obtain⟨m,e1,e2,e3,e4⟩:=Er7 (fuel:=fuel) (d0:=d0) (y1:=dtx x) (by omega) h1 fuel (dg0 x) [] [] Dl4 (by rw[Bn2];simp) (by omega) (by simp;omega);rw[<-hll]at e1;rw[e1,nil_append,P3 e2 (by omega) (by omega),sb,h3,e4,Dl5 hx]
 unfold F98;rw[Fy6,sb];by_cases hn:n<0
 .have ht:tx n=45::dtx (-n):=if_pos hn;rw[ht]at hl hf⊢;simp only[length_cons]at hl hf;simp only[head?_cons,if_true,tail_cons];rw[key (45::dtx (-n)) (-n) true (by omega) (by omega) (by omega) (dT_ (by simp;omega))];congr 2;unfold sg;simp only[cond_true];omega
 .have ht:tx n=dtx n:=if_neg hn;rw[ht]at hl hf⊢;have hh:(dtx n).head?≠some 45:=by
   intro h;have hm:=mem_of_mem_head? h;exact absurd (H2 (show 0<=n by omega) 45 hm).1 (by decide)
  rw[if_neg hh,key (dtx n) n false (by omega) (by omega) (by omega) (dF_ (by omega))];rfl
end
end Go.Proofs.YtfgbhfphjmmiaaaGreatDoor
end
