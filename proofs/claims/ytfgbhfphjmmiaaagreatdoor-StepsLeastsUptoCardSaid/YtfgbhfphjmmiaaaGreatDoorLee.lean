/- One part of the texts that lead to the theorem; it claims nothing by itself. -/
import Derived.Test.YtfgbhfphjmmiaaaGreatDoorLed
open List Go.Proofs.Tryz
section
set_option linter.unusedVariables false
set_option maxRecDepth 100000
namespace Go.Proofs.YtfgbhfphjmmiaaaGreatDoor
open Go Go.RowKit Kx Go.IntKind
section
def F43(fuel:Nat)(d0:A9)(d1:Int)(d2:Int):Option Int:=
 (F93 fuel d0).bind fun y1=>
 bif y1 !=0 then
  (some y1)
 else
  ((
   ass (decide (0<=((d0.Owner.map A3).length:Int)))<|
   bif (u64.wrap (BitVec.ofInt u64.bits d1&&& ~~~BitVec.ofInt u64.bits (u64.wrap ((u64.wrap (1*2^(min (Int.toNat ((d0.Owner.map A3).length:Int)) u64.bits)))-1))).toNat) !=0 then
    (some true)
   else
    (bif decide (d2<0) then
     (some true)
    else
     (some (decide (d2>60))))).bind fun o1=>
  bif o1 then
   (some 2)
  else
   (some 0))
noncomputable abbrev b43:=C0 f43
abbrev G43(r:Int):=GJ prog 29 f43 (.i r)
theorem Cm2{fuel}{d0}{d1}{d2}{r}(hF:F43 fuel d0 d1 d2=some r):
 C1 prog 43 [.agg [.l 1 d0.Owner A3,.l 1 d0.Choices A0],.n d1,.i d2] (.i r):=by
 refine cf 29 func43 ?_;refine jB 9 hF Fq1 fun y1 hF=> ?_
 refine jI 7 11 hF ?_ ?_<;>intro hF
 .cases hF;exact jr 6
 .obtain⟨o1,hO,hF⟩:=bnd hF;have hR1:G43 r ⟨mkT [(28,.b o1)],[],[kO b43 28,kC b43 29,kC b43 15]⟩:=by
   clear hO;refine jI 1 28 hF ?_ ?_<;>intro hF
   .cases hF;exact jr 5
   .cases hF;exact jr 6
  clear hF;rename _=some o1=>hF
  obtain⟨hb9,hF⟩:=O3 hF;refine jo1 9 (ck hb9) ?_;refine jI 4 21 hF ?_ ?_<;>intro hF
  .cases hF;exact ja 7 hR1
  .refine jI 4 25 hF ?_ ?_<;>intro hF
   .cases hF;exact ja 3 hR1
   .cases hF;exact ja 3 hR1
def Bh0(fuel:Nat)(d1:Int)(l1:List A7):Nat->Int->(List A7)->Option (List A7)
 |0,_,_=>none
 |nL1+1,v2,l5=>
  bif decide (v2<((l1.map A8).length:Int)) then
   (ass (decide (0<=v2))<|
   (F51 fuel (i64.wrap (u64.wrap (BitVec.ofInt u64.bits (Int.fdiv d1 (2^(min (Int.toNat v2) u64.bits)))&&&BitVec.ofInt u64.bits 1).toNat)) 1).bind fun y5=>
   (C2 l5 v2).bind fun y6=>
   (some (l5.set (0+Int.toNat v2) y5)).bind fun l6=>
   (Bh0 fuel d1 l1 nL1) (i64.wrap (v2+1)) l6)
  else
   (some l5)
def F44(fuel:Nat)(d0:A9)(d1:Int):Option (List A7):=
 (mkL ((d0.Owner.map A3).length:Int) ((d0.Owner.map A3).length:Int) (⟨(⟨false,[]⟩:A5),(⟨false,[]⟩:A5)⟩:A7)).bind fun l1=>
 Bh0 fuel d1 l1 fuel 0 l1
noncomputable abbrev b44:=C0 f44
abbrev G44(r:List A7):=GJ prog 27 f44 (.l 4 r A8)
theorem Cm3{fuel}{d0}{d1}{r}(hF:F44 fuel d0 d1=some r):
 C1 prog 44 [.agg [.l 1 d0.Owner A3,.l 1 d0.Choices A0],.n d1] (.l 4 r A8):=by
 refine cf 27 func44 ?_;obtain⟨l1,e1,hF⟩:=bnd hF;refine jo2 10 (mm' A8 e1) ?_;have hL1:∀nL1 v2 l5,Bh0 fuel d1 l1 nL1 v2 l5=some r->G44 r ⟨mkT [(1,.n d1),(5,.suf 10 0 0),(12,.i ((l1.map A8).length:Int)),(13,.i v2)],[(10,.buf 0 100 4 (l5.map A8))],[kL b44 116,.inBlock 0,kC b44 15]⟩:=by
  clear hF;refine lpI (fun _ _ h=>by cases h) fun nL1 iL1 v2 l5 hF=> ?_
  refine jI 6 14 hF ?_ ?_<;>intro hF
  .obtain⟨hb6,hF⟩:=O3 hF;refine jo1 14 (ck hb6) ?_;refine jB 2 hF Cm5 fun y5 hF=> ?_
   obtain⟨y6,e9,hF⟩:=bnd hF;refine jo1 0 (gm' A8 e9) ?_;obtain⟨l6,e10,hF⟩:=bnd hF;have hst:=stm (f:=A8) (z:=y5) (k:=0) (xs:=[.bool y5.n_.neg,.sl 1 (y5.n_.mag.map A6),.bool y5.d.neg,.sl 1 (y5.d.mag.map A6)]) (gj e9) rfl;refine B5 0 (G1 (o:=(match(l5.map A8)[0+Int.toNat v2]? with|some old=>some ((l5.map A8).set (0+Int.toNat v2) (Z6 old 0 [.bool y5.n_.neg,.sl 1 (y5.n_.mag.map A6),.bool y5.d.neg,.sl 1 (y5.d.mag.map A6)]))|none=>none)) (l6.map A8) (by kernel_rfl) (by cases e10;exact hst) ?_);exact ja 6 (iL1 _ _ hF)
  .cases hF;exact jr 7
 exact ja 11 (hL1 _ _ _ hF)
def F45(d0:A9)(d1:Int):Option (List Int×List (List A2)×Int):=
 some (d0.Owner,d0.Choices,d1)
noncomputable abbrev b45:=C0 f45
theorem Dg4{d0}{d1}{r}(hF:F45 d0 d1=some r):
 M7 prog 45 [] [.agg [.l 1 d0.Owner A3,.l 1 d0.Choices A0],.n d1] [(2000,.box 34 [.l 1 r.1 A3,.l 1 r.2.1 A0]),(2001,.box 40 [.n r.2.2])] (.fn 94 [] [.ptr 2000 0,.ptr 2001 0]):=by
 unfold F45 at hF;refine cr 6 func45 ?_;refine ja 11 (S0:=[(4,.fn 94 [] [.ptr 2 0,.ptr 3 0])]) (O0:=[(2,.box 34 [.l 1 d0.Owner A3,.l 1 d0.Choices A0]),(3,.box 40 [.n d1])]) (T0:=[kC b45 7]) ?_;refine B5 0 (Ay4 [(2,2000),(3,2001)] (by kernel_rfl) (by kernel_rfl) (by kernel_rfl) (by kernel_rfl) ?_);have hF:=oi hF;subst hF;exact B5 0 (Bm0 (xs:=[.fn 94 [] [.ptr 2000 0,.ptr 2001 0]]) [.fn 94 [] [.ptr 2000 0,.ptr 2001 0]] rfl (by kernel_rfl) (by kernel_rfl) (R4.refl _) rfl)
def Bh2(fuel:Nat)(d0:A2)(d1:List A7):Nat->Int->Bool->(List Int)->Bool->(List Int)->Option A7
 |0,_,_,_,_,_=>none
 |nL1+1,v2,t3,l3,t4,l4=>
  bif decide (v2<((d0.Next.map A4).length:Int)) then
   ((C2 d0.Next v2).bind fun y20=>
   (F48 fuel y20.P).bind fun y25=>
   (C2 d1 y20.To).bind fun y26=>
   (F86 fuel y25 y26).bind fun y27=>
   (F54 fuel (⟨(⟨t3,l3⟩:A5),(⟨t4,l4⟩:A5)⟩:A7) y27).bind fun y28=>
   (Bh2 fuel d0 d1 nL1) (i64.wrap (v2+1)) y28.n_.neg y28.n_.mag y28.d.neg y28.d.mag)
  else
   (some (⟨(⟨t3,l3⟩:A5),(⟨t4,l4⟩:A5)⟩:A7))
def F55(fuel:Nat)(d0:A2)(d1:List A7):Option A7:=
 (F51 fuel 0 1).bind fun y1=>
 Bh2 fuel d0 d1 fuel 0 y1.n_.neg y1.n_.mag y1.d.neg y1.d.mag
noncomputable abbrev b55:=C0 f55
abbrev G55(r:A7):=GJ prog 29 f55 (.agg [.b r.n_.neg,.l 1 r.n_.mag A6,.b r.d.neg,.l 1 r.d.mag A6])
theorem El4{fuel}{d0}{d1}{r}(hF:F55 fuel d0 d1=some r):
 C1 prog 55 [.agg [.s d0.Act,.s d0.Gain,.l 2 d0.Next A4],.l 4 d1 A8] (.agg [.b r.n_.neg,.l 1 r.n_.mag A6,.b r.d.neg,.l 1 r.d.mag A6]):=by
 refine cf 29 func55 ?_;refine jB 7 hF Cm5 fun y1 hF=> ?_
 have hL1:∀nL1 v2 t3 l3 t4 l4,Bh2 fuel d0 d1 nL1 v2 t3 l3 t4 l4=some r->G55 r ⟨mkT [(1,.l 4 d1 A8),(4,.ptr 4 0),(5,.ptr 5 0),(10,.l 2 d0.Next A4),(11,.i ((d0.Next.map A4).length:Int)),(12,.i v2)],[(4,.box 100 [.b false,.esl 1,.b false,.esl 1]),(5,.box 100 [.b t3,.l 1 l3 A6,.b t4,.l 1 l4 A6])],[kL b55 116,.inBlock 0,kC b55 15]⟩:=by
  clear hF;refine lpI (fun _ _ _ _ _ h=>by cases h) fun nL1 iL1 v2 t3 l3 t4 l4 hF=> ?_
  refine jI 6 13 hF ?_ ?_<;>intro hF
  .obtain⟨y20,e20,hF⟩:=bnd hF;refine jo1 6 (gm' A4 e20) ?_;refine jd 4 ?_;refine dB 3 hF Bs4 fun y25 hF=> ?_
   obtain⟨y26,e26,hF⟩:=bnd hF;refine do1 3 (gm' A8 e26) ?_;refine dB 1 hF Fp9 fun y27 hF=> ?_
   refine dB 0 hF El3 fun y28 hF=> ?_
   refine je 1 ?_;exact ja 5 (iL1 _ _ _ _ _ hF)
  .cases hF;exact jr 7
 exact ja 13 (hL1 _ _ _ _ _ _ hF)
def F95(fuel:Nat)(d0:A2)(d1:List A7):Option A7:=
 (F55 fuel d0 d1).bind fun y1=>
 some y1
theorem El9{fuel}{d0}{d1}{r}(hF:F95 fuel d0 d1=some r):
 C1 prog 95 [.agg [.s d0.Act,.s d0.Gain,.l 2 d0.Next A4],.rp [.sl 4 (d1.map A8)] 0] (.agg [.b r.n_.neg,.l 1 r.n_.mag A6,.b r.d.neg,.l 1 r.d.mag A6]):=by
 refine cf 7 func95 ?_;refine jB 9 hF El4 fun y1 hF=> ?_
 cases hF;exact jr 2
def Bh1(v6:Int)(cL1:Int->Int->Bool->(List Int)->Bool->(List Int)->Option (A7×Int))(v7:Int)(t14:Bool)(l10:List Int)(t15:Bool)(l11:List Int):Option (A7×Int):=
 cL1 v7 (i64.wrap (v6+1)) t14 l10 t15 l11
def As4(fuel:Nat)(d0:Int)(d2:List A7)(l1:List A2):Nat->Int->Int->Bool->(List Int)->Bool->(List Int)->Option (A7×Int)
 |0,_,_,_,_,_,_=>none
 |nL1+1,v5,v6,t11,l8,t12,l9=>
  bif decide (v6<((l1.map A1).length:Int)) then
   ((C2 l1 v6).bind fun y18=>
   (F95 fuel y18 d2).bind fun y19=>
   (F50 fuel y19 (⟨(⟨t11,l8⟩:A5),(⟨t12,l9⟩:A5)⟩:A7)).bind fun y20=>
   (
    bif d0==0 then
     (bif decide (y20>0) then
      (some true)
     else
      (bif d0==1 then
       (some (decide (y20<0)))
      else
       (some false)))
    else
     (bif d0==1 then
      (some (decide (y20<0)))
     else
      (some false))).bind fun o6=>
   bif o6 then
    (Bh1 v6 (As4 fuel d0 d2 l1 nL1) (i64.wrap (v6+1)) y19.n_.neg y19.n_.mag y19.d.neg y19.d.mag)
   else
    (Bh1 v6 (As4 fuel d0 d2 l1 nL1) v5 t11 l8 t12 l9))
  else
   (some ((⟨(⟨t11,l8⟩:A5),(⟨t12,l9⟩:A5)⟩:A7),v5))
def F52(fuel:Nat)(d0:Int)(d1:List A2)(d2:List A7):Option (A7×Int):=
 (C2 d1 0).bind fun y1=>
 (F95 fuel y1 d2).bind fun y2=>
 (slc d1 1 (d1.length:Int)).bind fun l1=>
 As4 fuel d0 d2 l1 fuel 0 0 y2.n_.neg y2.n_.mag y2.d.neg y2.d.mag
noncomputable abbrev b52:=C0 f52
abbrev G52(r:A7×Int):=GJ prog 53 f52 (.tup [.agg [.b r.1.n_.neg,.l 1 r.1.n_.mag A6,.b r.1.d.neg,.l 1 r.1.d.mag A6],.i r.2])
theorem Fo9{fuel}{d0}{d1}{d2}{r}(hF:F52 fuel d0 d1 d2=some r):
 C1 prog 52 [.i d0,.l 3 d1 A1,.fn 95 [] [.rp [.sl 4 (d2.map A8)] 0]] (.tup [.agg [.b r.1.n_.neg,.l 1 r.1.n_.mag A6,.b r.1.d.neg,.l 1 r.1.d.mag A6],.i r.2]):=by
 refine cf 53 func52 ?_;obtain⟨y1,e1,hF⟩:=bnd hF;refine jo1 9 (gm' A1 e1) ?_;refine jB 1 hF El9 fun y2 hF=> ?_
 obtain⟨l1,e3,hF⟩:=bnd hF;refine jo2 8 (smh (f:=A1) e3) ?_;have hL1:∀nL1 v5 v6 t11 l8 t12 l9,As4 fuel d0 d2 l1 nL1 v5 v6 t11 l8 t12 l9=some r->G52 r ⟨mkT [(0,.i d0),(2,.fn 95 [] [.rp [.sl 4 (d2.map A8)] 0]),(6,.ptr 6 0),(8,.i v5),(9,.ptr 9 0),(20,.l 3 l1 A1),(21,.i ((l1.map A1).length:Int)),(22,.i v6)],[(6,.box 100 [.b false,.esl 1,.b false,.esl 1]),(9,.box 100 [.b t11,.l 1 l8 A6,.b t12,.l 1 l9 A6])],[kL b52 116,.inBlock 0,kC b52 15]⟩:=by
  clear hF;refine lpI (fun _ _ _ _ _ _ h=>by cases h) fun nL1 iL1 v5 v6 t11 l8 t12 l9 hF=> ?_
  refine jI 6 23 hF ?_ ?_<;>intro hF
  .have hA2:∀v7 t14 l10 t15 l11,Bh1 v6 (As4 fuel d0 d2 l1 nL1) v7 t14 l10 t15 l11=some r->G52 r ⟨mkT [(0,.i d0),(2,.fn 95 [] [.rp [.sl 4 (d2.map A8)] 0]),(6,.ptr 6 0),(8,.i v7),(9,.ptr 9 0),(20,.l 3 l1 A1),(21,.i ((l1.map A1).length:Int)),(22,.i v6)],[(6,.box 100 [.b false,.esl 1,.b false,.esl 1]),(9,.box 100 [.b t14,.l 1 l10 A6,.b t15,.l 1 l11 A6])],[kC b52 935,kL b52 116,.inBlock 0,kC b52 15]⟩:=by
    intro v7 t14 l10 t15 l11 hF;unfold Bh1 at hF;exact ja 4 (iL1 _ _ _ _ _ _ hF)
   obtain⟨y18,e19,hF⟩:=bnd hF;refine jo1 7 (gm' A1 e19) ?_;refine jB 9 hF El9 fun y19 hF=> ?_
   refine jB 7 hF Cm4 fun y20 hF=> ?_
   obtain⟨o6,hO,hF⟩:=bnd hF;have hR6:G52 r ⟨mkT [(0,.i d0),(2,.fn 95 [] [.rp [.sl 4 (d2.map A8)] 0]),(6,.ptr 6 0),(8,.i v5),(9,.ptr 9 0),(10,.i v6),(12,.ptr 12 0),(20,.l 3 l1 A1),(21,.i ((l1.map A1).length:Int)),(22,.i v6),(46,.b o6)],[(6,.box 100 [.b false,.esl 1,.b false,.esl 1]),(9,.box 100 [.b t11,.l 1 l8 A6,.b t12,.l 1 l9 A6]),(12,.box 100 [.b y19.n_.neg,.l 1 y19.n_.mag A6,.b y19.d.neg,.l 1 y19.d.mag A6])],[kO b52 29902,kC b52 29903,.inBlock 1,kC b52 935,kL b52 116,.inBlock 0,kC b52 15]⟩:=by
    clear hO;refine jI 1 46 hF ?_ ?_<;>intro hF
    .refine jd 1 ?_;refine je 5 ?_;exact ja 1 (hA2 _ _ _ _ _ hF)
    .exact ja 3 (hA2 _ _ _ _ _ hF)
   clear hF;rename _=some o6=>hF
   refine jI 7 35 hF ?_ ?_<;>intro hF
   .refine jI 4 39 hF ?_ ?_<;>intro hF
    .cases hF;exact ja 7 hR6
    .refine jI 3 42 hF ?_ ?_<;>intro hF
     .cases hF;exact ja 4 hR6
     .cases hF;exact ja 4 hR6
   .refine jI 7 42 hF ?_ ?_<;>intro hF
    .cases hF;exact ja 4 hR6
    .cases hF;exact ja 4 hR6
  .cases hF;exact jr 9
 exact ja 5 (hL1 _ _ _ _ _ _ _ hF)
def Bh7(v2:Int)(cL1:Int->(List Int)->(List A7)->Option (List A7×List Int))(l28:List Int)(l29:List A7):Option (List A7×List Int):=
 cL1 (i64.wrap (v2+1)) l28 l29
def As7(fuel:Nat)(d0:List A7)(d1:List Int)(d2:List (List A2))(d3:Int):Nat->Int->(List Int)->(List A7)->Option (List A7×List Int)
 |0,_,_,_=>none
 |nL1+1,v2,l23,l24=>
  bif decide (v2<((d2.map A0).length:Int)) then
   ((C2 d2 v2).bind fun y36=>
   ass (decide (0<=v2))<|
   bif (u64.wrap (BitVec.ofInt u64.bits (Int.fdiv d3 (2^(min (Int.toNat v2) u64.bits)))&&&BitVec.ofInt u64.bits 1).toNat)==1 then
    ((F51 fuel 1 1).bind fun y37=>
    (C2 l24 v2).bind fun y38=>
    (some (l24.set (0+Int.toNat v2) y37)).bind fun l30=>
    Bh7 v2 (As7 fuel d0 d1 d2 d3 nL1) l23 l30)
   else
    ((C2 d1 v2).bind fun y39=>
    (F52 fuel y39 y36 d0).bind fun y40=>
    (C2 l24 v2).bind fun y41=>
    (some (l24.set (0+Int.toNat v2) y40.1)).bind fun l31=>
    (C2 l23 v2).bind fun y42=>
    (some (l23.set (0+Int.toNat v2) y40.2)).bind fun l32=>
    Bh7 v2 (As7 fuel d0 d1 d2 d3 nL1) l32 l31))
  else
   (some (l24,l23))
def F94(fuel:Nat)(d0:List A7)(d1:List Int)(d2:List (List A2))(d3:Int):Option (List A7×List Int):=
 (mkL ((d0.map A8).length:Int) ((d0.map A8).length:Int) (⟨(⟨false,[]⟩:A5),(⟨false,[]⟩:A5)⟩:A7)).bind fun l3=>
 (mkL ((d0.map A8).length:Int) ((d0.map A8).length:Int) 0).bind fun l4=>
 As7 fuel d0 d1 d2 d3 fuel 0 l4 l3
noncomputable abbrev b94:=C0 f94
abbrev G94(r:List A7×List Int):=GJ prog 53 f94 (.tup [.l 4 r.1 A8,.l 1 r.2 A3])
theorem Dh3{fuel}{d0}{d1}{d2}{d3}{r}(hF:F94 fuel d0 d1 d2 d3=some r):
 C1 prog 94 [.l 4 d0 A8,.rp [.sl 1 (d1.map A3),.sl 1 (d2.map A0)] 0,.rp [.int .u64 d3] 0] (.tup [.l 4 r.1 A8,.l 1 r.2 A3]):=by
 unfold F94 at hF;refine cf 53 func94 ?_;refine jd 7 ?_;obtain⟨l3,e3,hF⟩:=bnd hF;refine do2 2 (mm' A8 e3) ?_;obtain⟨l4,e4,hF⟩:=bnd hF;refine do2 2 (mm' A3 e4) ?_;refine je 2 ?_;have hL1:∀nL1 v2 l23 l24,As7 fuel d0 d1 d2 d3 nL1 v2 l23 l24=some r->G94 r ⟨mkT [(1,.rp [.sl 1 (d1.map A3),.sl 1 (d2.map A0)] 0),(2,.rp [.int .u64 d3] 0),(3,.ptr 3 0),(6,.suf 12 0 0),(7,.suf 15 0 0),(17,.l 1 d2 A0),(18,.i ((d2.map A0).length:Int)),(19,.i v2)],[(3,.fzb [.l 4 d0 A8]),(12,.buf 0 100 4 (l24.map A8)),(15,.buf 0 3 1 (l23.map A3))],[kL b94 116,.inBlock 0,kC b94 15]⟩:=by
  clear hF;refine lpI (fun _ _ _ h=>by cases h) fun nL1 iL1 v2 l23 l24 hF=> ?_
  refine jI 6 20 hF ?_ ?_<;>intro hF
  .have hA2:∀l28 l29,Bh7 v2 (As7 fuel d0 d1 d2 d3 nL1) l28 l29=some r->G94 r ⟨mkT [(1,.rp [.sl 1 (d1.map A3),.sl 1 (d2.map A0)] 0),(2,.rp [.int .u64 d3] 0),(3,.ptr 3 0),(6,.suf 12 0 0),(7,.suf 15 0 0),(17,.l 1 d2 A0),(18,.i ((d2.map A0).length:Int)),(19,.i v2)],[(3,.fzb [.l 4 d0 A8]),(12,.buf 0 100 4 (l29.map A8)),(15,.buf 0 3 1 (l28.map A3))],[kC b94 935,kL b94 116,.inBlock 0,kC b94 15]⟩:=by
    intro l28 l29 hF;unfold Bh7 at hF;exact ja 4 (iL1 _ _ _ hF)
   obtain⟨y36,e55,hF⟩:=bnd hF;refine jo1 7 (gm' A0 e55) ?_;obtain⟨hb14,hF⟩:=O3 hF;refine jo1 9 (ck hb14) ?_;refine jI 3 28 hF ?_ ?_<;>intro hF
   .refine jB 5 hF Cm5 fun y37 hF=> ?_
    obtain⟨y38,e57,hF⟩:=bnd hF;refine jo1 0 (gm' A8 e57) ?_;obtain⟨l30,e58,hF⟩:=bnd hF;have hst:=stm (f:=A8) (z:=y37) (k:=0) (xs:=[.bool y37.n_.neg,.sl 1 (y37.n_.mag.map A6),.bool y37.d.neg,.sl 1 (y37.d.mag.map A6)]) (gj e57) rfl;refine B5 0 (G1 (o:=(match(l24.map A8)[0+Int.toNat v2]? with|some old=>some ((l24.map A8).set (0+Int.toNat v2) (Z6 old 0 [.bool y37.n_.neg,.sl 1 (y37.n_.mag.map A6),.bool y37.d.neg,.sl 1 (y37.d.mag.map A6)]))|none=>none)) (l30.map A8) (by kernel_rfl) (by cases e58;exact hst) ?_);exact ja 2 (hA2 _ _ hF)
   .obtain⟨y39,e59,hF⟩:=bnd hF;refine jo1 10 (gm' A3 e59) ?_;refine jB 3 hF Fo9 fun y40 hF=> ?_
    obtain⟨y41,e61,hF⟩:=bnd hF;refine jo1 3 (gm' A8 e61) ?_;obtain⟨l31,e62,hF⟩:=bnd hF;have hst:=stm (f:=A8) (z:=y40.1) (k:=0) (xs:=[.bool y40.1.n_.neg,.sl 1 (y40.1.n_.mag.map A6),.bool y40.1.d.neg,.sl 1 (y40.1.d.mag.map A6)]) (gj e61) rfl;refine B5 0 (G1 (o:=(match(l24.map A8)[0+Int.toNat v2]? with|some old=>some ((l24.map A8).set (0+Int.toNat v2) (Z6 old 0 [.bool y40.1.n_.neg,.sl 1 (y40.1.n_.mag.map A6),.bool y40.1.d.neg,.sl 1 (y40.1.d.mag.map A6)]))|none=>none)) (l31.map A8) (by kernel_rfl) (by cases e62;exact hst) ?_);obtain⟨y42,e63,hF⟩:=bnd hF;refine jo1 0 (gm' A3 e63) ?_;obtain⟨l32,e64,hF⟩:=bnd hF;have hst:=stm (f:=A3) (z:=y40.2) (k:=0) (xs:=[.int .i64 y40.2]) (gj e63) rfl;refine B5 0 (G1 (o:=(match(l23.map A3)[0+Int.toNat v2]? with|some old=>some ((l23.map A3).set (0+Int.toNat v2) (Z6 old 0 [.int .i64 y40.2]))|none=>none)) (l32.map A3) (by kernel_rfl) (by cases e64;exact hst) ?_);exact ja 2 (hA2 _ _ hF)
  .cases hF;exact jr 9
 refine B5 10 (Ce1 (te:=88) 3 [.l 4 d0 A8] (by kernel_rfl) (by kernel_rfl) ?_);exact ja 0 (hL1 _ _ _ _ hF)
def Dg5(fuel:Nat)(d0:List A7):Nat->Int->(List (List UInt8))->Option (List (List UInt8))
 |0,_,_=>none
 |nL1+1,v2,l5=>
  bif decide (v2<((d0.map A8).length:Int)) then
   ((C2 d0 v2).bind fun y7=>
   (F87 fuel y7).bind fun y8=>
   (C2 l5 v2).bind fun y9=>
   (some (l5.set (0+Int.toNat v2) y8)).bind fun l6=>
   (Dg5 fuel d0 nL1) (i64.wrap (v2+1)) l6)
  else
   (some l5)
def F46(fuel:Nat)(d0:List A7):Option (List (List UInt8)):=
 (mkL ((d0.map A8).length:Int) ((d0.map A8).length:Int) []).bind fun l1=>
 Dg5 fuel d0 fuel 0 l1
noncomputable abbrev b46:=C0 f46
abbrev G46(r:List (List UInt8)):=GJ prog 23 f46 (.l 1 r e_s)
theorem Dg6{fuel}{d0}{r}(hF:F46 fuel d0=some r):
 C1 prog 46 [.l 4 d0 A8] (.l 1 r e_s):=by
 refine cf 23 func46 ?_;obtain⟨l1,e1,hF⟩:=bnd hF;refine jo2 8 (mm' e_s e1) ?_;have hL1:∀nL1 v2 l5,Dg5 fuel d0 nL1 v2 l5=some r->G46 r ⟨mkT [(3,.suf 8 0 0),(9,.l 4 d0 A8),(10,.i ((d0.map A8).length:Int)),(11,.i v2)],[(8,.buf 0 23 1 (l5.map e_s))],[kL b46 116,.inBlock 0,kC b46 15]⟩:=by
  clear hF;refine lpI (fun _ _ h=>by cases h) fun nL1 iL1 v2 l5 hF=> ?_
  refine jI 6 12 hF ?_ ?_<;>intro hF
  .obtain⟨y7,e10,hF⟩:=bnd hF;refine jo1 7 (gm' A8 e10) ?_;refine jB 9 hF Fq0 fun y8 hF=> ?_
   obtain⟨y9,e12,hF⟩:=bnd hF;refine jo1 0 (gm' e_s e12) ?_;obtain⟨l6,e13,hF⟩:=bnd hF;have hst:=stm (f:=e_s) (z:=y8) (k:=0) (xs:=[.str y8]) (gj e12) rfl;refine B5 0 (G1 (o:=(match(l5.map e_s)[0+Int.toNat v2]? with|some old=>some ((l5.map e_s).set (0+Int.toNat v2) (Z6 old 0 [.str y8]))|none=>none)) (l6.map e_s) (by kernel_rfl) (by cases e13;exact hst) ?_);exact ja 6 (iL1 _ _ hF)
  .cases hF;exact jr 7
 exact ja 11 (hL1 _ _ _ hF)
def Dd3(fuel:Nat)(d2:Int)(y5:List Int×List (List A2)×Int):Nat->(List A7)->Int->Option (List (List UInt8)×Int)
 |0,_,_=>none
 |nL1+1,l2,v2=>
  bif decide (v2<d2) then
   ((F94 fuel l2 y5.1 y5.2.1 y5.2.2).bind fun y8=>
   (Dd3 fuel d2 y5 nL1) y8.1 (i64.wrap (v2+1)))
  else
   ((F46 fuel l2).bind fun y9=>
   some (y9,0))
def F12(fuel:Nat)(d0:A9)(d1:Int)(d2:Int):Option (List (List UInt8)×Int):=
 (F43 fuel d0 d1 d2).bind fun y1=>
 bif y1 !=0 then
  (some ([],y1))
 else
  ((F44 fuel d0 d1).bind fun y4=>
  (F45 d0 d1).bind fun y5=>
  Dd3 fuel d2 y5 fuel y4 0)
noncomputable abbrev b12:=C0 f12
abbrev G12(r:List (List UInt8)×Int):=GJ prog 36 f12 (.tup [.l 1 r.1 e_s,.i r.2])
theorem Ek3{fuel}{d0}{d1}{d2}{r}(hF:F12 fuel d0 d1 d2=some r):
 C1 prog 12 [.agg [.l 1 d0.Owner A3,.l 1 d0.Choices A0],.n d1,.i d2] (.tup [.l 1 r.1 e_s,.i r.2]):=by
 refine cf 36 func12 ?_;refine jB 12 hF Cm2 fun y1 hF=> ?_
 refine jI 7 16 hF ?_ ?_<;>intro hF
 .cases hF;exact jr 7
 .refine jd 3 ?_;refine dB 2 hF Cm3 fun y4 hF=> ?_
  obtain⟨y5,e5,hF⟩:=bnd hF;refine dcr 2 [(23,2000),(1123,2001)] (Dg4 e5) ?_;refine je 2 ?_;have hL1:∀nL1 l2 v2,Dd3 fuel d2 y5 nL1 l2 v2=some r->G12 r ⟨mkT [(9,.l 4 l2 A8),(10,.fn 94 [] [.ptr 23 0,.ptr 1123 0]),(24,.i d2),(25,.i v2)],[(23,.fzb [.l 1 y5.1 A3,.l 1 y5.2.1 A0]),(1123,.fzb [.n y5.2.2])],[kL b12 244,.inBlock 0,kC b12 31]⟩:=by
   clear hF;refine lpI (fun _ _ h=>by cases h) fun nL1 iL1 l2 v2 hF=> ?_
   refine jI 6 26 hF ?_ ?_<;>intro hF
   .refine jB 7 hF Dh3 fun y8 hF=> ?_
    exact ja 10 (iL1 _ _ hF)
   .refine jB 5 hF Dg6 fun y9 hF=> ?_
    cases hF;exact jr 3
  refine B5 8 (Ce1 (te:=40) 1123 [.n y5.2.2] (by kernel_rfl) (by kernel_rfl) ?_);refine B5 0 (Ce1 (te:=34) 23 [.l 1 y5.1 A3,.l 1 y5.2.1 A0] (by kernel_rfl) (by kernel_rfl) ?_);exact ja 0 (hL1 _ _ _ hF)
def K9(x:List Int):List Dat:=[.sl 1 (x.map A3)]
def De5(fuel:Nat)(d2:Int)(y5:List Int×List (List A2)×Int):Nat->(List A7)->Int->(List (List Int))->Option (List (List Int)×Int)
 |0,_,_,_=>none
 |nL1+1,l6,v2,l7=>
  bif decide (v2<d2) then
   ((F94 fuel l6 y5.1 y5.2.1 y5.2.2).bind fun y10=>
   (C2 l7 (i64.wrap ((i64.wrap (d2-1))-v2))).bind fun y11=>
   (some (l7.set (0+Int.toNat (i64.wrap ((i64.wrap (d2-1))-v2))) y10.2)).bind fun l8=>
   (De5 fuel d2 y5 nL1) y10.1 (i64.wrap (v2+1)) l8)
  else
   (some (l7,0))
def F15(fuel:Nat)(d0:A9)(d1:Int)(d2:Int):Option (List (List Int)×Int):=
 (F43 fuel d0 d1 d2).bind fun y1=>
 bif y1 !=0 then
  (some ([],y1))
 else
  ((F44 fuel d0 d1).bind fun y4=>
  (F45 d0 d1).bind fun y5=>
  (mkL d2 d2 []).bind fun l1=>
  De5 fuel d2 y5 fuel y4 0 l1)
noncomputable abbrev b15:=C0 f15
abbrev G15(r:List (List Int)×Int):=GJ prog 46 f15 (.tup [.l 1 r.1 K9,.i r.2])
theorem De6{fuel}{d0}{d1}{d2}{r}(hF:F15 fuel d0 d1 d2=some r):
 C1 prog 15 [.agg [.l 1 d0.Owner A3,.l 1 d0.Choices A0],.n d1,.i d2] (.tup [.l 1 r.1 K9,.i r.2]):=by
 refine cf 46 func15 ?_;refine jB 12 hF Cm2 fun y1 hF=> ?_
 refine jI 7 18 hF ?_ ?_<;>intro hF
 .cases hF;exact jr 7
 .refine jd 3 ?_;refine dB 2 hF Cm3 fun y4 hF=> ?_
  obtain⟨y5,e5,hF⟩:=bnd hF;refine dcr 2 [(25,2000),(1125,2001)] (Dg4 e5) ?_;refine je 2 ?_;obtain⟨l1,e6,hF⟩:=bnd hF;refine jo2 3 (mm' K9 e6) ?_;refine B5 2 (U4 (g:=0) (sz:=1) (e:=22) (shs:=[.o 3 1 [.z]]) (es:=l1.map K9) 27 (by kernel_rfl) ?_);have hL1:∀nL1 l6 v2 l7,De5 fuel d2 y5 nL1 l6 v2 l7=some r->G15 r ⟨mkT [(2,.i d2),(9,.l 4 l6 A8),(10,.fn 94 [] [.ptr 25 0,.ptr 1125 0]),(11,.suf 27 0 0),(28,.i d2),(29,.i v2)],[(25,.fzb [.l 1 y5.1 A3,.l 1 y5.2.1 A0]),(27,.buf 0 22 1 (l7.map K9)),(1125,.fzb [.n y5.2.2])],[kL b15 500,.inBlock 0,kC b15 63]⟩:=by
   clear hF;refine lpI (fun _ _ _ h=>by cases h) fun nL1 iL1 l6 v2 l7 hF=> ?_
   refine jI 6 30 hF ?_ ?_<;>intro hF
   .refine jB 17 hF Dh3 fun y10 hF=> ?_
    obtain⟨y11,e14,hF⟩:=bnd hF;refine jo1 4 (gm' K9 e14) ?_;obtain⟨l8,e15,hF⟩:=bnd hF;have hst:=stm (f:=K9) (z:=y10.2) (k:=0) (xs:=[.sl 1 (y10.2.map A3)]) (gj e14) rfl;refine B5 0 (G1 (o:=(match(l7.map K9)[0+Int.toNat (i64.wrap ((i64.wrap (d2-1))-v2))]? with|some old=>some ((l7.map K9).set (0+Int.toNat (i64.wrap ((i64.wrap (d2-1))-v2))) (Z6 old 0 [.sl 1 (y10.2.map A3)]))|none=>none)) (l8.map K9) (by kernel_rfl) (by cases e15;exact hst) ?_);exact ja 6 (iL1 _ _ _ hF)
   .cases hF;exact jr 8
  refine B5 8 (Ce1 (te:=40) 1125 [.n y5.2.2] (by kernel_rfl) (by kernel_rfl) ?_);refine B5 0 (Ce1 (te:=34) 25 [.l 1 y5.1 A3,.l 1 y5.2.1 A0] (by kernel_rfl) (by kernel_rfl) ?_);exact ja 0 (hL1 _ _ _ _ hF)
end
section
structure C6 where
 What:Int
 State:Int
 At:Int
 N:Int
 Q:List UInt8
 S:List UInt8
 deriving DecidableEq
def Bg6(d1:A9)(l21:List (List A2))(v6:Int)(cL1:Int->(List (List A2))->Option A9):Nat->Int->(List A2)->Option A9
 |0,_,_=>none
 |nL2+1,v8,l27=>
  (C2 d1.Choices v6).bind fun y25=>
  bif decide (v8<((y25.map A1).length:Int)) then
   ((C2 d1.Choices v6).bind fun y26=>
   (C2 y26 v8).bind fun y27=>
   (app [] y27.Next).bind fun l28=>
   (app l27 [(⟨y27.Act,y27.Gain,l28⟩:A2)]).bind fun l29=>
   (Bg6 d1 l21 v6 cL1 nL2) (i64.wrap (v8+1)) l29)
  else
   ((app l21 [l27]).bind fun l30=>
   cL1 (i64.wrap (v6+1)) l30)
def Bg7(d0:C6)(d1:A9)(l1:List Int):Nat->(List (List A2))->Option A9
 |0,_=>none
 |nL3+1,l68=>
  (C2 l68 (Int.tmod (i64.wrap d0.State) ((d1.Owner.map A3).length:Int))).bind fun y39=>
  (some (l68.set (Int.toNat (Int.tmod (i64.wrap d0.State) ((d1.Owner.map A3).length:Int))) y39)).bind fun l69=>
  bif decide (((y39.map A1).length:Int)<5) then
   ((C2 l69 (Int.tmod (i64.wrap d0.State) ((d1.Owner.map A3).length:Int))).bind fun y40=>
   (C2 y40 0).bind fun y41=>
   (app y40 [y41]).bind fun l70=>
   (some (l69.set (Int.toNat (Int.tmod (i64.wrap d0.State) ((d1.Owner.map A3).length:Int))) l70)).bind fun l71=>
   (Bg7 d0 d1 l1 nL3) l71)
  else
   ((some (l1.drop 0)).bind fun l72=>
   some (⟨l72,l69⟩:A9))
def Bg8:Nat->(List (List A2))->(List Int)->Option A9
 |0,_,_=>none
 |nL4+1,l89,l90=>
  bif decide (((l90.map A3).length:Int)<13) then
   ((app l90 [0]).bind fun l91=>
   (C2 l89 0).bind fun y45=>
   (app l89 [y45]).bind fun l92=>
   (Bg8 nL4) l92 l91)
  else
   ((some (l90.drop 0)).bind fun l93=>
   some (⟨l93,l89⟩:A9))
def K8(fuel:Nat)(d0:C6)(d1:A9)(l1:List Int):Nat->Int->(List (List A2))->Option A9
 |0,_,_=>none
 |nL1+1,v6,l21=>
  bif decide (v6<((d1.Owner.map A3).length:Int)) then
   (Bg6 d1 l21 v6 (K8 fuel d0 d1 l1 nL1) fuel 0 [])
  else
   (ass (decide (((d1.Owner.map A3).length:Int)≠0))<|
   (C2 l21 (Int.tmod (i64.wrap d0.State) ((d1.Owner.map A3).length:Int))).bind fun y28=>
   ass (decide (((y28.map A1).length:Int)≠0))<|
   (C2 y28 (Int.tmod (i64.wrap d0.At) ((y28.map A1).length:Int))).bind fun y29=>
   ass (decide (((y29.Next.map A4).length:Int)≠0))<|
   bif (Int.tmod d0.What 12)==0 then
    ((C2 l1 (Int.tmod (i64.wrap d0.State) ((d1.Owner.map A3).length:Int))).bind fun y30=>
    (some (l1.set (0+Int.toNat (Int.tmod (i64.wrap d0.State) ((d1.Owner.map A3).length:Int))) d0.N)).bind fun l31=>
    (some (y28.set (Int.toNat (Int.tmod (i64.wrap d0.At) ((y28.map A1).length:Int))) y29)).bind fun l32=>
    (some (l21.set (Int.toNat (Int.tmod (i64.wrap d0.State) ((d1.Owner.map A3).length:Int))) l32)).bind fun l33=>
    (some (l31.drop 0)).bind fun l34=>
    some (⟨l34,l33⟩:A9))
   else
    (bif (Int.tmod d0.What 12)==1 then
     (ass (decide ((0:Int)<=1)&&decide (1<=(((l1.map A3).drop 0).length:Int)))<|
     (some (y28.set (Int.toNat (Int.tmod (i64.wrap d0.At) ((y28.map A1).length:Int))) y29)).bind fun l35=>
     (some (l21.set (Int.toNat (Int.tmod (i64.wrap d0.State) ((d1.Owner.map A3).length:Int))) l35)).bind fun l36=>
     (some (l1.drop (0+Int.toNat 1))).bind fun l37=>
     some (⟨l37,l36⟩:A9))
    else
     (bif (Int.tmod d0.What 12)==2 then
      ((some (y28.set (Int.toNat (Int.tmod (i64.wrap d0.At) ((y28.map A1).length:Int))) (⟨d0.S,y29.Gain,y29.Next⟩:A2))).bind fun l38=>
      (some (l21.set (Int.toNat (Int.tmod (i64.wrap d0.State) ((d1.Owner.map A3).length:Int))) l38)).bind fun l39=>
      (some (l1.drop 0)).bind fun l40=>
      some (⟨l40,l39⟩:A9))
     else
      (bif (Int.tmod d0.What 12)==3 then
       ((some (y28.set (Int.toNat (Int.tmod (i64.wrap d0.At) ((y28.map A1).length:Int))) (⟨y29.Act,d0.Q,y29.Next⟩:A2))).bind fun l41=>
       (some (l21.set (Int.toNat (Int.tmod (i64.wrap d0.State) ((d1.Owner.map A3).length:Int))) l41)).bind fun l42=>
       (some (l1.drop 0)).bind fun l43=>
       some (⟨l43,l42⟩:A9))
      else
       (bif (Int.tmod d0.What 12)==4 then
        ((C2 y29.Next (Int.tmod (i64.wrap d0.At) ((y29.Next.map A4).length:Int))).bind fun y31=>
        (some (y29.Next.set (0+Int.toNat (Int.tmod (i64.wrap d0.At) ((y29.Next.map A4).length:Int))) (⟨d0.N,y31.P⟩:B7))).bind fun l44=>
        (some (y28.set (Int.toNat (Int.tmod (i64.wrap d0.At) ((y28.map A1).length:Int))) (⟨y29.Act,y29.Gain,l44⟩:A2))).bind fun l45=>
        (some (l21.set (Int.toNat (Int.tmod (i64.wrap d0.State) ((d1.Owner.map A3).length:Int))) l45)).bind fun l46=>
        (some (l1.drop 0)).bind fun l47=>
        some (⟨l47,l46⟩:A9))
       else
        (bif (Int.tmod d0.What 12)==5 then
         ((C2 y29.Next (Int.tmod (i64.wrap d0.At) ((y29.Next.map A4).length:Int))).bind fun y32=>
         (some (y29.Next.set (0+Int.toNat (Int.tmod (i64.wrap d0.At) ((y29.Next.map A4).length:Int))) (⟨y32.To,d0.Q⟩:B7))).bind fun l48=>
         (some (y28.set (Int.toNat (Int.tmod (i64.wrap d0.At) ((y28.map A1).length:Int))) (⟨y29.Act,y29.Gain,l48⟩:A2))).bind fun l49=>
         (some (l21.set (Int.toNat (Int.tmod (i64.wrap d0.State) ((d1.Owner.map A3).length:Int))) l49)).bind fun l50=>
         (some (l1.drop 0)).bind fun l51=>
         some (⟨l51,l50⟩:A9))
        else
         (bif (Int.tmod d0.What 12)==6 then
          ((app y29.Next [(⟨i64.wrap (((d1.Owner.map A3).length:Int)-1),d0.Q⟩:B7)]).bind fun l52=>
          (some (y28.set (Int.toNat (Int.tmod (i64.wrap d0.At) ((y28.map A1).length:Int))) (⟨y29.Act,y29.Gain,l52⟩:A2))).bind fun l53=>
          (some (l21.set (Int.toNat (Int.tmod (i64.wrap d0.State) ((d1.Owner.map A3).length:Int))) l53)).bind fun l54=>
          (some (l1.drop 0)).bind fun l55=>
          some (⟨l55,l54⟩:A9))
         else
          (bif (Int.tmod d0.What 12)==7 then
           ((some (y28.set (Int.toNat (Int.tmod (i64.wrap d0.At) ((y28.map A1).length:Int))) (⟨y29.Act,y29.Gain,[]⟩:A2))).bind fun l56=>
           (some (l21.set (Int.toNat (Int.tmod (i64.wrap d0.State) ((d1.Owner.map A3).length:Int))) l56)).bind fun l57=>
           (some (l1.drop 0)).bind fun l58=>
           some (⟨l58,l57⟩:A9))
          else
           (bif (Int.tmod d0.What 12)==8 then
            ((some (y28.set (Int.toNat (Int.tmod (i64.wrap d0.At) ((y28.map A1).length:Int))) y29)).bind fun l59=>
            (some (l21.set (Int.toNat (Int.tmod (i64.wrap d0.State) ((d1.Owner.map A3).length:Int))) l59)).bind fun l60=>
            Bg7 d0 d1 l1 fuel l60)
           else
            (bif (Int.tmod d0.What 12)==9 then
             ((some (y28.set (Int.toNat (Int.tmod (i64.wrap d0.At) ((y28.map A1).length:Int))) y29)).bind fun l73=>
             (some (l21.set (Int.toNat (Int.tmod (i64.wrap d0.State) ((d1.Owner.map A3).length:Int))) l73)).bind fun l74=>
             (C2 l74 (Int.tmod (i64.wrap d0.State) ((d1.Owner.map A3).length:Int))).bind fun y42=>
             (some (l74.set (0+Int.toNat (Int.tmod (i64.wrap d0.State) ((d1.Owner.map A3).length:Int))) [])).bind fun l75=>
             (some (l1.drop 0)).bind fun l76=>
             some (⟨l76,l75⟩:A9))
            else
             (bif (Int.tmod d0.What 12)==10 then
              ((app l1 [0]).bind fun l77=>
              (some (y28.set (Int.toNat (Int.tmod (i64.wrap d0.At) ((y28.map A1).length:Int))) y29)).bind fun l78=>
              (some (l21.set (Int.toNat (Int.tmod (i64.wrap d0.State) ((d1.Owner.map A3).length:Int))) l78)).bind fun l79=>
              (some (l77.drop 0)).bind fun l80=>
              some (⟨l80,l79⟩:A9))
             else
              ((some (y28.set (Int.toNat (Int.tmod (i64.wrap d0.At) ((y28.map A1).length:Int))) y29)).bind fun l81=>
              (some (l21.set (Int.toNat (Int.tmod (i64.wrap d0.State) ((d1.Owner.map A3).length:Int))) l81)).bind fun l82=>
              Bg8 fuel l82 l1))))))))))))
def F21(fuel:Nat)(d0:C6)(d1:A9):Option A9:=
 (app [] d1.Owner).bind fun l1=>
 K8 fuel d0 d1 l1 fuel 0 []
noncomputable abbrev b21:=C0 f21
abbrev G21(r:A9):=GJ prog 225 f21 (.agg [.l 1 r.Owner A3,.l 1 r.Choices A0])
set_option maxHeartbeats 4000000 in
theorem Fn8{fuel}{d0}{d1}{r}(hF:F21 fuel d0 d1=some r):
 C1 prog 21 [.agg [.y d0.What,.y d0.State,.y d0.At,.i d0.N,.s d0.Q,.s d0.S],.agg [.l 1 d1.Owner A3,.l 1 d1.Choices A0]] (.agg [.l 1 r.Owner A3,.l 1 r.Choices A0]):=by
 refine cf 225 func21 ?_;obtain⟨l1,e1,hF⟩:=bnd hF;refine jo2 18 (am' A3 e1) ?_;refine B5 6 (Bi2 (n:=1) 6 1 59 31 1 (by kernel_rfl) (by kernel_rfl) ?_);refine B5 0 (Di0 (g:=0) (e:=31) (n:=1) 59 [.o 26 3 [.z,.z,.o 29 2 [.z,.z]]] (by kernel_rfl) (by kernel_rfl) ?_);have hL1:∀nL1 v6 l21,K8 fuel d0 d1 l1 nL1 v6 l21=some r->G21 r ⟨mkT [(2,.ptr 2 0),(3,.ptr 3 0),(4,.ptr 4 0),(5,.i ((d1.Owner.map A3).length:Int)),(6,.ptr 6 0),(7,.i v6)],[(2,.box 55 [.y d0.What,.y d0.State,.y d0.At,.i d0.N,.s d0.Q,.s d0.S]),(3,.box 34 [.l 1 d1.Owner A3,.l 1 d1.Choices A0]),(4,.box 34 [.esl 1,.esl 1]),(6,.box 34 [.suf 21 0 0,.suf 59 0 0]),(21,.buf 0 3 1 (l1.map A3)),(59,.tree 0 31 1 [.o 26 3 [.z,.z,.o 29 2 [.z,.z]]] (l21.map A0) none)],[kL b21 244,.inBlock 0,kC b21 31]⟩:=by
  clear hF;refine lpI (fun _ _ h=>by cases h) fun nL1 iL1 v6 l21 hF=> ?_
  refine jI 8 25 hF ?_ ?_<;>intro hF
  .refine B5 10 (At9 (n:=3) 8 54 26 3 (by kernel_rfl) (by kernel_rfl) ?_);refine B5 0 (Di0 (g:=0) (e:=26) (n:=3) 54 [.z,.z,.o 29 2 [.z,.z]] (by kernel_rfl) (by kernel_rfl) ?_);have hL2:∀nL2 v8 l27,Bg6 d1 l21 v6 (K8 fuel d0 d1 l1 nL1) nL2 v8 l27=some r->G21 r ⟨mkT [(2,.ptr 2 0),(3,.ptr 3 0),(4,.ptr 4 0),(5,.i ((d1.Owner.map A3).length:Int)),(6,.ptr 6 0),(7,.i v6),(8,.suf 54 0 0),(9,.i v8)],[(2,.box 55 [.y d0.What,.y d0.State,.y d0.At,.i d0.N,.s d0.Q,.s d0.S]),(3,.box 34 [.l 1 d1.Owner A3,.l 1 d1.Choices A0]),(4,.box 34 [.esl 1,.esl 1]),(6,.box 34 [.suf 21 0 0,.suf 59 0 0]),(21,.buf 0 3 1 (l1.map A3)),(54,.tree 0 26 3 [.z,.z,.o 29 2 [.z,.z]] (l27.map A1) none),(59,.tree 0 31 1 [.o 26 3 [.z,.z,.o 29 2 [.z,.z]]] (l21.map A0) none)],[kL b21 62612,.inBlock 2,kC b21 7827,.inBlock 1,kC b21 979,kL b21 244,.inBlock 0,kC b21 31]⟩:=by
    clear hF;refine lpI (fun _ _ h=>by cases h) fun nL2 iL2 v8 l27 hF=> ?_
    obtain⟨y25,e44,hF⟩:=bnd hF;refine jo1 8 (gm' A0 e44) ?_;refine jI 4 35 hF ?_ ?_<;>intro hF
    .obtain⟨y26,e45,hF⟩:=bnd hF;refine jo1 9 (gm' A0 e45) ?_;obtain⟨y27,e46,hF⟩:=bnd hF;refine jo1 2 (gm' A1 e46) ?_;obtain⟨l28,e47,hF⟩:=bnd hF;refine jo2 9 (am' A4 e47) ?_;refine B5 3 (Fq7 (g:=0) (e:=29) (n:=2) (es:=(l28.map A4)) 49 (by kernel_rfl) (by kernel_rfl) ?_);obtain⟨l29,e48,hF⟩:=bnd hF;refine B5 4 (J4 (o:=chk (decide ((l27.map A1).length+1<=2147483648))) [] (by kernel_rfl) (ckA e48) ?_);refine B5 2 (F7 (g:=1) (sz:=3) (e:=26) (shs:=[.z,.z,.o 29 2 [.z,.z]]) (es:=((l27.map A1)++[[]])) (vs:=[.s y27.Act,.s y27.Gain,.suf 49 0 0]) (gd:=0) (ed:=29) (nd:=2) (o:= .tree 0 29 2 [.z,.z] (l28.map A4) none) 54 49 ((l27.map A1).length) (A1 (⟨y27.Act,y27.Gain,l28⟩:A2)) (l29.map A1) (by kernel_rfl) (by kernel_rfl) (by kernel_rfl) (by kernel_rfl) (by kernel_rfl) Eq8 (Dj1 e48 rfl) ?_);exact ja 6 (iL2 _ _ hF)
    .obtain⟨l30,e49,hF⟩:=bnd hF;refine B5 7 (J4 (o:=chk (decide ((l21.map A0).length+1<=2147483648))) [] (by kernel_rfl) (ckA e49) ?_);refine B5 3 (F7 (g:=1) (sz:=1) (e:=31) (shs:=[.o 26 3 [.z,.z,.o 29 2 [.z,.z]]]) (es:=((l21.map A0)++[[]])) (vs:=[.suf 54 0 0]) (gd:=0) (ed:=26) (nd:=3) (o:= .tree 0 26 3 [.z,.z,.o 29 2 [.z,.z]] (l27.map A1) none) 59 54 ((l21.map A0).length) (A0 l27) (l30.map A0) (by kernel_rfl) (by kernel_rfl) (by kernel_rfl) (by kernel_rfl) (by kernel_rfl) Eq8 (Dj1 e49 rfl) ?_);exact ja 6 (iL1 _ _ hF)
   exact ja 5 (hL2 _ _ _ hF)
  .obtain⟨hb13,hF⟩:=O3 hF;refine jo1 8 (ck hb13) ?_;obtain⟨y28,e50,hF⟩:=bnd hF;refine B5 3 (Di1 (g:=0) (sz:=1) (e:=31) (shs:=[.o 26 3 [.z,.z,.o 29 2 [.z,.z]]]) (es:=(l21.map A0)) 59 1200 (Int.toNat (Int.tmod (i64.wrap d0.State) ((d1.Owner.map A3).length:Int))) (A0 y28) [.suf 1200 0 0] (.tree 0 26 3 [.z,.z,.o 29 2 [.z,.z]] (y28.map A1) none) (by kernel_rfl) (by kernel_rfl) (by kernel_rfl) (gjo (f:=A0) e50) (by kernel_rfl) ?_);refine jd 0 ?_;refine H1 6 (H9 (o:=chk (decide (0<=(Int.tmod (i64.wrap d0.State) ((d1.Owner.map A3).length:Int)))&&(decide (0+Int.toNat (Int.tmod (i64.wrap d0.State) ((d1.Owner.map A3).length:Int))=Int.toNat (Int.tmod (i64.wrap d0.State) ((d1.Owner.map A3).length:Int)))&&decide (Int.toNat (Int.tmod (i64.wrap d0.State) ((d1.Owner.map A3).length:Int))<(l21.map A0).length)))) [] (by kernel_rfl) (by kernel_rfl) (ckI e50) ?_);refine H1 0 (H9 (o:=chk (decide ((Int.toNat (Int.tmod (i64.wrap d0.State) ((d1.Owner.map A3).length:Int)))=(Int.toNat (Int.tmod (i64.wrap d0.State) ((d1.Owner.map A3).length:Int))))&&decide ((Int.toNat (Int.tmod (i64.wrap d0.State) ((d1.Owner.map A3).length:Int)))<(l21.map A0).length))) [] (by kernel_rfl) (by kernel_rfl) (ckE e50) ?_);obtain⟨hb14,hF⟩:=O3 hF;refine do1 1 (ck hb14) ?_;refine je 1 ?_;obtain⟨y29,e51,hF⟩:=bnd hF;refine B5 1 (Di1 (g:=0) (sz:=3) (e:=26) (shs:=[.z,.z,.o 29 2 [.z,.z]]) (es:=(y28.map A1)) 1200 1201 (Int.toNat (Int.tmod (i64.wrap d0.At) ((y28.map A1).length:Int))) (A1 y29) [.s y29.Act,.s y29.Gain,.suf 1201 0 0] (.buf 0 29 2 (y29.Next.map A4)) (by kernel_rfl) (by kernel_rfl) (by kernel_rfl) (gjo (f:=A1) e51) (by kernel_rfl) ?_);refine B5 4 (J4 (o:=chk (decide (0<=(Int.tmod (i64.wrap d0.State) ((d1.Owner.map A3).length:Int)))&&(decide (0+Int.toNat (Int.tmod (i64.wrap d0.State) ((d1.Owner.map A3).length:Int))=Int.toNat (Int.tmod (i64.wrap d0.State) ((d1.Owner.map A3).length:Int)))&&decide (Int.toNat (Int.tmod (i64.wrap d0.State) ((d1.Owner.map A3).length:Int))<(l21.map A0).length)))) [] (by kernel_rfl) (ckI e50) ?_);refine B5 0 (J4 (o:=chk (decide ((Int.toNat (Int.tmod (i64.wrap d0.State) ((d1.Owner.map A3).length:Int)))=(Int.toNat (Int.tmod (i64.wrap d0.State) ((d1.Owner.map A3).length:Int))))&&decide ((Int.toNat (Int.tmod (i64.wrap d0.State) ((d1.Owner.map A3).length:Int)))<(l21.map A0).length))) [] (by kernel_rfl) (ckE e50) ?_);refine B5 1 (J4 (o:=chk (decide (0<=(Int.tmod (i64.wrap d0.At) ((y28.map A1).length:Int)))&&(decide (0+Int.toNat (Int.tmod (i64.wrap d0.At) ((y28.map A1).length:Int))=Int.toNat (Int.tmod (i64.wrap d0.At) ((y28.map A1).length:Int)))&&decide (Int.toNat (Int.tmod (i64.wrap d0.At) ((y28.map A1).length:Int))<(y28.map A1).length)))) [] (by kernel_rfl) (ckI e51) ?_);refine jd 3 ?_;refine H1 6 (H9 (o:=chk (decide ((Int.toNat (Int.tmod (i64.wrap d0.At) ((y28.map A1).length:Int)))=(Int.toNat (Int.tmod (i64.wrap d0.At) ((y28.map A1).length:Int))))&&decide ((Int.toNat (Int.tmod (i64.wrap d0.At) ((y28.map A1).length:Int)))<(y28.map A1).length))) [] (by kernel_rfl) (by kernel_rfl) (ckE e51) ?_);obtain⟨hb15,hF⟩:=O3 hF;refine do1 1 (ck hb15) ?_;refine je 1 ?_;refine jI 13 113 hF ?_ ?_<;>intro hF
   .obtain⟨y30,e52,hF⟩:=bnd hF;refine jo1 7 (gm' A3 e52) ?_;obtain⟨l31,e53,hF⟩:=bnd hF;have hst:=stm (f:=A3) (z:=d0.N) (k:=0) (xs:=[.int .i64 d0.N]) (gj e52) rfl;refine B5 0 (G1 (o:=(match(l1.map A3)[0+Int.toNat (Int.tmod (i64.wrap d0.State) ((d1.Owner.map A3).length:Int))]? with|some old=>some ((l1.map A3).set (0+Int.toNat (Int.tmod (i64.wrap d0.State) ((d1.Owner.map A3).length:Int))) (Z6 old 0 [.int .i64 d0.N]))|none=>none)) (l31.map A3) (by kernel_rfl) (by cases e53;exact hst) ?_);obtain⟨l32,e54,hF⟩:=bnd hF;refine B5 1 (F7 (g:=0) (sz:=3) (e:=26) (shs:=[.z,.z,.o 29 2 [.z,.z]]) (es:=(y28.map A1)) (vs:=[.s y29.Act,.s y29.Gain,.suf 1201 0 0]) (gd:=0) (ed:=29) (nd:=2) (o:= .buf 0 29 2 (y29.Next.map A4)) 1200 1201 ((Int.toNat (Int.tmod (i64.wrap d0.At) ((y28.map A1).length:Int)))) (A1 y29) (l32.map A1) (by kernel_rfl) (by kernel_rfl) (by kernel_rfl) (by kernel_rfl) (by kernel_rfl) (glt (f:=A1) e51) (by cases e54;exact shm (f:=A1) (z:=y29)) ?_);obtain⟨l33,e55,hF⟩:=bnd hF;refine B5 0 (F7 (g:=0) (sz:=1) (e:=31) (shs:=[.o 26 3 [.z,.z,.o 29 2 [.z,.z]]]) (es:=(l21.map A0)) (vs:=[.suf 1200 0 0]) (gd:=0) (ed:=26) (nd:=3) (o:= .tree 0 26 3 [.z,.z,.o 29 2 [.z,.z]] (l32.map A1) none) 59 1200 ((Int.toNat (Int.tmod (i64.wrap d0.State) ((d1.Owner.map A3).length:Int)))) (A0 l32) (l33.map A0) (by kernel_rfl) (by kernel_rfl) (by kernel_rfl) (by kernel_rfl) (by kernel_rfl) (glt (f:=A0) e50) (by cases e55;exact shm (f:=A0) (z:=l32)) ?_);refine B5 0 (U4 (g:=0) (sz:=1) (e:=31) (shs:=[.o 26 3 [.z,.z,.o 29 2 [.z,.z]]]) (es:=l33.map A0) 59 (by kernel_rfl) ?_);refine B5 2 (W4 (g:=0) (e:=3) (sz:=1) (es:=l31.map A3) 21 (by kernel_rfl) ?_);obtain⟨l34,e56,hF⟩:=bnd hF;refine B5 0 (Z9 (g:=0) (sz:=1) (es:=l31.map A3) 6 0 21 0 (l34.map A3) (by kernel_rfl) (by kernel_rfl) (by cases e56;exact map_drop.symm) ?_);cases hF;exact jr 4
   .refine jI 6 121 hF ?_ ?_<;>intro hF
    .obtain⟨hb18,hF⟩:=O3 hF;refine jo1 4 (ck hb18) ?_;obtain⟨l35,e57,hF⟩:=bnd hF;refine B5 3 (F7 (g:=0) (sz:=3) (e:=26) (shs:=[.z,.z,.o 29 2 [.z,.z]]) (es:=(y28.map A1)) (vs:=[.s y29.Act,.s y29.Gain,.suf 1201 0 0]) (gd:=0) (ed:=29) (nd:=2) (o:= .buf 0 29 2 (y29.Next.map A4)) 1200 1201 ((Int.toNat (Int.tmod (i64.wrap d0.At) ((y28.map A1).length:Int)))) (A1 y29) (l35.map A1) (by kernel_rfl) (by kernel_rfl) (by kernel_rfl) (by kernel_rfl) (by kernel_rfl) (glt (f:=A1) e51) (by cases e57;exact shm (f:=A1) (z:=y29)) ?_);obtain⟨l36,e58,hF⟩:=bnd hF;refine B5 0 (F7 (g:=0) (sz:=1) (e:=31) (shs:=[.o 26 3 [.z,.z,.o 29 2 [.z,.z]]]) (es:=(l21.map A0)) (vs:=[.suf 1200 0 0]) (gd:=0) (ed:=26) (nd:=3) (o:= .tree 0 26 3 [.z,.z,.o 29 2 [.z,.z]] (l35.map A1) none) 59 1200 ((Int.toNat (Int.tmod (i64.wrap d0.State) ((d1.Owner.map A3).length:Int)))) (A0 l35) (l36.map A0) (by kernel_rfl) (by kernel_rfl) (by kernel_rfl) (by kernel_rfl) (by kernel_rfl) (glt (f:=A0) e50) (by cases e58;exact shm (f:=A0) (z:=l35)) ?_);refine B5 0 (U4 (g:=0) (sz:=1) (e:=31) (shs:=[.o 26 3 [.z,.z,.o 29 2 [.z,.z]]]) (es:=l36.map A0) 59 (by kernel_rfl) ?_);refine B5 2 (W4 (g:=0) (e:=3) (sz:=1) (es:=l1.map A3) 21 (by kernel_rfl) ?_);obtain⟨l37,e59,hF⟩:=bnd hF;refine B5 0 (Z9 (g:=0) (sz:=1) (es:=l1.map A3) 6 0 21 (0+Int.toNat 1) (l37.map A3) (by kernel_rfl) (by kernel_rfl) (by cases e59;exact map_drop.symm) ?_);cases hF;exact jr 4
    .refine jI 6 127 hF ?_ ?_<;>intro hF
     .refine B5 7 (J4 (o:=chk (decide ((Int.toNat (Int.tmod (i64.wrap d0.At) ((y28.map A1).length:Int)))=(Int.toNat (Int.tmod (i64.wrap d0.At) ((y28.map A1).length:Int))))&&decide ((Int.toNat (Int.tmod (i64.wrap d0.At) ((y28.map A1).length:Int)))<(y28.map A1).length))) [] (by kernel_rfl) (ckE e51) ?_);obtain⟨l38,e60,hF⟩:=bnd hF;refine B5 1 (F7 (g:=0) (sz:=3) (e:=26) (shs:=[.z,.z,.o 29 2 [.z,.z]]) (es:=(y28.map A1)) (vs:=[.s d0.S,.s y29.Gain,.suf 1201 0 0]) (gd:=0) (ed:=29) (nd:=2) (o:= .buf 0 29 2 (y29.Next.map A4)) 1200 1201 ((Int.toNat (Int.tmod (i64.wrap d0.At) ((y28.map A1).length:Int)))) (A1 (⟨d0.S,y29.Gain,y29.Next⟩:A2)) (l38.map A1) (by kernel_rfl) (by kernel_rfl) (by kernel_rfl) (by kernel_rfl) (by kernel_rfl) (glt (f:=A1) e51) (by cases e60;exact shm (f:=A1) (z:=(⟨d0.S,y29.Gain,y29.Next⟩:A2))) ?_);obtain⟨l39,e61,hF⟩:=bnd hF;refine B5 0 (F7 (g:=0) (sz:=1) (e:=31) (shs:=[.o 26 3 [.z,.z,.o 29 2 [.z,.z]]]) (es:=(l21.map A0)) (vs:=[.suf 1200 0 0]) (gd:=0) (ed:=26) (nd:=3) (o:= .tree 0 26 3 [.z,.z,.o 29 2 [.z,.z]] (l38.map A1) none) 59 1200 ((Int.toNat (Int.tmod (i64.wrap d0.State) ((d1.Owner.map A3).length:Int)))) (A0 l38) (l39.map A0) (by kernel_rfl) (by kernel_rfl) (by kernel_rfl) (by kernel_rfl) (by kernel_rfl) (glt (f:=A0) e50) (by cases e61;exact shm (f:=A0) (z:=l38)) ?_);refine B5 0 (U4 (g:=0) (sz:=1) (e:=31) (shs:=[.o 26 3 [.z,.z,.o 29 2 [.z,.z]]]) (es:=l39.map A0) 59 (by kernel_rfl) ?_);refine B5 2 (W4 (g:=0) (e:=3) (sz:=1) (es:=l1.map A3) 21 (by kernel_rfl) ?_);obtain⟨l40,e62,hF⟩:=bnd hF;refine B5 0 (Z9 (g:=0) (sz:=1) (es:=l1.map A3) 6 0 21 0 (l40.map A3) (by kernel_rfl) (by kernel_rfl) (by cases e62;exact map_drop.symm) ?_);cases hF;exact jr 4
     .refine jI 6 134 hF ?_ ?_<;>intro hF
      .refine B5 7 (J4 (o:=chk (decide ((Int.toNat (Int.tmod (i64.wrap d0.At) ((y28.map A1).length:Int)))=(Int.toNat (Int.tmod (i64.wrap d0.At) ((y28.map A1).length:Int))))&&decide ((Int.toNat (Int.tmod (i64.wrap d0.At) ((y28.map A1).length:Int)))<(y28.map A1).length))) [] (by kernel_rfl) (ckE e51) ?_);obtain⟨l41,e63,hF⟩:=bnd hF;refine B5 1 (F7 (g:=0) (sz:=3) (e:=26) (shs:=[.z,.z,.o 29 2 [.z,.z]]) (es:=(y28.map A1)) (vs:=[.s y29.Act,.s d0.Q,.suf 1201 0 0]) (gd:=0) (ed:=29) (nd:=2) (o:= .buf 0 29 2 (y29.Next.map A4)) 1200 1201 ((Int.toNat (Int.tmod (i64.wrap d0.At) ((y28.map A1).length:Int)))) (A1 (⟨y29.Act,d0.Q,y29.Next⟩:A2)) (l41.map A1) (by kernel_rfl) (by kernel_rfl) (by kernel_rfl) (by kernel_rfl) (by kernel_rfl) (glt (f:=A1) e51) (by cases e63;exact shm (f:=A1) (z:=(⟨y29.Act,d0.Q,y29.Next⟩:A2))) ?_);obtain⟨l42,e64,hF⟩:=bnd hF;refine B5 0 (F7 (g:=0) (sz:=1) (e:=31) (shs:=[.o 26 3 [.z,.z,.o 29 2 [.z,.z]]]) (es:=(l21.map A0)) (vs:=[.suf 1200 0 0]) (gd:=0) (ed:=26) (nd:=3) (o:= .tree 0 26 3 [.z,.z,.o 29 2 [.z,.z]] (l41.map A1) none) 59 1200 ((Int.toNat (Int.tmod (i64.wrap d0.State) ((d1.Owner.map A3).length:Int)))) (A0 l41) (l42.map A0) (by kernel_rfl) (by kernel_rfl) (by kernel_rfl) (by kernel_rfl) (by kernel_rfl) (glt (f:=A0) e50) (by cases e64;exact shm (f:=A0) (z:=l41)) ?_);refine B5 0 (U4 (g:=0) (sz:=1) (e:=31) (shs:=[.o 26 3 [.z,.z,.o 29 2 [.z,.z]]]) (es:=l42.map A0) 59 (by kernel_rfl) ?_);refine B5 2 (W4 (g:=0) (e:=3) (sz:=1) (es:=l1.map A3) 21 (by kernel_rfl) ?_);obtain⟨l43,e65,hF⟩:=bnd hF;refine B5 0 (Z9 (g:=0) (sz:=1) (es:=l1.map A3) 6 0 21 0 (l43.map A3) (by kernel_rfl) (by kernel_rfl) (by cases e65;exact map_drop.symm) ?_);cases hF;exact jr 4
      .refine jI 6 141 hF ?_ ?_<;>intro hF
       .refine jd 1 ?_;refine H1 3 (H9 (o:=chk (decide ((Int.toNat (Int.tmod (i64.wrap d0.At) ((y28.map A1).length:Int)))=(Int.toNat (Int.tmod (i64.wrap d0.At) ((y28.map A1).length:Int))))&&decide ((Int.toNat (Int.tmod (i64.wrap d0.At) ((y28.map A1).length:Int)))<(y28.map A1).length))) [] (by kernel_rfl) (by kernel_rfl) (ckE e51) ?_);obtain⟨y31,e66,hF⟩:=bnd hF;refine do1 3 (gm' A4 e66) ?_;obtain⟨l44,e67,hF⟩:=bnd hF;have hst:=stm (f:=A4) (z:=(⟨d0.N,y31.P⟩:B7)) (k:=0) (xs:=[.int .i64 d0.N]) (gj e66) rfl;refine H1 1 (Bl8 (o:=(match(y29.Next.map A4)[0+Int.toNat (Int.tmod (i64.wrap d0.At) ((y29.Next.map A4).length:Int))]? with|some old=>some ((y29.Next.map A4).set (0+Int.toNat (Int.tmod (i64.wrap d0.At) ((y29.Next.map A4).length:Int))) (Z6 old 0 [.int .i64 d0.N]))|none=>none)) (l44.map A4) (by kernel_rfl) (by kernel_rfl) (by cases e67;exact hst) ?_);refine je 0 ?_;obtain⟨l45,e68,hF⟩:=bnd hF;refine B5 0 (F7 (g:=0) (sz:=3) (e:=26) (shs:=[.z,.z,.o 29 2 [.z,.z]]) (es:=(y28.map A1)) (vs:=[.s y29.Act,.s y29.Gain,.suf 1201 0 0]) (gd:=0) (ed:=29) (nd:=2) (o:= .buf 0 29 2 (l44.map A4)) 1200 1201 ((Int.toNat (Int.tmod (i64.wrap d0.At) ((y28.map A1).length:Int)))) (A1 (⟨y29.Act,y29.Gain,l44⟩:A2)) (l45.map A1) (by kernel_rfl) (by kernel_rfl) (by kernel_rfl) (by kernel_rfl) (by kernel_rfl) (glt (f:=A1) e51) (by cases e68;exact shm (f:=A1) (z:=(⟨y29.Act,y29.Gain,l44⟩:A2))) ?_);obtain⟨l46,e69,hF⟩:=bnd hF;refine B5 0 (F7 (g:=0) (sz:=1) (e:=31) (shs:=[.o 26 3 [.z,.z,.o 29 2 [.z,.z]]]) (es:=(l21.map A0)) (vs:=[.suf 1200 0 0]) (gd:=0) (ed:=26) (nd:=3) (o:= .tree 0 26 3 [.z,.z,.o 29 2 [.z,.z]] (l45.map A1) none) 59 1200 ((Int.toNat (Int.tmod (i64.wrap d0.State) ((d1.Owner.map A3).length:Int)))) (A0 l45) (l46.map A0) (by kernel_rfl) (by kernel_rfl) (by kernel_rfl) (by kernel_rfl) (by kernel_rfl) (glt (f:=A0) e50) (by cases e69;exact shm (f:=A0) (z:=l45)) ?_);refine B5 0 (U4 (g:=0) (sz:=1) (e:=31) (shs:=[.o 26 3 [.z,.z,.o 29 2 [.z,.z]]]) (es:=l46.map A0) 59 (by kernel_rfl) ?_);refine B5 2 (W4 (g:=0) (e:=3) (sz:=1) (es:=l1.map A3) 21 (by kernel_rfl) ?_);obtain⟨l47,e70,hF⟩:=bnd hF;refine B5 0 (Z9 (g:=0) (sz:=1) (es:=l1.map A3) 6 0 21 0 (l47.map A3) (by kernel_rfl) (by kernel_rfl) (by cases e70;exact map_drop.symm) ?_);cases hF;exact jr 4
       .refine jI 6 152 hF ?_ ?_<;>intro hF
        .refine jd 1 ?_;refine H1 3 (H9 (o:=chk (decide ((Int.toNat (Int.tmod (i64.wrap d0.At) ((y28.map A1).length:Int)))=(Int.toNat (Int.tmod (i64.wrap d0.At) ((y28.map A1).length:Int))))&&decide ((Int.toNat (Int.tmod (i64.wrap d0.At) ((y28.map A1).length:Int)))<(y28.map A1).length))) [] (by kernel_rfl) (by kernel_rfl) (ckE e51) ?_);obtain⟨y32,e71,hF⟩:=bnd hF;refine do1 3 (gm' A4 e71) ?_;obtain⟨l48,e72,hF⟩:=bnd hF;have hst:=stm (f:=A4) (z:=(⟨y32.To,d0.Q⟩:B7)) (k:=1) (xs:=[.str d0.Q]) (gj e71) rfl;refine H1 1 (Bl8 (o:=(match(y29.Next.map A4)[0+Int.toNat (Int.tmod (i64.wrap d0.At) ((y29.Next.map A4).length:Int))]? with|some old=>some ((y29.Next.map A4).set (0+Int.toNat (Int.tmod (i64.wrap d0.At) ((y29.Next.map A4).length:Int))) (Z6 old 1 [.str d0.Q]))|none=>none)) (l48.map A4) (by kernel_rfl) (by kernel_rfl) (by cases e72;exact hst) ?_);refine je 0 ?_;obtain⟨l49,e73,hF⟩:=bnd hF;refine B5 0 (F7 (g:=0) (sz:=3) (e:=26) (shs:=[.z,.z,.o 29 2 [.z,.z]]) (es:=(y28.map A1)) (vs:=[.s y29.Act,.s y29.Gain,.suf 1201 0 0]) (gd:=0) (ed:=29) (nd:=2) (o:= .buf 0 29 2 (l48.map A4)) 1200 1201 ((Int.toNat (Int.tmod (i64.wrap d0.At) ((y28.map A1).length:Int)))) (A1 (⟨y29.Act,y29.Gain,l48⟩:A2)) (l49.map A1) (by kernel_rfl) (by kernel_rfl) (by kernel_rfl) (by kernel_rfl) (by kernel_rfl) (glt (f:=A1) e51) (by cases e73;exact shm (f:=A1) (z:=(⟨y29.Act,y29.Gain,l48⟩:A2))) ?_);obtain⟨l50,e74,hF⟩:=bnd hF;refine B5 0 (F7 (g:=0) (sz:=1) (e:=31) (shs:=[.o 26 3 [.z,.z,.o 29 2 [.z,.z]]]) (es:=(l21.map A0)) (vs:=[.suf 1200 0 0]) (gd:=0) (ed:=26) (nd:=3) (o:= .tree 0 26 3 [.z,.z,.o 29 2 [.z,.z]] (l49.map A1) none) 59 1200 ((Int.toNat (Int.tmod (i64.wrap d0.State) ((d1.Owner.map A3).length:Int)))) (A0 l49) (l50.map A0) (by kernel_rfl) (by kernel_rfl) (by kernel_rfl) (by kernel_rfl) (by kernel_rfl) (glt (f:=A0) e50) (by cases e74;exact shm (f:=A0) (z:=l49)) ?_);refine B5 0 (U4 (g:=0) (sz:=1) (e:=31) (shs:=[.o 26 3 [.z,.z,.o 29 2 [.z,.z]]]) (es:=l50.map A0) 59 (by kernel_rfl) ?_);refine B5 2 (W4 (g:=0) (e:=3) (sz:=1) (es:=l1.map A3) 21 (by kernel_rfl) ?_);obtain⟨l51,e75,hF⟩:=bnd hF;refine B5 0 (Z9 (g:=0) (sz:=1) (es:=l1.map A3) 6 0 21 0 (l51.map A3) (by kernel_rfl) (by kernel_rfl) (by cases e75;exact map_drop.symm) ?_);cases hF;exact jr 4
        .refine jI 6 163 hF ?_ ?_<;>intro hF
         .refine jd 1 ?_;refine H1 4 (H9 (o:=chk (decide ((Int.toNat (Int.tmod (i64.wrap d0.At) ((y28.map A1).length:Int)))=(Int.toNat (Int.tmod (i64.wrap d0.At) ((y28.map A1).length:Int))))&&decide ((Int.toNat (Int.tmod (i64.wrap d0.At) ((y28.map A1).length:Int)))<(y28.map A1).length))) [] (by kernel_rfl) (by kernel_rfl) (ckE e51) ?_);obtain⟨l52,e76,hF⟩:=bnd hF;refine do2 6 (am' A4 e76) ?_;refine H1 2 (H9 (o:=chk (decide ((Int.toNat (Int.tmod (i64.wrap d0.At) ((y28.map A1).length:Int)))=(Int.toNat (Int.tmod (i64.wrap d0.At) ((y28.map A1).length:Int))))&&decide ((Int.toNat (Int.tmod (i64.wrap d0.At) ((y28.map A1).length:Int)))<(y28.map A1).length))) [] (by kernel_rfl) (by kernel_rfl) (ckE e51) ?_);refine je 0 ?_;obtain⟨l53,e77,hF⟩:=bnd hF;refine B5 0 (F7 (g:=0) (sz:=3) (e:=26) (shs:=[.z,.z,.o 29 2 [.z,.z]]) (es:=(y28.map A1)) (vs:=[.s y29.Act,.s y29.Gain,.suf 1201 1 0]) (gd:=1) (ed:=29) (nd:=2) (o:= .buf 1 29 2 (l52.map A4)) 1200 1201 ((Int.toNat (Int.tmod (i64.wrap d0.At) ((y28.map A1).length:Int)))) (A1 (⟨y29.Act,y29.Gain,l52⟩:A2)) (l53.map A1) (by kernel_rfl) (by kernel_rfl) (by kernel_rfl) (by kernel_rfl) (by kernel_rfl) (glt (f:=A1) e51) (by cases e77;exact shm (f:=A1) (z:=(⟨y29.Act,y29.Gain,l52⟩:A2))) ?_);obtain⟨l54,e78,hF⟩:=bnd hF;refine B5 0 (F7 (g:=0) (sz:=1) (e:=31) (shs:=[.o 26 3 [.z,.z,.o 29 2 [.z,.z]]]) (es:=(l21.map A0)) (vs:=[.suf 1200 0 0]) (gd:=0) (ed:=26) (nd:=3) (o:= .tree 0 26 3 [.z,.z,.o 29 2 [.z,.z]] (l53.map A1) none) 59 1200 ((Int.toNat (Int.tmod (i64.wrap d0.State) ((d1.Owner.map A3).length:Int)))) (A0 l53) (l54.map A0) (by kernel_rfl) (by kernel_rfl) (by kernel_rfl) (by kernel_rfl) (by kernel_rfl) (glt (f:=A0) e50) (by cases e78;exact shm (f:=A0) (z:=l53)) ?_);refine B5 0 (U4 (g:=0) (sz:=1) (e:=31) (shs:=[.o 26 3 [.z,.z,.o 29 2 [.z,.z]]]) (es:=l54.map A0) 59 (by kernel_rfl) ?_);refine B5 2 (W4 (g:=0) (e:=3) (sz:=1) (es:=l1.map A3) 21 (by kernel_rfl) ?_);obtain⟨l55,e79,hF⟩:=bnd hF;refine B5 0 (Z9 (g:=0) (sz:=1) (es:=l1.map A3) 6 0 21 0 (l55.map A3) (by kernel_rfl) (by kernel_rfl) (by cases e79;exact map_drop.symm) ?_);cases hF;exact jr 4
         .refine jI 6 179 hF ?_ ?_<;>intro hF
          .refine B5 5 (J4 (o:=chk (decide ((Int.toNat (Int.tmod (i64.wrap d0.At) ((y28.map A1).length:Int)))=(Int.toNat (Int.tmod (i64.wrap d0.At) ((y28.map A1).length:Int))))&&decide ((Int.toNat (Int.tmod (i64.wrap d0.At) ((y28.map A1).length:Int)))<(y28.map A1).length))) [] (by kernel_rfl) (ckE e51) ?_);obtain⟨l56,e80,hF⟩:=bnd hF;refine B5 1 (Ez6 (g:=0) (sz:=3) (e:=26) (shs:=[.z,.z,.o 29 2 [.z,.z]]) (es:=(y28.map A1)) (vs:=[.s y29.Act,.s y29.Gain,.esl 2]) 1200 ((Int.toNat (Int.tmod (i64.wrap d0.At) ((y28.map A1).length:Int)))) (A1 (⟨y29.Act,y29.Gain,[]⟩:A2)) (l56.map A1) (by kernel_rfl) (by kernel_rfl) (by kernel_rfl) (glt (f:=A1) e51) (by cases e80;exact shm (f:=A1) (z:=(⟨y29.Act,y29.Gain,[]⟩:A2))) ?_);obtain⟨l57,e81,hF⟩:=bnd hF;refine B5 0 (F7 (g:=0) (sz:=1) (e:=31) (shs:=[.o 26 3 [.z,.z,.o 29 2 [.z,.z]]]) (es:=(l21.map A0)) (vs:=[.suf 1200 0 0]) (gd:=0) (ed:=26) (nd:=3) (o:= .tree 0 26 3 [.z,.z,.o 29 2 [.z,.z]] (l56.map A1) none) 59 1200 ((Int.toNat (Int.tmod (i64.wrap d0.State) ((d1.Owner.map A3).length:Int)))) (A0 l56) (l57.map A0) (by kernel_rfl) (by kernel_rfl) (by kernel_rfl) (by kernel_rfl) (by kernel_rfl) (glt (f:=A0) e50) (by cases e81;exact shm (f:=A0) (z:=l56)) ?_);refine B5 0 (U4 (g:=0) (sz:=1) (e:=31) (shs:=[.o 26 3 [.z,.z,.o 29 2 [.z,.z]]]) (es:=l57.map A0) 59 (by kernel_rfl) ?_);refine B5 2 (W4 (g:=0) (e:=3) (sz:=1) (es:=l1.map A3) 21 (by kernel_rfl) ?_);obtain⟨l58,e82,hF⟩:=bnd hF;refine B5 0 (Z9 (g:=0) (sz:=1) (es:=l1.map A3) 6 0 21 0 (l58.map A3) (by kernel_rfl) (by kernel_rfl) (by cases e82;exact map_drop.symm) ?_);cases hF;exact jr 4
          .refine jI 6 184 hF ?_ ?_<;>intro hF
           .obtain⟨l59,e83,hF⟩:=bnd hF;refine B5 2 (F7 (g:=0) (sz:=3) (e:=26) (shs:=[.z,.z,.o 29 2 [.z,.z]]) (es:=(y28.map A1)) (vs:=[.s y29.Act,.s y29.Gain,.suf 1201 0 0]) (gd:=0) (ed:=29) (nd:=2) (o:= .buf 0 29 2 (y29.Next.map A4)) 1200 1201 ((Int.toNat (Int.tmod (i64.wrap d0.At) ((y28.map A1).length:Int)))) (A1 y29) (l59.map A1) (by kernel_rfl) (by kernel_rfl) (by kernel_rfl) (by kernel_rfl) (by kernel_rfl) (glt (f:=A1) e51) (by cases e83;exact shm (f:=A1) (z:=y29)) ?_);obtain⟨l60,e84,hF⟩:=bnd hF;refine B5 0 (F7 (g:=0) (sz:=1) (e:=31) (shs:=[.o 26 3 [.z,.z,.o 29 2 [.z,.z]]]) (es:=(l21.map A0)) (vs:=[.suf 1200 0 0]) (gd:=0) (ed:=26) (nd:=3) (o:= .tree 0 26 3 [.z,.z,.o 29 2 [.z,.z]] (l59.map A1) none) 59 1200 ((Int.toNat (Int.tmod (i64.wrap d0.State) ((d1.Owner.map A3).length:Int)))) (A0 l59) (l60.map A0) (by kernel_rfl) (by kernel_rfl) (by kernel_rfl) (by kernel_rfl) (by kernel_rfl) (glt (f:=A0) e50) (by cases e84;exact shm (f:=A0) (z:=l59)) ?_);refine B5 0 (Fr2 (g:=0) (sz:=1) (e:=31) (shs:=[.o 26 3 [.z,.z,.o 29 2 [.z,.z]]]) (es:=(l60.map A0)) 59 [.o 26 3 [.z,.z,.z]] (by kernel_rfl) (by kernel_rfl) ?_);have hL3:∀nL3 l68,Bg7 d0 d1 l1 nL3 l68=some r->G21 r ⟨mkT [(4,.ptr 4 0),(6,.ptr 6 0),(11,.i (Int.tmod (i64.wrap d0.State) ((d1.Owner.map A3).length:Int)))],[(4,.box 34 [.esl 1,.esl 1]),(6,.box 34 [.suf 21 0 0,.suf 59 0 0]),(21,.buf 0 3 1 (l1.map A3)),(59,.tree 0 31 1 [.o 26 3 [.z,.z,.z]] (l68.map A0) none)],[kL b21 4289724408,.inBlock 7,.inBlock 4,kC b21 1023]⟩:=by
             clear hF;refine lpI (fun _ h=>by cases h) fun nL3 iL3 l68 hF=> ?_
             obtain⟨y39,e97,hF⟩:=bnd hF;refine B5 3 (Bi1 (g:=0) (e:=31) (e2:=26) (n:=3) (es:=l68.map A0) 59 1200 (Int.toNat (Int.tmod (i64.wrap d0.State) ((d1.Owner.map A3).length:Int))) (y39.map A1) (by kernel_rfl) (by kernel_rfl) (by kernel_rfl) (gjo (f:=A0) e97) ?_);refine B5 4 (J4 (o:=chk (decide (0<=(Int.tmod (i64.wrap d0.State) ((d1.Owner.map A3).length:Int)))&&(decide (0+Int.toNat (Int.tmod (i64.wrap d0.State) ((d1.Owner.map A3).length:Int))=Int.toNat (Int.tmod (i64.wrap d0.State) ((d1.Owner.map A3).length:Int)))&&decide (Int.toNat (Int.tmod (i64.wrap d0.State) ((d1.Owner.map A3).length:Int))<(l68.map A0).length)))) [] (by kernel_rfl) (ckI e97) ?_);refine B5 0 (J4 (o:=chk (decide ((Int.toNat (Int.tmod (i64.wrap d0.State) ((d1.Owner.map A3).length:Int)))=(Int.toNat (Int.tmod (i64.wrap d0.State) ((d1.Owner.map A3).length:Int))))&&decide ((Int.toNat (Int.tmod (i64.wrap d0.State) ((d1.Owner.map A3).length:Int)))<(l68.map A0).length))) [] (by kernel_rfl) (ckE e97) ?_);obtain⟨l69,e98,hF⟩:=bnd hF;refine B5 3 (Aq1 (g:=0) (gd:=0) (e:=31) (e2:=26) (n:=3) (es:=l68.map A0) (ds:=y39.map A1) 59 1200 (Int.toNat (Int.tmod (i64.wrap d0.State) ((d1.Owner.map A3).length:Int))) (l69.map A0) (by kernel_rfl) (by kernel_rfl) (by kernel_rfl) (by kernel_rfl) (glt (f:=A0) e97) (by cases e98;exact shm (f:=A0) (z:=y39)) ?_);refine ja 0 (S0:=[(4,.ptr 4 0),(6,.ptr 6 0),(11,.i (Int.tmod (i64.wrap d0.State) ((d1.Owner.map A3).length:Int))),(192,.b (decide (((y39.map A1).length:Int)<5)))]) (O0:=[(4,.box 34 [.esl 1,.esl 1]),(6,.box 34 [.suf 21 0 0,.suf 59 0 0]),(21,.buf 0 3 1 (l1.map A3)),(59,.tree 0 31 1 [.o 26 3 [.z,.z,.z]] (l69.map A0) none)]) (T0:=[kC b21 17158897633,kC b21 8579448817,kL b21 4289724408,.inBlock 7,.inBlock 4,kC b21 1023]) ?_;refine jI 0 192 hF ?_ ?_<;>intro hF
             .obtain⟨y40,e99,hF⟩:=bnd hF;refine B5 3 (Bi1 (g:=0) (e:=31) (e2:=26) (n:=3) (es:=l69.map A0) 59 1200 (Int.toNat (Int.tmod (i64.wrap d0.State) ((d1.Owner.map A3).length:Int))) (y40.map A1) (by kernel_rfl) (by kernel_rfl) (by kernel_rfl) (gjo (f:=A0) e99) ?_);refine jd 0 ?_;refine H1 6 (H9 (o:=chk (decide (0<=(Int.tmod (i64.wrap d0.State) ((d1.Owner.map A3).length:Int)))&&(decide (0+Int.toNat (Int.tmod (i64.wrap d0.State) ((d1.Owner.map A3).length:Int))=Int.toNat (Int.tmod (i64.wrap d0.State) ((d1.Owner.map A3).length:Int)))&&decide (Int.toNat (Int.tmod (i64.wrap d0.State) ((d1.Owner.map A3).length:Int))<(l69.map A0).length)))) [] (by kernel_rfl) (by kernel_rfl) (ckI e99) ?_);refine H1 0 (H9 (o:=chk (decide ((Int.toNat (Int.tmod (i64.wrap d0.State) ((d1.Owner.map A3).length:Int)))=(Int.toNat (Int.tmod (i64.wrap d0.State) ((d1.Owner.map A3).length:Int))))&&decide ((Int.toNat (Int.tmod (i64.wrap d0.State) ((d1.Owner.map A3).length:Int)))<(l69.map A0).length))) [] (by kernel_rfl) (by kernel_rfl) (ckE e99) ?_);refine H1 3 (H9 (o:=chk (decide (0<=(Int.tmod (i64.wrap d0.State) ((d1.Owner.map A3).length:Int)))&&(decide (0+Int.toNat (Int.tmod (i64.wrap d0.State) ((d1.Owner.map A3).length:Int))=Int.toNat (Int.tmod (i64.wrap d0.State) ((d1.Owner.map A3).length:Int)))&&decide (Int.toNat (Int.tmod (i64.wrap d0.State) ((d1.Owner.map A3).length:Int))<(l69.map A0).length)))) [] (by kernel_rfl) (by kernel_rfl) (ckI e99) ?_);refine H1 0 (H9 (o:=chk (decide ((Int.toNat (Int.tmod (i64.wrap d0.State) ((d1.Owner.map A3).length:Int)))=(Int.toNat (Int.tmod (i64.wrap d0.State) ((d1.Owner.map A3).length:Int))))&&decide ((Int.toNat (Int.tmod (i64.wrap d0.State) ((d1.Owner.map A3).length:Int)))<(l69.map A0).length))) [] (by kernel_rfl) (by kernel_rfl) (ckE e99) ?_);obtain⟨y41,e100,hF⟩:=bnd hF;refine do1 0 (gm' A1 e100) ?_;refine do1 0 (gjm (f:=A1) (gj e100)) ?_;obtain⟨l70,e101,hF⟩:=bnd hF;refine do2 1 (am' A1 e101) ?_;refine H1 0 (H9 (o:=chk (decide (0<=(Int.tmod (i64.wrap d0.State) ((d1.Owner.map A3).length:Int)))&&(decide (0+Int.toNat (Int.tmod (i64.wrap d0.State) ((d1.Owner.map A3).length:Int))=Int.toNat (Int.tmod (i64.wrap d0.State) ((d1.Owner.map A3).length:Int)))&&decide (Int.toNat (Int.tmod (i64.wrap d0.State) ((d1.Owner.map A3).length:Int))<(l69.map A0).length)))) [] (by kernel_rfl) (by kernel_rfl) (ckI e99) ?_);refine H1 0 (H9 (o:=chk (decide ((Int.toNat (Int.tmod (i64.wrap d0.State) ((d1.Owner.map A3).length:Int)))=(Int.toNat (Int.tmod (i64.wrap d0.State) ((d1.Owner.map A3).length:Int))))&&decide ((Int.toNat (Int.tmod (i64.wrap d0.State) ((d1.Owner.map A3).length:Int)))<(l69.map A0).length))) [] (by kernel_rfl) (by kernel_rfl) (ckE e99) ?_);refine je 0 ?_;obtain⟨l71,e102,hF⟩:=bnd hF;refine B5 0 (Aq1 (g:=0) (gd:=1) (e:=31) (e2:=26) (n:=3) (es:=l69.map A0) (ds:=l70.map A1) 59 1200 (Int.toNat (Int.tmod (i64.wrap d0.State) ((d1.Owner.map A3).length:Int))) (l71.map A0) (by kernel_rfl) (by kernel_rfl) (by kernel_rfl) (by kernel_rfl) (glt (f:=A0) e99) (by cases e102;exact shm (f:=A0) (z:=l70)) ?_);refine ja 0 (S0:=[(4,.ptr 4 0),(6,.ptr 6 0),(11,.i (Int.tmod (i64.wrap d0.State) ((d1.Owner.map A3).length:Int)))]) (O0:=[(4,.box 34 [.esl 1,.esl 1]),(6,.box 34 [.suf 21 0 0,.suf 59 0 0]),(21,.buf 0 3 1 (l1.map A3)),(59,.tree 0 31 1 [.o 26 3 [.z,.z,.z]] (l71.map A0) none)]) (T0:=[.inBlock 8,kL b21 4289724408,.inBlock 7,.inBlock 4,kC b21 1023]) ?_;exact ja 1 (iL3 _ hF)
             .refine B5 4 (W4 (g:=0) (e:=3) (sz:=1) (es:=l1.map A3) 21 (by kernel_rfl) ?_);obtain⟨l72,e103,hF⟩:=bnd hF;refine B5 0 (Z9 (g:=0) (sz:=1) (es:=l1.map A3) 6 0 21 0 (l72.map A3) (by kernel_rfl) (by kernel_rfl) (by cases e103;exact map_drop.symm) ?_);refine B5 4 (U4 (g:=0) (sz:=1) (e:=31) (shs:=[.o 26 3 [.z,.z,.z]]) (es:=l69.map A0) 59 (by kernel_rfl) ?_);cases hF;exact jr 0
            exact ja 1 (hL3 _ _ hF)
           .refine jI 6 211 hF ?_ ?_<;>intro hF
            .obtain⟨l73,e104,hF⟩:=bnd hF;refine B5 1 (F7 (g:=0) (sz:=3) (e:=26) (shs:=[.z,.z,.o 29 2 [.z,.z]]) (es:=(y28.map A1)) (vs:=[.s y29.Act,.s y29.Gain,.suf 1201 0 0]) (gd:=0) (ed:=29) (nd:=2) (o:= .buf 0 29 2 (y29.Next.map A4)) 1200 1201 ((Int.toNat (Int.tmod (i64.wrap d0.At) ((y28.map A1).length:Int)))) (A1 y29) (l73.map A1) (by kernel_rfl) (by kernel_rfl) (by kernel_rfl) (by kernel_rfl) (by kernel_rfl) (glt (f:=A1) e51) (by cases e104;exact shm (f:=A1) (z:=y29)) ?_);obtain⟨l74,e105,hF⟩:=bnd hF;refine B5 0 (F7 (g:=0) (sz:=1) (e:=31) (shs:=[.o 26 3 [.z,.z,.o 29 2 [.z,.z]]]) (es:=(l21.map A0)) (vs:=[.suf 1200 0 0]) (gd:=0) (ed:=26) (nd:=3) (o:= .tree 0 26 3 [.z,.z,.o 29 2 [.z,.z]] (l73.map A1) none) 59 1200 ((Int.toNat (Int.tmod (i64.wrap d0.State) ((d1.Owner.map A3).length:Int)))) (A0 l73) (l74.map A0) (by kernel_rfl) (by kernel_rfl) (by kernel_rfl) (by kernel_rfl) (by kernel_rfl) (glt (f:=A0) e50) (by cases e105;exact shm (f:=A0) (z:=l73)) ?_);refine B5 0 (U4 (g:=0) (sz:=1) (e:=31) (shs:=[.o 26 3 [.z,.z,.o 29 2 [.z,.z]]]) (es:=l74.map A0) 59 (by kernel_rfl) ?_);obtain⟨y42,e106,hF⟩:=bnd hF;refine jo1 4 (gm' A0 e106) ?_;obtain⟨l75,e107,hF⟩:=bnd hF;have hst:=stm (f:=A0) (z:=[]) (k:=0) (xs:=[.sl 3 ([].map A1)]) (gj e106) rfl;refine B5 0 (G1 (o:=(match(l74.map A0)[0+Int.toNat (Int.tmod (i64.wrap d0.State) ((d1.Owner.map A3).length:Int))]? with|some old=>some ((l74.map A0).set (0+Int.toNat (Int.tmod (i64.wrap d0.State) ((d1.Owner.map A3).length:Int))) (Z6 old 0 [.sl 3 ([].map A1)]))|none=>none)) (l75.map A0) (by kernel_rfl) (by cases e107;exact hst) ?_);refine B5 3 (W4 (g:=0) (e:=3) (sz:=1) (es:=l1.map A3) 21 (by kernel_rfl) ?_);obtain⟨l76,e108,hF⟩:=bnd hF;refine B5 0 (Z9 (g:=0) (sz:=1) (es:=l1.map A3) 6 0 21 0 (l76.map A3) (by kernel_rfl) (by kernel_rfl) (by cases e108;exact map_drop.symm) ?_);cases hF;exact jr 4
            .refine jI 6 217 hF ?_ ?_<;>intro hF
             .obtain⟨l77,e109,hF⟩:=bnd hF;refine jo2 5 (am' A3 e109) ?_;obtain⟨l78,e110,hF⟩:=bnd hF;refine B5 3 (F7 (g:=0) (sz:=3) (e:=26) (shs:=[.z,.z,.o 29 2 [.z,.z]]) (es:=(y28.map A1)) (vs:=[.s y29.Act,.s y29.Gain,.suf 1201 0 0]) (gd:=0) (ed:=29) (nd:=2) (o:= .buf 0 29 2 (y29.Next.map A4)) 1200 1201 ((Int.toNat (Int.tmod (i64.wrap d0.At) ((y28.map A1).length:Int)))) (A1 y29) (l78.map A1) (by kernel_rfl) (by kernel_rfl) (by kernel_rfl) (by kernel_rfl) (by kernel_rfl) (glt (f:=A1) e51) (by cases e110;exact shm (f:=A1) (z:=y29)) ?_);obtain⟨l79,e111,hF⟩:=bnd hF;refine B5 0 (F7 (g:=0) (sz:=1) (e:=31) (shs:=[.o 26 3 [.z,.z,.o 29 2 [.z,.z]]]) (es:=(l21.map A0)) (vs:=[.suf 1200 0 0]) (gd:=0) (ed:=26) (nd:=3) (o:= .tree 0 26 3 [.z,.z,.o 29 2 [.z,.z]] (l78.map A1) none) 59 1200 ((Int.toNat (Int.tmod (i64.wrap d0.State) ((d1.Owner.map A3).length:Int)))) (A0 l78) (l79.map A0) (by kernel_rfl) (by kernel_rfl) (by kernel_rfl) (by kernel_rfl) (by kernel_rfl) (glt (f:=A0) e50) (by cases e111;exact shm (f:=A0) (z:=l78)) ?_);refine B5 0 (U4 (g:=0) (sz:=1) (e:=31) (shs:=[.o 26 3 [.z,.z,.o 29 2 [.z,.z]]]) (es:=l79.map A0) 59 (by kernel_rfl) ?_);refine B5 2 (W4 (g:=1) (e:=3) (sz:=1) (es:=l77.map A3) 21 (by kernel_rfl) ?_);obtain⟨l80,e112,hF⟩:=bnd hF;refine B5 0 (Z9 (g:=1) (sz:=1) (es:=l77.map A3) 6 0 21 0 (l80.map A3) (by kernel_rfl) (by kernel_rfl) (by cases e112;exact map_drop.symm) ?_);cases hF;exact jr 4
             .obtain⟨l81,e113,hF⟩:=bnd hF;refine B5 2 (F7 (g:=0) (sz:=3) (e:=26) (shs:=[.z,.z,.o 29 2 [.z,.z]]) (es:=(y28.map A1)) (vs:=[.s y29.Act,.s y29.Gain,.suf 1201 0 0]) (gd:=0) (ed:=29) (nd:=2) (o:= .buf 0 29 2 (y29.Next.map A4)) 1200 1201 ((Int.toNat (Int.tmod (i64.wrap d0.At) ((y28.map A1).length:Int)))) (A1 y29) (l81.map A1) (by kernel_rfl) (by kernel_rfl) (by kernel_rfl) (by kernel_rfl) (by kernel_rfl) (glt (f:=A1) e51) (by cases e113;exact shm (f:=A1) (z:=y29)) ?_);obtain⟨l82,e114,hF⟩:=bnd hF;refine B5 0 (F7 (g:=0) (sz:=1) (e:=31) (shs:=[.o 26 3 [.z,.z,.o 29 2 [.z,.z]]]) (es:=(l21.map A0)) (vs:=[.suf 1200 0 0]) (gd:=0) (ed:=26) (nd:=3) (o:= .tree 0 26 3 [.z,.z,.o 29 2 [.z,.z]] (l81.map A1) none) 59 1200 ((Int.toNat (Int.tmod (i64.wrap d0.State) ((d1.Owner.map A3).length:Int)))) (A0 l81) (l82.map A0) (by kernel_rfl) (by kernel_rfl) (by kernel_rfl) (by kernel_rfl) (by kernel_rfl) (glt (f:=A0) e50) (by cases e114;exact shm (f:=A0) (z:=l81)) ?_);refine B5 0 (U4 (g:=0) (sz:=1) (e:=31) (shs:=[.o 26 3 [.z,.z,.o 29 2 [.z,.z]]]) (es:=l82.map A0) 59 (by kernel_rfl) ?_);have hL4:∀nL4 l89 l90,Bg8 nL4 l89 l90=some r->G21 r ⟨mkT [(4,.ptr 4 0),(6,.ptr 6 0)],[(4,.box 34 [.esl 1,.esl 1]),(6,.box 34 [.suf 21 0 0,.suf 59 0 0]),(21,.buf 0 3 1 (l90.map A3)),(59,.buf 0 31 1 (l89.map A0))],[kL b21 68635590652,.inBlock 5,.inBlock 4,kC b21 1023]⟩:=by
               clear hF;refine lpI (fun _ _ h=>by cases h) fun nL4 iL4 l89 l90 hF=> ?_
               refine jI 9 98 hF ?_ ?_<;>intro hF
               .obtain⟨l91,e121,hF⟩:=bnd hF;refine jo2 8 (am' A3 e121) ?_;refine jd 3 ?_;obtain⟨y45,e122,hF⟩:=bnd hF;refine do1 4 (gm' A0 e122) ?_;refine do1 0 (gjm (f:=A0) (gj e122)) ?_;obtain⟨l92,e123,hF⟩:=bnd hF;refine do2 1 (am' A0 e123) ?_;refine je 2 ?_;exact ja 1 (iL4 _ _ hF)
               .refine B5 4 (W4 (g:=0) (e:=3) (sz:=1) (es:=l90.map A3) 21 (by kernel_rfl) ?_);obtain⟨l93,e124,hF⟩:=bnd hF;refine B5 0 (Z9 (g:=0) (sz:=1) (es:=l90.map A3) 6 0 21 0 (l93.map A3) (by kernel_rfl) (by kernel_rfl) (by cases e124;exact map_drop.symm) ?_);cases hF;exact jr 4
              exact ja 1 (hL4 _ _ _ hF)
 exact ja 5 (hL1 _ _ _ hF)
def Ap6(d0:List UInt8):Nat->Int->Option Bool
 |0,_=>none
 |nL1+1,v2=>
  bif decide (v2<(d0.length:Int)) then
   ((
    (C2 d0 v2).bind fun y17=>
    bif decide ((y17.toNat:Int)<97) then
     (some true)
    else
     ((C2 d0 v2).bind fun y18=>
     some (decide ((y18.toNat:Int)>122)))).bind fun o3=>
   bif o3 then
    (some false)
   else
    ((Ap6 d0 nL1) (i64.wrap (v2+1))))
  else
   (some (decide ((d0.length:Int)<=8)))
def Ek7(fuel:Nat)(d0:List UInt8):Option Bool:=
 Ap6 d0 fuel 0
noncomputable abbrev Fb1:=C0 f147
abbrev Go4(r:Bool):=GJ prog 23 f147 (.b r)
theorem Ev6{fuel}{d0}{r}(hF:Ek7 fuel d0=some r):
 C1 prog 147 [.s d0] (.b r):=by
 unfold Ek7 at hF;refine cf 23 func147 ?_;have hL1:∀nL1 v2,Ap6 d0 nL1 v2=some r->Go4 r ⟨mkT [(0,.s d0),(3,.i v2)],[],[kL Fb1 52,.inBlock 0,kC Fb1 7]⟩:=by
  clear hF;refine lpI (fun _ h=>by cases h) fun nL1 iL1 v2 hF=> ?_
  refine jI 9 7 hF ?_ ?_<;>intro hF
  .obtain⟨o3,hO,hF⟩:=bnd hF;have hR3:Go4 r ⟨mkT [(0,.s d0),(3,.i v2),(19,.b o3)],[],[kO Fb1 840,kC Fb1 841,.inBlock 1,kC Fb1 211,kL Fb1 52,.inBlock 0,kC Fb1 7]⟩:=by
    clear hO;refine jI 1 19 hF ?_ ?_<;>intro hF
    .cases hF;exact jr 5
    .exact ja 8 (iL1 _ hF)
   clear hF;rename _=some o3=>hF
   obtain⟨y17,e17,hF⟩:=bnd hF;refine jo1 8 (gs e17) ?_;refine jI 2 14 hF ?_ ?_<;>intro hF
   .cases hF;exact ja 5 hR3
   .obtain⟨y18,e18,hF⟩:=bnd hF;refine jo1 2 (gs e18) ?_;cases hF;exact ja 2 hR3
  .cases hF;exact jr 9
 exact ja 11 (hL1 _ _ hF)
def Y0(d0:List UInt8):Nat->Int->Option Bool
 |0,_=>none
 |nL1+1,v2=>
  bif decide (v2<(((d0.drop (Int.toNat 1)).take (Int.toNat ((d0.length:Int)-1))).length:Int)) then
   ((
    (C2 ((d0.drop (Int.toNat 1)).take (Int.toNat ((d0.length:Int)-1))) v2).bind fun y21=>
    bif decide ((y21.toNat:Int)<48) then
     (some true)
    else
     ((C2 ((d0.drop (Int.toNat 1)).take (Int.toNat ((d0.length:Int)-1))) v2).bind fun y22=>
     some (decide ((y22.toNat:Int)>57)))).bind fun o5=>
   bif o5 then
    (some false)
   else
    ((Y0 d0 nL1) (i64.wrap (v2+1))))
  else
   (some true)
def Y1(d0:List UInt8):Nat->Int->Option Bool
 |0,_=>none
 |nL2+1,v4=>
  bif decide (v4<(d0.length:Int)) then
   ((
    (C2 d0 v4).bind fun y42=>
    bif decide ((y42.toNat:Int)<48) then
     (some true)
    else
     ((C2 d0 v4).bind fun y43=>
     some (decide ((y43.toNat:Int)>57)))).bind fun o9=>
   bif o9 then
    (some false)
   else
    ((Y1 d0 nL2) (i64.wrap (v4+1))))
  else
   (some true)
def Eu7(fuel:Nat)(d0:List UInt8):Option Bool:=
 bif d0==[48] then
  (some true)
 else
  ((
   bif decide ((d0.length:Int)>0) then
    ((C2 d0 0).bind fun y45=>
    some ((y45.toNat:Int)==45))
   else
    (some false)).bind fun o1=>
  bif o1 then
   (ass (decide (0<=1)&&decide (1<=(d0.length:Int))&&decide ((d0.length:Int)<=d0.length))<|
   (
    bif (((d0.drop (Int.toNat 1)).take (Int.toNat ((d0.length:Int)-1))).length:Int)==0 then
     (some true)
    else
     ((C2 ((d0.drop (Int.toNat 1)).take (Int.toNat ((d0.length:Int)-1))) 0).bind fun y23=>
     some ((y23.toNat:Int)==48))).bind fun o2=>
   bif o2 then
    (some false)
   else
    (Y0 d0 fuel 0))
  else
   ((
    bif (d0.length:Int)==0 then
     (some true)
    else
     ((C2 d0 0).bind fun y44=>
     some ((y44.toNat:Int)==48))).bind fun o6=>
   bif o6 then
    (some false)
   else
    (Y1 d0 fuel 0)))
noncomputable abbrev Az0:=C0 f122
abbrev Ey9(r:Bool):=GJ prog 42 f122 (.b r)
theorem Dd0{fuel}{d0}{r}(hF:Eu7 fuel d0=some r):
 C1 prog 122 [.s d0] (.b r):=by
 refine cf 42 func122 ?_;refine jI 10 6 hF ?_ ?_<;>intro hF
 .cases hF;exact jr 5
 .obtain⟨o1,hO,hF⟩:=bnd hF;have hR1:Ey9 r ⟨mkT [(3,.s d0),(15,.b o1)],[],[kO Az0 60,kC Az0 61,kC Az0 31]⟩:=by
   clear hO;refine jI 1 15 hF ?_ ?_<;>intro hF
   .obtain⟨hb5,hF⟩:=O3 hF;refine jo1 3 (ck hb5) ?_;obtain⟨o2,hO,hF⟩:=bnd hF;have hR2:Ey9 r ⟨mkT [(3,.s ((d0.drop (Int.toNat 1)).take (Int.toNat ((d0.length:Int)-1)))),(25,.b o2)],[],[kO Az0 124,kC Az0 125,kC Az0 63]⟩:=by
     clear hO;refine jI 1 25 hF ?_ ?_<;>intro hF
     .cases hF;exact jr 5
     .have hL1:∀nL1 v2,Y0 d0 nL1 v2=some r->Ey9 r ⟨mkT [(3,.s ((d0.drop (Int.toNat 1)).take (Int.toNat ((d0.length:Int)-1)))),(4,.i v2)],[],[kL Az0 1012,.inBlock 0,kC Az0 127]⟩:=by
       clear hF;refine lpI (fun _ h=>by cases h) fun nL1 iL1 v2 hF=> ?_
       refine jI 9 29 hF ?_ ?_<;>intro hF
       .obtain⟨o5,hO,hF⟩:=bnd hF;have hR5:Ey9 r ⟨mkT [(3,.s ((d0.drop (Int.toNat 1)).take (Int.toNat ((d0.length:Int)-1)))),(4,.i v2),(41,.b o5)],[],[kO Az0 16200,kC Az0 16201,.inBlock 1,kC Az0 4051,kL Az0 1012,.inBlock 0,kC Az0 127]⟩:=by
         clear hO;refine jI 1 41 hF ?_ ?_<;>intro hF
         .cases hF;exact jr 5
         .exact ja 8 (iL1 _ hF)
        clear hF;rename _=some o5=>hF
        obtain⟨y21,e21,hF⟩:=bnd hF;refine jo1 8 (gs e21) ?_;refine jI 2 36 hF ?_ ?_<;>intro hF
        .cases hF;exact ja 5 hR5
        .obtain⟨y22,e22,hF⟩:=bnd hF;refine jo1 2 (gs e22) ?_;cases hF;exact ja 2 hR5
       .cases hF;exact jr 6
      exact ja 9 (hL1 _ _ hF)
    clear hF;rename _=some o2=>hF
    refine jI 9 21 hF ?_ ?_<;>intro hF
    .cases hF;exact ja 4 hR2
    .obtain⟨y23,e23,hF⟩:=bnd hF;refine jo1 1 (gs e23) ?_;cases hF;exact ja 2 hR2
   .obtain⟨o6,hO,hF⟩:=bnd hF;have hR6:Ey9 r ⟨mkT [(3,.s d0),(25,.b o6)],[],[kO Az0 124,kC Az0 125,kC Az0 63]⟩:=by
     clear hO;refine jI 1 25 hF ?_ ?_<;>intro hF
     .cases hF;exact jr 5
     .have hL2:∀nL2 v4,Y1 d0 nL2 v4=some r->Ey9 r ⟨mkT [(3,.s d0),(4,.i v4)],[],[kL Az0 1012,.inBlock 0,kC Az0 127]⟩:=by
       clear hF;refine lpI (fun _ h=>by cases h) fun nL2 iL2 v4 hF=> ?_
       refine jI 9 29 hF ?_ ?_<;>intro hF
       .obtain⟨o9,hO,hF⟩:=bnd hF;have hR9:Ey9 r ⟨mkT [(3,.s d0),(4,.i v4),(41,.b o9)],[],[kO Az0 16200,kC Az0 16201,.inBlock 1,kC Az0 4051,kL Az0 1012,.inBlock 0,kC Az0 127]⟩:=by
         clear hO;refine jI 1 41 hF ?_ ?_<;>intro hF
         .cases hF;exact jr 5
         .exact ja 8 (iL2 _ hF)
        clear hF;rename _=some o9=>hF
        obtain⟨y42,e42,hF⟩:=bnd hF;refine jo1 8 (gs e42) ?_;refine jI 2 36 hF ?_ ?_<;>intro hF
        .cases hF;exact ja 5 hR9
        .obtain⟨y43,e43,hF⟩:=bnd hF;refine jo1 2 (gs e43) ?_;cases hF;exact ja 2 hR9
       .cases hF;exact jr 6
      exact ja 9 (hL2 _ _ hF)
    clear hF;rename _=some o6=>hF
    refine jI 9 21 hF ?_ ?_<;>intro hF
    .cases hF;exact ja 4 hR6
    .obtain⟨y44,e44,hF⟩:=bnd hF;refine jo1 1 (gs e44) ?_;cases hF;exact ja 2 hR6
  clear hF;rename _=some o1=>hF
  refine jI 14 11 hF ?_ ?_<;>intro hF
  .obtain⟨y45,e45,hF⟩:=bnd hF;refine jo1 1 (gs e45) ?_;cases hF;exact ja 2 hR1
  .cases hF;exact ja 4 hR1
def F82(fuel:Nat)(d0:List UInt8):Option Bool:=
 (Ea5 fuel d0).bind fun y1=>
 (
  (Eu7 fuel y1.1).bind fun y12=>
  bif !y12 then
   (some true)
  else
   ((Eu7 fuel y1.2.1).bind fun y13=>
   some (!y13))).bind fun o1=>
 bif o1 then
  (some false)
 else
  ((
   bif !y1.2.2 then
    (some true)
   else
    ((F72 fuel y1.2.1 [49]).bind fun y10=>
    bif decide (y10>0) then
     ((Fm6 fuel y1.1 y1.2.1).bind fun y11=>
     some (y11==[49]))
    else
     (some false))).bind fun o2=>
  some o2)
noncomputable abbrev b82:=C0 f82
abbrev G82(r:Bool):=GJ prog 33 f82 (.b r)
theorem El7{fuel}{d0}{r}(hF:F82 fuel d0=some r):
 C1 prog 82 [.s d0] (.b r):=by
 refine cf 33 func82 ?_;refine jB 7 hF Dc9 fun y1 hF=> ?_
 obtain⟨o1,hO,hF⟩:=bnd hF;have hR1:G82 r ⟨mkT [(3,.s y1.1),(4,.s y1.2.1),(5,.b y1.2.2),(19,.b o1)],[],[kO b82 28,kC b82 29,kC b82 15]⟩:=by
  clear hO;refine jI 1 19 hF ?_ ?_<;>intro hF
  .cases hF;exact jr 5
  .obtain⟨o2,hO,hF⟩:=bnd hF;have hR2:G82 r ⟨mkT [(2,.b o2)],[],[kO b82 30,kC b82 31]⟩:=by
    clear hO;cases hF;exact jr 1
   clear hF;rename _=some o2=>hF
   refine jI 7 22 hF ?_ ?_<;>intro hF
   .cases hF;exact ja 11 hR2
   .refine jB 1 hF Bh4 fun y10 hF=> ?_
    refine jI 2 26 hF ?_ ?_<;>intro hF
    .refine jB 2 hF Dd1 fun y11 hF=> ?_
     cases hF;exact ja 4 hR2
    .cases hF;exact ja 7 hR2
 clear hF;rename _=some o1=>hF
 refine jB 12 hF Dd0 fun y12 hF=> ?_
 refine jI 2 15 hF ?_ ?_<;>intro hF
 .cases hF;exact ja 4 hR1
 .refine jB 1 hF Dd0 fun y13 hF=> ?_
  cases hF;exact ja 2 hR1
def Ev8(d0:List UInt8):Option Int:=
 (C2 d0 0).bind fun y1=>
 bif (y1.toNat:Int)==45 then
  (some (i64.wrap ((d0.length:Int)-1)))
 else
  (some (d0.length:Int))
theorem De3{d0}{r}(hF:Ev8 d0=some r):
 C1 prog 153 [.s d0] (.i r):=by
 refine cf 11 func153 ?_;obtain⟨y1,e1,hF⟩:=bnd hF;refine jo1 8 (gs e1) ?_;refine jI 2 5 hF ?_ ?_<;>intro hF
 .cases hF;exact jr 8
 .cases hF;exact jr 8
def Fm4(fuel:Nat)(d0:List UInt8)(d1:Int):Option Bool:=
 (F71 fuel d0).bind fun y1=>
 (
  (Ev8 y1.1).bind fun y6=>
  bif decide (y6<=d1) then
   ((Ev8 y1.2).bind fun y7=>
   some (decide (y7<=d1)))
  else
   (some false)).bind fun o1=>
 some o1
noncomputable abbrev Gp3:=C0 f116
abbrev Gt6(r:Bool):=GJ prog 22 f116 (.b r)
theorem Dc8{fuel}{d0}{d1}{r}(hF:Fm4 fuel d0 d1=some r):
 C1 prog 116 [.s d0,.i d1] (.b r):=by
 refine cf 22 func116 ?_;refine jB 7 hF Ak2 fun y1 hF=> ?_
 obtain⟨o1,hO,hF⟩:=bnd hF;have hR1:Gt6 r ⟨mkT [(4,.b o1)],[],[kO Gp3 14,kC Gp3 15]⟩:=by
  clear hO;cases hF;exact jr 1
 clear hF;rename _=some o1=>hF
 refine jB 9 hF De3 fun y6 hF=> ?_
 refine jI 3 16 hF ?_ ?_<;>intro hF
 .refine jB 1 hF De3 fun y7 hF=> ?_
  cases hF;exact ja 4 hR1
 .cases hF;exact ja 6 hR1
def Dz9(fuel:Nat)(d0:List UInt8):Option Bool:=
 (
  (F82 fuel d0).bind fun y5=>
  bif y5 then
   ((Fm4 fuel d0 4).bind fun y6=>
   some y6)
  else
   (some false)).bind fun o1=>
 some o1
noncomputable abbrev Gq1:=C0 f148
abbrev Gu6(r:Bool):=GJ prog 9 f148 (.b r)
theorem Dd9{fuel}{d0}{r}(hF:Dz9 fuel d0=some r):
 C1 prog 148 [.s d0] (.b r):=by
 refine cf 9 func148 ?_;obtain⟨o1,hO,hF⟩:=bnd hF;have hR1:Gu6 r ⟨mkT [(2,.b o1)],[],[kO Gq1 6,kC Gq1 7]⟩:=by
  clear hO;cases hF;exact jr 1
 clear hF;rename _=some o1=>hF
 refine jB 7 hF El7 fun y5 hF=> ?_
 refine jI 1 5 hF ?_ ?_<;>intro hF
 .refine jB 1 hF Dc8 fun y6 hF=> ?_
  cases hF;exact ja 2 hR1
 .cases hF;exact ja 4 hR1
def X6(fuel:Nat)(d0:A2)(d1:Int):Nat->(List UInt8)->Int->Int->Option Bool
 |0,_,_,_=>none
 |nL1+1,x2,v3,v4=>
  bif decide (v4<((d0.Next.map A4).length:Int)) then
   ((C2 d0.Next v4).bind fun y23=>
   (
    bif decide (y23.To<=v3) then
     (some true)
    else
     (bif decide (y23.To>=d1) then
      (some true)
     else
      ((Dz9 fuel y23.P).bind fun y29=>
      bif !y29 then
       (some true)
      else
       ((F41 fuel y23.P).bind fun y30=>
       some (decide (y30<1)))))).bind fun o4=>
   bif o4 then
    (some false)
   else
    ((F37 fuel x2 y23.P).bind fun y28=>
    (X6 fuel d0 d1 nL1) y28 y23.To (i64.wrap (v4+1))))
  else
   (some (x2==[49]))
def Eu0(fuel:Nat)(d0:A2)(d1:Int):Option Bool:=
 (
  (Ek7 fuel d0.Act).bind fun y31=>
  bif !y31 then
   (some true)
  else
   ((Dz9 fuel d0.Gain).bind fun y32=>
   bif !y32 then
    (some true)
   else
    ((F41 fuel d0.Gain).bind fun y33=>
    bif decide (y33<0) then
     (some true)
    else
     (bif ((d0.Next.map A4).length:Int)==0 then
      (some true)
     else
      (some (decide (((d0.Next.map A4).length:Int)>d1))))))).bind fun o1=>
 bif o1 then
  (some false)
 else
  (X6 fuel d0 d1 fuel [48] (-1) 0)
noncomputable abbrev Dj5:=C0 f107
abbrev Gg1(r:Bool):=GJ prog 80 f107 (.b r)
theorem Eu1{fuel}{d0}{d1}{r}(hF:Eu0 fuel d0 d1=some r):
 C1 prog 107 [.agg [.s d0.Act,.s d0.Gain,.l 2 d0.Next A4],.i d1] (.b r):=by
 refine cf 80 func107 ?_;obtain⟨o1,hO,hF⟩:=bnd hF;have hR1:Gg1 r ⟨mkT [(1,.i d1),(2,.ptr 2 0),(37,.b o1)],[(2,.box 26 [.s d0.Act,.s d0.Gain,.l 2 d0.Next A4])],[kO Dj5 12,kC Dj5 13,kC Dj5 7]⟩:=by
  clear hO;refine jI 1 37 hF ?_ ?_<;>intro hF
  .cases hF;exact jr 5
  .have hL1:∀nL1 x2 v3 v4,X6 fuel d0 d1 nL1 x2 v3 v4=some r->Gg1 r ⟨mkT [(1,.i d1),(2,.ptr 2 0),(5,.s x2),(6,.i v3),(7,.i v4)],[(2,.box 26 [.s d0.Act,.s d0.Gain,.l 2 d0.Next A4])],[kL Dj5 244,.inBlock 0,kC Dj5 31]⟩:=by
    clear hF;refine lpI (fun _ _ _ h=>by cases h) fun nL1 iL1 x2 v3 v4 hF=> ?_
    refine jI 10 42 hF ?_ ?_<;>intro hF
    .obtain⟨y23,e23,hF⟩:=bnd hF;refine jo1 9 (gm' A4 e23) ?_;obtain⟨o4,hO,hF⟩:=bnd hF;have hR4:Gg1 r ⟨mkT [(1,.i d1),(2,.ptr 2 0),(5,.s x2),(7,.i v4),(8,.ptr 8 0),(71,.b o4)],[(2,.box 26 [.s d0.Act,.s d0.Gain,.l 2 d0.Next A4]),(8,.box 29 [.i y23.To,.s y23.P])],[kO Dj5 15652,kC Dj5 15653,kC Dj5 7827,.inBlock 1,kC Dj5 979,kL Dj5 244,.inBlock 0,kC Dj5 31]⟩:=by
      clear hO;refine jI 1 71 hF ?_ ?_<;>intro hF
      .cases hF;exact jr 5
      .refine jB 12 hF Fo5 fun y28 hF=> ?_
       exact ja 8 (iL1 _ _ _ hF)
     clear hF;rename _=some o4=>hF
     refine jI 12 54 hF ?_ ?_<;>intro hF
     .cases hF;exact ja 17 hR4
     .refine jI 6 60 hF ?_ ?_<;>intro hF
      .cases hF;exact ja 11 hR4
      .refine jB 2 hF Dd9 fun y29 hF=> ?_
       refine jI 3 66 hF ?_ ?_<;>intro hF
       .cases hF;exact ja 5 hR4
       .refine jB 2 hF Dg3 fun y30 hF=> ?_
        cases hF;exact ja 2 hR4
    .cases hF;exact jr 8
   exact ja 14 (hL1 _ _ _ _ hF)
 clear hF;rename _=some o1=>hF
 refine jB 10 hF Ev6 fun y31 hF=> ?_
 refine jI 2 13 hF ?_ ?_<;>intro hF
 .cases hF;exact ja 24 hR1
 .refine jB 2 hF Dd9 fun y32 hF=> ?_
  refine jI 3 19 hF ?_ ?_<;>intro hF
  .cases hF;exact ja 18 hR1
  .refine jB 2 hF Dg3 fun y33 hF=> ?_
   refine jI 3 25 hF ?_ ?_<;>intro hF
   .cases hF;exact ja 12 hR1
   .refine jI 6 31 hF ?_ ?_<;>intro hF
    .cases hF;exact ja 6 hR1
    .cases hF;exact ja 6 hR1
def Ao6(l65:List (List UInt8))(v24:Int)(y51:A2)(cL2:Int->(List (List UInt8))->(List (List UInt8))->Option (List (List UInt8)×List (List UInt8))):Nat->Int->(List (List UInt8))->Option (List (List UInt8)×List (List UInt8))
 |0,_,_=>none
 |nL3+1,v26,l69=>
  bif decide (v26<((y51.Next.map A4).length:Int)) then
   ((C2 y51.Next v26).bind fun y54=>
   (app l69 [y54.P]).bind fun l70=>
   (Ao6 l65 v24 y51 cL2 nL3) (i64.wrap (v26+1)) l70)
  else
   (cL2 (i64.wrap (v24+1)) l65 l69)
def Aa6(fuel:Nat)(d0:A9)(v18:Int)(cL1:Int->(List (List UInt8))->(List (List UInt8))->Option (List (List UInt8)×List (List UInt8))):Nat->Int->(List (List UInt8))->(List (List UInt8))->Option (List (List UInt8)×List (List UInt8))
 |0,_,_,_=>none
 |nL2+1,v24,l63,l64=>
  (C2 d0.Choices v18).bind fun y49=>
  bif decide (v24<((y49.map A1).length:Int)) then
   ((C2 d0.Choices v18).bind fun y50=>
   (C2 y50 v24).bind fun y51=>
   (app l63 [y51.Gain]).bind fun l65=>
   Ao6 l65 v24 y51 (Aa6 fuel d0 v18 cL1 nL2) fuel 0 l64)
  else
   (cL1 (i64.wrap (v18+1)) l63 l64)
def X7(fuel:Nat)(d0:A9):Nat->Int->(List (List UInt8))->(List (List UInt8))->Option (List (List UInt8)×List (List UInt8))
 |0,_,_,_=>none
 |nL1+1,v18,l47,l48=>
  bif decide (v18<((d0.Choices.map A0).length:Int)) then
   (Aa6 fuel d0 v18 (X7 fuel d0 nL1) fuel 0 l47 l48)
  else
   (some (l48,l47))
def Ga2(fuel:Nat)(d0:A9):Option (List (List UInt8)×List (List UInt8)):=
 X7 fuel d0 fuel 0 [] []
noncomputable abbrev Db8:=C0 f108
abbrev Gg2(r:List (List UInt8)×List (List UInt8)):=GJ prog 58 f108 (.tup [.l 1 r.1 e_s,.l 1 r.2 e_s])
theorem Eu2{fuel}{d0}{r}(hF:Ga2 fuel d0=some r):
 C1 prog 108 [.agg [.l 1 d0.Owner A3,.l 1 d0.Choices A0]] (.tup [.l 1 r.1 e_s,.l 1 r.2 e_s]):=by
 unfold Ga2 at hF;refine cf 58 func108 ?_;have hL1:∀nL1 v18 l47 l48,X7 fuel d0 nL1 v18 l47 l48=some r->Gg2 r ⟨mkT [(1,.ptr 1 0),(4,.suf 55 0 0),(5,.suf 39 0 0),(6,.i v18)],[(1,.box 34 [.l 1 d0.Owner A3,.l 1 d0.Choices A0]),(39,.buf 0 23 1 (l47.map e_s)),(55,.buf 0 23 1 (l48.map e_s))],[kL Db8 116,.inBlock 0,kC Db8 15]⟩:=by
  clear hF;refine lpI (fun _ _ _ h=>by cases h) fun nL1 iL1 v18 l47 l48 hF=> ?_
  refine jI 10 14 hF ?_ ?_<;>intro hF
  .have hL2:∀nL2 v24 l63 l64,Aa6 fuel d0 v18 (X7 fuel d0 nL1) nL2 v24 l63 l64=some r->Gg2 r ⟨mkT [(1,.ptr 1 0),(4,.suf 55 0 0),(5,.suf 39 0 0),(6,.i v18),(7,.i v24)],[(1,.box 34 [.l 1 d0.Owner A3,.l 1 d0.Choices A0]),(39,.buf 0 23 1 (l63.map e_s)),(55,.buf 0 23 1 (l64.map e_s))],[kL Db8 7460,.inBlock 2,.inBlock 1,kC Db8 467,kL Db8 116,.inBlock 0,kC Db8 15]⟩:=by
    clear hF;refine lpI (fun _ _ _ h=>by cases h) fun nL2 iL2 v24 l63 l64 hF=> ?_
    obtain⟨y49,e81,hF⟩:=bnd hF;refine jo1 8 (gm' A0 e81) ?_;refine jI 4 24 hF ?_ ?_<;>intro hF
    .obtain⟨y50,e82,hF⟩:=bnd hF;refine jo1 9 (gm' A0 e82) ?_;obtain⟨y51,e83,hF⟩:=bnd hF;refine jo1 2 (gm' A1 e83) ?_;obtain⟨l65,e84,hF⟩:=bnd hF;refine jo2 10 (am' e_s e84) ?_;have hL3:∀nL3 v26 l69,Ao6 l65 v24 y51 (Aa6 fuel d0 v18 (X7 fuel d0 nL1) nL2) nL3 v26 l69=some r->Gg2 r ⟨mkT [(1,.ptr 1 0),(4,.suf 55 0 0),(5,.suf 39 0 0),(6,.i v18),(7,.i v24),(8,.ptr 8 0),(9,.i v26)],[(1,.box 34 [.l 1 d0.Owner A3,.l 1 d0.Choices A0]),(8,.box 26 [.s y51.Act,.s y51.Gain,.l 2 y51.Next A4]),(39,.buf 0 23 1 (l65.map e_s)),(55,.buf 0 23 1 (l69.map e_s))],[kL Db8 1909916,.inBlock 4,.inBlock 3,kC Db8 29843,kL Db8 7460,.inBlock 2,.inBlock 1,kC Db8 467,kL Db8 116,.inBlock 0,kC Db8 15]⟩:=by
      clear hF;refine lpI (fun _ _ h=>by cases h) fun nL3 iL3 v26 l69 hF=> ?_
      refine jI 10 44 hF ?_ ?_<;>intro hF
      .obtain⟨y54,e89,hF⟩:=bnd hF;refine jo1 9 (gm' A4 e89) ?_;obtain⟨l70,e90,hF⟩:=bnd hF;refine jo2 3 (am' e_s e90) ?_;exact ja 8 (iL3 _ _ hF)
      .exact ja 8 (iL2 _ _ _ hF)
     exact ja 8 (hL3 _ _ _ hF)
    .exact ja 8 (iL1 _ _ _ hF)
   exact ja 10 (hL2 _ _ _ _ hF)
  .cases hF;exact jr 9
 refine B5 18 (At9 (n:=1) 4 55 23 1 (by kernel_rfl) (by kernel_rfl) ?_);refine B5 0 (At9 (n:=1) 5 39 23 1 (by kernel_rfl) (by kernel_rfl) ?_);exact ja 0 (hL1 _ _ _ _ hF)
def Ax4(v6:Int)(cL1:Int->Int->Option (Int×Bool))(v7:Int):Option (Int×Bool):=
 cL1 v7 (i64.wrap (v6+1))
def Ab1(d0:List UInt8):Nat->Int->Int->Option (Int×Bool)
 |0,_,_=>none
 |nL1+1,v5,v6=>
  bif decide (v6<(d0.length:Int)) then
   ((C2 d0 v6).bind fun y15=>
   bif (y15.toNat:Int) !=45 then
    ((C2 d0 v6).bind fun y16=>
    Ax4 v6 (Ab1 d0 nL1) (i64.wrap ((i64.wrap (10*v5))-(i64.wrap (IntKind.u8.wrap ((y16.toNat:Int)-48))))))
   else
    (Ax4 v6 (Ab1 d0 nL1) v5))
  else
   ((Bk6 d0).bind fun y17=>
   bif !y17 then
    (some (i64.wrap (0-v5),true))
   else
    (some (v5,true)))
def Ga4(fuel:Nat)(d0:List UInt8):Option (Int×Bool):=
 (
  (F72 fuel d0 [45,57,50,50,51,51,55,50,48,51,54,56,53,52,55,55,53,56,48,56]).bind fun y18=>
  bif decide (y18<0) then
   (some true)
  else
   ((F72 fuel d0 [57,50,50,51,51,55,50,48,51,54,56,53,52,55,55,53,56,48,55]).bind fun y19=>
   some (decide (y19>0)))).bind fun o1=>
 bif o1 then
  (some (0,false))
 else
  (Ab1 d0 fuel 0 0)
noncomputable abbrev En2:=C0 f149
abbrev Gg7(r:Int×Bool):=GJ prog 38 f149 (.tup [.i r.1,.b r.2])
theorem Ev7{fuel}{d0}{r}(hF:Ga4 fuel d0=some r):
 C1 prog 149 [.s d0] (.tup [.i r.1,.b r.2]):=by
 refine cf 38 func149 ?_;obtain⟨o1,hO,hF⟩:=bnd hF;have hR1:Gg7 r ⟨mkT [(0,.s d0),(13,.b o1)],[],[kO En2 12,kC En2 13,kC En2 7]⟩:=by
  clear hO;refine jI 1 13 hF ?_ ?_<;>intro hF
  .cases hF;exact jr 6
  .have hL1:∀nL1 v5 v6,Ab1 d0 nL1 v5 v6=some r->Gg7 r ⟨mkT [(0,.s d0),(4,.i v5),(5,.i v6)],[],[kL En2 244,.inBlock 0,kC En2 31]⟩:=by
    clear hF;refine lpI (fun _ _ h=>by cases h) fun nL1 iL1 v5 v6 hF=> ?_
    refine jI 9 17 hF ?_ ?_<;>intro hF
    .have hA2:∀v7,Ax4 v6 (Ab1 d0 nL1) v7=some r->Gg7 r ⟨mkT [(0,.s d0),(4,.i v7),(5,.i v6)],[],[kC En2 979,kL En2 244,.inBlock 0,kC En2 31]⟩:=by
      intro v7 hF;unfold Ax4 at hF;exact ja 5 (iL1 _ _ hF)
     obtain⟨y15,e15,hF⟩:=bnd hF;refine jo1 8 (gs e15) ?_;refine jI 2 23 hF ?_ ?_<;>intro hF
     .obtain⟨y16,e16,hF⟩:=bnd hF;refine jo1 6 (gs e16) ?_;exact ja 6 (hA2 _ hF)
     .exact ja 3 (hA2 _ hF)
    .refine jB 6 hF L9 fun y17 hF=> ?_
     refine jI 2 34 hF ?_ ?_<;>intro hF
     .cases hF;exact jr 12
     .cases hF;exact jr 8
   exact ja 13 (hL1 _ _ _ hF)
 clear hF;rename _=some o1=>hF
 refine jB 9 hF Bh4 fun y18 hF=> ?_
 refine jI 2 9 hF ?_ ?_<;>intro hF
 .cases hF;exact ja 4 hR1
 .refine jB 1 hF Bh4 fun y19 hF=> ?_
  cases hF;exact ja 2 hR1
def Aw5(v7:Int)(v8:Int)(y9:Int×Bool)(cL1:Int->Int->Option Int):Nat->Int->Option Int
 |0,_=>none
 |nL2+1,v10=>
  ass (decide (y9.1≠0))<|
  bif (Int.tmod v10 y9.1) !=0 then
   ((Aw5 v7 v8 y9 cL1 nL2) (i64.wrap (v10+v7)))
  else
   (bif decide (v10>9999) then
    (some 0)
   else
    (cL1 v10 (i64.wrap (v8+1))))
def Aa7(fuel:Nat)(d1:List (List UInt8)):Nat->Int->Int->Option Int
 |0,_,_=>none
 |nL1+1,v7,v8=>
  (
   bif decide (v8<((d1.map e_s).length:Int)) then
    (some (decide (v7>0)))
   else
    (some false)).bind fun o5=>
  bif o5 then
   ((C2 d1 v8).bind fun y7=>
   (F71 fuel y7).bind fun y8=>
   (Ga4 fuel y8.2).bind fun y9=>
   (
    bif !y9.2 then
     (some true)
    else
     (some (decide (y9.1>9999)))).bind fun o6=>
   bif o6 then
    (some 0)
   else
    (Aw5 v7 v8 y9 (Aa7 fuel d1 nL1) fuel v7))
  else
   (some v7)
def Fm3(fuel:Nat)(d0:Int)(d1:List (List UInt8)):Option Int:=
 Aa7 fuel d1 fuel d0 0
noncomputable abbrev Br6:=C0 f109
abbrev Gb9(r:Int):=GJ prog 52 f109 (.i r)
theorem Dc7{fuel}{d0}{d1}{r}(hF:Fm3 fuel d0 d1=some r):
 C1 prog 109 [.i d0,.l 1 d1 e_s] (.i r):=by
 unfold Fm3 at hF;refine cf 52 func109 ?_;have hL1:∀nL1 v7 v8,Aa7 fuel d1 nL1 v7 v8=some r->Gb9 r ⟨mkT [(0,.i v7),(1,.l 1 d1 e_s),(5,.i v8)],[],[kL Br6 52,.inBlock 0,kC Br6 7]⟩:=by
  clear hF;refine lpI (fun _ _ h=>by cases h) fun nL1 iL1 v7 v8 hF=> ?_
  obtain⟨o5,hO,hF⟩:=bnd hF;have hR5:Gb9 r ⟨mkT [(0,.i v7),(1,.l 1 d1 e_s),(5,.i v8),(18,.b o5)],[],[kO Br6 208,kC Br6 209,kC Br6 105,kL Br6 52,.inBlock 0,kC Br6 7]⟩:=by
   clear hO;refine jI 1 18 hF ?_ ?_<;>intro hF
   .obtain⟨y7,e7,hF⟩:=bnd hF;refine jo1 8 (gm' e_s e7) ?_;refine jB 1 hF Ak2 fun y8 hF=> ?_
    refine jB 9 hF Ev7 fun y9 hF=> ?_
    obtain⟨o6,hO,hF⟩:=bnd hF;have hR6:Gb9 r ⟨mkT [(0,.i v7),(1,.l 1 d1 e_s),(5,.i v8),(8,.i y9.1),(39,.b o6)],[],[kO Br6 6732,kC Br6 6733,kC Br6 3367,.inBlock 1,kC Br6 211,kL Br6 52,.inBlock 0,kC Br6 7]⟩:=by
     clear hO;refine jI 1 39 hF ?_ ?_<;>intro hF
     .cases hF;exact jr 5
     .have hL2:∀nL2 v10,Aw5 v7 v8 y9 (Aa7 fuel d1 nL1) nL2 v10=some r->Gb9 r ⟨mkT [(0,.i v7),(1,.l 1 d1 e_s),(5,.i v8),(8,.i y9.1),(10,.i v10)],[],[kL Br6 53880,.inBlock 2,kC Br6 13471,.inBlock 1,kC Br6 211,kL Br6 52,.inBlock 0,kC Br6 7]⟩:=by
       clear hF;refine lpI (fun _ h=>by cases h) fun nL2 iL2 v10 hF=> ?_
       obtain⟨hb41,hF⟩:=O3 hF;refine jo1 6 (ck hb41) ?_;refine jI 2 44 hF ?_ ?_<;>intro hF
       .exact ja 10 (iL2 _ hF)
       .refine jI 8 49 hF ?_ ?_<;>intro hF
        .cases hF;exact jr 5
        .exact ja 12 (iL1 _ _ hF)
      exact ja 10 (hL2 _ _ hF)
    clear hF;rename _=some o6=>hF
    refine jI 12 36 hF ?_ ?_<;>intro hF
    .cases hF;exact ja 3 hR6
    .cases hF;exact ja 3 hR6
   .cases hF;exact jr 7
  clear hF;rename _=some o5=>hF
  refine jI 9 15 hF ?_ ?_<;>intro hF
  .cases hF;exact ja 3 hR5
  .cases hF;exact ja 3 hR5
 exact ja 11 (hL1 _ _ _ hF)
def F63(fuel:Nat)(d0:A9):Option (Int×Int):=
 (Ga2 fuel d0).bind fun y1=>
 (Fm3 fuel 1 y1.1).bind fun y2=>
 (Fm3 fuel 1 y1.2).bind fun y3=>
 some (y2,y3)
theorem El6{fuel}{d0}{r}(hF:F63 fuel d0=some r):
 C1 prog 63 [.agg [.l 1 d0.Owner A3,.l 1 d0.Choices A0]] (.tup [.i r.1,.i r.2]):=by
 refine cf 15 func63 ?_;refine jB 9 hF Eu2 fun y1 hF=> ?_
 refine jB 9 hF Dc7 fun y2 hF=> ?_
 refine jB 1 hF Dc7 fun y3 hF=> ?_
 cases hF;exact jr 3
def Ag3(fuel:Nat)(d0:A9)(v6:Int)(cL1:Int->Option Bool):Nat->Int->Option Bool
 |0,_=>none
 |nL2+1,v8=>
  (C2 d0.Choices v6).bind fun y81=>
  bif decide (v8<((y81.map A1).length:Int)) then
   ((C2 d0.Choices v6).bind fun y82=>
   (C2 y82 v8).bind fun y83=>
   (Eu0 fuel y83 ((d0.Owner.map A3).length:Int)).bind fun y84=>
   bif !y84 then
    (some false)
   else
    ((Ag3 fuel d0 v6 cL1 nL2) (i64.wrap (v8+1))))
  else
   (cL1 (i64.wrap (v6+1)))
def Ak1(fuel:Nat)(d0:A9):Nat->Int->Option Bool
 |0,_=>none
 |nL1+1,v6=>
  bif decide (v6<((d0.Owner.map A3).length:Int)) then
   ((
    (C2 d0.Owner v6).bind fun y85=>
    bif y85 !=0 then
     ((C2 d0.Owner v6).bind fun y86=>
     bif y86 !=1 then
      (some true)
     else
      ((C2 d0.Choices v6).bind fun y87=>
      bif decide (((y87.map A1).length:Int)<1) then
       (some true)
      else
       ((C2 d0.Choices v6).bind fun y88=>
       some (decide (((y88.map A1).length:Int)>4)))))
    else
     ((C2 d0.Choices v6).bind fun y89=>
     bif decide (((y89.map A1).length:Int)<1) then
      (some true)
     else
      ((C2 d0.Choices v6).bind fun y90=>
      some (decide (((y90.map A1).length:Int)>4))))).bind fun o4=>
   bif o4 then
    (some false)
   else
    (Ag3 fuel d0 v6 (Ak1 fuel d0 nL1) fuel 0))
  else
   ((F63 fuel d0).bind fun y91=>
   (
    bif decide (y91.1>0) then
     (some (decide (y91.2>0)))
    else
     (some false)).bind fun o5=>
   some o5)
def F62(fuel:Nat)(d0:A9):Option Bool:=
 (
  bif decide (((d0.Owner.map A3).length:Int)<1) then
   (some true)
  else
   (bif decide (((d0.Owner.map A3).length:Int)>12) then
    (some true)
   else
    (some (((d0.Choices.map A0).length:Int) !=((d0.Owner.map A3).length:Int))))).bind fun o1=>
 bif o1 then
  (some false)
 else
  (Ak1 fuel d0 fuel 0)
noncomputable abbrev b62:=C0 f62
abbrev G62(r:Bool):=GJ prog 93 f62 (.b r)
theorem Fp1{fuel}{d0}{r}(hF:F62 fuel d0=some r):
 C1 prog 62 [.agg [.l 1 d0.Owner A3,.l 1 d0.Choices A0]] (.b r):=by
 refine cf 93 func62 ?_;obtain⟨o1,hO,hF⟩:=bnd hF;have hR1:G62 r ⟨mkT [(1,.ptr 1 0),(3,.i ((d0.Owner.map A3).length:Int)),(23,.b o1)],[(1,.box 34 [.l 1 d0.Owner A3,.l 1 d0.Choices A0])],[kO b62 28,kC b62 29,kC b62 15]⟩:=by
  clear hO;refine jI 1 23 hF ?_ ?_<;>intro hF
  .cases hF;exact jr 5
  .have hL1:∀nL1 v6,Ak1 fuel d0 nL1 v6=some r->G62 r ⟨mkT [(1,.ptr 1 0),(3,.i ((d0.Owner.map A3).length:Int)),(4,.i v6)],[(1,.box 34 [.l 1 d0.Owner A3,.l 1 d0.Choices A0])],[kL b62 244,.inBlock 0,kC b62 31]⟩:=by
    clear hF;refine lpI (fun _ h=>by cases h) fun nL1 iL1 v6 hF=> ?_
    refine jI 8 26 hF ?_ ?_<;>intro hF
    .obtain⟨o4,hO,hF⟩:=bnd hF;have hR4:G62 r ⟨mkT [(1,.ptr 1 0),(3,.i ((d0.Owner.map A3).length:Int)),(4,.i v6),(60,.b o4)],[(1,.box 34 [.l 1 d0.Owner A3,.l 1 d0.Choices A0])],[kO b62 7824,kC b62 7825,kC b62 3913,.inBlock 1,kC b62 979,kL b62 244,.inBlock 0,kC b62 31]⟩:=by
      clear hO;refine jI 1 60 hF ?_ ?_<;>intro hF
      .cases hF;exact jr 5
      .have hL2:∀nL2 v8,Ag3 fuel d0 v6 (Ak1 fuel d0 nL1) nL2 v8=some r->G62 r ⟨mkT [(1,.ptr 1 0),(3,.i ((d0.Owner.map A3).length:Int)),(4,.i v6),(5,.i v8)],[(1,.box 34 [.l 1 d0.Owner A3,.l 1 d0.Choices A0])],[kL b62 31308,.inBlock 2,.inBlock 1,kC b62 979,kL b62 244,.inBlock 0,kC b62 31]⟩:=by
        clear hF;refine lpI (fun _ h=>by cases h) fun nL2 iL2 v8 hF=> ?_
        obtain⟨y81,e81,hF⟩:=bnd hF;refine jo1 8 (gm' A0 e81) ?_;refine jI 4 68 hF ?_ ?_<;>intro hF
        .obtain⟨y82,e82,hF⟩:=bnd hF;refine jo1 9 (gm' A0 e82) ?_;obtain⟨y83,e83,hF⟩:=bnd hF;refine jo1 2 (gm' A1 e83) ?_;refine jB 2 hF Eu1 fun y84 hF=> ?_
         refine jI 2 81 hF ?_ ?_<;>intro hF
         .cases hF;exact jr 5
         .exact ja 8 (iL2 _ hF)
        .exact ja 8 (iL1 _ hF)
       exact ja 8 (hL2 _ _ hF)
     clear hF;rename _=some o4=>hF
     obtain⟨y85,e85,hF⟩:=bnd hF;refine jo1 10 (gm' A3 e85) ?_;refine jI 3 35 hF ?_ ?_<;>intro hF
     .obtain⟨y86,e86,hF⟩:=bnd hF;refine jo1 3 (gm' A3 e86) ?_;refine jI 4 43 hF ?_ ?_<;>intro hF
      .cases hF;exact ja 17 hR4
      .obtain⟨y87,e87,hF⟩:=bnd hF;refine jo1 3 (gm' A0 e87) ?_;refine jI 5 52 hF ?_ ?_<;>intro hF
       .cases hF;exact ja 8 hR4
       .obtain⟨y88,e88,hF⟩:=bnd hF;refine jo1 3 (gm' A0 e88) ?_;cases hF;exact ja 4 hR4
     .obtain⟨y89,e89,hF⟩:=bnd hF;refine jo1 11 (gm' A0 e89) ?_;refine jI 5 52 hF ?_ ?_<;>intro hF
      .cases hF;exact ja 8 hR4
      .obtain⟨y90,e90,hF⟩:=bnd hF;refine jo1 3 (gm' A0 e90) ?_;cases hF;exact ja 4 hR4
    .refine jB 5 hF El6 fun y91 hF=> ?_
     obtain⟨o5,hO,hF⟩:=bnd hF;have hR5:G62 r ⟨mkT [(2,.b o5)],[],[kO b62 126,kC b62 127]⟩:=by
      clear hO;cases hF;exact jr 1
     clear hF;rename _=some o5=>hF
     refine jI 11 89 hF ?_ ?_<;>intro hF
     .cases hF;exact ja 4 hR5
     .cases hF;exact ja 4 hR5
   exact ja 9 (hL1 _ _ hF)
 clear hF;rename _=some o1=>hF
 refine jI 18 13 hF ?_ ?_<;>intro hF
 .cases hF;exact ja 10 hR1
 .refine jI 4 17 hF ?_ ?_<;>intro hF
  .cases hF;exact ja 6 hR1
  .cases hF;exact ja 6 hR1
end
section
def F22(d0:A9):Option Int:=
 ass (decide (0<=((d0.Owner.map A3).length:Int)))<|
 some (u64.wrap ((u64.wrap (1*2^(min (Int.toNat ((d0.Owner.map A3).length:Int)) u64.bits)))-1))
theorem Ek9{d0}{r}(hF:F22 d0=some r):
 C1 prog 22 [.agg [.l 1 d0.Owner A3,.l 1 d0.Choices A0]] (.n r):=by
 refine cf 8 func22 ?_;obtain⟨hb1,hF⟩:=O3 hF;refine jo1 10 (ck hb1) ?_;cases hF;exact jr 3
def F23(fuel:Nat)(d0:A9)(d1:Int)(d2:Int):Option Int:=
 (F62 fuel d0).bind fun y1=>
 bif !y1 then
  (some 110)
 else
  ((
   (F22 d0).bind fun y4=>
   bif (u64.wrap (BitVec.ofInt u64.bits d1&&& ~~~BitVec.ofInt u64.bits y4).toNat) !=0 then
    (some true)
   else
    (bif decide (d2<0) then
     (some true)
    else
     (some (decide (d2>60))))).bind fun o1=>
  bif o1 then
   (some 2)
  else
   (some 0))
noncomputable abbrev b23:=C0 f23
abbrev G23(r:Int):=GJ prog 23 f23 (.i r)
theorem Fo2{fuel}{d0}{d1}{d2}{r}(hF:F23 fuel d0 d1 d2=some r):
 C1 prog 23 [.agg [.l 1 d0.Owner A3,.l 1 d0.Choices A0],.n d1,.i d2] (.i r):=by
 refine cf 23 func23 ?_;refine jB 9 hF Fp1 fun y1 hF=> ?_
 refine jI 2 9 hF ?_ ?_<;>intro hF
 .cases hF;exact jr 5
 .obtain⟨o1,hO,hF⟩:=bnd hF;have hR1:G23 r ⟨mkT [(22,.b o1)],[],[kO b23 28,kC b23 29,kC b23 15]⟩:=by
   clear hO;refine jI 1 22 hF ?_ ?_<;>intro hF
   .cases hF;exact jr 5
   .cases hF;exact jr 6
  clear hF;rename _=some o1=>hF
  refine jB 7 hF Ek9 fun y4 hF=> ?_
  refine jI 3 15 hF ?_ ?_<;>intro hF
  .cases hF;exact ja 7 hR1
  .refine jI 4 19 hF ?_ ?_<;>intro hF
   .cases hF;exact ja 3 hR1
   .cases hF;exact ja 3 hR1
def F36(d0:Int)(d1:Int):Option Bool:=
 ass (decide (0<=d1))<|
 some ((u64.wrap (BitVec.ofInt u64.bits (Int.fdiv d0 (2^(min (Int.toNat d1) u64.bits)))&&&BitVec.ofInt u64.bits 1).toNat)==1)
theorem El1{d0}{d1}{r}(hF:F36 d0 d1=some r):
 C1 prog 36 [.n d0,.i d1] (.b r):=by
 refine cf 10 func36 ?_;obtain⟨hb1,hF⟩:=O3 hF;refine jo1 8 (ck hb1) ?_;cases hF;exact jr 4
def Bs5(v2:Int)(cL1:Int->(List (List UInt8))->Option (List (List UInt8)))(l15:List (List UInt8)):Option (List (List UInt8)):=
 cL1 (i64.wrap (v2+1)) l15
def As5(d0:A9)(d1:Int):Nat->Int->(List (List UInt8))->Option (List (List UInt8))
 |0,_,_=>none
 |nL1+1,v2,l12=>
  bif decide (v2<((d0.Owner.map A3).length:Int)) then
   ((F36 d1 v2).bind fun y6=>
   bif y6 then
    ((app l12 [[49]]).bind fun l16=>
    Bs5 v2 (As5 d0 d1 nL1) l16)
   else
    ((app l12 [[48]]).bind fun l17=>
    Bs5 v2 (As5 d0 d1 nL1) l17))
  else
   (some l12)
def F65(fuel:Nat)(d0:A9)(d1:Int):Option (List (List UInt8)):=
 As5 d0 d1 fuel 0 []
noncomputable abbrev b65:=C0 f65
abbrev G65(r:List (List UInt8)):=GJ prog 24 f65 (.l 1 r e_s)
theorem Fp2{fuel}{d0}{d1}{r}(hF:F65 fuel d0 d1=some r):
 C1 prog 65 [.agg [.l 1 d0.Owner A3,.l 1 d0.Choices A0],.n d1] (.l 1 r e_s):=by
 unfold F65 at hF;refine cf 24 func65 ?_;have hL1:∀nL1 v2 l12,As5 d0 d1 nL1 v2 l12=some r->G65 r ⟨mkT [(1,.n d1),(2,.ptr 2 0),(5,.suf 19 0 0),(6,.i v2)],[(2,.box 34 [.l 1 d0.Owner A3,.l 1 d0.Choices A0]),(19,.buf 0 9 1 (l12.map e_s))],[kL b65 116,.inBlock 0,kC b65 15]⟩:=by
  clear hF;refine lpI (fun _ _ h=>by cases h) fun nL1 iL1 v2 l12 hF=> ?_
  refine jI 10 11 hF ?_ ?_<;>intro hF
  .have hA2:∀l15,Bs5 v2 (As5 d0 d1 nL1) l15=some r->G65 r ⟨mkT [(1,.n d1),(2,.ptr 2 0),(5,.suf 19 0 0),(6,.i v2)],[(2,.box 34 [.l 1 d0.Owner A3,.l 1 d0.Choices A0]),(19,.buf 0 9 1 (l15.map e_s))],[kC b65 467,kL b65 116,.inBlock 0,kC b65 15]⟩:=by
    intro l15 hF;unfold Bs5 at hF;exact ja 5 (iL1 _ _ hF)
   refine jB 8 hF El1 fun y6 hF=> ?_
   refine jI 1 16 hF ?_ ?_<;>intro hF
   .obtain⟨l16,e17,hF⟩:=bnd hF;refine jo2 4 (am' e_s e17) ?_;exact ja 3 (hA2 _ hF)
   .obtain⟨l17,e18,hF⟩:=bnd hF;refine jo2 4 (am' e_s e18) ?_;exact ja 3 (hA2 _ hF)
  .cases hF;exact jr 7
 refine B5 16 (At9 (n:=1) 5 19 9 1 (by kernel_rfl) (by kernel_rfl) ?_);exact ja 0 (hL1 _ _ _ hF)
def F74(fuel:Nat)(d0:List UInt8)(d1:List UInt8):Option (List UInt8):=
 (F71 fuel d0).bind fun y1=>
 (Ek1 fuel d1 y1.2).bind fun y2=>
 (F66 fuel y1.1 y2.1).bind fun y3=>
 some y3
theorem Fp6{fuel}{d0}{d1}{r}(hF:F74 fuel d0 d1=some r):
 C1 prog 74 [.s d0,.s d1] (.s r):=by
 refine cf 23 func74 ?_;refine jB 7 hF Ak2 fun y1 hF=> ?_
 refine jB 10 hF Aw8 fun y2 hF=> ?_
 refine jB 10 hF Z8 fun y3 hF=> ?_
 cases hF;exact jr 2
def Bh5(fuel:Nat)(d0:A2)(d1:List (List UInt8))(d2:List UInt8):Nat->(List UInt8)->Int->Option (List UInt8)
 |0,_,_=>none
 |nL1+1,x2,v2=>
  bif decide (v2<((d0.Next.map A4).length:Int)) then
   ((C2 d0.Next v2).bind fun y31=>
   (F74 fuel y31.P d2).bind fun y32=>
   (C2 d0.Next v2).bind fun y33=>
   (C2 d1 y33.To).bind fun y34=>
   (F66 fuel y32 y34).bind fun y35=>
   (F73 fuel x2 y35).bind fun y36=>
   (Bh5 fuel d0 d1 d2 nL1) y36 (i64.wrap (v2+1)))
  else
   (some x2)
def F75(fuel:Nat)(d0:A2)(d1:List (List UInt8))(d2:List UInt8):Option (List UInt8):=
 Bh5 fuel d0 d1 d2 fuel [48] 0
noncomputable abbrev b75:=C0 f75
abbrev G75(r:List UInt8):=GJ prog 37 f75 (.s r)
theorem Fp7{fuel}{d0}{d1}{d2}{r}(hF:F75 fuel d0 d1 d2=some r):
 C1 prog 75 [.agg [.s d0.Act,.s d0.Gain,.l 2 d0.Next A4],.l 1 d1 e_s,.s d2] (.s r):=by
 unfold F75 at hF;refine cf 37 func75 ?_;have hL1:∀nL1 x2 v2,Bh5 fuel d0 d1 d2 nL1 x2 v2=some r->G75 r ⟨mkT [(1,.l 1 d1 e_s),(2,.s d2),(3,.ptr 3 0),(7,.s x2),(8,.i v2)],[(3,.box 26 [.s d0.Act,.s d0.Gain,.l 2 d0.Next A4])],[kL b75 116,.inBlock 0,kC b75 15]⟩:=by
  clear hF;refine lpI (fun _ _ h=>by cases h) fun nL1 iL1 x2 v2 hF=> ?_
  refine jI 10 13 hF ?_ ?_<;>intro hF
  .refine jd 4 ?_;obtain⟨y31,e31,hF⟩:=bnd hF;refine do1 4 (gm' A4 e31) ?_;refine dB 3 hF Fp6 fun y32 hF=> ?_
   obtain⟨y33,e33,hF⟩:=bnd hF;refine do1 4 (gm' A4 e33) ?_;obtain⟨y34,e34,hF⟩:=bnd hF;refine do1 2 (gm' e_s e34) ?_;refine dB 1 hF Z8 fun y35 hF=> ?_
   refine dB 0 hF Cm7 fun y36 hF=> ?_
   refine je 1 ?_;exact ja 6 (iL1 _ _ hF)
  .cases hF;exact jr 7
 exact ja 16 (hL1 _ _ _ hF)
def Bs6(v6:Int)(cL1:Int->Int->Option (List UInt8×Int))(v7:Int):Option (List UInt8×Int):=
 cL1 v7 (i64.wrap (v6+1))
def Ab9(fuel:Nat)(d0:Int)(d1:List (List UInt8)):Nat->Int->Int->Option (List UInt8×Int)
 |0,_,_=>none
 |nL1+1,v5,v6=>
  bif decide (v6<((d1.map e_s).length:Int)) then
   ((C2 d1 v6).bind fun y16=>
   (C2 d1 v5).bind fun y17=>
   (F72 fuel y16 y17).bind fun y18=>
   (
    bif d0==0 then
     (bif decide (y18>0) then
      (some true)
     else
      (bif d0==1 then
       (some (decide (y18<0)))
      else
       (some false)))
    else
     (bif d0==1 then
      (some (decide (y18<0)))
     else
      (some false))).bind fun o6=>
   bif o6 then
    (Bs6 v6 (Ab9 fuel d0 d1 nL1) v6)
   else
    (Bs6 v6 (Ab9 fuel d0 d1 nL1) v5))
  else
   ((C2 d1 v5).bind fun y19=>
   some (y19,v5))
def F76(fuel:Nat)(d0:Int)(d1:List (List UInt8)):Option (List UInt8×Int):=
 Ab9 fuel d0 d1 fuel 0 1
noncomputable abbrev b76:=C0 f76
abbrev G76(r:List UInt8×Int):=GJ prog 44 f76 (.tup [.s r.1,.i r.2])
theorem Fp8{fuel}{d0}{d1}{r}(hF:F76 fuel d0 d1=some r):
 C1 prog 76 [.i d0,.l 1 d1 e_s] (.tup [.s r.1,.i r.2]):=by
 unfold F76 at hF;refine cf 44 func76 ?_;have hL1:∀nL1 v5 v6,Ab9 fuel d0 d1 nL1 v5 v6=some r->G76 r ⟨mkT [(0,.i d0),(1,.l 1 d1 e_s),(6,.i v5),(7,.i v6)],[],[kL b76 116,.inBlock 0,kC b76 15]⟩:=by
  clear hF;refine lpI (fun _ _ h=>by cases h) fun nL1 iL1 v5 v6 hF=> ?_
  refine jI 9 12 hF ?_ ?_<;>intro hF
  .have hA2:∀v7,Bs6 v6 (Ab9 fuel d0 d1 nL1) v7=some r->G76 r ⟨mkT [(0,.i d0),(1,.l 1 d1 e_s),(6,.i v7),(7,.i v6)],[],[kC b76 467,kL b76 116,.inBlock 0,kC b76 15]⟩:=by
    intro v7 hF;unfold Bs6 at hF;exact ja 5 (iL1 _ _ hF)
   refine jd 5 ?_;obtain⟨y16,e16,hF⟩:=bnd hF;refine do1 2 (gm' e_s e16) ?_;obtain⟨y17,e17,hF⟩:=bnd hF;refine do1 3 (gm' e_s e17) ?_;refine dB 1 hF Bh4 fun y18 hF=> ?_
   refine je 1 ?_;obtain⟨o6,hO,hF⟩:=bnd hF;have hR6:G76 r ⟨mkT [(0,.i d0),(1,.l 1 d1 e_s),(6,.i v5),(7,.i v6),(37,.b o6)],[],[kO b76 3730,kC b76 3731,.inBlock 1,kC b76 467,kL b76 116,.inBlock 0,kC b76 15]⟩:=by
    clear hO;refine jI 1 37 hF ?_ ?_<;>intro hF
    .exact ja 6 (hA2 _ hF)
    .exact ja 3 (hA2 _ hF)
   clear hF;rename _=some o6=>hF
   refine jI 5 26 hF ?_ ?_<;>intro hF
   .refine jI 4 30 hF ?_ ?_<;>intro hF
    .cases hF;exact ja 7 hR6
    .refine jI 3 33 hF ?_ ?_<;>intro hF
     .cases hF;exact ja 4 hR6
     .cases hF;exact ja 4 hR6
   .refine jI 7 33 hF ?_ ?_<;>intro hF
    .cases hF;exact ja 4 hR6
    .cases hF;exact ja 4 hR6
  .obtain⟨y19,e19,hF⟩:=bnd hF;refine jo1 6 (gm' e_s e19) ?_;cases hF;exact jr 5
 exact ja 16 (hL1 _ _ _ hF)
def As6(v10:Int)(cL1:Int->(List Int)->(List (List UInt8))->Option (List (List UInt8)×List Int))(l54:List Int)(l55:List (List UInt8)):Option (List (List UInt8)×List Int):=
 cL1 (i64.wrap (v10+1)) l54 l55
def Ay1(fuel:Nat)(d0:A9)(d2:List (List UInt8))(d3:List UInt8)(l43:List Int)(l44:List (List UInt8))(v10:Int)(cL1:Int->(List Int)->(List (List UInt8))->Option (List (List UInt8)×List Int)):Nat->Int->(List (List UInt8))->Option (List (List UInt8)×List Int)
 |0,_,_=>none
 |nL3+1,v14,l61=>
  (C2 d0.Choices v10).bind fun y85=>
  bif decide (v14<((y85.map A1).length:Int)) then
   ((C2 d0.Choices v10).bind fun y86=>
   (C2 y86 v14).bind fun y87=>
   (F75 fuel y87 d2 d3).bind fun y88=>
   (app l61 [y88]).bind fun l62=>
   (Ay1 fuel d0 d2 d3 l43 l44 v10 cL1 nL3) (i64.wrap (v14+1)) l62)
  else
   ((C2 d0.Owner v10).bind fun y89=>
   (F76 fuel y89 l61).bind fun y90=>
   (app l44 [y90.1]).bind fun l63=>
   (app l43 [y90.2]).bind fun l64=>
   As6 v10 cL1 l64 l63)
def R8(fuel:Nat)(d0:A9)(d1:Int)(d2:List (List UInt8))(d3:List UInt8)(d4:List UInt8):Nat->Int->(List Int)->(List (List UInt8))->Option (List (List UInt8)×List Int)
 |0,_,_,_=>none
 |nL1+1,v10,l43,l44=>
  bif decide (v10<((d0.Owner.map A3).length:Int)) then
   ((F36 d1 v10).bind fun y76=>
   bif y76 then
    ((app l44 [d4]).bind fun l56=>
    (app l43 [0]).bind fun l57=>
    As6 v10 (R8 fuel d0 d1 d2 d3 d4 nL1) l57 l56)
   else
    (Ay1 fuel d0 d2 d3 l43 l44 v10 (R8 fuel d0 d1 d2 d3 d4 nL1) fuel 0 []))
  else
   (some (l44,l43))
def F67(fuel:Nat)(d0:A9)(d1:Int)(d2:List (List UInt8))(d3:List UInt8)(d4:List UInt8):Option (List (List UInt8)×List Int):=
 R8 fuel d0 d1 d2 d3 d4 fuel 0 [] []
noncomputable abbrev b67:=C0 f67
abbrev G67(r:List (List UInt8)×List Int):=GJ prog 80 f67 (.tup [.l 1 r.1 e_s,.l 1 r.2 A3])
theorem Fp3{fuel}{d0}{d1}{d2}{d3}{d4}{r}(hF:F67 fuel d0 d1 d2 d3 d4=some r):
 C1 prog 67 [.agg [.l 1 d0.Owner A3,.l 1 d0.Choices A0],.n d1,.l 1 d2 e_s,.s d3,.s d4] (.tup [.l 1 r.1 e_s,.l 1 r.2 A3]):=by
 unfold F67 at hF;refine cf 80 func67 ?_;have hL1:∀nL1 v10 l43 l44,R8 fuel d0 d1 d2 d3 d4 nL1 v10 l43 l44=some r->G67 r ⟨mkT [(1,.n d1),(2,.l 1 d2 e_s),(3,.s d3),(4,.s d4),(5,.ptr 5 0),(12,.suf 32 0 0),(13,.suf 35 0 0),(14,.i v10)],[(5,.box 34 [.l 1 d0.Owner A3,.l 1 d0.Choices A0]),(32,.buf 0 9 1 (l44.map e_s)),(35,.buf 0 3 1 (l43.map A3))],[kL b67 244,.inBlock 0,kC b67 31]⟩:=by
  clear hF;refine lpI (fun _ _ _ h=>by cases h) fun nL1 iL1 v10 l43 l44 hF=> ?_
  refine jI 10 23 hF ?_ ?_<;>intro hF
  .have hA2:∀l54 l55,As6 v10 (R8 fuel d0 d1 d2 d3 d4 nL1) l54 l55=some r->G67 r ⟨mkT [(1,.n d1),(2,.l 1 d2 e_s),(3,.s d3),(4,.s d4),(5,.ptr 5 0),(12,.suf 32 0 0),(13,.suf 35 0 0),(14,.i v10)],[(5,.box 34 [.l 1 d0.Owner A3,.l 1 d0.Choices A0]),(32,.buf 0 9 1 (l55.map e_s)),(35,.buf 0 3 1 (l54.map A3))],[kC b67 979,kL b67 244,.inBlock 0,kC b67 31]⟩:=by
    intro l54 l55 hF;unfold As6 at hF;exact ja 5 (iL1 _ _ _ hF)
   refine jB 9 hF El1 fun y76 hF=> ?_
   refine jI 1 28 hF ?_ ?_<;>intro hF
   .obtain⟨l56,e112,hF⟩:=bnd hF;refine jo2 6 (am' e_s e112) ?_;obtain⟨l57,e113,hF⟩:=bnd hF;refine jo2 2 (am' A3 e113) ?_;exact ja 4 (hA2 _ _ hF)
   .have hL3:∀nL3 v14 l61,Ay1 fuel d0 d2 d3 l43 l44 v10 (R8 fuel d0 d1 d2 d3 d4 nL1) nL3 v14 l61=some r->G67 r ⟨mkT [(1,.n d1),(2,.l 1 d2 e_s),(3,.s d3),(4,.s d4),(5,.ptr 5 0),(12,.suf 32 0 0),(13,.suf 35 0 0),(14,.i v10),(15,.suf 59 0 0),(16,.i v14)],[(5,.box 34 [.l 1 d0.Owner A3,.l 1 d0.Choices A0]),(32,.buf 0 9 1 (l44.map e_s)),(35,.buf 0 3 1 (l43.map A3)),(59,.buf 0 9 1 (l61.map e_s))],[kL b67 125236,.inBlock 2,kC b67 15655,.inBlock 1,kC b67 979,kL b67 244,.inBlock 0,kC b67 31]⟩:=by
     clear hF;refine lpI (fun _ _ h=>by cases h) fun nL3 iL3 v14 l61 hF=> ?_
     obtain⟨y85,e124,hF⟩:=bnd hF;refine jo1 8 (gm' A0 e124) ?_;refine jI 4 43 hF ?_ ?_<;>intro hF
     .obtain⟨y86,e125,hF⟩:=bnd hF;refine jo1 9 (gm' A0 e125) ?_;obtain⟨y87,e126,hF⟩:=bnd hF;refine jo1 2 (gm' A1 e126) ?_;refine jB 3 hF Fp7 fun y88 hF=> ?_
      obtain⟨l62,e128,hF⟩:=bnd hF;refine jo2 1 (am' e_s e128) ?_;exact ja 8 (iL3 _ _ hF)
     .obtain⟨y89,e129,hF⟩:=bnd hF;refine jo1 7 (gm' A3 e129) ?_;refine jB 2 hF Fp8 fun y90 hF=> ?_
      obtain⟨l63,e131,hF⟩:=bnd hF;refine jo2 10 (am' e_s e131) ?_;obtain⟨l64,e132,hF⟩:=bnd hF;refine jo2 3 (am' A3 e132) ?_;exact ja 4 (hA2 _ _ hF)
    refine B5 13 (At9 (n:=1) 15 59 9 1 (by kernel_rfl) (by kernel_rfl) ?_);exact ja 0 (hL3 _ _ _ hF)
  .cases hF;exact jr 9
 refine B5 21 (At9 (n:=1) 12 32 9 1 (by kernel_rfl) (by kernel_rfl) ?_);refine B5 0 (At9 (n:=1) 13 35 3 1 (by kernel_rfl) (by kernel_rfl) ?_);exact ja 0 (hL1 _ _ _ _ hF)
def Dh2(d0:List Int)(d1:List Int):Nat->Int->Option Bool
 |0,_=>none
 |nL1+1,v2=>
  bif decide (v2<((d0.map A3).length:Int)) then
   ((C2 d0 v2).bind fun y5=>
   (C2 d1 v2).bind fun y6=>
   bif y5 !=y6 then
    (some false)
   else
    ((Dh2 d0 d1 nL1) (i64.wrap (v2+1))))
  else
   (some true)
def F69(fuel:Nat)(d0:List Int)(d1:List Int):Option Bool:=
 bif ((d0.map A3).length:Int) !=((d1.map A3).length:Int) then
  (some false)
 else
  (Dh2 d0 d1 fuel 0)
noncomputable abbrev b69:=C0 f69
abbrev G69(r:Bool):=GJ prog 26 f69 (.b r)
theorem Fp4{fuel}{d0}{d1}{r}(hF:F69 fuel d0 d1=some r):
 C1 prog 69 [.l 1 d0 A3,.l 1 d1 A3] (.b r):=by
 refine cf 26 func69 ?_;refine jI 13 10 hF ?_ ?_<;>intro hF
 .cases hF;exact jr 5
 .have hL1:∀nL1 v2,Dh2 d0 d1 nL1 v2=some r->G69 r ⟨mkT [(0,.l 1 d0 A3),(1,.l 1 d1 A3),(5,.i v2)],[],[kL b69 116,.inBlock 0,kC b69 15]⟩:=by
   clear hF;refine lpI (fun _ h=>by cases h) fun nL1 iL1 v2 hF=> ?_
   refine jI 9 14 hF ?_ ?_<;>intro hF
   .refine jd 5 ?_;obtain⟨y5,e5,hF⟩:=bnd hF;refine do1 2 (gm' A3 e5) ?_;obtain⟨y6,e6,hF⟩:=bnd hF;refine do1 3 (gm' A3 e6) ?_;refine je 2 ?_;refine jI 0 25 hF ?_ ?_<;>intro hF
    .cases hF;exact jr 5
    .exact ja 8 (iL1 _ hF)
   .cases hF;exact jr 6
  exact ja 9 (hL1 _ _ hF)
def Dg2(fuel:Nat)(d0:List (List Int))(d1:List (List Int)):Nat->Int->Option Bool
 |0,_=>none
 |nL1+1,v2=>
  bif decide (v2<((d0.map K9).length:Int)) then
   ((C2 d0 v2).bind fun y7=>
   (C2 d1 v2).bind fun y8=>
   (F69 fuel y7 y8).bind fun y9=>
   bif !y9 then
    (some false)
   else
    ((Dg2 fuel d0 d1 nL1) (i64.wrap (v2+1))))
  else
   (some true)
def F26(fuel:Nat)(d0:List (List Int))(d1:List (List Int)):Option Bool:=
 bif ((d0.map K9).length:Int) !=((d1.map K9).length:Int) then
  (some false)
 else
  (Dg2 fuel d0 d1 fuel 0)
noncomputable abbrev b26:=C0 f26
abbrev G26(r:Bool):=GJ prog 27 f26 (.b r)
theorem El0{fuel}{d0}{d1}{r}(hF:F26 fuel d0 d1=some r):
 C1 prog 26 [.l 1 d0 K9,.l 1 d1 K9] (.b r):=by
 refine cf 27 func26 ?_;refine jI 13 10 hF ?_ ?_<;>intro hF
 .cases hF;exact jr 5
 .have hL1:∀nL1 v2,Dg2 fuel d0 d1 nL1 v2=some r->G26 r ⟨mkT [(0,.l 1 d0 K9),(1,.l 1 d1 K9),(5,.i v2)],[],[kL b26 116,.inBlock 0,kC b26 15]⟩:=by
   clear hF;refine lpI (fun _ h=>by cases h) fun nL1 iL1 v2 hF=> ?_
   refine jI 9 14 hF ?_ ?_<;>intro hF
   .refine jd 5 ?_;obtain⟨y7,e7,hF⟩:=bnd hF;refine do1 2 (gm' K9 e7) ?_;obtain⟨y8,e8,hF⟩:=bnd hF;refine do1 3 (gm' K9 e8) ?_;refine dB 1 hF Fp4 fun y9 hF=> ?_
    refine je 1 ?_;refine jI 0 26 hF ?_ ?_<;>intro hF
    .cases hF;exact jr 5
    .exact ja 8 (iL1 _ hF)
   .cases hF;exact jr 6
  exact ja 9 (hL1 _ _ hF)
def F11(d0:Int)(d1:List UInt8):Option B7:=
 some (⟨d0,d1⟩:B7)
theorem As1{d0}{d1}{r}(hF:F11 d0 d1=some r):
 C1 prog 11 [.i d0,.s d1] (.agg [.i r.To,.s r.P]):=by
 unfold F11 at hF;refine cf 8 func11 ?_;cases hF;exact jr 11
def F10(d0:List UInt8)(d1:List B7):Option A2:=
 some (⟨[],d0,d1⟩:A2)
theorem Bs2{d0}{d1}{r}(hF:F10 d0 d1=some r):
 C1 prog 10 [.s d0,.l 2 d1 A4] (.agg [.s r.Act,.s r.Gain,.l 2 r.Next A4]):=by
 unfold F10 at hF;refine cf 8 func10 ?_;cases hF;exact jr 11
def F16:Option A9:=
 (F11 0 [49,47,50]).bind fun y1=>
 (F11 1 [49,47,50]).bind fun y2=>
 (F10 [49] [y1,y2]).bind fun y3=>
 (F11 1 [51,47,52]).bind fun y4=>
 (F11 2 [49,47,52]).bind fun y5=>
 (F10 [48] [y4,y5]).bind fun y6=>
 (F11 0 [49]).bind fun y7=>
 (F10 [50] [y7]).bind fun y8=>
 (F11 1 [49,47,50]).bind fun y9=>
 (F11 2 [49,47,50]).bind fun y10=>
 (F10 [49,47,50] [y9,y10]).bind fun y11=>
 (F11 2 [49]).bind fun y12=>
 (F10 [48] [y12]).bind fun y13=>
 some (⟨[0,1,0],[[y3,y6],[y8,y11],[y13]]⟩:A9)
theorem Cl9{r}(hF:F16=some r):
 C1 prog 16 [] (.agg [.l 1 r.Owner A3,.l 1 r.Choices A0]):=by
 refine cf 25 func16 ?_;refine jB 7 hF As1 fun y1 hF=> ?_
 refine jB 0 hF As1 fun y2 hF=> ?_
 refine jB 1 hF Bs2 fun y3 hF=> ?_
 refine jB 0 hF As1 fun y4 hF=> ?_
 refine jB 0 hF As1 fun y5 hF=> ?_
 refine jB 1 hF Bs2 fun y6 hF=> ?_
 refine jB 1 hF As1 fun y7 hF=> ?_
 refine jB 1 hF Bs2 fun y8 hF=> ?_
 refine jB 0 hF As1 fun y9 hF=> ?_
 refine jB 0 hF As1 fun y10 hF=> ?_
 refine jB 1 hF Bs2 fun y11 hF=> ?_
 refine jB 1 hF As1 fun y12 hF=> ?_
 refine jB 1 hF Bs2 fun y13 hF=> ?_
 cases hF;exact jr 5
def De9(d0:List (List UInt8))(d1:List (List UInt8)):Nat->Int->Option Bool
 |0,_=>none
 |nL1+1,v2=>
  bif decide (v2<((d0.map e_s).length:Int)) then
   ((C2 d0 v2).bind fun y5=>
   (C2 d1 v2).bind fun y6=>
   bif !(y5==y6) then
    (some false)
   else
    ((De9 d0 d1 nL1) (i64.wrap (v2+1))))
  else
   (some true)
def F17(fuel:Nat)(d0:List (List UInt8))(d1:List (List UInt8)):Option Bool:=
 bif ((d0.map e_s).length:Int) !=((d1.map e_s).length:Int) then
  (some false)
 else
  (De9 d0 d1 fuel 0)
noncomputable abbrev b17:=C0 f17
abbrev G17(r:Bool):=GJ prog 26 f17 (.b r)
theorem Ek8{fuel}{d0}{d1}{r}(hF:F17 fuel d0 d1=some r):
 C1 prog 17 [.l 1 d0 e_s,.l 1 d1 e_s] (.b r):=by
 refine cf 26 func17 ?_;refine jI 13 10 hF ?_ ?_<;>intro hF
 .cases hF;exact jr 5
 .have hL1:∀nL1 v2,De9 d0 d1 nL1 v2=some r->G17 r ⟨mkT [(0,.l 1 d0 e_s),(1,.l 1 d1 e_s),(12,.i ((d0.map e_s).length:Int)),(13,.i v2)],[],[kL b17 116,.inBlock 0,kC b17 15]⟩:=by
   clear hF;refine lpI (fun _ h=>by cases h) fun nL1 iL1 v2 hF=> ?_
   refine jI 6 14 hF ?_ ?_<;>intro hF
   .refine jd 10 ?_;obtain⟨y5,e5,hF⟩:=bnd hF;refine do1 2 (gm' e_s e5) ?_;obtain⟨y6,e6,hF⟩:=bnd hF;refine do1 3 (gm' e_s e6) ?_;refine je 2 ?_;refine jI 0 24 hF ?_ ?_<;>intro hF
    .cases hF;exact jr 5
    .exact ja 7 (iL1 _ hF)
   .cases hF;exact jr 6
  exact ja 11 (hL1 _ _ hF)
def F57(fuel:Nat)(d0:Int)(d1:List (List UInt8)):Option Bool:=
 (F16).bind fun y1=>
 (F12 fuel y1 4 d0).bind fun y2=>
 (
  bif y2.2==0 then
   ((F17 fuel y2.1 d1).bind fun y5=>
   some y5)
  else
   (some false)).bind fun o1=>
 some o1
noncomputable abbrev b57:=C0 f57
abbrev G57(r:Bool):=GJ prog 20 f57 (.b r)
theorem Cm6{fuel}{d0}{d1}{r}(hF:F57 fuel d0 d1=some r):
 C1 prog 57 [.i d0,.l 1 d1 e_s] (.b r):=by
 refine cf 20 func57 ?_;refine jB 6 hF Cl9 fun y1 hF=> ?_
 refine jB 1 hF Ek3 fun y2 hF=> ?_
 obtain⟨o1,hO,hF⟩:=bnd hF;have hR1:G57 r ⟨mkT [(4,.b o1)],[],[kO b57 14,kC b57 15]⟩:=by
  clear hO;cases hF;exact jr 1
 clear hF;rename _=some o1=>hF
 refine jI 11 15 hF ?_ ?_<;>intro hF
 .refine jB 2 hF Ek8 fun y5 hF=> ?_
  cases hF;exact ja 2 hR1
 .cases hF;exact ja 5 hR1
def F53(fuel:Nat)(d0:A2)(d1:List A7):Option A7:=
 (F48 fuel d0.Gain).bind fun y4=>
 (F55 fuel d0 d1).bind fun y5=>
 (F54 fuel y4 y5).bind fun y6=>
 some y6
def Dg7(v6:Int)(cL1:Int->Int->Bool->(List Int)->Bool->(List Int)->Option (A7×Int))(v7:Int)(t14:Bool)(l10:List Int)(t15:Bool)(l11:List Int):Option (A7×Int):=
 cL1 v7 (i64.wrap (v6+1)) t14 l10 t15 l11
def Dg8(fuel:Nat)(d0:Int)(d2:List A7)(l1:List A2):Nat->Int->Int->Bool->(List Int)->Bool->(List Int)->Option (A7×Int)
 |0,_,_,_,_,_,_=>none
 |nL1+1,v5,v6,t11,l8,t12,l9=>
  bif decide (v6<((l1.map A1).length:Int)) then
   ((C2 l1 v6).bind fun y18=>
   (F53 fuel y18 d2).bind fun y19=>
   (F50 fuel y19 (⟨(⟨t11,l8⟩:A5),(⟨t12,l9⟩:A5)⟩:A7)).bind fun y20=>
   (
    bif d0==0 then
     (bif decide (y20>0) then
      (some true)
     else
      (bif d0==1 then
       (some (decide (y20<0)))
      else
       (some false)))
    else
     (bif d0==1 then
      (some (decide (y20<0)))
     else
      (some false))).bind fun o6=>
   bif o6 then
    (Dg7 v6 (Dg8 fuel d0 d2 l1 nL1) (i64.wrap (v6+1)) y19.n_.neg y19.n_.mag y19.d.neg y19.d.mag)
   else
    (Dg7 v6 (Dg8 fuel d0 d2 l1 nL1) v5 t11 l8 t12 l9))
  else
   (some ((⟨(⟨t11,l8⟩:A5),(⟨t12,l9⟩:A5)⟩:A7),v5))
def Gb6(fuel:Nat)(d0:A2)(d1:List A7):Option A7:=
 (F48 fuel d0.Gain).bind fun y4=>
 (F55 fuel d0 d1).bind fun y5=>
 (F54 fuel y4 y5).bind fun y6=>
 some y6
theorem Dh0{fuel}{d0}{d1}{r}(hF:Gb6 fuel d0 d1=some r):
 M7 prog 53 [(2000,.box 88 [.l 4 d1 A8])] [.agg [.s d0.Act,.s d0.Gain,.l 2 d0.Next A4],.ptr 2000 0] [(2000,.box 88 [.l 4 d1 A8])] (.agg [.b r.n_.neg,.l 1 r.n_.mag A6,.b r.d.neg,.l 1 r.d.mag A6]):=by
 unfold Gb6 at hF;refine cr 11 func53 ?_;refine jd 6 ?_;refine dB 2 hF Bs4 fun y4 hF=> ?_
 refine dB 2 hF El4 fun y5 hF=> ?_
 refine dB 0 hF El3 fun y6 hF=> ?_
 refine je 1 ?_;cases hF;exact jrr 0
def Bl5(v6:Int)(cL1:Int->Int->Bool->(List Int)->Bool->(List Int)->Option (A7×Int))(v7:Int)(t14:Bool)(l10:List Int)(t15:Bool)(l11:List Int):Option (A7×Int):=
 cL1 v7 (i64.wrap (v6+1)) t14 l10 t15 l11
def Ax9(fuel:Nat)(d0:Int)(d2:List A7)(l1:List A2):Nat->Int->Int->Bool->(List Int)->Bool->(List Int)->Option (A7×Int)
 |0,_,_,_,_,_,_=>none
 |nL1+1,v5,v6,t11,l8,t12,l9=>
  bif decide (v6<((l1.map A1).length:Int)) then
   ((C2 l1 v6).bind fun y18=>
   (Gb6 fuel y18 d2).bind fun y19=>
   (F50 fuel y19 (⟨(⟨t11,l8⟩:A5),(⟨t12,l9⟩:A5)⟩:A7)).bind fun y20=>
   (
    bif d0==0 then
     (bif decide (y20>0) then
      (some true)
     else
      (bif d0==1 then
       (some (decide (y20<0)))
      else
       (some false)))
    else
     (bif d0==1 then
      (some (decide (y20<0)))
     else
      (some false))).bind fun o6=>
   bif o6 then
    (Bl5 v6 (Ax9 fuel d0 d2 l1 nL1) (i64.wrap (v6+1)) y19.n_.neg y19.n_.mag y19.d.neg y19.d.mag)
   else
    (Bl5 v6 (Ax9 fuel d0 d2 l1 nL1) v5 t11 l8 t12 l9))
  else
   (some ((⟨(⟨t11,l8⟩:A5),(⟨t12,l9⟩:A5)⟩:A7),v5))
def Gb5(fuel:Nat)(d0:Int)(d1:List A2)(d2:List A7):Option (A7×Int):=
 (C2 d1 0).bind fun y1=>
 (Gb6 fuel y1 d2).bind fun y2=>
 (slc d1 1 (d1.length:Int)).bind fun l1=>
 Ax9 fuel d0 d2 l1 fuel 0 0 y2.n_.neg y2.n_.mag y2.d.neg y2.d.mag
abbrev Gh1(d2:List A7)(r:A7×Int):=J none prog 53 [] (Do4 prog f52 [(2000,.box 88 [.l 4 d2 A8])] (.tup [.agg [.b r.1.n_.neg,.l 1 r.1.n_.mag A6,.b r.1.d.neg,.l 1 r.1.d.mag A6],.i r.2]))
theorem Dg9{fuel}{d0}{d1}{d2}{r}(hF:Gb5 fuel d0 d1 d2=some r):
 M7 prog 52 [(2000,.box 88 [.l 4 d2 A8])] [.i d0,.l 3 d1 A1,.fn 53 [] [.ptr 2000 0]] [(2000,.box 88 [.l 4 d2 A8])] (.tup [.agg [.b r.1.n_.neg,.l 1 r.1.n_.mag A6,.b r.1.d.neg,.l 1 r.1.d.mag A6],.i r.2]):=by
 unfold Gb5 at hF;refine cr 53 func52 ?_;obtain⟨y1,e1,hF⟩:=bnd hF;refine jo1 9 (gm' A1 e1) ?_;obtain⟨y2,e2,hF⟩:=bnd hF;refine jcr 1 [(2000,2000)] (Dh0 e2) ?_;obtain⟨l1,e3,hF⟩:=bnd hF;refine jo2 8 (smh (f:=A1) e3) ?_;have hL1:∀nL1 v5 v6 t11 l8 t12 l9,Ax9 fuel d0 d2 l1 nL1 v5 v6 t11 l8 t12 l9=some r->Gh1 d2 r ⟨mkT [(0,.i d0),(2,.fn 53 [] [.ptr 2000 0]),(6,.ptr 6 0),(8,.i v5),(9,.ptr 9 0),(20,.l 3 l1 A1),(21,.i ((l1.map A1).length:Int)),(22,.i v6)],[(6,.box 100 [.b false,.esl 1,.b false,.esl 1]),(9,.box 100 [.b t11,.l 1 l8 A6,.b t12,.l 1 l9 A6]),(2000,.box 88 [.l 4 d2 A8])],[kL b52 116,.inBlock 0,kC b52 15]⟩:=by
  clear hF;refine lpI (fun _ _ _ _ _ _ h=>by cases h) fun nL1 iL1 v5 v6 t11 l8 t12 l9 hF=> ?_
  refine jI 6 23 hF ?_ ?_<;>intro hF
  .have hA2:∀v7 t14 l10 t15 l11,Bl5 v6 (Ax9 fuel d0 d2 l1 nL1) v7 t14 l10 t15 l11=some r->Gh1 d2 r ⟨mkT [(0,.i d0),(2,.fn 53 [] [.ptr 2000 0]),(6,.ptr 6 0),(8,.i v7),(9,.ptr 9 0),(20,.l 3 l1 A1),(21,.i ((l1.map A1).length:Int)),(22,.i v6)],[(6,.box 100 [.b false,.esl 1,.b false,.esl 1]),(9,.box 100 [.b t14,.l 1 l10 A6,.b t15,.l 1 l11 A6]),(2000,.box 88 [.l 4 d2 A8])],[kC b52 935,kL b52 116,.inBlock 0,kC b52 15]⟩:=by
    intro v7 t14 l10 t15 l11 hF;unfold Bl5 at hF;exact ja 4 (iL1 _ _ _ _ _ _ hF)
   obtain⟨y18,e19,hF⟩:=bnd hF;refine jo1 7 (gm' A1 e19) ?_;obtain⟨y19,e20,hF⟩:=bnd hF;refine jcr 9 [(2000,2000)] (Dh0 e20) ?_;refine jB 7 hF Cm4 fun y20 hF=> ?_
   obtain⟨o6,hO,hF⟩:=bnd hF;have hR6:Gh1 d2 r ⟨mkT [(0,.i d0),(2,.fn 53 [] [.ptr 2000 0]),(6,.ptr 6 0),(8,.i v5),(9,.ptr 9 0),(10,.i v6),(12,.ptr 12 0),(20,.l 3 l1 A1),(21,.i ((l1.map A1).length:Int)),(22,.i v6),(46,.b o6)],[(6,.box 100 [.b false,.esl 1,.b false,.esl 1]),(9,.box 100 [.b t11,.l 1 l8 A6,.b t12,.l 1 l9 A6]),(12,.box 100 [.b y19.n_.neg,.l 1 y19.n_.mag A6,.b y19.d.neg,.l 1 y19.d.mag A6]),(2000,.box 88 [.l 4 d2 A8])],[kO b52 29902,kC b52 29903,.inBlock 1,kC b52 935,kL b52 116,.inBlock 0,kC b52 15]⟩:=by
    clear hO;refine jI 1 46 hF ?_ ?_<;>intro hF
    .refine jd 1 ?_;refine je 5 ?_;exact ja 1 (hA2 _ _ _ _ _ hF)
    .exact ja 3 (hA2 _ _ _ _ _ hF)
   clear hF;rename _=some o6=>hF
   refine jI 7 35 hF ?_ ?_<;>intro hF
   .refine jI 4 39 hF ?_ ?_<;>intro hF
    .cases hF;exact ja 7 hR6
    .refine jI 3 42 hF ?_ ?_<;>intro hF
     .cases hF;exact ja 4 hR6
     .cases hF;exact ja 4 hR6
   .refine jI 7 42 hF ?_ ?_<;>intro hF
    .cases hF;exact ja 4 hR6
    .cases hF;exact ja 4 hR6
  .cases hF;exact jrr 9
 exact ja 5 (hL1 _ _ _ _ _ _ _ hF)
def De1(fuel:Nat)(d0:A9)(l26:List A7)(v11:Int)(cL2:Int->(List A7)->Option (List (List UInt8)×Int)):Nat->Int->(List A7)->Option (List (List UInt8)×Int)
 |0,_,_=>none
 |nL3+1,v13,l31=>
  bif decide (v13<((d0.Choices.map A0).length:Int)) then
   ((C2 d0.Choices v13).bind fun y59=>
   (C2 d0.Owner v13).bind fun y60=>
   (Gb5 fuel y60 y59 l26).bind fun y61=>
   (C2 l31 v13).bind fun y62=>
   (some (l31.set (0+Int.toNat v13) y61.1)).bind fun l32=>
   (De1 fuel d0 l26 v11 cL2 nL3) (i64.wrap (v13+1)) l32)
  else
   (cL2 (i64.wrap (v11+1)) l31)
def Cl6(fuel:Nat)(d0:A9)(d1:Int):Nat->Int->(List A7)->Option (List (List UInt8)×Int)
 |0,_,_=>none
 |nL2+1,v11,l26=>
  bif decide (v11<d1) then
   ((mkL ((l26.map A8).length:Int) ((l26.map A8).length:Int) (⟨(⟨false,[]⟩:A5),(⟨false,[]⟩:A5)⟩:A7)).bind fun l27=>
   De1 fuel d0 l26 v11 (Cl6 fuel d0 d1 nL2) fuel 0 l27)
  else
   ((F46 fuel l26).bind fun y63=>
   some (y63,0))
def De0(fuel:Nat)(d0:A9)(d1:Int)(y2:List A7):Nat->Int->(List A7)->Option (List (List UInt8)×Int)
 |0,_,_=>none
 |nL1+1,v5,l11=>
  bif decide (v5<((d0.Choices.map A0).length:Int)) then
   ((C2 d0.Choices v5).bind fun y23=>
   (C2 d0.Owner v5).bind fun y24=>
   (Gb5 fuel y24 y23 y2).bind fun y25=>
   (C2 l11 v5).bind fun y26=>
   (some (l11.set (0+Int.toNat v5) y25.1)).bind fun l12=>
   (De0 fuel d0 d1 y2 nL1) (i64.wrap (v5+1)) l12)
  else
   (Cl6 fuel d0 d1 fuel (i64.wrap (0+1)) l11)
def F14(fuel:Nat)(d0:A9)(d1:Int):Option (List (List UInt8)×Int):=
 (F43 fuel d0 0 d1).bind fun y1=>
 bif y1 !=0 then
  (some ([],y1))
 else
  ((F44 fuel d0 0).bind fun y2=>
  bif decide (0<d1) then
   ((mkL ((y2.map A8).length:Int) ((y2.map A8).length:Int) (⟨(⟨false,[]⟩:A5),(⟨false,[]⟩:A5)⟩:A7)).bind fun l7=>
   De0 fuel d0 d1 y2 fuel 0 l7)
  else
   ((F46 fuel y2).bind fun y64=>
   some (y64,0)))
noncomputable abbrev b14:=C0 f14
abbrev G14(r:List (List UInt8)×Int):=GJ prog 52 f14 (.tup [.l 1 r.1 e_s,.i r.2])
theorem Fn0{fuel}{d0}{d1}{r}(hF:F14 fuel d0 d1=some r):
 C1 prog 14 [.agg [.l 1 d0.Owner A3,.l 1 d0.Choices A0],.i d1] (.tup [.l 1 r.1 e_s,.i r.2]):=by
 refine cf 52 func14 ?_;refine jB 11 hF Cm2 fun y1 hF=> ?_
 refine jI 7 15 hF ?_ ?_<;>intro hF
 .cases hF;exact jr 7
 .refine jB 5 hF Cm3 fun y2 hF=> ?_
  refine jI 17 21 hF ?_ ?_<;>intro hF
  .obtain⟨l7,e19,hF⟩:=bnd hF;refine jo2 8 (mm' A8 e19) ?_;have hL1:∀nL1 v5 l11,De0 fuel d0 d1 y2 nL1 v5 l11=some r->G14 r ⟨mkT [(2,.ptr 2 0),(7,.ptr 7 0),(8,.suf 24 0 0),(19,.i d1),(20,.i 0),(26,.l 1 d0.Choices A0),(27,.i ((d0.Choices.map A0).length:Int)),(28,.i v5)],[(2,.box 34 [.l 1 d0.Owner A3,.l 1 d0.Choices A0]),(7,.box 88 [.l 4 y2 A8]),(24,.buf 0 100 4 (l11.map A8))],[kL b14 125332,.inBlock 2,kC b14 15667,.inBlock 1,kC b14 1959,kL b14 244,.inBlock 0,kC b14 31]⟩:=by
    clear hF;refine lpI (fun _ _ h=>by cases h) fun nL1 iL1 v5 l11 hF=> ?_
    refine jI 6 29 hF ?_ ?_<;>intro hF
    .obtain⟨y23,e30,hF⟩:=bnd hF;refine jo1 7 (gm' A0 e30) ?_;obtain⟨y24,e31,hF⟩:=bnd hF;refine jo1 10 (gm' A3 e31) ?_;obtain⟨y25,e32,hF⟩:=bnd hF;refine jcr 3 [(7,2000)] (Dg9 e32) ?_;obtain⟨y26,e33,hF⟩:=bnd hF;refine jo1 3 (gm' A8 e33) ?_;obtain⟨l12,e34,hF⟩:=bnd hF;have hst:=stm (f:=A8) (z:=y25.1) (k:=0) (xs:=[.bool y25.1.n_.neg,.sl 1 (y25.1.n_.mag.map A6),.bool y25.1.d.neg,.sl 1 (y25.1.d.mag.map A6)]) (gj e33) rfl;refine B5 0 (G1 (o:=(match(l11.map A8)[0+Int.toNat v5]? with|some old=>some ((l11.map A8).set (0+Int.toNat v5) (Z6 old 0 [.bool y25.1.n_.neg,.sl 1 (y25.1.n_.mag.map A6),.bool y25.1.d.neg,.sl 1 (y25.1.d.mag.map A6)]))|none=>none)) (l12.map A8) (by kernel_rfl) (by cases e34;exact hst) ?_);exact ja 6 (iL1 _ _ hF)
    .have hL2:∀nL2 v11 l26,Cl6 fuel d0 d1 nL2 v11 l26=some r->G14 r ⟨mkT [(2,.ptr 2 0),(7,.ptr 7 0),(19,.i d1),(20,.i v11)],[(2,.box 34 [.l 1 d0.Owner A3,.l 1 d0.Choices A0]),(7,.box 88 [.suf 24 0 0]),(24,.buf 0 100 4 (l26.map A8))],[kL b14 244,.inBlock 0,kC b14 31]⟩:=by
      clear hF;refine lpI (fun _ _ h=>by cases h) fun nL2 iL2 v11 l26 hF=> ?_
      refine jI 6 21 hF ?_ ?_<;>intro hF
      .refine B5 5 (W4 (g:=0) (e:=100) (sz:=4) (es:=l26.map A8) 24 (by kernel_rfl) ?_);refine ja 0 (S0:=[(2,.ptr 2 0),(7,.ptr 7 0),(19,.i d1),(20,.i v11)]) (O0:=[(2,.box 34 [.l 1 d0.Owner A3,.l 1 d0.Choices A0]),(7,.box 88 [.l 4 l26 A8])]) (T0:=[kC b14 7832,kC b14 7833,.inBlock 1,kC b14 1959,kL b14 244,.inBlock 0,kC b14 31]) ?_;obtain⟨l27,e67,hF⟩:=bnd hF;refine jo2 3 (mm' A8 e67) ?_;have hL3:∀nL3 v13 l31,De1 fuel d0 l26 v11 (Cl6 fuel d0 d1 nL2) nL3 v13 l31=some r->G14 r ⟨mkT [(2,.ptr 2 0),(7,.ptr 7 0),(8,.suf 24 0 0),(19,.i d1),(20,.i v11),(26,.l 1 d0.Choices A0),(27,.i ((d0.Choices.map A0).length:Int)),(28,.i v13)],[(2,.box 34 [.l 1 d0.Owner A3,.l 1 d0.Choices A0]),(7,.box 88 [.l 4 l26 A8]),(24,.buf 0 100 4 (l31.map A8))],[kL b14 125332,.inBlock 2,kC b14 15667,.inBlock 1,kC b14 1959,kL b14 244,.inBlock 0,kC b14 31]⟩:=by
        clear hF;refine lpI (fun _ _ h=>by cases h) fun nL3 iL3 v13 l31 hF=> ?_
        refine jI 6 29 hF ?_ ?_<;>intro hF
        .obtain⟨y59,e78,hF⟩:=bnd hF;refine jo1 7 (gm' A0 e78) ?_;obtain⟨y60,e79,hF⟩:=bnd hF;refine jo1 10 (gm' A3 e79) ?_;obtain⟨y61,e80,hF⟩:=bnd hF;refine jcr 3 [(7,2000)] (Dg9 e80) ?_;obtain⟨y62,e81,hF⟩:=bnd hF;refine jo1 3 (gm' A8 e81) ?_;obtain⟨l32,e82,hF⟩:=bnd hF;have hst:=stm (f:=A8) (z:=y61.1) (k:=0) (xs:=[.bool y61.1.n_.neg,.sl 1 (y61.1.n_.mag.map A6),.bool y61.1.d.neg,.sl 1 (y61.1.d.mag.map A6)]) (gj e81) rfl;refine B5 0 (G1 (o:=(match(l31.map A8)[0+Int.toNat v13]? with|some old=>some ((l31.map A8).set (0+Int.toNat v13) (Z6 old 0 [.bool y61.1.n_.neg,.sl 1 (y61.1.n_.mag.map A6),.bool y61.1.d.neg,.sl 1 (y61.1.d.mag.map A6)]))|none=>none)) (l32.map A8) (by kernel_rfl) (by cases e82;exact hst) ?_);exact ja 6 (iL3 _ _ hF)
        .exact ja 11 (iL2 _ _ hF)
       exact ja 12 (hL3 _ _ _ hF)
      .refine jB 5 hF Dg6 fun y63 hF=> ?_
       cases hF;exact jr 3
     exact ja 11 (hL2 _ _ _ hF)
   exact ja 12 (hL1 _ _ _ hF)
  .refine jB 5 hF Dg6 fun y64 hF=> ?_
   cases hF;exact jr 3
def F58(fuel:Nat)(d0:Int)(d1:List (List UInt8)):Option Bool:=
 (F16).bind fun y1=>
 (F14 fuel y1 d0).bind fun y2=>
 (
  bif y2.2==0 then
   ((F17 fuel y2.1 d1).bind fun y5=>
   some y5)
  else
   (some false)).bind fun o1=>
 some o1
noncomputable abbrev b58:=C0 f58
abbrev G58(r:Bool):=GJ prog 20 f58 (.b r)
theorem Dh1{fuel}{d0}{d1}{r}(hF:F58 fuel d0 d1=some r):
 C1 prog 58 [.i d0,.l 1 d1 e_s] (.b r):=by
 refine cf 20 func58 ?_;refine jB 6 hF Cl9 fun y1 hF=> ?_
 refine jB 1 hF Fn0 fun y2 hF=> ?_
 obtain⟨o1,hO,hF⟩:=bnd hF;have hR1:G58 r ⟨mkT [(4,.b o1)],[],[kO b58 14,kC b58 15]⟩:=by
  clear hO;cases hF;exact jr 1
 clear hF;rename _=some o1=>hF
 refine jI 11 15 hF ?_ ?_<;>intro hF
 .refine jB 2 hF Ek8 fun y5 hF=> ?_
  cases hF;exact ja 2 hR1
 .cases hF;exact ja 5 hR1
def Bg3(fuel:Nat)(d1:Int)(y3:A7)(y13:List Int×List (List A2)×Int):Nat->(List A7)->Int->Option (Int×Int)
 |0,_,_=>none
 |nL1+1,l2,v2=>
  bif decide (v2<61) then
   ((C2 l2 d1).bind fun y20=>
   (F50 fuel y20 y3).bind fun y21=>
   bif decide (y21>=0) then
    (some (v2,0))
   else
    ((F94 fuel l2 y13.1 y13.2.1 y13.2.2).bind fun y22=>
    (Bg3 fuel d1 y3 y13 nL1) y22.1 (i64.wrap (v2+1))))
  else
   (some (0,4))
def F13(fuel:Nat)(d0:A9)(d1:Int)(d2:Int)(d3:List UInt8):Option (Int×Int):=
 (F43 fuel d0 d2 0).bind fun y1=>
 bif y1 !=0 then
  (some (0,y1))
 else
  ((
   bif decide (d1<0) then
    (some true)
   else
    (some (decide (d1>=((d0.Owner.map A3).length:Int))))).bind fun o1=>
  bif o1 then
   (some (0,2))
  else
   ((F47 fuel d3).bind fun y2=>
   bif y2 !=0 then
    (some (0,5))
   else
    ((F48 fuel d3).bind fun y3=>
    (
     (F49 y3).bind fun y23=>
     bif decide (y23<0) then
      (some true)
     else
      ((F51 fuel 1 1).bind fun y24=>
      (F50 fuel y3 y24).bind fun y25=>
      some (decide (y25>0)))).bind fun o2=>
    bif o2 then
     (some (0,2))
    else
     ((F44 fuel d0 d2).bind fun y12=>
     (F45 d0 d2).bind fun y13=>
     Bg3 fuel d1 y3 y13 fuel y12 0))))
noncomputable abbrev b13:=C0 f13
abbrev G13(r:Int×Int):=GJ prog 68 f13 (.tup [.i r.1,.i r.2])
theorem Ek6{fuel}{d0}{d1}{d2}{d3}{r}(hF:F13 fuel d0 d1 d2 d3=some r):
 C1 prog 13 [.agg [.l 1 d0.Owner A3,.l 1 d0.Choices A0],.i d1,.n d2,.s d3] (.tup [.i r.1,.i r.2]):=by
 refine cf 68 func13 ?_;refine jB 11 hF Cm2 fun y1 hF=> ?_
 refine jI 7 19 hF ?_ ?_<;>intro hF
 .cases hF;exact jr 7
 .obtain⟨o1,hO,hF⟩:=bnd hF;have hR1:G13 r ⟨mkT [(1,.i d1),(2,.n d2),(3,.s d3),(4,.ptr 4 0),(29,.b o1)],[(4,.box 34 [.l 1 d0.Owner A3,.l 1 d0.Choices A0])],[kO b13 28,kC b13 29,kC b13 15]⟩:=by
   clear hO;refine jI 1 29 hF ?_ ?_<;>intro hF
   .cases hF;exact jr 6
   .refine jB 6 hF Fo7 fun y2 hF=> ?_
    refine jI 2 32 hF ?_ ?_<;>intro hF
    .cases hF;exact jr 6
    .refine jB 5 hF Bs4 fun y3 hF=> ?_
     obtain⟨o2,hO,hF⟩:=bnd hF;have hR2:G13 r ⟨mkT [(1,.i d1),(2,.n d2),(4,.ptr 4 0),(11,.ptr 11 0),(43,.b o2)],[(4,.box 34 [.l 1 d0.Owner A3,.l 1 d0.Choices A0]),(11,.box 100 [.b y3.n_.neg,.l 1 y3.n_.mag A6,.b y3.d.neg,.l 1 y3.d.mag A6])],[kC b13 253,kC b13 127]⟩:=by
      clear hO;refine jI 0 43 hF ?_ ?_<;>intro hF
      .cases hF;exact jr 6
      .refine jd 3 ?_;refine dB 2 hF Cm3 fun y12 hF=> ?_
       obtain⟨y13,e13,hF⟩:=bnd hF;refine dcr 2 [(49,2000),(1149,2001)] (Dg4 e13) ?_;refine je 2 ?_;have hL1:∀nL1 l2 v2,Bg3 fuel d1 y3 y13 nL1 l2 v2=some r->G13 r ⟨mkT [(1,.i d1),(11,.ptr 11 0),(12,.l 4 l2 A8),(13,.fn 94 [] [.ptr 49 0,.ptr 1149 0]),(50,.i v2)],[(11,.box 100 [.b y3.n_.neg,.l 1 y3.n_.mag A6,.b y3.d.neg,.l 1 y3.d.mag A6]),(49,.fzb [.l 1 y13.1 A3,.l 1 y13.2.1 A0]),(1149,.fzb [.n y13.2.2])],[kL b13 4084,.inBlock 0,kC b13 511]⟩:=by
        clear hF;refine lpI (fun _ _ h=>by cases h) fun nL1 iL1 l2 v2 hF=> ?_
        refine jI 6 51 hF ?_ ?_<;>intro hF
        .refine jd 11 ?_;obtain⟨y20,e20,hF⟩:=bnd hF;refine do1 2 (gm' A8 e20) ?_;refine dB 2 hF Cm4 fun y21 hF=> ?_
         refine je 1 ?_;refine jI 0 59 hF ?_ ?_<;>intro hF
         .cases hF;exact jr 7
         .refine jB 5 hF Dh3 fun y22 hF=> ?_
          exact ja 10 (iL1 _ _ hF)
        .cases hF;exact jr 7
       refine B5 7 (Ce1 (te:=40) 1149 [.n y13.2.2] (by kernel_rfl) (by kernel_rfl) ?_);refine B5 0 (Ce1 (te:=34) 49 [.l 1 y13.1 A3,.l 1 y13.2.1 A0] (by kernel_rfl) (by kernel_rfl) ?_);exact ja 0 (hL1 _ _ _ hF)
     clear hF;rename _=some o2=>hF
     refine jd 5 ?_;refine dB 1 hF Fo8 fun y23 hF=> ?_
     refine dI 2 38 hF ?_ ?_<;>intro hF
     .refine je 5 ?_;cases hF;exact ja 0 hR2
     .refine dB 1 hF Cm5 fun y24 hF=> ?_
      refine dB 0 hF Cm4 fun y25 hF=> ?_
      refine je 2 ?_;cases hF;exact ja 0 hR2
  clear hF;rename _=some o1=>hF
  refine jI 8 23 hF ?_ ?_<;>intro hF
  .cases hF;exact ja 6 hR1
  .cases hF;exact ja 6 hR1
def F59(fuel:Nat)(d0:Int)(d1:Int)(d2:List UInt8)(d3:Int)(d4:Int):Option Bool:=
 (F16).bind fun y1=>
 (F13 fuel y1 d0 d1 d2).bind fun y2=>
 (
  bif y2.1==d3 then
   (some (y2.2==d4))
  else
   (some false)).bind fun o1=>
 some o1
noncomputable abbrev b59:=C0 f59
abbrev G59(r:Bool):=GJ prog 29 f59 (.b r)
theorem Ay0{fuel}{d0}{d1}{d2}{d3}{d4}{r}(hF:F59 fuel d0 d1 d2 d3 d4=some r):
 C1 prog 59 [.i d0,.n d1,.s d2,.i d3,.i d4] (.b r):=by
 refine cf 29 func59 ?_;refine jB 6 hF Cl9 fun y1 hF=> ?_
 refine jB 3 hF Ek6 fun y2 hF=> ?_
 obtain⟨o1,hO,hF⟩:=bnd hF;have hR1:G59 r ⟨mkT [(10,.b o1)],[],[kO b59 14,kC b59 15]⟩:=by
  clear hO;cases hF;exact jr 1
 clear hF;rename _=some o1=>hF
 refine jI 12 24 hF ?_ ?_<;>intro hF
 .cases hF;exact ja 5 hR1
 .cases hF;exact ja 5 hR1
def F19(fuel:Nat):Option Bool:=
 (F16).bind fun y1=>
 (F15 fuel y1 4 2).bind fun y2=>
 (F15 fuel y1 5 1).bind fun y3=>
 (F15 fuel y1 4 0).bind fun y4=>
 (F12 fuel y1 4 61).bind fun y5=>
 (
  (F57 fuel 0 [[48],[48],[49]]).bind fun y50=>
  bif y50 then
   ((F57 fuel 1 [[49,47,52],[48],[49]]).bind fun y51=>
   bif y51 then
    ((F57 fuel 2 [[49,47,52],[49,47,52],[49]]).bind fun y52=>
    bif y52 then
     ((F57 fuel 3 [[55,47,49,54],[49,47,52],[49]]).bind fun y53=>
     bif y53 then
      (bif y2.2==0 then
       (bif y3.2==0 then
        (bif y4.2==0 then
         (bif y5.2==2 then
          (some (((y4.1.map K9).length:Int)==0))
         else
          (some false))
        else
         (some false))
       else
        (some false))
      else
       (some false))
     else
      (some false))
    else
     (some false))
   else
    (some false))
  else
   (some false)).bind fun o1=>
 (
  bif o1 then
   ((F26 fuel y2.1 [[1,0,0],[1,0,0]]).bind fun y45=>
   bif y45 then
    ((F26 fuel y3.1 [[0,1,0]]).bind fun y46=>
    bif y46 then
     ((F58 fuel 0 [[48],[48],[48]]).bind fun y47=>
     bif y47 then
      ((F58 fuel 1 [[49],[49,47,50],[48]]).bind fun y48=>
      bif y48 then
       ((F58 fuel 2 [[55,47,52],[51,47,52],[48]]).bind fun y49=>
       some y49)
      else
       (some false))
     else
      (some false))
    else
     (some false))
   else
    (some false))
  else
   (some false)).bind fun o2=>
 (
  bif o2 then
   ((F59 fuel 0 4 [49,47,52] 1 0).bind fun y38=>
   bif y38 then
    ((F59 fuel 1 4 [49,47,52] 2 0).bind fun y39=>
    bif y39 then
     ((F59 fuel 0 4 [48] 0 0).bind fun y40=>
     bif y40 then
      ((F59 fuel 0 0 [49,47,50] 0 4).bind fun y41=>
      bif y41 then
       ((F59 fuel 3 4 [49] 0 2).bind fun y42=>
       bif y42 then
        ((F59 fuel 0 4 [53,47,52] 0 2).bind fun y43=>
        bif y43 then
         ((F59 fuel 0 4 [120] 0 5).bind fun y44=>
         some y44)
        else
         (some false))
       else
        (some false))
      else
       (some false))
     else
      (some false))
    else
     (some false))
   else
    (some false))
  else
   (some false)).bind fun o3=>
 some o3
noncomputable abbrev b19:=C0 f19
abbrev G19(r:Bool):=GJ prog 115 f19 (.b r)
theorem Fn6{fuel}{r}(hF:F19 fuel=some r):
 C1 prog 19 [] (.b r):=by
 refine cf 115 func19 ?_;refine jB 6 hF Cl9 fun y1 hF=> ?_
 refine jB 6 hF De6 fun y2 hF=> ?_
 refine jB 9 hF De6 fun y3 hF=> ?_
 refine jB 9 hF De6 fun y4 hF=> ?_
 refine jB 9 hF Ek3 fun y5 hF=> ?_
 obtain⟨o1,hO,hF⟩:=bnd hF;have hR1:G19 r ⟨mkT [(2,.l 1 y2.1 K9),(4,.l 1 y3.1 K9),(10,.b o1)],[],[kO b19 254,kC b19 255]⟩:=by
  clear hO;obtain⟨o2,hO,hF⟩:=bnd hF;have hR2:G19 r ⟨mkT [(10,.b o2)],[],[kO b19 510,kC b19 511]⟩:=by
   clear hO;obtain⟨o3,hO,hF⟩:=bnd hF;have hR3:G19 r ⟨mkT [(0,.b o3)],[],[kO b19 1022,kC b19 1023]⟩:=by
    clear hO;cases hF;exact jr 1
   clear hF;rename _=some o3=>hF
   refine jI 5 94 hF ?_ ?_<;>intro hF
   .refine jB 0 hF Ay0 fun y38 hF=> ?_
    refine jI 2 97 hF ?_ ?_<;>intro hF
    .refine jB 0 hF Ay0 fun y39 hF=> ?_
     refine jI 2 100 hF ?_ ?_<;>intro hF
     .refine jB 0 hF Ay0 fun y40 hF=> ?_
      refine jI 2 103 hF ?_ ?_<;>intro hF
      .refine jB 0 hF Ay0 fun y41 hF=> ?_
       refine jI 2 106 hF ?_ ?_<;>intro hF
       .refine jB 0 hF Ay0 fun y42 hF=> ?_
        refine jI 2 109 hF ?_ ?_<;>intro hF
        .refine jB 0 hF Ay0 fun y43 hF=> ?_
         refine jI 2 112 hF ?_ ?_<;>intro hF
         .refine jB 0 hF Ay0 fun y44 hF=> ?_
          cases hF;exact ja 2 hR3
         .cases hF;exact ja 3 hR3
        .cases hF;exact ja 6 hR3
       .cases hF;exact ja 9 hR3
      .cases hF;exact ja 12 hR3
     .cases hF;exact ja 15 hR3
    .cases hF;exact ja 18 hR3
   .cases hF;exact ja 21 hR3
  clear hF;rename _=some o2=>hF
  refine jI 5 68 hF ?_ ?_<;>intro hF
  .refine jB 4 hF El0 fun y45 hF=> ?_
   refine jI 2 75 hF ?_ ?_<;>intro hF
   .refine jB 3 hF El0 fun y46 hF=> ?_
    refine jI 2 81 hF ?_ ?_<;>intro hF
    .refine jB 1 hF Dh1 fun y47 hF=> ?_
     refine jI 2 85 hF ?_ ?_<;>intro hF
     .refine jB 1 hF Dh1 fun y48 hF=> ?_
      refine jI 2 89 hF ?_ ?_<;>intro hF
      .refine jB 1 hF Dh1 fun y49 hF=> ?_
       cases hF;exact ja 2 hR2
      .cases hF;exact ja 4 hR2
     .cases hF;exact ja 8 hR2
    .cases hF;exact ja 12 hR2
   .cases hF;exact ja 18 hR2
  .cases hF;exact ja 25 hR2
 clear hF;rename _=some o1=>hF
 refine jB 9 hF Cm6 fun y50 hF=> ?_
 refine jI 1 34 hF ?_ ?_<;>intro hF
 .refine jB 1 hF Cm6 fun y51 hF=> ?_
  refine jI 2 38 hF ?_ ?_<;>intro hF
  .refine jB 1 hF Cm6 fun y52 hF=> ?_
   refine jI 2 42 hF ?_ ?_<;>intro hF
   .refine jB 1 hF Cm6 fun y53 hF=> ?_
    refine jI 2 46 hF ?_ ?_<;>intro hF
    .refine jI 4 50 hF ?_ ?_<;>intro hF
     .refine jI 4 54 hF ?_ ?_<;>intro hF
      .refine jI 4 58 hF ?_ ?_<;>intro hF
       .refine jI 4 62 hF ?_ ?_<;>intro hF
        .cases hF;exact ja 5 hR1
        .cases hF;exact ja 5 hR1
       .cases hF;exact ja 9 hR1
      .cases hF;exact ja 13 hR1
     .cases hF;exact ja 17 hR1
    .cases hF;exact ja 21 hR1
   .cases hF;exact ja 25 hR1
  .cases hF;exact ja 29 hR1
 .cases hF;exact ja 33 hR1
end
section
structure C8 where
 Target:Int
 N:Int
 S:Int
 P:List UInt8
 deriving DecidableEq
def Bn8(x:A9):List Dat:=[.sl 1 (x.Owner.map A3),.sl 1 (x.Choices.map A0)]
def Gk4(x:Int):List Dat:=[.int .u64 x]
noncomputable abbrev b4:=C0 f4
end
section
def F70(fuel:Nat)(d0:List UInt8):Option Int:=
 (F82 fuel d0).bind fun y1=>
 bif !y1 then
  (some 5)
 else
  ((Fm4 fuel d0 2000).bind fun y2=>
  bif !y2 then
   (some 6)
  else
   (some 0))
theorem Fp5{fuel}{d0}{r}(hF:F70 fuel d0=some r):
 C1 prog 70 [.s d0] (.i r):=by
 refine cf 9 func70 ?_;refine jB 8 hF El7 fun y1 hF=> ?_
 refine jI 2 5 hF ?_ ?_<;>intro hF
 .cases hF;exact jr 5
 .refine jB 6 hF Dc8 fun y2 hF=> ?_
  refine jI 2 8 hF ?_ ?_<;>intro hF
  .cases hF;exact jr 5
  .cases hF;exact jr 6
def Bg9(fuel:Nat)(d0:A9)(d1:Int)(d2:Int)(y10:List UInt8)(y12:List UInt8×List UInt8):Nat->(List UInt8)->(List (List UInt8))->Int->Option (Int×Int)
 |0,_,_,_=>none
 |nL1+1,x2,l2,v2=>
  bif decide (v2<=60) then
   ((C2 l2 d1).bind fun y25=>
   (F66 fuel y25 y12.2).bind fun y26=>
   (F66 fuel y12.1 x2).bind fun y27=>
   (F72 fuel y26 y27).bind fun y28=>
   bif decide (y28>=0) then
    (some (v2,0))
   else
    ((F66 fuel x2 y10).bind fun y29=>
    (F67 fuel d0 d2 l2 y10 y29).bind fun y30=>
    (Bg9 fuel d0 d1 d2 y10 y12 nL1) y29 y30.1 (i64.wrap (v2+1))))
  else
   (some (0,4))
def F27(fuel:Nat)(d0:A9)(d1:Int)(d2:Int)(d3:List UInt8):Option (Int×Int):=
 (F23 fuel d0 d2 0).bind fun y1=>
 bif y1 !=0 then
  (some (0,y1))
 else
  ((
   bif decide (d1<0) then
    (some true)
   else
    (some (decide (d1>=((d0.Owner.map A3).length:Int))))).bind fun o1=>
  bif o1 then
   (some (0,2))
  else
   ((F70 fuel d3).bind fun y2=>
   bif y2 !=0 then
    (some (0,5))
   else
    ((
     (F41 fuel d3).bind fun y31=>
     bif decide (y31<0) then
      (some true)
     else
      ((F42 fuel d3 [49]).bind fun y32=>
      some (decide (y32>0)))).bind fun o2=>
    bif o2 then
     (some (0,2))
    else
     ((F63 fuel d0).bind fun y7=>
     (F64 y7.1).bind fun y10=>
     (F65 fuel d0 d2).bind fun y11=>
     (F71 fuel d3).bind fun y12=>
     Bg9 fuel d0 d1 d2 y10 y12 fuel [49] y11 0))))
noncomputable abbrev b27:=C0 f27
abbrev G27(r:Int×Int):=GJ prog 90 f27 (.tup [.i r.1,.i r.2])
theorem Fo4{fuel}{d0}{d1}{d2}{d3}{r}(hF:F27 fuel d0 d1 d2 d3=some r):
 C1 prog 27 [.agg [.l 1 d0.Owner A3,.l 1 d0.Choices A0],.i d1,.n d2,.s d3] (.tup [.i r.1,.i r.2]):=by
 refine cf 90 func27 ?_;refine jB 11 hF Fo2 fun y1 hF=> ?_
 refine jI 7 24 hF ?_ ?_<;>intro hF
 .cases hF;exact jr 7
 .obtain⟨o1,hO,hF⟩:=bnd hF;have hR1:G27 r ⟨mkT [(1,.i d1),(2,.n d2),(3,.s d3),(4,.ptr 4 0),(34,.b o1)],[(4,.box 34 [.l 1 d0.Owner A3,.l 1 d0.Choices A0])],[kO b27 28,kC b27 29,kC b27 15]⟩:=by
   clear hO;refine jI 1 34 hF ?_ ?_<;>intro hF
   .cases hF;exact jr 6
   .refine jB 6 hF Fp5 fun y2 hF=> ?_
    refine jI 7 38 hF ?_ ?_<;>intro hF
    .cases hF;exact jr 6
    .obtain⟨o2,hO,hF⟩:=bnd hF;have hR2:G27 r ⟨mkT [(1,.i d1),(2,.n d2),(3,.s d3),(4,.ptr 4 0),(46,.b o2)],[(4,.box 34 [.l 1 d0.Owner A3,.l 1 d0.Choices A0])],[kO b27 124,kC b27 125,kC b27 63]⟩:=by
      clear hO;refine jI 1 46 hF ?_ ?_<;>intro hF
      .cases hF;exact jr 6
      .refine jB 5 hF El6 fun y7 hF=> ?_
       refine jd 7 ?_;refine dB 1 hF Ag4 fun y10 hF=> ?_
       refine dB 2 hF Fp2 fun y11 hF=> ?_
       refine je 3 ?_;refine jB 3 hF Ak2 fun y12 hF=> ?_
       have hL1:∀nL1 x2 l2 v2,Bg9 fuel d0 d1 d2 y10 y12 nL1 x2 l2 v2=some r->G27 r ⟨mkT [(1,.i d1),(2,.n d2),(4,.ptr 4 0),(14,.s y10),(15,.s x2),(16,.l 1 l2 e_s),(17,.s y12.1),(18,.s y12.2),(19,.i v2)],[(4,.box 34 [.l 1 d0.Owner A3,.l 1 d0.Choices A0])],[kL b27 8180,.inBlock 0,kC b27 1023]⟩:=by
        clear hF;refine lpI (fun _ _ _ h=>by cases h) fun nL1 iL1 x2 l2 v2 hF=> ?_
        refine jI 7 63 hF ?_ ?_<;>intro hF
        .obtain⟨y25,e25,hF⟩:=bnd hF;refine jo1 9 (gm' e_s e25) ?_;refine jB 2 hF Z8 fun y26 hF=> ?_
         refine jB 2 hF Z8 fun y27 hF=> ?_
         refine jB 0 hF Bh4 fun y28 hF=> ?_
         refine jI 2 76 hF ?_ ?_<;>intro hF
         .cases hF;exact jr 7
         .refine jB 6 hF Z8 fun y29 hF=> ?_
          refine jB 8 hF Fp3 fun y30 hF=> ?_
          exact ja 11 (iL1 _ _ _ hF)
        .cases hF;exact jr 7
       exact ja 13 (hL1 _ _ _ _ hF)
     clear hF;rename _=some o2=>hF
     refine jB 6 hF Dg3 fun y31 hF=> ?_
     refine jI 2 42 hF ?_ ?_<;>intro hF
     .cases hF;exact ja 4 hR2
     .refine jB 1 hF Fo6 fun y32 hF=> ?_
      cases hF;exact ja 2 hR2
  clear hF;rename _=some o1=>hF
  refine jI 8 28 hF ?_ ?_<;>intro hF
  .cases hF;exact ja 6 hR1
  .cases hF;exact ja 6 hR1
def Cw9(fuel:Nat)(d2:C8)(v24:Int)(y67:A9)(y89:Int)(cL2:Int->Option Bool):Nat->Int->Option Bool
 |0,_=>none
 |nL3+1,v26=>
  bif decide (v26<2) then
   ((C2 [d2.S,Int.tmod d2.S 3] v26).bind fun y96=>
   (F13 fuel y67 y96 y89 ((d2.P.drop (Int.toNat 0)).take (Int.toNat ((bif decide (40<(d2.P.length:Int)) then 40 else(d2.P.length:Int))-0)))).bind fun y97=>
   (F27 fuel y67 y96 y89 ((d2.P.drop (Int.toNat 0)).take (Int.toNat ((bif decide (40<(d2.P.length:Int)) then 40 else(d2.P.length:Int))-0)))).bind fun y98=>
   (
    bif y97.1 !=y98.1 then
     (some true)
    else
     (some (y97.2 !=y98.2))).bind fun o27=>
   bif o27 then
    (some false)
   else
    ((Cw9 fuel d2 v24 y67 y89 cL2 nL3) (i64.wrap (v26+1))))
  else
   (cL2 (i64.wrap (v24+1)))
def Be8(fuel:Nat)(d2:C8)(v18:Int)(y67:A9)(y68:Int)(cL1:Int->Option Bool):Nat->Int->Option Bool
 |0,_=>none
 |nL2+1,v24=>
  bif decide (v24<2) then
   ((C2 [d2.Target,u64.wrap (BitVec.ofInt u64.bits d2.Target&&&BitVec.ofInt u64.bits y68).toNat] v24).bind fun y89=>
   Cw9 fuel d2 v24 y67 y89 (Be8 fuel d2 v18 y67 y68 cL1 nL2) fuel 0)
  else
   (cL1 (i64.wrap (v18+1)))
def Bl6(fuel:Nat)(d2:C8)(y1:A9)(y2:A9):Nat->Int->Option Bool
 |0,_=>none
 |nL1+1,v18=>
  bif decide (v18<2) then
   ((C2 [y1,y2] v18).bind fun y67=>
   (F22 y67).bind fun y68=>
   Be8 fuel d2 v18 y67 y68 (Bl6 fuel d2 y1 y2 nL1) fuel 0)
  else
   ((F19 fuel).bind fun y99=>
   some y99)
def F5(fuel:Nat)(d0:B4)(d1:C6)(d2:C8):Option Bool:=
 (F20 fuel d0).bind fun y1=>
 ass (decide (0<=0)&&decide (0<=(bif decide (40<(d2.P.length:Int)) then 40 else(d2.P.length:Int)))&&decide ((bif decide (40<(d2.P.length:Int)) then 40 else(d2.P.length:Int))<=d2.P.length))<|
 (F21 fuel d1 y1).bind fun y2=>
 Bl6 fuel d2 y1 y2 fuel 0
noncomputable abbrev b5:=C0 f5
abbrev G5(r:Bool):=GJ prog 84 f5 (.b r)
theorem Gg0{fuel}{d0}{d1}{d2}{r}(hF:F5 fuel d0 d1 d2=some r):
 C1 prog 5 [.agg [.y d0.States,.y d0.Owners,.y d0.Grain,.y d0.Cents,.l 8 d0.Picks B6],.agg [.y d1.What,.y d1.State,.y d1.At,.i d1.N,.s d1.Q,.s d1.S],.agg [.n d2.Target,.i d2.N,.i d2.S,.s d2.P]] (.b r):=by
 refine cf 84 func5 ?_;refine jB 10 hF Fn7 fun y1 hF=> ?_
 obtain⟨hb1,hF⟩:=O3 hF;refine jo1 11 (ck hb1) ?_;refine jd 4 ?_;refine dB 3 hF Fn8 fun y2 hF=> ?_
 refine je 2 ?_;have hL1:∀nL1 v18,Bl6 fuel d2 y1 y2 nL1 v18=some r->G5 r ⟨mkT [(5,.ptr 5 0),(8,.s ((d2.P.drop (Int.toNat 0)).take (Int.toNat ((bif decide (40<(d2.P.length:Int)) then 40 else(d2.P.length:Int))-0)))),(32,.agg [.l 1 y1.Owner A3,.l 1 y1.Choices A0,.l 1 y2.Owner A3,.l 1 y2.Choices A0]),(33,.i v18)],[(5,.box 57 [.n d2.Target,.i d2.N,.i d2.S,.s d2.P])],[kL b5 244,.inBlock 0,kC b5 31]⟩:=by
  clear hF;refine lpI (fun _ h=>by cases h) fun nL1 iL1 v18 hF=> ?_
  refine jI 6 34 hF ?_ ?_<;>intro hF
  .obtain⟨y67,e67,hF⟩:=bnd hF;refine jo1 6 (gm' Bn8 e67) ?_;refine jd 4 ?_;refine dB 5 hF Ek9 fun y68 hF=> ?_
   refine je 3 ?_;have hL2:∀nL2 v24,Be8 fuel d2 v18 y67 y68 (Bl6 fuel d2 y1 y2 nL1) nL2 v24=some r->G5 r ⟨mkT [(5,.ptr 5 0),(8,.s ((d2.P.drop (Int.toNat 0)).take (Int.toNat ((bif decide (40<(d2.P.length:Int)) then 40 else(d2.P.length:Int))-0)))),(10,.ptr 10 0),(32,.agg [.l 1 y1.Owner A3,.l 1 y1.Choices A0,.l 1 y2.Owner A3,.l 1 y2.Choices A0]),(33,.i v18),(43,.agg [.n d2.Target,.n (u64.wrap (BitVec.ofInt u64.bits d2.Target&&&BitVec.ofInt u64.bits y68).toNat)]),(44,.i v24)],[(5,.box 57 [.n d2.Target,.i d2.N,.i d2.S,.s d2.P]),(10,.box 34 [.l 1 y67.Owner A3,.l 1 y67.Choices A0])],[kL b5 62668,.inBlock 2,.inBlock 1,kC b5 1959,kL b5 244,.inBlock 0,kC b5 31]⟩:=by
    clear hF;refine lpI (fun _ h=>by cases h) fun nL2 iL2 v24 hF=> ?_
    refine jI 6 45 hF ?_ ?_<;>intro hF
    .obtain⟨y89,e89,hF⟩:=bnd hF;refine jo1 6 (gm' Gk4 e89) ?_;have hL3:∀nL3 v26,Cw9 fuel d2 v24 y67 y89 (Be8 fuel d2 v18 y67 y68 (Bl6 fuel d2 y1 y2 nL1) nL2) nL3 v26=some r->G5 r ⟨mkT [(5,.ptr 5 0),(8,.s ((d2.P.drop (Int.toNat 0)).take (Int.toNat ((bif decide (40<(d2.P.length:Int)) then 40 else(d2.P.length:Int))-0)))),(10,.ptr 10 0),(12,.n y89),(32,.agg [.l 1 y1.Owner A3,.l 1 y1.Choices A0,.l 1 y2.Owner A3,.l 1 y2.Choices A0]),(33,.i v18),(43,.agg [.n d2.Target,.n (u64.wrap (BitVec.ofInt u64.bits d2.Target&&&BitVec.ofInt u64.bits y68).toNat)]),(44,.i v24),(52,.agg [.i d2.S,.i (Int.tmod d2.S 3)]),(53,.i v26)],[(5,.box 57 [.n d2.Target,.i d2.N,.i d2.S,.s d2.P]),(10,.box 34 [.l 1 y67.Owner A3,.l 1 y67.Choices A0])],[kL b5 16043212,.inBlock 4,.inBlock 3,kC b5 501351,kL b5 62668,.inBlock 2,.inBlock 1,kC b5 1959,kL b5 244,.inBlock 0,kC b5 31]⟩:=by
      clear hF;refine lpI (fun _ h=>by cases h) fun nL3 iL3 v26 hF=> ?_
      refine jI 6 54 hF ?_ ?_<;>intro hF
      .obtain⟨y96,e96,hF⟩:=bnd hF;refine jo1 6 (gm' A3 e96) ?_;refine jB 8 hF Ek6 fun y97 hF=> ?_
       refine jB 12 hF Fo4 fun y98 hF=> ?_
       obtain⟨o27,hO,hF⟩:=bnd hF;have hR27:G5 r ⟨mkT [(5,.ptr 5 0),(8,.s ((d2.P.drop (Int.toNat 0)).take (Int.toNat ((bif decide (40<(d2.P.length:Int)) then 40 else(d2.P.length:Int))-0)))),(10,.ptr 10 0),(12,.n y89),(32,.agg [.l 1 y1.Owner A3,.l 1 y1.Choices A0,.l 1 y2.Owner A3,.l 1 y2.Choices A0]),(33,.i v18),(43,.agg [.n d2.Target,.n (u64.wrap (BitVec.ofInt u64.bits d2.Target&&&BitVec.ofInt u64.bits y68).toNat)]),(44,.i v24),(52,.agg [.i d2.S,.i (Int.tmod d2.S 3)]),(53,.i v26),(79,.b o27)],[(5,.box 57 [.n d2.Target,.i d2.N,.i d2.S,.s d2.P]),(10,.box 34 [.l 1 y67.Owner A3,.l 1 y67.Choices A0])],[kO b5 4107062478,kC b5 4107062479,.inBlock 5,kC b5 128345703,kL b5 16043212,.inBlock 4,.inBlock 3,kC b5 501351,kL b5 62668,.inBlock 2,.inBlock 1,kC b5 1959,kL b5 244,.inBlock 0,kC b5 31]⟩:=by
        clear hO;refine jI 1 79 hF ?_ ?_<;>intro hF
        .cases hF;exact jr 5
        .exact ja 7 (iL3 _ hF)
       clear hF;rename _=some o27=>hF
       refine jI 12 75 hF ?_ ?_<;>intro hF
       .cases hF;exact ja 4 hR27
       .cases hF;exact ja 4 hR27
      .exact ja 7 (iL2 _ hF)
     exact ja 14 (hL3 _ _ hF)
    .exact ja 7 (iL1 _ hF)
   exact ja 2 (hL2 _ _ hF)
  .refine jB 4 hF Fn6 fun y99 hF=> ?_
   cases hF;exact jr 2
 exact ja 2 (hL1 _ _ hF)
end
end Go.Proofs.YtfgbhfphjmmiaaaGreatDoor
end
section
namespace Go.Proofs.YtfgbhfphjmmiaaaGreatDoor
open Go Go.RowKit Kx Go.IntKind
set_option maxRecDepth 100000
section
def val(B:Int):List Int->Int
 |[]=>0
 |x::l=>x+B*val B l
def dig(B:Int)(l:List Int):Prop:=∀x∈l,0<=x/\x<B
theorem J3{B:Int}:dig B []:=fun _ h=>by cases h
theorem E1{B x:Int}{l:List Int}:dig B (x::l)↔(0<=x/\x<B)/\dig B l:=by
 unfold dig;simp
theorem Ai6{B:Int}{l m:List Int}:dig B (l++m)↔dig B l/\dig B m:=by
 unfold dig;simp only[List.mem_append];exact⟨fun h=>⟨fun x hx=>h x (Or.inl hx),fun x hx=>h x (Or.inr hx)⟩,fun h x hx=>hx.elim (h.1 x) (h.2 x)⟩
theorem F3{B:Int}{l:List Int}(h:dig B l)(i:Nat):dig B (l.take i):=fun x hx=>h x (mem_of_mem_take hx)
theorem L8{B:Int}{l:List Int}(h:dig B l)(i:Nat):dig B (l.drop i):=fun x hx=>h x (mem_of_mem_drop hx)
theorem Dm0{B:Int}{l:List Int}(h:dig B l){i:Nat}(hi:i<l.length):0<=l[i]/\l[i]<B:=h _ (af_ hi)
theorem Ai7{B:Int}{l:List Int}(h:dig B l)(i:Nat){y:Int}(hy:0<=y/\y<B):dig B (l.set i y):=fun x hx=>by
 rcases b0_ hx with h1|h1
 .exact h x h1
 .subst h1;exact hy
theorem Ak7{B:Int}(hB:0<B)(n:Nat):dig B (List.replicate n 0):=fun x hx=>by
 rw[(List.mem_replicate.mp hx).2];omega
theorem Aj3{B:Int}:∀(l m:List Int),val B (l++m)=val B l+B^l.length*val B m
 |[],m=>by simp[val]
 |x::l,m=>by
  rw[cons_append,val,val,Aj3 l m,length_cons,cw_];grind
theorem M6{B:Int}(hB:0<B):∀{l:List Int},dig B l->0<=val B l
 |[],_=>Int.le_refl _
 |x::l,h=>by
  have h:=E1.mp h;have:=M6 hB h.2;rw[val];have:=bk_ (ai_ hB) this;omega
theorem R1{B:Int}(hB:0<B)(n:Nat):0<B^n:=Int.pow_pos hB
theorem Ao1{B:Int}(hB:0<B):∀{l:List Int},dig B l->val B l<B^l.length
 |[],_=>by simp[val]
 |x::l,h=>by
  have h:=E1.mp h;have h1:=Ao1 hB h.2;rw[val,length_cons,cw_];have h2:val B l+1<=B^l.length:=h1;have h3:=ap_ h2 (ai_ hB);rw[Int.mul_add]at h3;omega
theorem T8{B:Int}(l:List Int)(i:Nat)(hi:i<=l.length):val B l=val B (l.take i)+B^i*val B (l.drop i):=by
 have:=Aj3 (B:=B) (l.take i) (l.drop i)
 rwa [am_,length_take,br_ hi]at this
theorem Aj4{B:Int}:∀(l:List Int) (i:Nat) (hi:i<l.length) (y:Int),val B (l.set i y)=val B l+(y-l[i])*B^i
 |x::l,0,_,y=>by simp[val];omega
 |x::l,i+1,hi,y=>by
  have ih:=Aj4 (B:=B) l i (by simpa using hi) y;rw[set_cons_succ,val,val,ih,getElem_cons_succ,cw_];grind
theorem Ao2{B:Int}:∀(n:Nat),val B (List.replicate n 0)=0
 |0=>rfl
 |n+1=>by rw[List.replicate_succ,val,Ao2 n];simp
theorem R3{B:Int}{l:List Int}{i:Nat}(hi:i<l.length):val B (l.take (i+1))=val B (l.take i)+l[i]*B^i:=by
 rw[bv_ hi,Aj3,length_take,br_ (by omega)];simp[val];grind
theorem Aw3{B:Int}{l:List Int}{i:Nat}(hi:i<l.length):val B (l.drop i)=l[i]+B*val B (l.drop (i+1)):=by
 rw[ah_ hi,val]
def dgF(B:Int):Nat->Int->List Int
 |0,_=>[]
 |k+1,n=>if n<=0 then[] else n%B::dgF B k (n/B)
def dg(B:Int)(n:Int):List Int:=dgF B n.toNat n
theorem Cg2{B n:Int}(hB:1<B)(hn:0<n):n/B<n:=by
 have h1:=a6_ n B;have h2:=a2_ n (show B≠0 by omega);have h3:=a3_ (ai_ hn) (show(0:Int)<=B by omega);by_cases h:n/B=0
 .omega
 .have h4:=ae_ (show(2:Int)<=B by omega) h3;omega
theorem Cp1{B:Int}(hB:1<B):∀(k j:Nat) (n:Int),n.toNat<=k->n.toNat<=j->dgF B k n=dgF B j n
 |0,0,_,_,_=>rfl
 |0,j+1,n,h,_=>by rw[dgF,dgF,if_pos (by omega)]
 |k+1,0,n,_,h=>by rw[dgF,dgF,if_pos (by omega)]
 |k+1,j+1,n,h,h'=>by
  rw[dgF,dgF];split
  .rfl
  .have:=Cg2 hB (n:=n) (by omega);rw[Cp1 hB k j (n/B) (by omega) (by omega)]
theorem E9{B n:Int}(hn:n<=0):dg B n=[]:=by
 unfold dg;rw[show n.toNat=0 by omega];rfl
theorem N3{B n:Int}(hB:1<B)(hn:0<n):dg B n=n%B::dg B (n/B):=by
 unfold dg;obtain⟨k,hk⟩:∃k,n.toNat=k+1:=⟨n.toNat-1,by omega⟩
 have:=Cg2 hB hn;rw[hk,dgF,if_neg (by omega),Cp1 hB k (n/B).toNat (n/B) (by omega) (ac_ _)]
theorem Bu8{B:Int}(hB:1<B){P:Int->Prop}(h0:P 0)(h1:∀n,0<n->P (n/B)->P n):∀(n:Int),0<=n->P n:=by
 have:∀(k:Nat) (n:Int),0<=n->n.toNat<=k->P n:=by
  intro k
  induction k with
  |zero=>intro n hn hk;rw[show n=0 by omega];exact h0
  |succ k ih=>
   intro n hn hk;by_cases h:n=0
   .rw[h];exact h0
   .have:=Cg2 hB (n:=n) (by omega);exact h1 n (by omega) (ih (n/B) (a3_ hn (by omega)) (by omega))
 exact fun n hn=>this n.toNat n hn (ac_ _)
theorem I9{B:Int}(hB:1<B):∀n,0<=n->val B (dg B n)=n:=
 Bu8 hB (by rw[E9 (Int.le_refl _)];rfl) fun n hn ih=>by
  rw[N3 hB hn,val,ih];exact a6_ n B
theorem H3{B:Int}(hB:1<B):∀n,0<=n->dig B (dg B n):=
 Bu8 hB (by rw[E9 (Int.le_refl _)];exact J3) fun n hn ih=>by
  rw[N3 hB hn];exact E1.mpr ⟨⟨a2_ _ (by omega),a0_ _ (by omega)⟩,ih⟩
theorem Cf9{B x v:Int}(hB:1<B)(hx:0<=x/\x<B)(_:0<=v)(h:0<x+B*v):dg B (x+B*v)=x::dg B v:=by
 rw[N3 hB h];have e1:(x+B*v)%B=x:=by
  rw[Int.add_mul_emod_self_left];exact a9_ hx.1 hx.2
 have e2:(x+B*v)/B=v:=by
  rw[Int.add_mul_ediv_left _ _ (by omega),bs_ hx.1 hx.2];omega
 rw[e1,e2]
def Be1:List Int->List Int
 |[]=>[]
 |x::l=>match Be1 l with
  |[]=>if x=0 then[] else[x]
  |y::m=>x::y::m
theorem Be2{B:Int}(hB:1<B):∀{l:List Int},dig B l->Be1 l=dg B (val B l)
 |[],_=>by rw[val,E9 (Int.le_refl _)];rfl
 |x::l,h=>by
  have h:=E1.mp h;have ih:=Be2 hB h.2;have hn:=M6 (show 0<B by omega) h.2;rw[Be1,val];by_cases hv:val B l=0
  .rw[hv,E9 (Int.le_refl _)]at ih;rw[ih,hv];dsimp only;by_cases hx:x=0
   .rw[if_pos hx,hx,E9 (by omega)]
   .rw[if_neg hx,Cf9 hB h.1 (Int.le_refl _) (by omega),E9 (Int.le_refl _)]
  .have hp:0<B*val B l:=cz_ (by omega) (by omega);rw[Cf9 hB h.1 hn (by omega),<-ih];have:Be1 l≠[]:=by
    rw[ih,N3 hB (by omega)];simp
   cases ht:Be1 l with
   |nil=>exact absurd ht this
   |cons y m=>rfl
theorem As0:∀(l:List Int),Be1 (l++[0])=Be1 l
 |[]=>rfl
 |x::l=>by rw[cons_append,Be1,As0 l,Be1]
theorem An4{y:Int}(hy:y≠0):∀(l:List Int),Be1 (l++[y])=l++[y]
 |[]=>by simp[Be1,hy]
 |x::l=>by
  rw[cons_append,Be1,An4 hy l];cases l<;>rfl
theorem G7{B:Int}(hB:1<B):∀{L:Nat} {n:Int},n<B^L->(dg B n).length<=L
 |0,n,h=>by rw[E9 (by simp at h;omega)];simp
 |L+1,n,h=>by
  by_cases hn:n<=0
  .rw[E9 hn];simp
  .rw[N3 hB (by omega),length_cons];have:n/B<B^L:=a7_ (by omega) (by rw[a1_]at h;exact h);have:=G7 hB this;omega
theorem Ak6{B:Int}(hB:1<B){n:Int}(hn:0<=n):n<B^(dg B n).length:=by
 have:=Ao1 (show 0<B by omega) (H3 hB n hn)
 rwa [I9 hB n hn]at this
theorem Ed5{B:Int}(hB:1<B){n:Int}(hn:0<n):B^((dg B n).length-1)<=n:=by
 have key:∀n,0<=n->0<n->B^((dg B n).length-1)<=n:=by
  refine Bu8 hB (fun h=>absurd h (by omega)) fun n hn ih h=> ?_
  rw[N3 hB hn,length_cons,cm_];have h0:=a3_ (ai_ hn) (show(0:Int)<=B by omega);by_cases hq:n/B=0
  .rw[hq,E9 (Int.le_refl _)];simp;omega
  .have ih:=ih (by omega);have hl:(dg B (n/B)).length=((dg B (n/B)).length-1)+1:=by
    have:0<(dg B (n/B)).length:=by rw[N3 hB (by omega)];simp
    omega
   rw[hl,cw_];have h1:=ap_ ih (show(0:Int)<=B by omega);have h2:=a6_ n B;have h3:=a2_ n (show B≠0 by omega);omega
 exact key n (ai_ hn) hn
theorem E8{B:Int}(hB:1<B){i j:Nat}(h:i<=j):B^i<=B^j:=by
 obtain⟨d,rfl⟩:=Nat.le.dest h;rw[Int.pow_add];have h1:=R1 (show 0<B by omega) i;have h2:=R1 (show 0<B by omega) d;have:=ap_ (show 1<=B^d by omega) (ai_ h1);rw[Int.mul_one]at this;exact this
theorem K1{B:Int}(hB:1<B){a b:Int}(ha:0<=a)(hb:0<=b)(h:(dg B a).length<(dg B b).length):a<b:=by
 have h1:=Ak6 hB ha;have hb':0<b:=by
  by_cases h0:b=0
  .rw[h0,E9 (Int.le_refl _)]at h;simp at h
  .omega
 have h2:=Ed5 hB hb';have h3:=E8 hB (show(dg B a).length<=(dg B b).length-1 by omega);omega
theorem Aq8{B:Int}(hB:1<B){n:Int}(hn:0<n):∃l y,dg B n=l++[y]/\0<y/\y<B:=by
 have key:∀n,0<=n->0<n->∃l y,dg B n=l++[y]/\0<y/\y<B:=by
  refine Bu8 hB (fun h=>absurd h (by omega)) fun n hn ih h=> ?_
  rw[N3 hB hn];have h0:=a3_ (ai_ hn) (show(0:Int)<=B by omega);have h2:=a6_ n B;have h3:=a2_ n (show B≠0 by omega);have h4:=a0_ n (show 0<B by omega);by_cases hq:n/B=0
  .rw[hq]at h2;exact⟨[],n%B,by rw[hq,E9 (Int.le_refl _)];rfl,by omega,h4⟩
  .obtain⟨l,y,e,hy⟩:=ih (by omega);exact⟨n%B::l,y,by rw[e];rfl,hy⟩
 exact key n (ai_ hn) hn
theorem Bf4{B:Int}(hB:1<B){n:Int}(hn:0<n):dg B n≠[]:=by rw[N3 hB hn];simp
theorem Cy4{B:Int}(hB:1<B){n:Int}(hn:0<=n):dg B n=[]↔n=0:=by
 constructor
 .intro h;by_cases h0:n=0
  .exact h0
  .exact absurd h (Bf4 hB (by omega))
 .intro h;rw[h];exact E9 (Int.le_refl _)
theorem Eo0{B:Int}(hB:1<B){l:List Int}{y:Int}(hd:dig B (l++[y]))(hy:y≠0):dg B (val B (l++[y]))=l++[y]:=by
 rw[<-Be2 hB hd,An4 hy]
theorem Br5{B:Int}(hB:0<B){m o:List Int}(hm:dig B m)(ho:dig B o){i:Nat}(h1:i<m.length)(h2:i<o.length)(he:m.drop (i+1)=o.drop (i+1))(hl:m[i]<o[i]):val B m<val B o:=by
 rw[T8 m i (by omega),T8 o i (by omega),Aw3 h1,Aw3 h2,he];have a:=Ao1 hB (F3 hm i);rw[length_take,br_ (by omega)]at a;have b:=M6 hB (F3 ho i);have p:=R1 hB i;have c:=ap_ (show m[i]+1<=o[i] from hl) (ai_ p);rw[Int.mul_add]at c;rw[Int.mul_add,Int.mul_add];omega
end
section
def Ev(p:Nat->Prop):Prop:=∃k,∀n,k<=n->p n
theorem Ev.of{p:Nat->Prop}(h:∀n,p n):Ev p:=⟨0,fun n _=>h n⟩
theorem Ev.from_{p:Nat->Prop}(k:Nat)(h:∀n,k<=n->p n):Ev p:=⟨k,h⟩
theorem Ev.mono{p q:Nat->Prop}(hp:Ev p)(h:∀n,p n->q n):Ev q:=hp.imp fun _ hk n hn=>h n (hk n hn)
theorem Ev.and{p q:Nat->Prop}(hp:Ev p)(hq:Ev q):Ev fun n=>p n/\q n:=by
 obtain⟨a,ha⟩:=hp;obtain⟨b,hb⟩:=hq;exact⟨a+b,fun n hn=>⟨ha n (by omega),hb n (by omega)⟩⟩
theorem Ev.ex{p:Nat->Prop}(hp:Ev p):∃n,p n:=by obtain⟨k,h⟩:=hp;exact⟨k,h k (ac_ _)⟩
theorem sb{α β:Type}(x:α)(f:α->Option β):Option.bind (some x) f=f x:=rfl
theorem E6{i:Int}(h0: -9223372036854775808<=i)(h1:i<9223372036854775808):i64.wrap i=i:=by
 have e64:(2^i64.bits:Int)=18446744073709551616:=rfl;have e63:(2^(i64.bits-1):Int)=9223372036854775808:=rfl;unfold IntKind.wrap;simp only[e64,e63,show i64.signed=true from rfl,Bool.true_and,decide_eq_true_eq];split<;>omega
theorem O1{i:Int}(h0:0<=i)(h1:i<18446744073709551616):u64.wrap i=i:=by
 have e64:(2^u64.bits:Int)=18446744073709551616:=rfl;unfold IntKind.wrap;simp only[e64,show u64.signed=false from rfl,Bool.false_and];rw[if_neg (by decide)];exact a9_ h0 h1
theorem Ao4{i:Int}(h0:0<=i)(h1:i<4294967296):u32.wrap i=i:=by
 have e64:(2^u32.bits:Int)=4294967296:=rfl;unfold IntKind.wrap;simp only[e64,show u32.signed=false from rfl,Bool.false_and];rw[if_neg (by decide)];exact a9_ h0 h1
theorem Gn4{i:Int}(h0: -9223372036854775808<=i)(h1:i<0):u64.wrap (0-u64.wrap i)= -i:=by
 have e64:(2^u64.bits:Int)=18446744073709551616:=rfl;unfold IntKind.wrap;simp only[e64,show u64.signed=false from rfl,Bool.false_and];rw[if_neg (by decide),if_neg (by decide)];omega
theorem tdm{a b:Int}(ha:0<=a):Int.tdiv a b=a/b/\Int.tmod a b=a%b:=⟨Int.tdiv_eq_ediv_of_nonneg ha,Int.tmod_eq_emod_of_nonneg ha⟩
theorem D4{α:Type}(l:List α)(k:Nat):C2 l (k:Int)=l[k]? :=by simp[C2]
theorem C3{α:Type}{l:List α}{k:Nat}(h:k<l.length):C2 l (k:Int)=some l[k]:=by rw[D4,List.getElem?_eq_getElem h]
theorem Eq0{α:Type}{l:List α}{v:Int}(h0:0<=v)(h:v.toNat<l.length):C2 l v=some l[v.toNat]:=by
 obtain⟨k,rfl⟩:∃k:Nat,v=(k:Int):=⟨v.toNat,by omega⟩
 exact C3 (by simpa using h)
theorem D0{α:Type}{b:Bool}{x:Option α}(h:b=true):ass b x=x:=by subst h;rfl
theorem U2{α:Type}(l m:List α)(h:l.length+m.length<=2147483648):app l m=some (l++m):=by
 unfold app;rw[show decide (l.length+m.length<=2147483648)=true from dT_ h];rfl
theorem dlt{α β:Type}{l:List α}{f:α->β}{i:Nat}(h:i<l.length):decide ((i:Int)<((l.map f).length:Int))=true:=dT_ (by rw[length_map];omega)
theorem dge{α β:Type}{l:List α}{f:α->β}{i:Nat}(h:l.length<=i):decide ((i:Int)<((l.map f).length:Int))=false:=dF_ (by rw[length_map];omega)
theorem wi(i:Nat)(h:i<4000000000000000000):i64.wrap ((i:Int)+1)=((i+1:Nat):Int):=by
 rw[E6 (i:=(i:Int)+1) (by omega) (by omega)];omega
theorem wip(i:Nat)(h:i<4000000000000000000):i64.wrap ((i:Int)-1)=(i:Int)-1:=E6 (by omega) (by omega)
theorem Eg8{α:Type}{c:Int}(h0:0<=c)(h:c<=2147483648)(x:α):mkL 0 c x=some []:=by
 unfold mkL;rw[show(decide ((0:Int)<=0)&&decide ((0:Int)<=c)&&decide (c<=2147483648))=true by simp;omega];rfl
theorem Bb7{α:Type}{n:Nat}(h:n<=2147483648)(x:α):mkL (n:Int) (n:Int) x=some (List.replicate n x):=by
 unfold mkL;rw[show(decide ((0:Int)<=(n:Int))&&decide ((n:Int)<=(n:Int))&&decide ((n:Int)<=2147483648))=true by simp;omega];simp
def M8(a b:Int):Int:=if a<b then-1 else if a>b then 1 else 0
theorem I1{a:Int}:M8 a a=0:=by simp[M8]
theorem D5{a b:Int}(h:a<b):M8 a b= -1:=by simp[M8,h]
theorem D7{a b:Int}(h:b<a):M8 a b=1:=by unfold M8;rw[if_neg (by omega),if_pos h]
theorem En6{a b:Int}:M8 a b=0↔a=b:=by
 unfold M8;split
 .constructor<;>intro h<;>omega
 .split<;>constructor<;>intro h<;>omega
theorem Co6{a b:Int}:M8 (-a) (-b)=M8 b a:=by
 unfold M8;split<;>split<;>first|rfl|(split<;>first|rfl|omega)|omega
theorem Co8(a b:Int):Fm8 a b=some (M8 a b):=by
 unfold Fm8 Fn4 M8;simp only[sb,bne_self_eq_false,cond_false];by_cases h:a<b
 .simp[h]
 .by_cases h':a>b<;>simp[h,h']
theorem Ed3(a b:Int):Ga6 a b=some (M8 a b):=by
 unfold Ga6 Fo1 M8;simp only[sb,bne_self_eq_false,cond_false];by_cases h:a<b
 .simp[h]
 .by_cases h':a>b<;>simp[h,h']
theorem Gc9{a b:Int}:(M8 a b !=0)=decide (a≠b):=by
 by_cases h:a=b
 .subst h;simp[I1]
 .have:M8 a b≠0:=fun e=>h (En6.1 e)
  simp[h,this]
def sg(neg:Bool)(v:Int):Int:=bif neg then-v else v
def W(n:Int):A5:=⟨decide (n<0),dg 1000000000 (n.natAbs:Int)⟩
theorem hB1:(1:Int)<1000000000:=by decide
theorem Gh7{neg:Bool}{v:Int}(hv:0<=v):W (sg neg v)=⟨neg&&decide (v≠0),dg 1000000000 v⟩:=by
 unfold W sg;cases neg
 .simp only[cond_false,Bool.false_and];rw[show((v.natAbs:Nat):Int)=v by omega,dF_ (by omega)]
 .simp only[cond_true,Bool.true_and];rw[show(((-v).natAbs:Nat):Int)=v by omega];congr 1;rw[decide_eq_decide];omega
def sz(L:Nat)(n:Int):Prop:=(n.natAbs:Int)<1000000000^L
theorem Dz2{d0:Bool}:∀(k:Nat) (l:List Int),l.length<k->l.length<=2147483648->Ax3 d0 k l=some ⟨d0&&decide (Be1 l≠[]),Be1 l⟩
 |0,l,h,_=>absurd h (by omega)
 |k+1,l,h,hl=>by
  unfold Ax3;rcases eq_nil_or_concat l with rfl|⟨m,y,rfl⟩
  .simp[Be1]
  .rw[concat_eq_append]at*;simp only[length_append,length_cons,length_nil]at h hl;have hw:i64.wrap ((((m++[y]).map A6).length:Int)-1)=((m.length:Nat):Int):=by
    rw[length_map,length_append];simp only[length_cons,length_nil];rw[E6 (by omega) (by omega)];omega
   have hg:C2 (m++[y]) ((m.length:Nat):Int)=some y:=by rw[D4];simp
   have hp:decide ((((m++[y]).map A6).length:Int)>0)=true:=dT_ (by rw[length_map,length_append];simp);rw[hp,hw,hg];simp only[cond_true,sb];by_cases hy:y=0
   .subst hy;have hs:slc (m++[0]) 0 ((m.length:Nat):Int)=some m:=by
     unfold slc;have:((m.length:Nat):Int)<=(((m++[(0:Int)]).length:Nat):Int):=by simp;omega
     simp only[dT_ this,Int.le_refl,decide_true,Bool.and_true,dT_ (Int.natCast_nonneg m.length),cond_true];simp
    simp only[beq_self_eq_true,cond_true,hs,sb];rw[Dz2 k m (by omega) (by omega),As0]
   .have:(y==0)=false:=by simpa using hy
    simp only[this,cond_false];rw[An4 hy];cases d0<;>simp
theorem P7{fuel:Nat}{neg:Bool}{l:List Int}(hd:dig 1000000000 l)(hl:l.length<=2147483648)(hf:l.length<fuel):Be7 fuel neg l=some (W (sg neg (val 1000000000 l))):=by
 have hv:=M6 (show(0:Int)<1000000000 by decide) hd;unfold Be7;rw[Dz2 fuel l hf hl,Gh7 hv,Be2 hB1 hd];congr 2;rw[decide_eq_decide.2 (show dg 1000000000 (val 1000000000 l)≠[]↔val 1000000000 l≠0 from not_congr (Cy4 hB1 hv))]
theorem Bq9{d0:Int}:∀(v:Int),0<=v->v<18446744073709551616->∀(k:Nat) (acc:List Int),(dg 1000000000 v).length<k->acc.length+(dg 1000000000 v).length<=2147483648->W3 d0 k v acc=some ⟨decide (d0<0),acc++dg 1000000000 v⟩:=by
 intro v hv;refine Bu8 hB1 (P:=fun v=>v<18446744073709551616->∀(k:Nat) (acc:List Int),(dg 1000000000 v).length<k->acc.length+(dg 1000000000 v).length<=2147483648->W3 d0 k v acc=some ⟨decide (d0<0),acc++dg 1000000000 v⟩) ?_ ?_ v hv
 .intro _ k acc hk _;cases k with
  |zero=>omega
  |succ k=>
   unfold W3;simp[E9]
 .intro n hn ih h64 k acc hk hl;rw[N3 hB1 hn,length_cons]at hk hl;cases k with
  |zero=>omega
  |succ k=>
   unfold W3;have h1:=a2_ n (show(1000000000:Int)≠0 by decide);have h2:=a0_ n (show(0:Int)<1000000000 by decide);have h3:n/1000000000<=n:=b8_ _ (by omega);have h4:0<=n/1000000000:=a3_ (by omega) (by decide);rw[dT_ (show n>0 from hn),(tdm (by omega:0<=n)).1,(tdm (by omega:0<=n)).2,Ao4 h1 (by omega),O1 h4 (by omega),U2 _ _ (by simp;omega)];simp only[cond_true,sb];rw[ih (by omega) k _ (by omega) (by simp;omega),N3 hB1 hn];simp
theorem Cu8{d0:Int}:∀(k:Nat) (v:Int) (acc:List Int),Bh8 d0 k v acc=W3 d0 k v acc
 |0,_,_=>rfl
 |k+1,v,acc=>by
  unfold Bh8 W3;have:Bh8 d0 k=W3 d0 k:=by funext v acc;exact Cu8 k v acc
  rw[this]
theorem An2{fuel:Nat}{n:Int}(h0: -9223372036854775808<=n)(h1:n<9223372036854775808)(hf:10<=fuel):F99 fuel n=some (W n):=by
 have hl:∀v:Int,0<=v->v<18446744073709551616->(dg 1000000000 v).length<=3:=fun v _ h=>G7 hB1 (by
  have:(1000000000:Int)^3=1000000000000000000000000000:=by decide
  omega)
 unfold F99 W;by_cases h:n<0
 .rw[dT_ h];simp only[cond_true];have:=hl (-n) (by omega) (by omega);rw[Gn4 h0 h,Bq9 _ (by omega) (by omega) _ _ (by omega) (by simp;omega),dT_ h,show((n.natAbs:Nat):Int)= -n by omega];rfl
 .rw[dF_ h];simp only[cond_false];have:=hl n (by omega) (by omega);rw[O1 (by omega) (by omega),Cu8,Bq9 _ (by omega) (by omega) _ _ (by omega) (by simp;omega),dF_ h,show((n.natAbs:Nat):Int)=n by omega];rfl
theorem Bu6{m o:List Int}(hm:dig 1000000000 m)(ho:dig 1000000000 o)(he:m.length=o.length)(hl:m.length<=2147483648):∀(i k:Nat),i<=m.length->i<k->m.drop i=o.drop i->Ap4 m o k ((i:Int)-1)=some (M8 (val 1000000000 m) (val 1000000000 o))
 |0,0,_,h,_=>absurd h (by omega)
 |0,k+1,_,_,hd=>by
  unfold Ap4;rw[drop_zero,drop_zero]at hd;subst hd;simp[I1]
 |i+1,0,_,h,_=>absurd h (by omega)
 |i+1,k+1,hi,hk,hd=>by
  unfold Ap4;rw[show(((i+1:Nat):Int)-1)=((i:Nat):Int) by omega,dT_ (show((i:Nat):Int)>=0 by omega),C3 (l:=m) (by omega),C3 (l:=o) (by omega)];simp only[cond_true,sb,Ed3,Gc9];by_cases h:m[i]=o[i]
  .rw[dF_ (by simpa using h)];simp only[cond_false];rw[wip i (by omega)];exact Bu6 hm ho he hl i k (by omega) (by omega) (by rw[ah_ (show i<m.length by omega),ah_ (show i<o.length by omega),h,hd])
  .rw[dT_ h];simp only[cond_true];rcases Int.lt_or_gt_of_ne h with h'|h'
   .rw[D5 h',D5 (Br5 (by decide) hm ho (by omega) (by omega) hd h')]
   .rw[D7 h',D7 (Br5 (by decide) ho hm (by omega) (by omega) hd.symm h')]
theorem Ae5{fuel:Nat}{a b:Int}(ha:0<=a)(hb:0<=b)(hl:(dg 1000000000 a).length<=2147483648)(hl2:(dg 1000000000 b).length<=2147483648)(hf:(dg 1000000000 a).length<fuel):Dz8 fuel (dg 1000000000 a) (dg 1000000000 b)=some (M8 a b):=by
 unfold Dz8;rw[Co8,sb,Gc9,length_map,length_map];by_cases h:(dg 1000000000 a).length=(dg 1000000000 b).length
 .rw[dF_ (by omega)];simp only[cond_false];rw[wip _ (by omega),Bu6 (H3 hB1 a ha) (H3 hB1 b hb) h hl _ fuel (ac_ _) hf (by rw[ag_ (ac_ _),ag_ (by omega)]),I9 hB1 a ha,I9 hB1 b hb]
 .rw[dT_ (by omega)];simp only[cond_true];rcases Nat.lt_or_gt_of_ne h with h'|h'
  .rw[D5 (by omega),D5 (K1 hB1 ha hb h')]
  .rw[D7 (by omega),D7 (K1 hB1 hb ha h')]
end
section
theorem Ao3{l:List Int}(h:dig 1000000000 l){i:Nat}(hi:i<l.length):0<=l[i]/\l[i]<1000000000:=Dm0 h hi
theorem Ag2{l:List Int}{i:Nat}(hi:i<l.length):val 1000000000 (l.drop i)=l[i]+1000000000*val 1000000000 (l.drop (i+1)):=Aw3 hi
theorem O4{l:List Int}{i:Nat}(hi:l.length<=i):val 1000000000 (l.drop i)=0:=by rw[ag_ hi];rfl
theorem Cb4(x:Int)(l:List Int):val 1000000000 (x::l)=x+1000000000*val 1000000000 l:=rfl
theorem Ct0{m o:List Int}(hm:dig 1000000000 m)(ho:dig 1000000000 o)(hle:o.length<=m.length)(hb:m.length<=1073741824):∀(r i k:Nat) (c:Int) (acc:List Int),i+r=m.length->r<k->0<=c->c<=1->acc.length=i->
 ∃t,Y2 m o k c (i:Int) acc=some (acc++t)/\dig 1000000000 t/\t.length<=r+1/\val 1000000000 t=val 1000000000 (m.drop i)+val 1000000000 (o.drop i)+c
 |0,i,0,_,_,_,h,_,_,_=>absurd h (by omega)
 |r+1,i,0,_,_,_,h,_,_,_=>absurd h (by omega)
 |0,i,k+1,c,acc,hi,_,h0,h1,ha=>by
  unfold Y2;rw[dge (by omega),O4 (by omega:m.length<=i),O4 (by omega:o.length<=i)];simp only[cond_false];by_cases hc:c>0
  .rw[dT_ hc,U2 _ _ (by simp;omega)];refine⟨[c],rfl,E1.2 ⟨⟨h0,by omega⟩,J3⟩,by simp,by simp[val]⟩
  .rw[dF_ hc];refine⟨[],by simp,J3,by simp,by simp[val];omega⟩
 |r+1,i,k+1,c,acc,hi,hk,h0,h1,ha=>by
  unfold Y2;obtain⟨a1,a2⟩:=Ao3 hm (show i<m.length by omega);rw[dlt (by omega),C3 (l:=m) (by omega),Ag2 (l:=m) (by omega)];simp only[cond_true,sb];rw[Ao4 (i:=m[i]+c) (by omega) (by omega),wi i (by omega)];by_cases hio:i<o.length
  .obtain⟨b1,b2⟩:=Ao3 ho hio;rw[dlt hio,C3 (l:=o) hio,Ag2 (l:=o) hio];simp only[cond_true,sb];rw[Ao4 (i:=m[i]+c+o[i]) (by omega) (by omega),(tdm (show 0<=m[i]+c+o[i] by omega)).1,(tdm (show 0<=m[i]+c+o[i] by omega)).2,Ao4 (by omega) (by omega),U2 _ _ (by simp;omega)];simp only[sb];obtain⟨t,e1,e2,e3,e4⟩:=Ct0 hm ho hle hb r (i+1) k ((m[i]+c+o[i])/1000000000) (acc++[(m[i]+c+o[i])%1000000000]) (by omega) (by omega) (by omega) (by omega) (by simp;omega);refine⟨(m[i]+c+o[i])%1000000000::t,by rw[e1];simp,E1.2 ⟨⟨by omega,by omega⟩,e2⟩,by simp;omega,?_⟩;rw[Cb4,e4];omega
  .rw[dge (by omega),O4 (by omega:o.length<=i)];simp only[cond_false];rw[(tdm (show 0<=m[i]+c by omega)).1,(tdm (show 0<=m[i]+c by omega)).2,Ao4 (by omega) (by omega),U2 _ _ (by simp;omega)];simp only[sb];obtain⟨t,e1,e2,e3,e4⟩:=Ct0 hm ho hle hb r (i+1) k ((m[i]+c)/1000000000) (acc++[(m[i]+c)%1000000000]) (by omega) (by omega) (by omega) (by omega) (by simp;omega);refine⟨(m[i]+c)%1000000000::t,by rw[e1];simp,E1.2 ⟨⟨by omega,by omega⟩,e2⟩,by simp;omega,?_⟩;rw[Cb4,e4,O4 (by omega:o.length<=i+1)];omega
theorem Du3{m o:List Int}:∀(k:Nat),Ap5 m o k=Y2 o m k
 |0=>by funext c i acc;rfl
 |k+1=>by
  funext c i acc;unfold Ap5 Y2;rw[Du3 k]
theorem Fg6{fuel:Nat}{m o:List Int}(hm:dig 1000000000 m)(ho:dig 1000000000 o)(h1:m.length<=1073741823)(h2:o.length<=1073741823)(hf:m.length+o.length<fuel):
 ∃t,Fm9 fuel m o=some t/\dig 1000000000 t/\t.length<=m.length+o.length+1/\val 1000000000 t=val 1000000000 m+val 1000000000 o:=by
 unfold Fm9;rw[length_map,length_map];by_cases h:m.length<o.length
 .rw[dT_ (by omega)];simp only[cond_true];rw[E6 (by omega) (by omega),Eg8 (by omega) (by omega)];simp only[sb];rw[Du3];obtain⟨t,e1,e2,e3,e4⟩:=Ct0 ho hm (by omega) (by omega) o.length 0 fuel 0 [] (by omega) (by omega) (by omega) (by omega) rfl;refine⟨t,e1,e2,by omega,?_⟩;rw[e4,drop_zero,drop_zero];omega
 .rw[dF_ (by omega)];simp only[cond_false];rw[E6 (by omega) (by omega),Eg8 (by omega) (by omega)];simp only[sb];obtain⟨t,e1,e2,e3,e4⟩:=Ct0 hm ho (by omega) (by omega) m.length 0 fuel 0 [] (by omega) (by omega) (by omega) (by omega) rfl;refine⟨t,e1,e2,by omega,?_⟩;rw[e4,drop_zero,drop_zero];omega
theorem Dr7{m o:List Int}(hm:dig 1000000000 m)(ho:dig 1000000000 o)(hle:o.length<=m.length)(hb:m.length<=1073741824):∀(r i k:Nat) (c:Int) (acc:List Int),i+r=m.length->r<k->0<=c->c<=1->acc.length=i->
 ∃t,V2 m o k c (i:Int) acc=some (acc++t)/\dig 1000000000 t/\t.length=r/\(val 1000000000 t=val 1000000000 (m.drop i)-val 1000000000 (o.drop i)-c\/val 1000000000 t=val 1000000000 (m.drop i)-val 1000000000 (o.drop i)-c+1000000000^r)
 |0,i,0,_,_,_,h,_,_,_=>absurd h (by omega)
 |r+1,i,0,_,_,_,h,_,_,_=>absurd h (by omega)
 |0,i,k+1,c,acc,hi,_,h0,h1,ha=>by
  unfold V2;rw[dge (by omega),O4 (by omega:m.length<=i),O4 (by omega:o.length<=i)];refine⟨[],by simp,J3,rfl,?_⟩;simp only[val,Int.pow_zero];omega
 |r+1,i,k+1,c,acc,hi,hk,h0,h1,ha=>by
  unfold V2;obtain⟨a1,a2⟩:=Ao3 hm (show i<m.length by omega);have hp:(1000000000:Int)^(r+1)=1000000000*1000000000^r:=cw_ ..;rw[dlt (by omega),C3 (l:=m) (by omega),Ag2 (l:=m) (by omega),hp];simp only[cond_true,sb];rw[E6 (i:=m[i]) (by omega) (by omega),E6 (i:=m[i]-c) (by omega) (by omega),wi i (by omega)];have key:∀(d c' y:Int),0<=d->d<1000000000->0<=c'->c'<=1->d=m[i]-c-y+1000000000*c'->val 1000000000 (o.drop i)=y+1000000000*val 1000000000 (o.drop (i+1))->
   ∃t,Option.bind (app acc [d]) (fun l=>V2 m o k c' ((i+1:Nat):Int) l)=some (acc++t)/\dig 1000000000 t/\t.length=r+1/\(val 1000000000 t=m[i]+1000000000*val 1000000000 (m.drop (i+1))-val 1000000000 (o.drop i)-c\/val 1000000000 t=m[i]+1000000000*val 1000000000 (m.drop (i+1))-val 1000000000 (o.drop i)-c+1000000000*1000000000^r):=by
   intro d c' y d0 d1 c0 c1 hd hv;rw[U2 _ _ (by simp;omega)];simp only[sb];obtain⟨t,e1,e2,e3,e4⟩:=Dr7 hm ho hle hb r (i+1) k c' (acc++[d]) (by omega) (by omega) c0 c1 (by simp;omega);refine⟨d::t,by rw[e1];simp,E1.2 ⟨⟨d0,d1⟩,e2⟩,by simp;omega,?_⟩;rw[Cb4,hv];rcases e4 with e4|e4
   .left;rw[e4];omega
   .right;rw[e4];omega
  by_cases hio:i<o.length
  .obtain⟨b1,b2⟩:=Ao3 ho hio;rw[dlt hio,C3 (l:=o) hio];simp only[cond_true,sb];rw[E6 (i:=o[i]) (by omega) (by omega),E6 (i:=m[i]-c-o[i]) (by omega) (by omega)];by_cases hn:m[i]-c-o[i]<0
   .rw[dT_ hn];simp only[cond_true];rw[E6 (by omega) (by omega),Ao4 (by omega) (by omega)];exact key _ 1 o[i] (by omega) (by omega) (by omega) (by omega) (by omega) (Ag2 hio)
   .rw[dF_ hn];simp only[cond_false];rw[Ao4 (by omega) (by omega)];exact key _ 0 o[i] (by omega) (by omega) (by omega) (by omega) (by omega) (Ag2 hio)
  .have hv:val 1000000000 (o.drop i)=0+1000000000*val 1000000000 (o.drop (i+1)):=by rw[O4 (by omega:o.length<=i),O4 (by omega:o.length<=i+1)];rfl
   rw[dge (by omega)];simp only[cond_false];by_cases hn:m[i]-c<0
   .rw[dT_ hn];simp only[cond_true];rw[E6 (by omega) (by omega),Ao4 (by omega) (by omega)];exact key _ 1 0 (by omega) (by omega) (by omega) (by omega) (by omega) hv
   .rw[dF_ hn];simp only[cond_false];rw[Ao4 (by omega) (by omega)];exact key _ 0 0 (by omega) (by omega) (by omega) (by omega) (by omega) hv
theorem Cr8{fuel:Nat}{m o:List Int}(hm:dig 1000000000 m)(ho:dig 1000000000 o)(hle:o.length<=m.length)(hb:m.length<=1073741824)(hv:val 1000000000 o<=val 1000000000 m)(hf:m.length<fuel):
 ∃t,Ev5 fuel m o=some t/\dig 1000000000 t/\t.length=m.length/\val 1000000000 t=val 1000000000 m-val 1000000000 o:=by
 unfold Ev5;rw[length_map,Eg8 (by omega) (by omega)];simp only[sb];obtain⟨t,e1,e2,e3,e4⟩:=Dr7 hm ho hle hb m.length 0 fuel 0 [] (by omega) hf (by omega) (by omega) rfl;rw[drop_zero,drop_zero]at e4;refine⟨t,e1,e2,e3,?_⟩;rcases e4 with e4|e4
 .omega
 .have:=Ao1 (show(0:Int)<1000000000 by decide) e2;rw[e3]at this;omega
def ln(n:Int):Nat:=(dg 1000000000 (n.natAbs:Int)).length
theorem Ce3(n:Int):dig 1000000000 (dg 1000000000 (n.natAbs:Int)):=H3 hB1 _ (by omega)
theorem Cx5(n:Int):val 1000000000 (dg 1000000000 (n.natAbs:Int))=(n.natAbs:Int):=I9 hB1 _ (by omega)
theorem Cl0{a:Int}:Ej7 (W a)=some (M8 a 0):=by
 unfold Ej7;show(bif (((dg 1000000000 (a.natAbs:Int)).map A6).length:Int)==0 then some 0 else bif decide (a<0) then some (-1) else some 1)=_;by_cases h:a=0
 .subst h;rfl
 .have:((((dg 1000000000 (a.natAbs:Int)).map A6).length:Int)==0)=false:=by
   rw[length_map];have:=Bf4 hB1 (show 0<(a.natAbs:Int) by omega);have:=aq_.2 this;simp;omega
  rw[this];simp only[cond_false];by_cases hn:a<0
  .rw[dT_ hn,D5 hn];rfl
  .rw[dF_ hn,D7 (by omega)];rfl
theorem Fs1{fuel:Nat}{a b:Int}(ha:ln a<=1073741820)(hb:ln b<=1073741820)(hf:ln a+ln b+2<fuel):Et9 fuel (W a) (W b)=some (W (a+b)):=by
 unfold ln at ha hb hf;have va:=Cx5 a;have vb:=Cx5 b;have da:=Ce3 a;have db:=Ce3 b;unfold Et9;show(bif decide (a<0)==decide (b<0) then Option.bind (Fm9 fuel (dg 1000000000 (a.natAbs:Int)) (dg 1000000000 (b.natAbs:Int))) (fun y1=>Option.bind (Be7 fuel (decide (a<0)) y1) fun y2=>some y2) else
  (Dz8 fuel (dg 1000000000 (a.natAbs:Int)) (dg 1000000000 (b.natAbs:Int))).bind fun y3=>bif decide (y3<0) then Option.bind (Ev5 fuel (dg 1000000000 (b.natAbs:Int)) (dg 1000000000 (a.natAbs:Int))) (fun y4=>Option.bind (Be7 fuel (decide (b<0)) y4) fun y5=>some y5) else
   (Ev5 fuel (dg 1000000000 (a.natAbs:Int)) (dg 1000000000 (b.natAbs:Int))).bind fun y6=>Option.bind (Be7 fuel (decide (a<0)) y6) fun y7=>some y7)=_
 by_cases hs:decide (a<0)=decide (b<0)
 .rw[hs];simp only[beq_self_eq_true,cond_true];obtain⟨t,e1,e2,e3,e4⟩:=Fg6 da db (by omega) (by omega) (show _<fuel by omega);rw[e1,sb,P7 e2 (by omega) (by omega),sb,e4,va,vb];congr 2;have hs:a<0↔b<0:=by simpa using hs
  unfold sg;by_cases h:b<0
  .rw[dT_ h];simp only[cond_true];omega
  .rw[dF_ h];simp only[cond_false];omega
 .have:(decide (a<0)==decide (b<0))=false:=by simpa using hs
  rw[this];have hs:¬(a<0↔b<0):=by simpa using hs
  simp only[cond_false];rw[Ae5 (by omega) (by omega) (by omega) (by omega) (by omega),sb];by_cases hc:(a.natAbs:Int)<(b.natAbs:Int)
  .rw[D5 hc];simp only[show decide ((-1:Int)<0)=true from rfl,cond_true];have hlen:(dg 1000000000 (a.natAbs:Int)).length<=(dg 1000000000 (b.natAbs:Int)).length:=by
    rcases a8_ (dg 1000000000 (b.natAbs:Int)).length (dg 1000000000 (a.natAbs:Int)).length with h|h
    .have:=K1 hB1 (show 0<=(b.natAbs:Int) by omega) (show 0<=(a.natAbs:Int) by omega) h;omega
    .exact h
   obtain⟨t,e1,e2,e3,e4⟩:=Cr8 db da hlen (by omega) (by rw[va,vb];omega) (show _<fuel by omega);rw[e1,sb,P7 e2 (by omega) (by omega),sb,e4,va,vb];congr 2;unfold sg;by_cases h:b<0
   .rw[dT_ h];simp only[cond_true];omega
   .rw[dF_ h];simp only[cond_false];omega
  .have h0:decide (M8 (a.natAbs:Int) (b.natAbs:Int)<0)=false:=by
    apply dF_;unfold M8;rw[if_neg hc];split<;>omega
   rw[h0];simp only[cond_false];have hlen:(dg 1000000000 (b.natAbs:Int)).length<=(dg 1000000000 (a.natAbs:Int)).length:=by
    rcases a8_ (dg 1000000000 (a.natAbs:Int)).length (dg 1000000000 (b.natAbs:Int)).length with h|h
    .have:=K1 hB1 (show 0<=(a.natAbs:Int) by omega) (show 0<=(b.natAbs:Int) by omega) h;omega
    .exact h
   obtain⟨t,e1,e2,e3,e4⟩:=Cr8 da db hlen (by omega) (by rw[va,vb];omega) (show _<fuel by omega);rw[e1,sb,P7 e2 (by omega) (by omega),sb,e4,va,vb];congr 2;unfold sg;by_cases h:a<0
   .rw[dT_ h];simp only[cond_true];omega
   .rw[dF_ h];simp only[cond_false];omega
theorem Cl1{fuel:Nat}{a b:Int}(ha:ln a<=1073741820)(hb:ln b<=1073741820)(hf:ln a+ln b<fuel):Dz6 fuel (W a) (W b)=some (M8 a b):=by
 unfold ln at ha hb hf;unfold Dz6;simp only[Cl0,sb,Co8,Gc9];by_cases hs:M8 a 0=M8 b 0
 .rw[dF_ (by simpa using hs)];simp only[cond_false];show(bif (((dg 1000000000 (a.natAbs:Int)).map A6).length:Int)==0 then some (M8 (M8 a 0) (M8 b 0)) else bif decide (a<0) then Option.bind (Dz8 fuel (dg 1000000000 (b.natAbs:Int)) (dg 1000000000 (a.natAbs:Int))) (fun y4=>some y4) else (Dz8 fuel (dg 1000000000 (a.natAbs:Int)) (dg 1000000000 (b.natAbs:Int))).bind fun y5=>some y5)=_;by_cases h:a=0
  .subst h;rw[I1]at hs;have:=En6.1 hs.symm;subst this;rfl
  .have hl:((((dg 1000000000 (a.natAbs:Int)).map A6).length:Int)==0)=false:=by
    rw[length_map];have:=Bf4 hB1 (show 0<(a.natAbs:Int) by omega);have:=aq_.2 this;simp;omega
   rw[hl];simp only[cond_false];by_cases hn:a<0
   .rw[dT_ hn];simp only[cond_true];have hb':b<0:=by
     rw[D5 hn]at hs;rcases bf_ b 0 with h|h|h
     .exact h
     .rw[h,I1]at hs;omega
     .rw[D7 h]at hs;omega
    rw[Ae5 (by omega) (by omega) (by omega) (by omega) (by omega),sb,show((b.natAbs:Nat):Int)= -b by omega,show((a.natAbs:Nat):Int)= -a by omega,Co6]
   .rw[dF_ hn];simp only[cond_false];have hb':0<b:=by
     rw[D7 (by omega)]at hs;rcases bf_ b 0 with h|h|h
     .rw[D5 h]at hs;omega
     .rw[h,I1]at hs;omega
     .exact h
    rw[Ae5 (by omega) (by omega) (by omega) (by omega) (by omega),sb,show((b.natAbs:Nat):Int)=b by omega,show((a.natAbs:Nat):Int)=a by omega]
 .rw[dT_ hs];simp only[cond_true];rcases bf_ a 0 with h|h|h<;>rcases bf_ b 0 with h'|h'|h'<;>first|(rw[D5 h,D5 h']at hs;exact absurd rfl hs)|(rw[D7 h,D7 h']at hs;exact absurd rfl hs)|(subst h;subst h';exact absurd rfl hs)|skip
  .rw[D5 h,h',I1,D5 h];rfl
  .rw[D5 h,D7 h',D5 (show(-1:Int)<1 by omega),D5 (show a<b by omega)];rfl
  .rw[h,I1,D5 h',D7 h'];rfl
  .rw[h,I1,D7 h',D5 h'];rfl
  .rw[D7 h,D5 h',D7 (show(-1:Int)<1 by omega),D7 (show b<a by omega)];rfl
  .rw[D7 h,h',I1,D7 h];rfl
end
section
theorem Ds2{x y X Y:Int}(h0:0<=x)(h1:x<X)(h2:0<=y)(h3:y<Y):0<=x*y/\x*y<=(X-1)*(Y-1):=by
 refine⟨bk_ h0 h2,?_⟩;have a:=ae_ (show x<=X-1 by omega) h2;have b:=ap_ (show y<=Y-1 by omega) (show 0<=X-1 by omega);omega
theorem By3{x y:Int}(h0:0<=x)(h1:x<1000000000)(h2:0<=y)(h3:y<1000000000):0<=x*y/\x*y<=999999998000000001:=by
 have:=Ds2 h0 h1 h2 h3;omega
theorem Cu3{m:List Int}{y:Int}(hm:dig 1000000000 m)(hb:m.length<=1073741824)(y0:0<=y)(y1:y<1000000000):∀(r i k:Nat) (c:Int) (acc:List Int),i+r=m.length->r<k->0<=c->c<1000000000->acc.length=i->
 ∃t,Ab6 m y k c (i:Int) acc=some (acc++t)/\dig 1000000000 t/\t.length=r+1/\val 1000000000 t=val 1000000000 (m.drop i)*y+c
 |0,i,0,_,_,_,h,_,_,_=>absurd h (by omega)
 |r+1,i,0,_,_,_,h,_,_,_=>absurd h (by omega)
 |0,i,k+1,c,acc,hi,_,h0,h1,ha=>by
  unfold Ab6;rw[dge (by omega),O4 (by omega:m.length<=i)];simp only[cond_false];rw[Ao4 h0 (by omega),U2 _ _ (by simp;omega)];exact⟨[c],rfl,E1.2 ⟨⟨h0,h1⟩,J3⟩,rfl,by simp[val]⟩
 |r+1,i,k+1,c,acc,hi,hk,h0,h1,ha=>by
  unfold Ab6;obtain⟨a1,a2⟩:=Ao3 hm (show i<m.length by omega);obtain⟨p1,p2⟩:=By3 a1 a2 y0 y1;rw[dlt (by omega),C3 (l:=m) (by omega),Ag2 (l:=m) (by omega)];simp only[cond_true,sb];rw[O1 (i:=m[i]) (by omega) (by omega),O1 (i:=y) (by omega) (by omega),O1 (i:=m[i]*y) (by omega) (by omega),O1 (i:=m[i]*y+c) (by omega) (by omega),wi i (by omega),(tdm (show 0<=m[i]*y+c by omega)).1,(tdm (show 0<=m[i]*y+c by omega)).2,Ao4 (by omega) (by omega),O1 (by omega) (by omega),U2 _ _ (by simp;omega)];simp only[sb];obtain⟨t,e1,e2,e3,e4⟩:=Cu3 hm hb y0 y1 r (i+1) k ((m[i]*y+c)/1000000000) (acc++[(m[i]*y+c)%1000000000]) (by omega) (by omega) (by omega) (by omega) (by simp;omega);refine⟨(m[i]*y+c)%1000000000::t,by rw[e1];simp,E1.2 ⟨⟨by omega,by omega⟩,e2⟩,by simp;omega,?_⟩;rw[Cb4,e4,Int.add_mul,Int.mul_assoc];omega
theorem Ca3{fuel:Nat}{m:List Int}{y:Int}(hm:dig 1000000000 m)(hb:m.length<=1073741824)(y0:0<=y)(y1:y<1000000000)(hf:m.length<fuel):
 ∃t,Ex9 fuel m y=some t/\dig 1000000000 t/\t.length=m.length+1/\val 1000000000 t=val 1000000000 m*y:=by
 unfold Ex9;rw[length_map,E6 (by omega) (by omega),Eg8 (by omega) (by omega)];simp only[sb];obtain⟨t,e1,e2,e3,e4⟩:=Cu3 hm hb y0 y1 m.length 0 fuel 0 [] (by omega) hf (by omega) (by omega) rfl;rw[drop_zero]at e4;exact⟨t,e1,e2,e3,by omega⟩
theorem Cu4:∀(m:List Int) (y:Int) (k:Nat),Aj9 m y k=Ab6 m y k
 |m,y,0=>by funext c i acc;rfl
 |m,y,k+1=>by
  funext c i acc;unfold Aj9 Ab6;rw[Cu4 m y k]
theorem Db2{fuel:Nat}{m:List Int}{y:Int}:Eb6 fuel m y=Ex9 fuel m y:=by
 unfold Eb6 Ex9;rw[Cu4]
def Bg0(m:List Int):Nat->List (Int×Int)
 |0=>[]
 |i+1=>((i:Nat),m.getD i 0)::Bg0 m i
theorem En3{m:List Int}(hb:m.length<=2147483648):∀(i k:Nat),i<=m.length->i<k->Aq0 m k ((i:Int)-1)=some (Bg0 m i)
 |0,0,_,h=>absurd h (by omega)
 |i+1,0,_,h=>absurd h (by omega)
 |0,k+1,_,_=>by
  unfold Aq0;rfl
 |i+1,k+1,hi,hk=>by
  unfold Aq0;rw[show(((i+1:Nat):Int)-1)=(i:Int) by omega,dT_ (show(i:Int)>=0 by omega),C3 (l:=m) (by omega),wip i (by omega)];simp only[cond_true,sb];rw[En3 hb i k (by omega) (by omega)];simp only[sb,Bg0];rw[getD_eq_getElem?_getD,List.getElem?_eq_getElem (show i<m.length by omega)];rfl
theorem Dj6{fuel:Nat}{m:List Int}(hb:m.length<=2147483648)(hf:m.length<fuel):Fk6 fuel m=some (Bg0 m m.length):=by
 unfold Fk6;rw[length_map,wip _ (by omega)];exact En3 hb m.length fuel (ac_ _) hf
theorem Fv2{m:List Int}{i:Nat}(h:i<m.length):m.getD i 0=m[i]:=by
 rw[getD_eq_getElem?_getD,List.getElem?_eq_getElem h];rfl
theorem Fj3{l:List Int}{i:Nat}(hi:i<l.length):val 1000000000 (l.take (i+1))=val 1000000000 (l.take i)+l[i]*1000000000^i:=R3 hi
theorem Dw8{m:List Int}{y:Int}(hm:dig 1000000000 m)(hb:m.length<=1073741824)(y0:0<y)(y1:y<1000000000):∀(i:Nat) (rest:Int) (out:List Int),i<=m.length->out.length=m.length->0<=rest->rest<y->
 ∃q r,Ab5 y (Bg0 m i) rest out=some (q++out.drop i,r)/\dig 1000000000 q/\q.length=i/\0<=r/\r<y/\rest*1000000000^i+val 1000000000 (m.take i)=y*val 1000000000 q+r
 |0,rest,out,_,ho,r0,r1=>by
  unfold Bg0 Ab5;refine⟨[],rest,by rw[Ao4 r0 (by omega)];simp,J3,rfl,r0,r1,by simp[val]⟩
 |i+1,rest,out,hi,ho,r0,r1=>by
  obtain⟨a1,a2⟩:=Ao3 hm (show i<m.length by omega);unfold Bg0 Ab5;rw[Fv2 (by omega)];have hy:u64.wrap y=y:=O1 (by omega) (by omega);have hn0:0<=rest*1000000000+m[i]:=by omega
  have hq:(rest*1000000000+m[i])/y<1000000000:=a7_ y0 (by
   have:=ae_ (show rest+1<=y by omega) (show(0:Int)<=1000000000 by decide);rw[bb_ 1000000000 y];omega)
  have hq0:0<=(rest*1000000000+m[i])/y:=a3_ hn0 (by omega);have hr0:=a2_ (rest*1000000000+m[i]) (show y≠0 by omega);have hr1:=a0_ (rest*1000000000+m[i]) y0;have hqr:=a6_ (rest*1000000000+m[i]) y;rw[hy,D0 (by simp;omega),D0 (by simp;omega)];dsimp only;rw[C3 (l:=out) (by omega),sb,O1 (i:=rest*1000000000) (by omega) (by omega),O1 (i:=m[i]) (by omega) (by omega),O1 hn0 (by omega),(tdm hn0).1,(tdm hn0).2,O1 hq0 (by omega),Ao4 hq0 (by omega),sb];rw[show 0+Int.toNat (i:Int)=i by omega];obtain⟨q,r,e1,e2,e3,e4,e5,e6⟩:=Dw8 hm hb y0 y1 i ((rest*1000000000+m[i])%y) (out.set i ((rest*1000000000+m[i])/y)) (by omega) (by simpa using ho) hr0 hr1;refine⟨q++[(rest*1000000000+m[i])/y],r,?_,Ai6.2 ⟨e2,E1.2 ⟨⟨hq0,hq⟩,J3⟩⟩,by simp;omega,e4,e5,?_⟩
  .rw[e1,ah_ (show i<(out.set i ((rest*1000000000+m[i])/y)).length by simp;omega),drop_set_of_lt (by omega)];simp
  .rw[Aj3,e3,Fj3 (by omega),a1_];have hv1:val 1000000000 [(rest*1000000000+m[i])/y]=(rest*1000000000+m[i])/y:=by simp[val]
   rw[hv1];generalize (rest*1000000000+m[i])/y=Q at*;generalize (rest*1000000000+m[i])%y=R at*;generalize (1000000000:Int)^i=X at*;grind
theorem Cu5{fuel:Nat}{m:List Int}{y:Int}(hm:dig 1000000000 m)(hb:m.length<=1073741824)(y0:0<y)(y1:y<1000000000)(hf:m.length<fuel):
 ∃q,Fk3 fuel m y=some (q,val 1000000000 m%y)/\dig 1000000000 q/\q.length=m.length/\val 1000000000 q=val 1000000000 m/y:=by
 unfold Fk3 Fk5;rw[length_map,Bb7 (by omega),sb,sb,Dj6 (by omega) hf,sb];obtain⟨q,r,e1,e2,e3,e4,e5,e6⟩:=Dw8 hm hb y0 y1 m.length 0 (List.replicate m.length 0) (ac_ _) (by simp) (by omega) y0;rw[take_length,Int.zero_mul,c5_]at e6;have h1:val 1000000000 m%y=r:=by rw[e6,cx_];exact a9_ e4 e5
 have h2:val 1000000000 m/y=val 1000000000 q:=by rw[e6,Int.mul_add_ediv_left _ _ (by omega),bs_ e4 e5];omega
 exact⟨q,by rw[e1,h1,ag_ (by simp)];simp,e2,e3,h2.symm⟩
theorem Er2{b:Int}{y:Int}{i:Nat}{rec_:Int->List Int->Option A5}(y0:0<=y)(y1:y<1000000000)(hb:ln b<=1073741820)(hi:i<=1073741820):∀(r j k:Nat) (c:Int) (out:List Int),j+r=ln b->r<k->0<=c->c<1000000000->dig 1000000000 out->(hl:i+ln b<out.length)->out[i+ln b]=0->
 ∃out',Ao5 (W b) (i:Int) y rec_ k c (j:Int) out=rec_ ((i+1:Nat):Int) out'/\dig 1000000000 out'/\out'.length=out.length/\out'.drop (i+ln b+1)=out.drop (i+ln b+1)/\val 1000000000 out'=val 1000000000 out+(y*val 1000000000 ((dg 1000000000 (b.natAbs:Int)).drop j)+c)*1000000000^(i+j)
 |0,j,0,_,_,_,h,_,_,_,_,_=>absurd h (by omega)
 |r+1,j,0,_,_,_,h,_,_,_,_,_=>absurd h (by omega)
 |0,j,k+1,c,out,hj,_,c0,c1,hd,hl,hz=>by
  unfold Ao5;have hlen:(W b).mag.length=ln b:=rfl;rw[dge (by omega)];simp only[cond_false];rw[length_map,hlen,E6 (i:=(i:Int)+(ln b:Int)) (by omega) (by omega),show(i:Int)+(ln b:Int)=((i+ln b:Nat):Int) by omega,C3 hl,wi i (by omega),Ao4 c0 (by omega)];simp only[sb];rw[show 0+Int.toNat ((i+ln b:Nat):Int)=i+ln b by omega];refine⟨_,rfl,Ai7 hd _ ⟨c0,c1⟩,by simp,by rw[drop_set_of_lt (by omega)],?_⟩;rw[Aj4 _ _ hl,hz,O4 (show(dg 1000000000 (b.natAbs:Int)).length<=j by show ln b<=j;omega),show i+j=i+ln b by omega];simp
 |r+1,j,k+1,c,out,hj,hk,c0,c1,hd,hl,hz=>by
  have hlen:(W b).mag.length=ln b:=rfl;have hjl:j<(dg 1000000000 (b.natAbs:Int)).length:=by show j<ln b;omega
  unfold Ao5;have hg:C2 (W b).mag (j:Int)=some (dg 1000000000 (b.natAbs:Int))[j]:=C3 hjl;rw[dlt (by omega),hg];obtain⟨a1,a2⟩:=Ao3 (Ce3 b) hjl;rw[Ag2 hjl];generalize hxx:(dg 1000000000 (b.natAbs:Int))[j]=x at*;obtain⟨p1,p2⟩:=By3 y0 y1 a1 a2;obtain⟨o1,o2⟩:=Ao3 hd (show i+j<out.length by omega);simp only[cond_true,sb];rw[E6 (i:=(i:Int)+(j:Int)) (by omega) (by omega),show(i:Int)+(j:Int)=((i+j:Nat):Int) by omega,C3 (l:=out) (by omega)];simp only[sb];rw[show 0+Int.toNat ((i+j:Nat):Int)=i+j by omega,O1 (i:=y) (by omega) (by omega),O1 (i:=x) (by omega) (by omega),O1 (i:=y*x) (by omega) (by omega),O1 (i:=out[i+j]) (by omega) (by omega),O1 (i:=y*x+out[i+j]) (by omega) (by omega),O1 (i:=y*x+out[i+j]+c) (by omega) (by omega),(tdm (show 0<=y*x+out[i+j]+c by omega)).1,(tdm (show 0<=y*x+out[i+j]+c by omega)).2,Ao4 (by omega) (by omega),O1 (by omega) (by omega),wi j (by omega)];obtain⟨out',e1,e2,e3,e4,e5⟩:=Er2 (rec_:=rec_) y0 y1 hb hi r (j+1) k ((y*x+out[i+j]+c)/1000000000) (out.set (i+j) ((y*x+out[i+j]+c)%1000000000)) (by omega) (by omega) (by omega) (by omega) (Ai7 hd _ ⟨by omega,by omega⟩) (by simpa using hl) (by rw[List.getElem_set_ne (by omega)];exact hz);refine⟨out',e1,e2,by simpa using e3,by rw[e4,drop_set_of_lt (by omega)],?_⟩;rw[e5,Aj4 _ _ (by omega),show i+(j+1)=i+j+1 by omega,a1_];have hqr:=a6_ (y*x+out[i+j]+c) 1000000000;generalize (y*x+out[i+j]+c)/1000000000=Q at*;generalize (y*x+out[i+j]+c)%1000000000=R at*;generalize (1000000000:Int)^(i+j)=X at*;grind
theorem Er1{fuel:Nat}{a b:Int}(ha:ln a<=1073741820)(hb:ln b<=1073741820)(hab:ln a+ln b<=1073741820)(hf:ln a+ln b+1<fuel):∀(r i k:Nat) (out:List Int),i+r=ln a->r<k->dig 1000000000 out->out.length=ln a+ln b->out.drop (i+ln b)=List.replicate r 0->
 val 1000000000 out=val 1000000000 ((dg 1000000000 (a.natAbs:Int)).take i)*(b.natAbs:Int)->Aa5 fuel (W a) (W b) k (i:Int) out=some (W (a*b))
 |0,i,0,_,_,h,_,_,_,_=>absurd h (by omega)
 |r+1,i,0,_,_,h,_,_,_,_=>absurd h (by omega)
 |0,i,k+1,out,hi,_,hd,hl,hz,hv=>by
  have hlen:(W a).mag.length=ln a:=rfl;unfold Aa5;rw[dge (by omega)];simp only[cond_false];rw[an_ (show(dg 1000000000 (a.natAbs:Int)).length<=i by show ln a<=i;omega),Cx5]at hv;rw[P7 hd (by omega) (by omega),sb,hv];congr 2;show sg (!(decide (a<0)==decide (b<0))) _=_;have hn:(a.natAbs:Int)*(b.natAbs:Int)=((a*b).natAbs:Int):=by rw[bh_];simp
  rw[hn];unfold sg;by_cases h1:a<0<;>by_cases h2:b<0
  .have:=ce_ h1 h2;simp[h1,h2];omega
  .have:=Int.mul_nonpos_of_nonpos_of_nonneg (show a<=0 by omega) (show 0<=b by omega);simp[h1,h2];omega
  .have:=Int.mul_nonpos_of_nonneg_of_nonpos (show 0<=a by omega) (show b<=0 by omega);simp[h1,h2];omega
  .have:=bk_ (show 0<=a by omega) (show 0<=b by omega);simp[h1,h2];omega
 |r+1,i,k+1,out,hi,hk,hd,hl,hz,hv=>by
  have hlen:(W a).mag.length=ln a:=rfl;have hil:i<(dg 1000000000 (a.natAbs:Int)).length:=by show i<ln a;omega
  unfold Aa5;have hg:C2 (W a).mag (i:Int)=some (dg 1000000000 (a.natAbs:Int))[i]:=C3 hil;rw[dlt (by omega),hg];obtain⟨a1,a2⟩:=Ao3 (Ce3 a) hil;simp only[cond_true,sb];have hz0:out[i+ln b]'(by omega)=0:=by
   have:=congrArg (fun l=>l[0]?) hz;simp only[getElem?_drop,Nat.add_zero]at this;rw[List.getElem?_eq_getElem (by omega),List.getElem?_replicate,if_pos (by omega)]at this;exact av_ this
  obtain⟨out',e1,e2,e3,e4,e5⟩:=Er2 (rec_:=Aa5 fuel (W a) (W b) k) a1 a2 hb (by omega:i<=1073741820) (ln b) 0 fuel 0 out (by omega) (by omega) (by omega) (by omega) hd (by omega) hz0;rw[show((0:Nat):Int)=(0:Int) from rfl]at e1;rw[e1];refine Er1 ha hb hab hf r (i+1) k out' (by omega) (by omega) e2 (by omega) ?_ ?_
  .rw[show i+1+ln b=i+ln b+1 by omega,e4,<-ay_ (i:=1),hz];simp
  .rw[e5,hv,Fj3 hil,drop_zero,Cx5,Nat.add_zero,c6_];generalize (1000000000:Int)^i=X at*;grind
theorem Bb8{fuel:Nat}{a b:Int}(hab:ln a+ln b<=1073741820)(hf:ln a+ln b+1<fuel):Bs1 fuel (W a) (W b)=some (W (a*b)):=by
 have h1:(W a).mag.length=ln a:=rfl;have h2:(W b).mag.length=ln b:=rfl;unfold Bs1;rw[length_map,length_map,h1,h2,E6 (by omega) (by omega),show(ln a:Int)+(ln b:Int)=((ln a+ln b:Nat):Int) by omega,Bb7 (by omega),sb];exact Er1 (by omega) (by omega) hab hf (ln a) 0 fuel _ (by omega) (by omega) (Ak7 (by decide) _) (by simp) (by rw[drop_replicate];congr 1;omega) (by rw[Ao2];simp[val])
end
section
theorem Bw7{l:List Int}{p i:Nat}(h:p+i<l.length):C2 (l.drop p) (i:Int)=some l[p+i]:=by
 rw[D4,getElem?_drop,List.getElem?_eq_getElem h]
theorem Eq5{p:Nat}{o:List Int}{t:Int}(ho:dig 1000000000 o)(t0:0<=t)(t1:t<1000000000)(hb:o.length<=1073741824):∀(r i k:Nat) (c bo:Int) (l:List Int),i+r=o.length+1->r<k->0<=c->c<1000000000->(r=0->c=0)->(bo=0\/bo=1)->dig 1000000000 l->p+o.length<l.length->
 ∃l' bo',Q6 p o t k c bo (i:Int) l=some (decide (bo'>0),l')/\dig 1000000000 l'/\l'.length=l.length/\l'.take p=l.take p/\l'.drop (p+o.length+1)=l.drop (p+o.length+1)/\(bo'=0\/bo'=1)/\val 1000000000 l'=val 1000000000 l-(t*val 1000000000 (o.drop i)+c+bo)*1000000000^(p+i)+bo'*1000000000^(p+o.length+1)
 |0,i,0,_,_,_,_,h,_,_,_,_,_,_=>absurd h (by omega)
 |r+1,i,0,_,_,_,_,h,_,_,_,_,_,_=>absurd h (by omega)
 |0,i,k+1,c,bo,l,hi,_,c0,c1,hc,hbo,hd,hl=>by
  unfold Q6;rw[length_map,E6 (i:=(o.length:Int)+1) (by omega) (by omega),dF_ (by omega)];simp only[cond_false];refine⟨l,bo,rfl,hd,rfl,rfl,rfl,hbo,?_⟩;rw[O4 (by omega:o.length<=i),hc rfl,show p+i=p+o.length+1 by omega];simp
 |r+1,i,k+1,c,bo,l,hi,hk,c0,c1,hc,hbo,hd,hl=>by
  have hb0:0<=bo/\bo<=1:=by omega
  obtain⟨x0,x1⟩:=Ao3 hd (show p+i<l.length by omega);have hset:∀z:Int,(l.set (0+p+i) z)=l.set (p+i) z:=fun z=>by rw[Nat.zero_add]
  have step:∀(N Y c':Int),0<=N->N/1000000000<1000000000->(r=0->N/1000000000=0)->c'=N/1000000000->t*val 1000000000 (o.drop i)+c=N+1000000000*(t*val 1000000000 (o.drop (i+1)))->Y=N%1000000000->
   ∃l' bo',(bif decide (l[p+i]-Y-bo<0) then Option.bind (some (l.set (p+i) (l[p+i]-Y-bo+1000000000))) (fun l11=>Q6 p o t k c' 1 ((i+1:Nat):Int) l11) else Option.bind (some (l.set (p+i) (l[p+i]-Y-bo))) (fun l12=>Q6 p o t k c' 0 ((i+1:Nat):Int) l12))=some (decide (bo'>0),l')/\dig 1000000000 l'/\l'.length=l.length/\l'.take p=l.take p/\l'.drop (p+o.length+1)=l.drop (p+o.length+1)/\(bo'=0\/bo'=1)/\val 1000000000 l'=val 1000000000 l-(t*val 1000000000 (o.drop i)+c+bo)*1000000000^(p+i)+bo'*1000000000^(p+o.length+1):=by
   intro N Y c' hN hN1 hN2 hc' hv hY;have hq:=a6_ N 1000000000;have hY0:0<=Y:=by omega
   have hY1:Y<1000000000:=by omega
   have fin:∀(z b1:Int),0<=z->z<1000000000->(b1=0\/b1=1)->z=l[p+i]-Y-bo+1000000000*b1->∃l' bo',Option.bind (some (l.set (p+i) z)) (fun l11=>Q6 p o t k c' b1 ((i+1:Nat):Int) l11)=some (decide (bo'>0),l')/\dig 1000000000 l'/\l'.length=l.length/\l'.take p=l.take p/\l'.drop (p+o.length+1)=l.drop (p+o.length+1)/\(bo'=0\/bo'=1)/\val 1000000000 l'=val 1000000000 l-(t*val 1000000000 (o.drop i)+c+bo)*1000000000^(p+i)+bo'*1000000000^(p+o.length+1):=by
    intro z b1 z0 z1 hb1 hz;obtain⟨l',bo',e1,e2,e3,e4,e5,e6,e7⟩:=Eq5 ho t0 t1 hb r (i+1) k c' b1 (l.set (p+i) z) (by omega) (by omega) (by omega) (by omega) (fun h=>by rw[hc'];exact hN2 h) hb1 (Ai7 hd _ ⟨z0,z1⟩) (by simpa using hl);refine⟨l',bo',e1,e2,by simpa using e3,by rw[e4,take_set_of_le (by omega)],by rw[e5,drop_set_of_lt (by omega)],e6,?_⟩;rw[e7,Aj4 _ _ (by omega),show p+(i+1)=p+i+1 by omega,a1_,hv,hz,hc',hY];generalize N/1000000000=Q at*;generalize N%1000000000=R at*;generalize (1000000000:Int)^(p+i)=X at*;generalize bo'*1000000000^(p+o.length+1)=Z at*;grind
   by_cases hn:l[p+i]-Y-bo<0
   .rw[dT_ hn];exact fin _ 1 (by omega) (by omega) (.inr rfl) (by omega)
   .rw[dF_ hn];exact fin _ 0 (by omega) (by omega) (.inl rfl) (by omega)
  unfold Q6;rw[length_map,E6 (i:=(o.length:Int)+1) (by omega) (by omega),dT_ (by omega)];simp only[cond_true];rw[Bw7 (by omega),wi i (by omega)];simp only[sb];rw[show p+Int.toNat (i:Int)=p+i by omega,E6 (i:=l[p+i]) (by omega) (by omega)];by_cases hio:i<o.length
  .obtain⟨y0,y1⟩:=Ao3 ho hio;obtain⟨p1,p2⟩:=By3 t0 t1 y0 y1;rw[dT_ (by omega),C3 hio];simp only[cond_true,sb];rw[O1 (i:=o[i]) (by omega) (by omega),O1 (i:=t*o[i]) (by omega) (by omega),O1 (i:=c+t*o[i]) (by omega) (by omega),(tdm (show 0<=c+t*o[i] by omega)).1,(tdm (show 0<=c+t*o[i] by omega)).2,O1 (i:=(c+t*o[i])/1000000000) (by omega) (by omega),E6 (i:=(c+t*o[i])%1000000000) (by omega) (by omega),E6 (i:=l[p+i]-(c+t*o[i])%1000000000) (by omega) (by omega),E6 (i:=l[p+i]-(c+t*o[i])%1000000000-bo) (by omega) (by omega)];have hx:∀z:Int,-9223372036854775808<=z->z<9223372036854775808->i64.wrap z=z:=fun z h h'=>E6 h h'
   have hstep:=step (c+t*o[i]) _ _ (by omega) (by omega) (fun h=>by omega) rfl (by rw[Ag2 hio,Int.mul_add];grind) rfl;by_cases hn:l[p+i]-(c+t*o[i])%1000000000-bo<0
   .rw[dT_ hn]at hstep⊢;simp only[cond_true]at hstep⊢;rw[E6 (by omega) (by omega),Ao4 (by omega) (by omega)];exact hstep
   .rw[dF_ hn]at hstep⊢;simp only[cond_false]at hstep⊢;rw[Ao4 (by omega) (by omega)];exact hstep
  .rw[dF_ (by omega)];simp only[cond_false];rw[(tdm c0).1,(tdm c0).2,O1 (i:=c/1000000000) (by omega) (by omega),E6 (i:=c%1000000000) (by omega) (by omega),E6 (i:=l[p+i]-c%1000000000) (by omega) (by omega),E6 (i:=l[p+i]-c%1000000000-bo) (by omega) (by omega)];have hstep:=step c _ _ (by omega) (by omega) (fun h=>by omega) rfl (by rw[O4 (by omega:o.length<=i),O4 (by omega:o.length<=i+1)];omega) rfl;by_cases hn:l[p+i]-c%1000000000-bo<0
   .rw[dT_ hn]at hstep⊢;simp only[cond_true]at hstep⊢;rw[E6 (by omega) (by omega),Ao4 (by omega) (by omega)];exact hstep
   .rw[dF_ hn]at hstep⊢;simp only[cond_false]at hstep⊢;rw[Ao4 (by omega) (by omega)];exact hstep
theorem Ep5{p:Nat}{o:List Int}(ho:dig 1000000000 o)(hb:o.length<=1073741824):∀(r i k:Nat) (c:Int) (l:List Int),i+r=o.length+1->r<k->(c=0\/c=1)->dig 1000000000 l->p+o.length<l.length->
 ∃l' c',Ab7 p o k c (i:Int) l=some l'/\dig 1000000000 l'/\l'.length=l.length/\l'.take p=l.take p/\l'.drop (p+o.length+1)=l.drop (p+o.length+1)/\(c'=0\/c'=1)/\val 1000000000 l'=val 1000000000 l+(val 1000000000 (o.drop i)+c)*1000000000^(p+i)-c'*1000000000^(p+o.length+1)
 |0,i,0,_,_,_,h,_,_,_=>absurd h (by omega)
 |r+1,i,0,_,_,_,h,_,_,_=>absurd h (by omega)
 |0,i,k+1,c,l,hi,_,hc,hd,hl=>by
  unfold Ab7;rw[length_map,E6 (i:=(o.length:Int)+1) (by omega) (by omega),dF_ (by omega)];simp only[cond_false];refine⟨l,c,rfl,hd,rfl,rfl,rfl,hc,?_⟩;rw[O4 (by omega:o.length<=i),show p+i=p+o.length+1 by omega,c5_];omega
 |r+1,i,k+1,c,l,hi,hk,hc,hd,hl=>by
  obtain⟨x0,x1⟩:=Ao3 hd (show p+i<l.length by omega);have step:∀(y:Int),0<=y->y<1000000000->val 1000000000 (o.drop i)=y+1000000000*val 1000000000 (o.drop (i+1))->
   ∃l' c',Ab7 p o k ((l[p+i]+c+y)/1000000000) ((i+1:Nat):Int) (l.set (p+i) ((l[p+i]+c+y)%1000000000))=some l'/\dig 1000000000 l'/\l'.length=l.length/\l'.take p=l.take p/\l'.drop (p+o.length+1)=l.drop (p+o.length+1)/\(c'=0\/c'=1)/\val 1000000000 l'=val 1000000000 l+(val 1000000000 (o.drop i)+c)*1000000000^(p+i)-c'*1000000000^(p+o.length+1):=by
   intro y y0 y1 hv;obtain⟨l',c',e1,e2,e3,e4,e5,e6,e7⟩:=Ep5 ho hb r (i+1) k ((l[p+i]+c+y)/1000000000) (l.set (p+i) ((l[p+i]+c+y)%1000000000)) (by omega) (by omega) (by omega) (Ai7 hd _ ⟨by omega,by omega⟩) (by simpa using hl);refine⟨l',c',e1,e2,by simpa using e3,by rw[e4,take_set_of_le (by omega)],by rw[e5,drop_set_of_lt (by omega)],e6,?_⟩;have hq:=a6_ (l[p+i]+c+y) 1000000000;rw[e7,Aj4 _ _ (by omega),show p+(i+1)=p+i+1 by omega,a1_,hv];generalize (l[p+i]+c+y)/1000000000=Q at*;generalize (l[p+i]+c+y)%1000000000=R at*;generalize (1000000000:Int)^(p+i)=X at*;generalize c'*1000000000^(p+o.length+1)=Z at*;grind
  unfold Ab7;rw[length_map,E6 (i:=(o.length:Int)+1) (by omega) (by omega),dT_ (by omega)];simp only[cond_true];rw[Bw7 (by omega),wi i (by omega)];simp only[sb];rw[show p+Int.toNat (i:Int)=p+i by omega,Ao4 (i:=l[p+i]+c) (by omega) (by omega)];by_cases hio:i<o.length
  .obtain⟨y0,y1⟩:=Ao3 ho hio;rw[dT_ (by omega),C3 hio];simp only[cond_true,sb];rw[Ao4 (i:=l[p+i]+c+o[i]) (by omega) (by omega),(tdm (show 0<=l[p+i]+c+o[i] by omega)).1,(tdm (show 0<=l[p+i]+c+o[i] by omega)).2,Ao4 (by omega) (by omega)];exact step _ y0 y1 (Ag2 hio)
  .rw[dF_ (by omega)];simp only[cond_false];rw[(tdm (show 0<=l[p+i]+c by omega)).1,(tdm (show 0<=l[p+i]+c by omega)).2,Ao4 (by omega) (by omega)];have:=step 0 (by omega) (by omega) (by rw[O4 (by omega:o.length<=i),O4 (by omega:o.length<=i+1)];rfl);rw[c6_]at this;exact this
theorem Fe8{fuel p:Nat}{o l:List Int}{t:Int}(ho:dig 1000000000 o)(t0:0<=t)(t1:t<1000000000)(hb:o.length<=1073741824)(hd:dig 1000000000 l)(hl:p+o.length<l.length)(hf:o.length+1<fuel):
 ∃l' bo',Fk4 fuel p o t l=some (decide (bo'>0),l')/\dig 1000000000 l'/\l'.length=l.length/\l'.take p=l.take p/\l'.drop (p+o.length+1)=l.drop (p+o.length+1)/\(bo'=0\/bo'=1)/\val 1000000000 l'=val 1000000000 l-t*val 1000000000 o*1000000000^p+bo'*1000000000^(p+o.length+1):=by
 have:=Eq5 ho t0 t1 hb (o.length+1) 0 fuel 0 0 l (by omega) hf (by omega) (by omega) (fun _=>rfl) (.inl rfl) hd hl;rw[drop_zero]at this;unfold Fk4;simpa using this
theorem Fe1{fuel p:Nat}{o l:List Int}(ho:dig 1000000000 o)(hb:o.length<=1073741824)(hd:dig 1000000000 l)(hl:p+o.length<l.length)(hf:o.length+1<fuel):
 ∃l' c',Fn9 fuel p o l=some l'/\dig 1000000000 l'/\l'.length=l.length/\l'.take p=l.take p/\l'.drop (p+o.length+1)=l.drop (p+o.length+1)/\(c'=0\/c'=1)/\val 1000000000 l'=val 1000000000 l+val 1000000000 o*1000000000^p-c'*1000000000^(p+o.length+1):=by
 have:=Ep5 ho hb (o.length+1) 0 fuel 0 l (by omega) hf (.inl rfl) hd hl;rw[drop_zero]at this;unfold Fn9;simpa using this
end
section
theorem Ef7{A b T3 al bl X g h:Int}(hA:A=T3*X+al)(hb:b=h*X+bl)(hX:0<X)(al0:0<=al)(_:al<X)(bl0:0<=bl)(bl1:bl<X)(g0:0<=g)(g1:g<1000000000)(hh:1000000000<=h)(he:g*h<=T3):g<=A/b+1:=by
 have hb0:0<b:=by
  have:=ae_ (show 1<=h by omega) (ai_ hX);omega
 have h1:(g-1)*b<=A:=by
  have e1:=ae_ he (ai_ hX);have e2:=ap_ (ai_ bl1) g0;have e3:=ae_ (show g<=h by omega) (ai_ hX);have e4:(g-1)*b=g*h*X+g*bl-b:=by rw[hb];grind
  omega
 have:=cd_ hb0 h1;omega
theorem Ef8{A b T3 al bl X g h:Int}(hA:A=T3*X+al)(hb:b=h*X+bl)(hX:0<X)(al1:al<X)(bl0:0<=bl)(g0:0<=g)(hb0:0<b)(he:T3<g*h):A/b<g:=by
 have h1:A<g*b:=by
  have e1:=ae_ (show T3+1<=g*h by omega) (ai_ hX);have e2:=bk_ g0 bl0;have e3:g*b=g*h*X+g*bl:=by rw[hb];grind
  have e4:(T3+1)*X=T3*X+X:=by grind
  omega
 exact a7_ hb0 h1
theorem Ba7{A b top al2 Y b1:Int}(hA:A=top*Y+al2)(al1:al2<Y)(hY:0<Y)(hb:b1*Y<=b)(hb1:0<b1)(hA0:0<=A):A/b<=top/b1:=by
 have hb0:0<b:=by
  have:=ae_ (show 1<=b1 by omega) (ai_ hY);omega
 have hq:=cn_ A (show b≠0 by omega);have hq0:0<=A/b:=a3_ hA0 (by omega);generalize A/b=Q at*;refine cd_ hb1 ?_;have e1:=ap_ hb hq0;have e2:Q*(b1*Y)=Q*b1*Y:=by grind
 by_cases h:Q*b1<=top
 .exact h
 .exfalso;have e3:=ae_ (show top+1<=Q*b1 by omega) (ai_ hY);have e4:(top+1)*Y=top*Y+Y:=by grind
  omega
theorem Ao0(l:List Int)(i:Nat)(h:i<=l.length):val 1000000000 l=val 1000000000 (l.take i)+1000000000^i*val 1000000000 (l.drop i):=T8 l i h
theorem vlt{l:List Int}(h:dig 1000000000 l):val 1000000000 l<1000000000^l.length:=Ao1 (by decide) h
theorem vnn{l:List Int}(h:dig 1000000000 l):0<=val 1000000000 l:=M6 (by decide) h
theorem p9(n:Nat):(0:Int)<1000000000^n:=R1 (by decide) n
theorem vtl{l:List Int}(h:dig 1000000000 l)(i:Nat)(hi:i<=l.length):val 1000000000 (l.take i)<1000000000^i:=by
 have:=vlt (F3 h i)
 rwa [length_take,br_ hi]at this
theorem Br3{l:List Int}(h:dig 1000000000 l){n:Nat}(hn:n<=l.length)(hv:val 1000000000 l<1000000000^n):val 1000000000 (l.drop n)=0:=by
 rw[Ao0 l n hn]at hv;have h1:=vnn (F3 h n);have h2:=vnn (L8 h n);by_cases h0:val 1000000000 (l.drop n)=0
 .exact h0
 .exfalso;have:=ap_ (show 1<=val 1000000000 (l.drop n) by omega) (ai_ (p9 n));omega
theorem Fx0{al bl:List Int}{i:Nat}(ha:dig 1000000000 al)(hb:dig 1000000000 bl)(hn:2<=bl.length)(hi:i+bl.length<al.length)(hA:val 1000000000 (al.drop (i+1))<val 1000000000 bl):
 ∃X lo lob:Int,0<X/\0<=lo/\lo<X/\0<=lob/\lob<X/\val 1000000000 bl=(bl[bl.length-1]*1000000000+bl[bl.length-2])*X+lob/\
  val 1000000000 (al.drop i)=((al[i+bl.length]*1000000000+al[i+bl.length-1])*1000000000+al[i+bl.length-2])*X+lo/\
  val 1000000000 (al.drop (i+bl.length+1))=0/\val 1000000000 (al.drop i)<val 1000000000 bl*1000000000:=by
 have hz:val 1000000000 (al.drop (i+bl.length+1))=0:=by
  have:=Br3 (L8 ha (i+1)) (n:=bl.length) (by rw[length_drop];omega) (Int.lt_trans hA (vlt hb))
  rwa [ay_,show i+1+bl.length=i+bl.length+1 by omega]at this
 refine⟨1000000000^(bl.length-2),val 1000000000 ((al.drop i).take (bl.length-2)),val 1000000000 (bl.take (bl.length-2)),p9 _,vnn (F3 (L8 ha i) _),vtl (L8 ha i) _ (by rw[length_drop];omega),vnn (F3 hb _),vtl hb _ (by omega),?_,?_,hz,?_⟩
 .have e1:=Ao0 bl (bl.length-2) (by omega);have e2:=Ag2 (l:=bl) (i:=bl.length-2) (by omega);have e3:=Ag2 (l:=bl) (i:=bl.length-2+1) (by omega);have e4:=O4 (l:=bl) (i:=bl.length-2+1+1) (by omega);have e5:bl[bl.length-2+1]=bl[bl.length-1]:=by congr 1;omega
  rw[e5]at e3;rw[e1,e2,e3,e4];generalize (1000000000:Int)^(bl.length-2)=X;grind
 .have e1:=Ao0 (al.drop i) (bl.length-2) (by rw[length_drop];omega);rw[ay_]at e1;have e2:=Ag2 (l:=al) (i:=i+(bl.length-2)) (by omega);have e3:=Ag2 (l:=al) (i:=i+(bl.length-2)+1) (by omega);have e4:=Ag2 (l:=al) (i:=i+(bl.length-2)+1+1) (by omega);have e5:al[i+(bl.length-2)]=al[i+bl.length-2]:=by congr 1;omega
  have e6:al[i+(bl.length-2)+1]=al[i+bl.length-1]:=by congr 1;omega
  have e7:al[i+(bl.length-2)+1+1]=al[i+bl.length]:=by congr 1;omega
  rw[show i+(bl.length-2)+1+1+1=i+bl.length+1 by omega,hz,e7]at e4;rw[e6]at e3;rw[e5]at e2;rw[e1,e2,e3,e4];generalize (1000000000:Int)^(bl.length-2)=X;grind
 .have e1:=Ag2 (l:=al) (i:=i) (by omega);have e2:=(Ao3 ha (show i<al.length by omega)).2;rw[e1];omega
theorem Fi4{α:Type}{l:List α}{n:Nat}(h:n<=l.length):slc l 0 (n:Int)=some (l.take n):=by
 unfold slc;simp only[Int.le_refl,decide_true,Bool.true_and,dT_ (Int.natCast_nonneg n),dT_ (show(n:Int)<=(l.length:Int) by omega),cond_true];simp
set_option maxHeartbeats 4000000 in
theorem Gd7{fuel:Nat}{bl ql:List Int}{rec_:Int->List Int->List Int->Option (List Int×List Int)}{al:List Int}{i:Nat}(hf:bl.length+1<fuel)(ha:dig 1000000000 al)(hb:dig 1000000000 bl)(hn:2<=bl.length)(hi:i+bl.length<al.length)(hlen:al.length<=1073741824)(hq:i<ql.length)(hA:val 1000000000 (al.drop (i+1))<val 1000000000 bl)(hb1:0<bl[bl.length-1]):
 ∃al',dig 1000000000 al'/\al'.length=al.length/\val 1000000000 al'=val 1000000000 al-val 1000000000 (al.drop i)/val 1000000000 bl*val 1000000000 bl*1000000000^i/\val 1000000000 (al'.drop i)<val 1000000000 bl/\
  ∀(k:Nat) (g:Int),0<=g->g.toNat<k->g<1000000000->g*bl[bl.length-1]<=al[i+bl.length]*1000000000+al[i+bl.length-1]->val 1000000000 (al.drop i)/val 1000000000 bl<=g->
   Ax7 fuel bl ql al (i:Int) al[i+bl.length] al[i+bl.length-1] rec_ k g=rec_ ((i:Int)-1) (ql.set i (val 1000000000 (al.drop i)/val 1000000000 bl)) al':=by
 obtain⟨X,lo,lob,hX,lo0,lo1,lb0,lb1,eb,eA,ez,hAB⟩:=Fx0 ha hb hn hi hA;obtain⟨t0,t1⟩:=Ao3 ha hi;obtain⟨s0,s1⟩:=Ao3 ha (show i+bl.length-1<al.length by omega);obtain⟨u0,u1⟩:=Ao3 ha (show i+bl.length-2<al.length by omega);obtain⟨b0,b1⟩:=Ao3 hb (show bl.length-2<bl.length by omega);obtain⟨c0,c1⟩:=Ao3 hb (show bl.length-1<bl.length by omega);have hbp:0<val 1000000000 bl:=by
  have:=ae_ (show 1<=bl[bl.length-1]*1000000000+bl[bl.length-2] by omega) (ai_ hX);omega
 have hA0:=vnn (L8 ha i);have hQ0:0<=val 1000000000 (al.drop i)/val 1000000000 bl:=a3_ hA0 (by omega);have hQ1:val 1000000000 (al.drop i)/val 1000000000 bl<1000000000:=a7_ hbp (by rw[bb_];exact hAB);have hqr:=a6_ (val 1000000000 (al.drop i)) (val 1000000000 bl);have hr0:=a2_ (val 1000000000 (al.drop i)) (show val 1000000000 bl≠0 by omega);have hr1:=a0_ (val 1000000000 (al.drop i)) hbp;have hW:val 1000000000 (al.drop i)<1000000000^(bl.length+1):=by
  have:=ae_ (ai_ (vlt hb)) (show(0:Int)<=1000000000 by decide);rw[a1_];omega
 have hbl:val 1000000000 bl<1000000000^(bl.length+1):=by
  have:=vlt hb;have:=p9 bl.length;rw[a1_];omega
 have win:∀l:List Int,dig 1000000000 l->l.length=al.length->l.take i=al.take i->l.drop (i+bl.length+1)=al.drop (i+bl.length+1)->val 1000000000 l=val 1000000000 (al.take i)+1000000000^i*val 1000000000 (l.drop i)/\0<=val 1000000000 (l.drop i)/\val 1000000000 (l.drop i)<1000000000^(bl.length+1):=by
  intro l hd hl h1 h2;refine⟨by rw[<-h1];exact Ao0 l i (by omega),vnn (L8 hd i),?_⟩;rw[Ao0 (l.drop i) (bl.length+1) (by rw[length_drop];omega),ay_,show i+(bl.length+1)=i+bl.length+1 by omega,h2,ez];have:=vtl (L8 hd i) (bl.length+1) (by rw[length_drop];omega);omega
 have canc:∀{x y:Int},1000000000^i*x=1000000000^i*y->x=y:=fun{x y} h=>Int.eq_of_mul_eq_mul_left (show(1000000000:Int)^i≠0 by have:=p9 i;omega) h
 have hal:=(win al ha rfl rfl rfl).1;have epow:(1000000000:Int)^(i+bl.length+1)=1000000000^i*1000000000^(bl.length+1):=by rw[Nat.add_assoc,Int.pow_add]
 have lose1:∀g:Int,0<=g->g<1000000000->∃l' bo',Fk4 fuel i bl g al=some (decide (bo'>0),l')/\dig 1000000000 l'/\l'.length=al.length/\l'.take i=al.take i/\l'.drop (i+bl.length+1)=al.drop (i+bl.length+1)/\(bo'=0\/bo'=1)/\val 1000000000 (l'.drop i)=val 1000000000 (al.drop i)-g*val 1000000000 bl+bo'*1000000000^(bl.length+1):=by
  intro g g0 g1;obtain⟨l',bo',e1,e2,e3,e4,e5,e6,e7⟩:=Fe8 (p:=i) hb g0 g1 (by omega) ha hi hf;refine⟨l',bo',e1,e2,e3,e4,e5,e6,canc ?_⟩;have:=(win l' e2 e3 e4 e5).1;rw[epow]at e7;generalize (1000000000:Int)^(bl.length+1)=Y at*;generalize (1000000000:Int)^i=Z at*;grind
 obtain⟨l1,bo1,e1,e2,e3,e4,e5,e6,e7⟩:=lose1 _ hQ0 hQ1;have hbo1:bo1=0:=by
  rcases e6 with h|h
  .exact h
  .exfalso;have:=(win l1 e2 e3 e4 e5).2.2;rw[e7,h,bb_ _ (val 1000000000 bl)]at this;omega
 have hl1:val 1000000000 (l1.drop i)=val 1000000000 (al.drop i)%val 1000000000 bl:=by
  rw[e7,hbo1,bb_ _ (val 1000000000 bl)];omega
 have uniq:∀l:List Int,dig 1000000000 l->l.length=al.length->l.take i=al.take i->l.drop (i+bl.length+1)=al.drop (i+bl.length+1)->val 1000000000 (l.drop i)=val 1000000000 (l1.drop i)->l=l1:=by
  intro l hd hl h1 h2 h3;have:∀(x y:List Int),dig 1000000000 x->dig 1000000000 y->x.length=y.length->val 1000000000 x=val 1000000000 y->x=y:=by
   intro x
   induction x with
   |nil=>intro y _ _ hl _;cases y with|nil=>rfl|cons _ _=>simp at hl
   |cons a x ih=>
    intro y hx hy hl hv;cases y with
    |nil=>simp at hl
    |cons b y=>
     have hx:=E1.1 hx;have hy:=E1.1 hy;rw[Cb4,Cb4]at hv;have e1:a=b:=by omega
     have e2:val 1000000000 x=val 1000000000 y:=by omega
     rw[e1,ih y hx.2 hy.2 (by simpa using hl) e2]
  refine this l l1 hd e2 (by omega) ?_;rw[(win l hd hl h1 h2).1,(win l1 e2 e3 e4 e5).1,h3]
 refine⟨l1,e2,e3,?_,by rw[hl1];exact hr1,?_⟩
 .have:=(win l1 e2 e3 e4 e5).1;rw[this,hal,e7,hbo1];generalize val 1000000000 (al.drop i)/val 1000000000 bl*val 1000000000 bl=Q;generalize (1000000000:Int)^i=Z;grind
 intro k
 induction k with
 |zero=>intro g _ h;omega
 |succ k ih=>
  intro g g0 gk g1 hg1 hgQ;unfold Ax7;have hT:=By3 g0 g1 c0 c1;have hU:=By3 g0 g1 b0 b1;rw[length_map];rw[E6 (i:=(bl.length:Int)-2) (by omega) (by omega),E6 (i:=(bl.length:Int)-1) (by omega) (by omega),E6 (i:=(i:Int)+(bl.length:Int)) (by omega) (by omega),E6 (i:=(i:Int)+(bl.length:Int)-2) (by omega) (by omega)];rw[show(bl.length:Int)-2=((bl.length-2:Nat):Int) by omega,show(bl.length:Int)-1=((bl.length-1:Nat):Int) by omega,show(i:Int)+(bl.length:Int)-2=((i+bl.length-2:Nat):Int) by omega,C3 (l:=bl) (show bl.length-2<bl.length by omega),C3 (l:=bl) (show bl.length-1<bl.length by omega),C3 (l:=al) (show i+bl.length-2<al.length by omega)];simp only[sb];rw[O1 (i:=bl[bl.length-2]) (by omega) (by omega),O1 (i:=bl[bl.length-1]) (by omega) (by omega),O1 (i:=al[i+bl.length]) (by omega) (by omega),O1 (i:=al[i+bl.length-1]) (by omega) (by omega),O1 (i:=al[i+bl.length-2]) (by omega) (by omega),O1 (i:=g*bl[bl.length-2]) (by omega) (by omega),O1 (i:=g*bl[bl.length-1]) (by omega) (by omega),O1 (i:=al[i+bl.length]*1000000000) (by omega) (by omega),O1 (i:=al[i+bl.length]*1000000000+al[i+bl.length-1]) (by omega) (by omega),O1 (i:=al[i+bl.length]*1000000000+al[i+bl.length-1]-g*bl[bl.length-1]) (by omega) (by omega)]
  have hcond:∀w:Int,(al[i+bl.length]*1000000000+al[i+bl.length-1]-g*bl[bl.length-1]<1000000000->w=(al[i+bl.length]*1000000000+al[i+bl.length-1]-g*bl[bl.length-1])*1000000000+al[i+bl.length-2])->
   (bif decide (g*bl[bl.length-2]>w) then some (decide (al[i+bl.length]*1000000000+al[i+bl.length-1]-g*bl[bl.length-1]<1000000000)) else some false)=some (decide (¬g*(bl[bl.length-1]*1000000000+bl[bl.length-2])<=(al[i+bl.length]*1000000000+al[i+bl.length-1])*1000000000+al[i+bl.length-2])):=by
   intro w hw;have em:g*(bl[bl.length-1]*1000000000+bl[bl.length-2])=g*bl[bl.length-1]*1000000000+g*bl[bl.length-2]:=by grind
   rw[em];by_cases hs:al[i+bl.length]*1000000000+al[i+bl.length-1]-g*bl[bl.length-1]<1000000000
   .rw[hw hs,dT_ hs];by_cases hc:g*bl[bl.length-2]>(al[i+bl.length]*1000000000+al[i+bl.length-1]-g*bl[bl.length-1])*1000000000+al[i+bl.length-2]
    .rw[dT_ hc,dT_ (by omega)];rfl
    .rw[dF_ hc,dF_ (by omega)];rfl
   .rw[dF_ hs,dF_ (show¬¬(g*bl[bl.length-1]*1000000000+g*bl[bl.length-2]<=(al[i+bl.length]*1000000000+al[i+bl.length-1])*1000000000+al[i+bl.length-2]) by omega)];cases decide (g*bl[bl.length-2]>w)<;>rfl
  rw[hcond _ (fun hs=>by rw[O1 (i:=(al[i+bl.length]*1000000000+al[i+bl.length-1]-g*bl[bl.length-1])*1000000000) (by omega) (by omega),O1 (by omega) (by omega)])];simp only[sb];by_cases hd:g*(bl[bl.length-1]*1000000000+bl[bl.length-2])<=(al[i+bl.length]*1000000000+al[i+bl.length-1])*1000000000+al[i+bl.length-2]
  .rw[dF_ (by simpa using hd)];simp only[cond_false];have hle:=Ef7 eA eb hX lo0 lo1 lb0 lb1 g0 g1 (by omega) hd;rw[D0 (by simp;omega)];rw[show 0+Int.toNat (i:Int)=i by omega];have hqg:C2 ql (i:Int)=some ql[i]:=C3 hq;by_cases hgq:g=val 1000000000 (al.drop i)/val 1000000000 bl
   .rw[hgq,e1,sb];dsimp only;rw[hbo1];simp only[show decide ((0:Int)>0)=false from rfl,cond_false];simp only[hqg,sb];rw[Ao4 (by omega) (by omega),wip i (by omega)]
   .have hgq1:g=val 1000000000 (al.drop i)/val 1000000000 bl+1:=by omega
    obtain⟨l2,bo2,f1,f2,f3,f4,f5,f6,f7⟩:=lose1 g g0 g1;have hmul:g*val 1000000000 bl=val 1000000000 bl*(val 1000000000 (al.drop i)/val 1000000000 bl)+val 1000000000 bl:=by
     rw[hgq1];generalize val 1000000000 (al.drop i)/val 1000000000 bl=Q;grind
    have hbo2:bo2=1:=by
     rcases f6 with h|h
     .exfalso;have:=(win l2 f2 f3 f4 f5).2.1;rw[f7,h,hmul]at this;omega
     .exact h
    rw[f1,sb];dsimp only;rw[hbo2];simp only[show decide ((1:Int)>0)=true from rfl,cond_true];rw[D0 (by simp;omega)];obtain⟨l3,c3,g1',g2,g3,g4,g5,g6,g7⟩:=Fe1 (fuel:=fuel) (p:=i) hb (by omega) f2 (by omega) hf;have hl3:l3=l1:=by
     refine uniq l3 g2 (by omega) (by rw[g4,f4]) (by rw[g5,f5]) ?_;have h3:=win l3 g2 (by omega) (by rw[g4,f4]) (by rw[g5,f5]);have h2:=win l2 f2 f3 f4 f5;have hv:val 1000000000 (l3.drop i)=val 1000000000 (l2.drop i)+val 1000000000 bl-c3*1000000000^(bl.length+1):=by
      refine canc ?_;have h3':=h3.1;have h2':=h2.1;rw[epow]at g7;generalize (1000000000:Int)^(bl.length+1)=Y at*;generalize (1000000000:Int)^i=Z at*;grind
     rw[hl1];rw[f7,hbo2,hmul]at hv;rcases g6 with h|h<;>rw[h]at hv<;>omega
    simp only[g1',sb,hl3,hqg];rw[O1 (i:=g-1) (by omega) (by omega),Ao4 (i:=g-1) (by omega) (by omega),wip i (by omega),hgq1,show val 1000000000 (al.drop i)/val 1000000000 bl+1-1=val 1000000000 (al.drop i)/val 1000000000 bl by omega]
  .rw[dT_ hd];simp only[cond_true];have hlt:=Ef8 eA eb hX lo1 lb0 g0 hbp (show _<g*_ by omega);have hm:(g-1)*bl[bl.length-1]=g*bl[bl.length-1]-bl[bl.length-1]:=by grind
   rw[O1 (i:=g-1) (by omega) (by omega)];exact ih (g-1) (by omega) (by omega) (by omega) (by omega) (by omega)
end
end Go.Proofs.YtfgbhfphjmmiaaaGreatDoor
end
section
namespace Go.Proofs.YtfgbhfphjmmiaaaGreatDoor
open Go Go.RowKit Kx Go.IntKind
set_option maxRecDepth 100000
set_option maxHeartbeats 4000000 in
section
theorem Eo4{fuel:Nat}{bl:List Int}{y4 V u:Int}(hb:dig 1000000000 bl)(hn:2<=bl.length)(hb1:0<bl[bl.length-1])(hy0:0<=y4)(hy1:y4<1000000000)(hu:u=1000000000/(y4+1))(hu0:0<u)(hu1:u<1000000000):
 ∀(m k:Nat) (ql al:List Int),m<k->al.length+1000000000<fuel->dig 1000000000 al->dig 1000000000 ql->al.length<=1073741824->m+bl.length<=al.length->ql.length<=1073741824->m<=ql.length->ql.take m=List.replicate m 0->val 1000000000 (al.drop m)<val 1000000000 bl->val 1000000000 bl*val 1000000000 ql+val 1000000000 al=V->
 ∃q r,Ab2 fuel bl y4 k ((m:Int)-1) ql al=some (q,r)/\dig 1000000000 q/\dig 1000000000 r/\q.length=ql.length/\r.length<=al.length/\val 1000000000 q=V/val 1000000000 bl/\val 1000000000 r=V%val 1000000000 bl/u
 |0,0,_,_,h,_,_,_,_,_,_,_,_,_,_=>absurd h (by omega)
 |m+1,0,_,_,h,_,_,_,_,_,_,_,_,_,_=>absurd h (by omega)
 |0,k+1,ql,al,_,hf,ha,hq,hal,hl,hql,_,_,hA,hV=>by
  rw[drop_zero]at hA;unfold Ab2;rw[dF_ (by omega)];simp only[cond_false];rw[length_map,Fi4 (by omega),sb];have hz:=Br3 ha (n:=bl.length) (by omega) (Int.lt_trans hA (vlt hb));have hv:val 1000000000 (al.take bl.length)=val 1000000000 al:=by rw[Ao0 al bl.length (by omega),hz];omega
  have hv0:=vnn ha;rw[P7 (F3 ha _) (by rw[length_take];omega) (by rw[length_take];omega),sb,hv,Gh7 hv0];dsimp only;rw[O1 (i:=y4) (by omega) (by omega),O1 (i:=y4+1) (by omega) (by omega),(tdm (show(0:Int)<=1000000000 by decide)).1,<-hu,O1 (by omega) (by omega),Ao4 (by omega) (by omega)];have hlen:(dg 1000000000 (val 1000000000 al)).length<=al.length:=G7 hB1 (vlt ha);obtain⟨q,e1,e2,e3,e4⟩:=Cu5 (fuel:=fuel) (H3 hB1 _ hv0) (by omega) hu0 hu1 (by omega);rw[e1,sb];have hpos:0<val 1000000000 bl:=by omega
  have d1:V/val 1000000000 bl=val 1000000000 ql:=by rw[<-hV,Int.mul_add_ediv_left _ _ (by omega),bs_ hv0 hA];omega
  have d2:V%val 1000000000 bl=val 1000000000 al:=by rw[<-hV,cx_];exact a9_ hv0 hA
  exact⟨ql,q,rfl,hq,e2,rfl,by omega,d1.symm,by rw[e4,I9 hB1 _ hv0,d2]⟩
 |m+1,k+1,ql,al,hk,hf,ha,hq,hal,hl,hql,hmq,hz,hA,hV=>by
  unfold Ab2;rw[show(((m+1:Nat):Int)-1)=(m:Int) by omega,dT_ (by omega)];simp only[cond_true];obtain⟨al',e1,e2,e3,e4,e5⟩:=Gd7 (fuel:=fuel) (rec_:=Ab2 fuel bl y4 k) (ql:=ql) (i:=m) (by omega) ha hb hn (by omega) hal (by omega) hA hb1;obtain⟨t0,t1⟩:=Ao3 ha (show m+bl.length<al.length by omega);obtain⟨s0,s1⟩:=Ao3 ha (show m+bl.length-1<al.length by omega);obtain⟨c0,c1⟩:=Ao3 hb (show bl.length-1<bl.length by omega);obtain⟨X,lo,lob,hX,lo0,lo1,lb0,lb1,eb,eA,ez,hAB⟩:=Fx0 ha hb hn (show m+bl.length<al.length by omega) hA;rw[length_map,E6 (i:=(m:Int)+(bl.length:Int)) (by omega) (by omega),E6 (i:=(m:Int)+(bl.length:Int)-1) (by omega) (by omega),E6 (i:=(bl.length:Int)-1) (by omega) (by omega)];rw[show(m:Int)+(bl.length:Int)=((m+bl.length:Nat):Int) by omega,show((m+bl.length:Nat):Int)-1=((m+bl.length-1:Nat):Int) by omega,show(bl.length:Int)-1=((bl.length-1:Nat):Int) by omega,C3 (show m+bl.length<al.length by omega),C3 (show m+bl.length-1<al.length by omega),C3 (show bl.length-1<bl.length by omega)];simp only[sb];have hT0:0<=al[m+bl.length]*1000000000+al[m+bl.length-1]:=by omega
  have hg0:0<=(al[m+bl.length]*1000000000+al[m+bl.length-1])/bl[bl.length-1]:=a3_ hT0 (by omega);have hg1:(al[m+bl.length]*1000000000+al[m+bl.length-1])/bl[bl.length-1]<=al[m+bl.length]*1000000000+al[m+bl.length-1]:=b8_ _ hT0;rw[O1 (i:=bl[bl.length-1]) (by omega) (by omega),D0 (by simp;omega),O1 (i:=al[m+bl.length]) (by omega) (by omega),O1 (i:=al[m+bl.length-1]) (by omega) (by omega),O1 (i:=al[m+bl.length]*1000000000) (by omega) (by omega),O1 (i:=al[m+bl.length]*1000000000+al[m+bl.length-1]) (by omega) (by omega),(tdm hT0).1,O1 hg0 (by omega)];have hbp:0<val 1000000000 bl:=by
   have:=ae_ (show 1<=bl[bl.length-1]*1000000000+bl[bl.length-2] by have:=(Ao3 hb (show bl.length-2<bl.length by omega)).1;omega) (ai_ hX);omega
  have hA0:=vnn (L8 ha m);have hQ0:0<=val 1000000000 (al.drop m)/val 1000000000 bl:=a3_ hA0 (by omega);have hQ1:val 1000000000 (al.drop m)/val 1000000000 bl<1000000000:=a7_ hbp (by rw[bb_];exact hAB);have hfirst:val 1000000000 (al.drop m)/val 1000000000 bl<=(al[m+bl.length]*1000000000+al[m+bl.length-1])/bl[bl.length-1]:=by
   refine Ba7 (al2:=al[m+bl.length-2]*X+lo) (Y:=1000000000*X) ?_ ?_ (by omega) ?_ (by omega) hA0
   .rw[eA];grind
   .have:=ae_ (show al[m+bl.length-2]<=999999999 by have:=(Ao3 ha (show m+bl.length-2<al.length by omega)).2;omega) (ai_ hX);omega
   .rw[eb];have:=bk_ (Ao3 hb (show bl.length-2<bl.length by omega)).1 (ai_ hX);have e:(bl[bl.length-1]*1000000000+bl[bl.length-2])*X=bl[bl.length-1]*(1000000000*X)+bl[bl.length-2]*X:=by grind
    omega
  have hmul:=cn_ (al[m+bl.length]*1000000000+al[m+bl.length-1]) (show bl[bl.length-1]≠0 by omega);have hgl:∀g:Int,g=(bif decide (999999999<(al[m+bl.length]*1000000000+al[m+bl.length-1])/bl[bl.length-1]) then 999999999 else(al[m+bl.length]*1000000000+al[m+bl.length-1])/bl[bl.length-1])->0<=g/\g<1000000000/\g*bl[bl.length-1]<=al[m+bl.length]*1000000000+al[m+bl.length-1]/\val 1000000000 (al.drop m)/val 1000000000 bl<=g:=by
   intro g hg;by_cases hc:999999999<(al[m+bl.length]*1000000000+al[m+bl.length-1])/bl[bl.length-1]
   .rw[dT_ hc]at hg;simp only[cond_true]at hg;have:=ae_ (show g<=(al[m+bl.length]*1000000000+al[m+bl.length-1])/bl[bl.length-1] by omega) c0;exact⟨by omega,by omega,by omega,by omega⟩
   .rw[dF_ hc]at hg;simp only[cond_false]at hg;rw[hg];exact⟨by omega,by omega,hmul,hfirst⟩
  obtain⟨g0,g1,g2,g3⟩:=hgl _ rfl;rw[e5 fuel _ g0 (by omega) g1 g2 g3];have hqm:ql[m]=0:=by
   have:=congrArg (fun l=>l[m]?) hz;simp only[getElem?_take_of_lt (show m<m+1 by omega)]at this;rw[List.getElem?_eq_getElem (by omega),List.getElem?_replicate,if_pos (by omega)]at this;exact av_ this
  obtain⟨q,r,f1,f2,f3,f4,f5,f6,f7⟩:=Eo4 (fuel:=fuel) (V:=V) hb hn hb1 hy0 hy1 hu hu0 hu1 m k (ql.set m (val 1000000000 (al.drop m)/val 1000000000 bl)) al' (by omega) (by omega) e1 (Ai7 hq _ ⟨hQ0,hQ1⟩) (by omega) (by omega) (by simpa using hql) (by simp;omega) (by
   rw[take_set_of_le (ac_ _)];have:=congrArg (List.take m) hz;rw[take_take,br_ (by omega),take_replicate,br_ (by omega)]at this;exact this) e4 (by
   rw[Aj4 _ _ (by omega),e3,hqm,<-hV];generalize val 1000000000 (al.drop m)/val 1000000000 bl=Q;generalize (1000000000:Int)^m=Z;grind)
  exact⟨q,r,f1,f2,f3,by simpa using f4,by omega,f6,f7⟩
theorem dg1{y:Int}(h0:0<y)(h1:y<1000000000):dg 1000000000 y=[y]:=by
 have:=Cf9 hB1 (x:=y) (v:=0) ⟨by omega,h1⟩ (Int.le_refl _) (by omega);rw[Int.mul_zero,c6_]at this;rw[this,E9 (Int.le_refl _)]
set_option maxHeartbeats 4000000 in
theorem Bj0{fuel:Nat}{a b:Int}(ha:0<=a)(hb:0<b)(hla:(dg 1000000000 a).length<=1073741820)(hlb:(dg 1000000000 b).length<=1073741820)(hf:(dg 1000000000 a).length+(dg 1000000000 b).length+1000000010<fuel):
 ∃q r,Ew6 fuel (dg 1000000000 a) (dg 1000000000 b)=some (q,r)/\dig 1000000000 q/\dig 1000000000 r/\q.length<=(dg 1000000000 a).length+1/\r.length<=(dg 1000000000 a).length+1/\val 1000000000 q=a/b/\val 1000000000 r=a%b:=by
 have da:=H3 hB1 a ha;have db:=H3 hB1 b (by omega);have va:=I9 hB1 a ha;have vb:=I9 hB1 b (by omega);unfold Ew6;rw[Ae5 ha (by omega) (by omega) (by omega) (by omega),sb];by_cases hab:a<b
 .rw[D5 hab];refine⟨[],dg 1000000000 a,rfl,J3,da,by simp,by omega,?_,?_⟩
  .rw[bs_ ha hab];rfl
  .rw[va,a9_ ha hab]
 .have h0:decide (M8 a b<0)=false:=by
   apply dF_;unfold M8;rw[if_neg hab];split<;>omega
  rw[h0];simp only[cond_false];rw[length_map];have hbne:=Bf4 hB1 hb;have hbl:=aq_.2 hbne;by_cases h1:(dg 1000000000 b).length=1
  .rw[show(((dg 1000000000 b).length:Int)==1)=true by rw[h1];rfl];simp only[cond_true];have hb9:b<1000000000:=by
    have:=Ak6 hB1 (show 0<=b by omega);rw[h1]at this;simpa using this
   rw[dg1 hb hb9];rw[show C2 [b] 0=some b from rfl,sb];obtain⟨q,e1,e2,e3,e4⟩:=Cu5 (fuel:=fuel) da (by omega) hb hb9 (by omega);rw[e1,sb];rw[va]at e4;have hr0:=a2_ a (show b≠0 by omega);have hr1:=a0_ a hb;refine⟨q,[a%b],by rw[va],e2,E1.2 ⟨⟨hr0,by omega⟩,J3⟩,by omega,by simp,e4,by simp[val]⟩
  .rw[show(((dg 1000000000 b).length:Int)==1)=false by simp;omega];simp only[cond_false];obtain⟨l0,y4,el,hy0,hy1⟩:=Aq8 hB1 hb;have hl0:(dg 1000000000 b).length=l0.length+1:=by rw[el];simp
   have hg:C2 (dg 1000000000 b) (((dg 1000000000 b).length:Int)-1)=some y4:=by
    rw[show((dg 1000000000 b).length:Int)-1=((l0.length:Nat):Int) by omega,D4,el];simp
   have hu0:0<1000000000/(y4+1):=by
    have:=cd_ (show 0<y4+1 by omega) (show 1*(y4+1)<=1000000000 by omega);omega
   have hu1:1000000000/(y4+1)<1000000000:=a7_ (by omega) (by omega);have huy:=cn_ 1000000000 (show y4+1≠0 by omega);rw[E6 (i:=((dg 1000000000 b).length:Int)-1) (by omega) (by omega),hg];simp only[sb];rw[O1 (i:=y4) (by omega) (by omega),O1 (i:=y4+1) (by omega) (by omega),D0 (by simp;omega),(tdm (show(0:Int)<=1000000000 by decide)).1,O1 (i:=1000000000/(y4+1)) (by omega) (by omega),Ao4 (i:=1000000000/(y4+1)) (by omega) (by omega)];rw[Db2];obtain⟨u,hu⟩:∃u,u=1000000000/(y4+1):=⟨_,rfl⟩
   rw[<-hu]at hu0 hu1 huy⊢;obtain⟨al,p1,p2,p3,p4⟩:=Ca3 (fuel:=fuel) da (by omega) (by omega) hu1 (by omega);obtain⟨bl',r1,r2,r3,r4⟩:=Ca3 (fuel:=fuel) db (by omega) (by omega) hu1 (by omega);rw[p1,sb,r1,sb,length_map,Fi4 (by omega),sb];rw[va]at p4;rw[vb]at r4
   have hbU:b<(y4+1)*1000000000^l0.length:=by
    have h1:=vb;rw[el,Aj3]at h1;have h2:=Ao1 (show(0:Int)<1000000000 by decide) (Ai6.1 (el▸db)).1;have h3:val 1000000000 [y4]=y4:=by simp[val]
    rw[h3]at h1;have h4:(y4+1)*1000000000^l0.length=1000000000^l0.length*y4+1000000000^l0.length:=by grind
    omega
   have hbuP:b*u<1000000000^(dg 1000000000 b).length:=by
    have h1:=cb_ hbU hu0;have h2:=ae_ huy (ai_ (p9 l0.length));have h3:(y4+1)*1000000000^l0.length*u=u*(y4+1)*1000000000^l0.length:=by grind
    rw[hl0,a1_];have h4:(1000000000:Int)^l0.length*1000000000=1000000000*1000000000^l0.length:=by grind
    omega
   have hbL:1000000000^l0.length<=b:=by
    have:=Ed5 hB1 hb
    rwa [hl0,cm_]at this
   have hbz:=Br3 r2 (n:=(dg 1000000000 b).length) (by omega) (by rw[r4];exact hbuP);have hvb:val 1000000000 (bl'.take (dg 1000000000 b).length)=b*u:=by
    rw[<-r4,Ao0 bl' (dg 1000000000 b).length (by omega),hbz];omega
   obtain⟨bl,ebl⟩:∃bl,bl=bl'.take (dg 1000000000 b).length:=⟨_,rfl⟩
   rw[<-ebl]at hvb⊢;have hbll:bl.length=(dg 1000000000 b).length:=by rw[ebl,length_take];omega
   have hbld:dig 1000000000 bl:=by rw[ebl];exact F3 r2 _
   have hbu:b<=b*u:=by
    have:=ap_ (show 1<=u by omega) (show 0<=b by omega);omega
   have hb1:0<bl[bl.length-1]'(by omega):=by
    have e1:=Ao0 bl (bl.length-1) (by omega);have e2:=Ag2 (l:=bl) (i:=bl.length-1) (by omega);have e3:=O4 (l:=bl) (i:=bl.length-1+1) (by omega);have e4:=vtl hbld (bl.length-1) (by omega);have e5:=(Ao3 hbld (show bl.length-1<bl.length by omega)).1;by_cases h0:bl[bl.length-1]'(by omega)=0
    .exfalso;rw[h0,e3]at e2;rw[e2,hvb]at e1;rw[show bl.length-1=l0.length by omega]at e1 e4;omega
    .omega
   have hla0:(dg 1000000000 b).length<=(dg 1000000000 a).length:=by
    rcases a8_ (dg 1000000000 a).length (dg 1000000000 b).length with h|h
    .have:=K1 hB1 ha (show 0<=b by omega) h;omega
    .exact h
   rw[length_map,E6 (by omega) (by omega),show(al.length:Int)-(bl.length:Int)=((al.length-bl.length:Nat):Int) by omega,Bb7 (by omega),sb,wip _ (by omega)];obtain⟨q,r,f1,f2,f3,f4,f5,f6,f7⟩:=Eo4 (fuel:=fuel) (V:=a*u) hbld (by omega) hb1 (by omega) hy1 hu hu0 hu1 (al.length-bl.length) fuel (List.replicate (al.length-bl.length) 0) al (by omega) (by omega) p2 (Ak7 (by decide) _) (by omega) (by omega) (by simp;omega) (by simp) (by simp) (by
    have e1:=Ao0 al (al.length-bl.length) (by omega);have e2:=vnn (F3 p2 (al.length-bl.length));have e3:=Ak6 hB1 ha;have e5:=cb_ e3 hu0;have e6:(1000000000:Int)^(dg 1000000000 a).length=1000000000^(al.length-bl.length)*1000000000^l0.length:=by rw[<-Int.pow_add];congr 1;omega
    have e7:=ae_ hbL (ai_ hu0);rw[hvb];have e8:1000000000^(al.length-bl.length)*val 1000000000 (al.drop (al.length-bl.length))<1000000000^(al.length-bl.length)*(1000000000^l0.length*u):=by
     rw[e6]at e5;have:(1000000000:Int)^(al.length-bl.length)*1000000000^l0.length*u=1000000000^(al.length-bl.length)*(1000000000^l0.length*u):=Int.mul_assoc ..;omega
    have e9:=Int.lt_of_mul_lt_mul_left e8 (ai_ (p9 _));omega) (by rw[Ao2,p4];omega)
   rw[f1];refine⟨q,r,rfl,f2,f3,by simp at f4;omega,by omega,?_,?_⟩
   .rw[f6,hvb,Int.mul_ediv_mul_of_pos_left _ _ hu0]
   .rw[f7,hvb,bb_ a u,bb_ b u,Int.mul_emod_mul_of_pos _ _ hu0,bb_ u,Int.mul_ediv_cancel _ (by omega)]
end
end Go.Proofs.YtfgbhfphjmmiaaaGreatDoor
end
section
namespace Go.Proofs.YtfgbhfphjmmiaaaGreatDoor
open Go Go.RowKit Kx Go.IntKind
set_option maxRecDepth 100000
section
theorem Gs2:ln 0=0:=by unfold ln;rw[show(((0:Int).natAbs:Nat):Int)=0 from rfl,E9 (Int.le_refl _)];rfl
theorem Dq8(n:Int):(n.natAbs:Int)<1000000000^ln n:=Ak6 hB1 (by omega)
theorem Da0{n:Int}{L:Nat}(h:(n.natAbs:Int)<1000000000^L):ln n<=L:=G7 hB1 h
theorem Dq9{a b:Int}(h:a.natAbs<=b.natAbs):ln a<=ln b:=Da0 (Int.lt_of_le_of_lt (by omega) (Dq8 b))
theorem Bb5(a b:Int):ln (a*b)<=ln a+ln b:=Da0 (by
 rw[bh_,b2_,Int.pow_add];have h1:=Dq8 a;have h2:=Dq8 b;have:=p9 (ln a);have:=p9 (ln b);have h3:=Int.mul_le_mul (ai_ h1) (ai_ h2) (by omega) (by omega);rcases bz_ h3 with h|h
 .exact h
 .exfalso;have h4:=cy_ h2 (show(0:Int)<1000000000^ln a by omega);have h5:=ae_ (ai_ h1) (show(0:Int)<=(b.natAbs:Int) by omega);omega)
theorem Fw0(a b:Int):ln (a+b)<=max (ln a) (ln b)+1:=Da0 (by
 have h1:=Dq8 a;have h2:=Dq8 b;have h3:=E8 hB1 (Nat.le_max_left (ln a) (ln b));have h4:=E8 hB1 (Nat.le_max_right (ln a) (ln b));rw[a1_];omega)
theorem Eg0{a:Int}(h:(a.natAbs:Int)<1000000000000000000):ln a<=2:=Da0 (by
 have:(1000000000:Int)^2=1000000000000000000:=by decide
 omega)
theorem Eo5{fuel:Nat}{a b:Int}(hb:b≠0)(hd:b∣a)(ha:ln a<=1073741800)(hlb:ln b<=1073741800)(hf:ln a+ln b+1000000010<fuel):Ev3 fuel (W a) (W b)=some (W (a/b),W 0):=by
 unfold ln at*;obtain⟨q,r,e1,e2,e3,e4,e5,e6,e7⟩:=Bj0 (fuel:=fuel) (a:=(a.natAbs:Int)) (b:=(b.natAbs:Int)) (by omega) (by omega) (by omega) (by omega) (by omega);have hdn:(b.natAbs:Int)∣(a.natAbs:Int):=by exact_mod_cast Int.natAbs_dvd_natAbs.2 hd
 have hr:(a.natAbs:Int)%(b.natAbs:Int)=0:=Int.emod_eq_zero_of_dvd hdn;unfold Ev3;show Option.bind (Ew6 fuel (dg 1000000000 (a.natAbs:Int)) (dg 1000000000 (b.natAbs:Int))) _=_;rw[e1,sb];dsimp only;rw[P7 e2 (by omega) (by omega),sb,P7 e3 (by omega) (by omega),sb,e6,e7,hr];have h0:sg (W a).neg 0=0:=by unfold sg;cases (W a).neg<;>rfl
 rw[h0,Cl0,sb,I1];simp only[bne_self_eq_false,cond_false,sb];congr 2;congr 1;show sg (!(decide (a<0)==decide (b<0))) _=_;obtain⟨c,rfl⟩:=hd;rw[bl_ _ hb];have hc:((b*c).natAbs:Int)/(b.natAbs:Int)=(c.natAbs:Int):=by
  rw[bh_];push_cast;exact bl_ _ (by omega)
 rw[hc];unfold sg;by_cases hc0:c=0
 .subst hc0;simp
 by_cases h1:b<0<;>by_cases h2:c<0
 .have:=ce_ h1 h2;rw[dF_ (show¬b*c<0 by omega),dT_ h1];simp;omega
 .have:=Int.mul_neg_of_neg_of_pos h1 (show 0<c by omega);rw[dT_ (show b*c<0 by omega),dT_ h1];simp;omega
 .have:=Int.mul_neg_of_pos_of_neg (show 0<b by omega) h2;rw[dT_ (show b*c<0 by omega),dF_ h1];simp;omega
 .have:=cz_ (show 0<b by omega) (show 0<c by omega);rw[dF_ (show¬b*c<0 by omega),dF_ h1];simp;omega
theorem Dy8{m:List Int}(hm:dig 1000000000 m):∀(i:Nat) (v:Int),i<=m.length->0<=v->v*1000000000^i+val 1000000000 (m.take i)<18446744073709551616->Ab3 (Bg0 m i) v=some (v*1000000000^i+val 1000000000 (m.take i))
 |0,v,_,_,_=>by
  unfold Bg0 Ab3;simp[val]
 |i+1,v,hi,hv,hb=>by
  obtain⟨a1,a2⟩:=Ao3 hm (show i<m.length by omega);unfold Bg0 Ab3;rw[Fv2 (by omega)];dsimp only;rw[Fj3 (show i<m.length by omega)]at hb⊢;have e:v*1000000000^(i+1)+(val 1000000000 (m.take i)+m[i]*1000000000^i)=(v*1000000000+m[i])*1000000000^i+val 1000000000 (m.take i):=by
   rw[a1_];grind
  rw[e]at hb⊢;have h1:=vnn (F3 hm i);have h2:=ap_ (show(1:Int)<=1000000000^i by have:=p9 i;omega) (show 0<=v*1000000000+m[i] by omega);rw[O1 (i:=v*1000000000) (by omega) (by omega),O1 (i:=m[i]) (by omega) (by omega),O1 (i:=v*1000000000+m[i]) (by omega) (by omega)];exact Dy8 hm i _ (by omega) (by omega) hb
theorem Cv6{fuel:Nat}{a:Int}(ha:0<=a)(h:a<18446744073709551616)(hf:10<fuel):Fk1 fuel (dg 1000000000 a)=some a:=by
 have hl:(dg 1000000000 a).length<=3:=G7 hB1 (by
  have:(1000000000:Int)^3=1000000000000000000000000000:=by decide
  omega)
 unfold Fk1 Fk5;have hv:=I9 hB1 a ha;rw[sb,Dj6 (by omega) (by omega),sb,Dy8 (H3 hB1 a ha) _ 0 (ac_ _) (Int.le_refl _) (by rw[take_length,hv];omega),take_length,hv];congr 1;omega
theorem Al4{a b:Int}(ha:0<=a)(hb:0<=b):Int.gcd a b=Int.gcd b (a%b):=by
 obtain⟨m,rfl⟩:=cj_ ha;obtain⟨n,rfl⟩:=cj_ hb;rw[<-Int.natCast_emod,Int.gcd_natCast_natCast,Int.gcd_natCast_natCast,Nat.gcd_comm,Nat.gcd_rec,Nat.gcd_comm]
theorem Fv1:∀(v:Int),0<=v->v<18446744073709551616->∀(k:Nat) (acc:List Int),(dg 1000000000 v).length<k->acc.length+(dg 1000000000 v).length<=2147483648->Ah7 k v acc=some ⟨false,acc++dg 1000000000 v⟩:=by
 intro v hv h64 k acc hk hl;have e:∀(k:Nat) (v:Int) (acc:List Int),Ah7 k v acc=W3 0 k v acc:=by
  intro k
  induction k with
  |zero=>intro v acc;rfl
  |succ k ih=>
   intro v acc;unfold Ah7 W3;have:Ah7 k=W3 0 k:=by funext v acc;exact ih v acc
   rw[this];rfl
 rw[e,Bq9 v hv h64 k acc hk hl];rfl
theorem Gp1{v:Int}(h:0<=v):W v=⟨false,dg 1000000000 v⟩:=by
 unfold W;rw[dF_ (by omega),show((v.natAbs:Nat):Int)=v by omega]
theorem Ep7{fuel:Nat}(hf:10<fuel):∀(k:Nat) (x y:Int),y.toNat<k->0<=x->0<=y->x<18446744073709551616->y<18446744073709551616->Ax2 fuel k x y=some (W (Int.gcd x y))
 |0,_,_,h,_,_,_,_=>absurd h (by omega)
 |k+1,x,y,hk,hx,hy,hx1,hy1=>by
  unfold Ax2;by_cases h:y>0
  .rw[dT_ h,D0 (by simp;omega)];simp only[cond_true];have h1:=a2_ x (show y≠0 by omega);have h2:=a0_ x h;rw[(tdm hx).2,Ep7 hf k y (x%y) (by omega) hy h1 hy1 (by omega),<-Al4 hx hy]
  .rw[dF_ h];simp only[cond_false];have:y=0:=by omega
   subst this;have hl:(dg 1000000000 x).length<=3:=G7 hB1 (by
    have:(1000000000:Int)^3=1000000000000000000000000000:=by decide
    omega)
   rw[Fv1 x hx hx1 fuel [] (by omega) (by simp;omega),co_,Gp1 (by omega),show((x.natAbs:Nat):Int)=x by omega];rfl
theorem Ep6{fuel:Nat}{L:Nat}(hL:L<=536870900)(hf:18446744073709551616+L<fuel):∀(k:Nat) (a b:Int),b.toNat<k->0<=a->0<=b->(dg 1000000000 a).length<=L->(dg 1000000000 b).length<=L->Ap3 fuel k (dg 1000000000 a) (dg 1000000000 b)=some (W (Int.gcd a b))
 |0,_,_,h,_,_,_,_=>absurd h (by omega)
 |k+1,a,b,hk,ha,hb,hla,hlb=>by
  unfold Ap3;rw[length_map];by_cases h0:b=0
  .subst h0;have hl:(dg 1000000000 (0:Int)).length=0:=by rw[E9 (Int.le_refl _)];rfl
   rw[hl,dF_ (by omega),co_];simp only[cond_false];rw[show(((0:Nat):Int)==0)=true from rfl];simp only[cond_true];rw[P7 (H3 hB1 a ha) (by omega) (by omega),sb,I9 hB1 a ha];unfold sg;simp only[cond_false];rw[show((a.natAbs:Nat):Int)=a by omega]
  .have hbp:0<b:=by omega
   have h1:=a2_ a (show b≠0 by omega);have h2:=a0_ a hbp;obtain⟨q,r,e1,e2,e3,e4,e5,e6,e7⟩:=Bj0 (fuel:=fuel) ha hbp (by omega) (by omega) (by omega);have hw:Be7 fuel false r=some ⟨false,dg 1000000000 (a%b)⟩:=by
    rw[P7 e3 (by omega) (by omega),e7,Gh7 h1];rfl
   have hlr:(dg 1000000000 (a%b)).length<=(dg 1000000000 b).length:=by
    rcases a8_ (dg 1000000000 b).length (dg 1000000000 (a%b)).length with h|h
    .have:=K1 hB1 hb h1 h;omega
    .exact h
   by_cases hc:(dg 1000000000 b).length>2
   .rw[dT_ (by omega)];simp only[cond_true];rw[e1,sb];dsimp only;rw[hw,sb];dsimp only;rw[Ep6 hL hf k b (a%b) (by omega) hb h1 hlb (by omega),<-Al4 ha hb]
   .rw[dF_ (by omega)];simp only[cond_false];have hne:=aq_.2 (Bf4 hB1 hbp);rw[show(((dg 1000000000 b).length:Int)==0)=false by rw[beq_eq_false_iff_ne];omega];simp only[cond_false];have hb18:b<1000000000000000000:=by
     have:=Ak6 hB1 hb;have h3:=E8 hB1 (show(dg 1000000000 b).length<=2 by omega);have:(1000000000:Int)^2=1000000000000000000:=by decide
     omega
    rw[e1,sb,Cv6 hb (by omega) (by omega),sb];dsimp only;rw[hw,sb];dsimp only;rw[Cv6 h1 (by omega) (by omega),sb,Ep7 (by omega) fuel b (a%b) (by omega) hb h1 (by omega) (by omega),<-Al4 ha hb]
theorem Ep8{fuel:Nat}{a b:Int}(ha:ln a<=536870900)(hb:ln b<=536870900)(hf:18446744073709551616+536870900+b.natAbs<fuel):Ev0 fuel (W a) (W b)=some (W (Int.gcd a b)):=by
 unfold Ev0;show Ap3 fuel fuel (dg 1000000000 (a.natAbs:Int)) (dg 1000000000 (b.natAbs:Int))=_;unfold ln at*;rw[Ep6 (L:=536870900) (ac_ _) (by omega) fuel (a.natAbs:Int) (b.natAbs:Int) (by omega) (by omega) (by omega) ha hb];congr 2
def R(r:Rat):A7:=⟨W r.num,W (r.den:Int)⟩
def nsz(L:Nat)(r:Rat):Prop:=ln r.num<=L/\ln (r.den:Int)<=L
theorem Cj0{fuel:Nat}{n d:Int}(hd:0<d)(ha:ln n<=536870900)(hb:ln d<=536870900)(hf:18446744073709551616+10000000000+d.natAbs<fuel):Ej8 fuel (W n) (W d)=some (R (Rat.divInt n d)):=by
 have hg0:0<Int.gcd n d:=cs_ _ (by omega);have hgn:((Int.gcd n d:Nat):Int)∣n:=cv_ ..;have hgd:((Int.gcd n d:Nat):Int)∣d:=db_ ..;have hgle:((Int.gcd n d:Nat):Int)<=d:=Int.le_of_dvd hd hgd;have hR:R (Rat.divInt n d)=⟨W (n/(Int.gcd n d:Nat)),W (d/(Int.gcd n d:Nat))⟩:=by
  unfold R;rw[da_,ct_,if_neg (by omega),b9_ hd,Int.one_mul,c7_];congr 2;push_cast;rw[show((d.natAbs:Nat):Int)=d by omega]
 have hlg:ln ((Int.gcd n d:Nat):Int)<=ln d:=Dq9 (by omega);unfold Ej8;rw[Ep8 ha hb (by omega),sb];have hdn:(W d).neg=false:=dF_ (by omega);rw[hdn];simp only[cond_false];have hwn:(W ((Int.gcd n d:Nat):Int)).neg=false:=dF_ (show¬((Int.gcd n d:Nat):Int)<0 by omega);have hwm:(W ((Int.gcd n d:Nat):Int)).mag=dg 1000000000 ((Int.gcd n d:Nat):Int):=by rw[Gp1 (by omega)]
 rw[hwn,hwm,length_map];have ho:(bif decide ((((dg 1000000000 ((Int.gcd n d:Nat):Int)).length:Nat):Int)>1) then some true else bif false then some true else (C2 (dg 1000000000 ((Int.gcd n d:Nat):Int)) 0).bind fun y12=>some (y12 !=1))=some (!decide (Int.gcd n d=1)):=by
  by_cases hl:(dg 1000000000 ((Int.gcd n d:Nat):Int)).length>1
  .rw[dT_ (by omega),dF_ (fun h=>by
    rw[h]at hl;rw[show((1:Nat):Int)=1 from rfl,dg1 (by decide) (by decide)]at hl;simp at hl)]
   rfl
  .rw[dF_ (by omega)];simp only[cond_false];have h9:((Int.gcd n d:Nat):Int)<1000000000:=by
    have:=Ak6 hB1 (show 0<=((Int.gcd n d:Nat):Int) by omega);have h3:=E8 hB1 (show(dg 1000000000 ((Int.gcd n d:Nat):Int)).length<=1 by omega);rw[Int.pow_one]at h3;omega
   rw[dg1 (by omega) h9,show C2 [((Int.gcd n d:Nat):Int)] 0=some ((Int.gcd n d:Nat):Int) from rfl,sb];congr 1;by_cases h1:Int.gcd n d=1
   .rw[h1];rfl
   .rw[dF_ h1];simp;omega
 rw[ho,sb];by_cases h1:Int.gcd n d=1
 .rw[dT_ h1];simp only[Bool.not_true,cond_false];rw[hR,h1];simp
 .rw[dF_ h1];simp only[Bool.not_false,cond_true];rw[Eo5 (by omega) hgn (by omega) (by omega) (by omega),sb,Eo5 (by omega) hgd (by omega) (by omega) (by omega),sb,hR]
theorem Gl4{fuel:Nat}{n d:Int}(h0: -9223372036854775808<=n)(h1:n<9223372036854775808)(hd:0<d)(hd1:d<9223372036854775808)(hf:40000000000000000000<fuel):F51 fuel n d=some (R (Rat.divInt n d)):=by
 have hl:∀a:Int,(a.natAbs:Int)<=9223372036854775808->ln a<=3:=fun a h=>Da0 (by
  have:(1000000000:Int)^3=1000000000000000000000000000:=by decide
  omega)
 have:=hl n (by omega);have:=hl d (by omega);unfold F51;rw[An2 h0 h1 (by omega),sb,An2 (by omega) hd1 (by omega),sb,Cj0 hd (by omega) (by omega) (by omega),sb]
theorem den_pos(r:Rat):(0:Int)<(r.den:Int):=by have:=r.den_pos;omega
theorem Ff3{fuel L:Nat}{x y:Rat}(hx:nsz L x)(hy:nsz L y)(hL:L<=100000000)(hf:18446744073709551616+10000000000+x.den*y.den<fuel):F54 fuel (R x) (R y)=some (R (x+y)):=by
 obtain⟨x1,x2⟩:=hx;obtain⟨y1,y2⟩:=hy;have m1:=Bb5 x.num y.den;have m2:=Bb5 y.num x.den;have m3:=Bb5 x.den y.den;have a1:=Fw0 (x.num*y.den) (y.num*x.den);have hp:=cz_ (den_pos x) (den_pos y);unfold F54;show Option.bind (Bs1 fuel (W x.num) (W y.den)) (fun y1=>Option.bind (Bs1 fuel (W y.num) (W x.den)) fun y2=>Option.bind (Et9 fuel y1 y2) fun y3=>Option.bind (Bs1 fuel (W x.den) (W y.den)) fun y4=>Option.bind (Ej8 fuel y3 y4) fun y5=>some y5)=_;rw[Bb8 (by omega) (by omega),sb,Bb8 (by omega) (by omega),sb,Fs1 (by omega) (by omega) (by omega),sb,Bb8 (by omega) (by omega),sb,Cj0 hp (by omega) (by omega) (by
  have:((x.den:Int)*(y.den:Int)).natAbs=x.den*y.den:=by rw[<-b2_,a5_]
  omega),sb]
 congr 2;rw[Rat.add_def',<-Rat.divInt_ofNat];push_cast;rfl
theorem Ff6{fuel L:Nat}{x y:Rat}(hx:nsz L x)(hy:nsz L y)(hL:L<=100000000)(hf:18446744073709551616+10000000000+x.den*y.den<fuel):F86 fuel (R x) (R y)=some (R (x*y)):=by
 obtain⟨x1,x2⟩:=hx;obtain⟨y1,y2⟩:=hy;have m1:=Bb5 x.num y.num;have m3:=Bb5 x.den y.den;have hp:=cz_ (den_pos x) (den_pos y);unfold F86;show Option.bind (Bs1 fuel (W x.num) (W y.num)) (fun y1=>Option.bind (Bs1 fuel (W x.den) (W y.den)) fun y2=>Option.bind (Ej8 fuel y1 y2) fun y3=>some y3)=_;rw[Bb8 (by omega) (by omega),sb,Bb8 (by omega) (by omega),sb,Cj0 hp (by omega) (by omega) (by
  have:((x.den:Int)*(y.den:Int)).natAbs=x.den*y.den:=by rw[<-b2_,a5_]
  omega),sb]
 congr 2;rw[Rat.mul_def',<-Rat.divInt_ofNat];push_cast;rfl
def Ai5(a b:Rat):Int:=if a<b then-1 else if b<a then 1 else 0
theorem Ff4{fuel L:Nat}{x y:Rat}(hx:nsz L x)(hy:nsz L y)(hL:L<=100000000)(hf:10000000000<fuel):F50 fuel (R x) (R y)=some (Ai5 x y):=by
 obtain⟨x1,x2⟩:=hx;obtain⟨y1,y2⟩:=hy;have m1:=Bb5 x.num y.den;have m2:=Bb5 y.num x.den;unfold F50;show Option.bind (Bs1 fuel (W x.num) (W y.den)) (fun y1=>Option.bind (Bs1 fuel (W y.num) (W x.den)) fun y2=>Option.bind (Dz6 fuel y1 y2) fun y3=>some y3)=_;rw[Bb8 (by omega) (by omega),sb,Bb8 (by omega) (by omega),sb,Cl1 (by omega) (by omega) (by omega),sb];congr 1;unfold M8 Ai5;simp only[Rat.lt_iff,gt_iff_lt]
theorem Cs3{x:Rat}:F49 (R x)=some (Ai5 x 0):=by
 unfold F49;show Option.bind (Ej7 (W x.num)) (fun y1=>some y1)=_;rw[Cl0,sb];congr 1;unfold M8 Ai5;simp only[Rat.lt_iff,gt_iff_lt];simp
end
section
def chr(x:Int):UInt8:=UInt8.ofNat (48+x.toNat)
theorem Az3{x:Int}(h0:0<=x)(h1:x<10):((chr x).toNat:Int)=48+x:=by
 unfold chr;rw[UInt8.toNat_ofNat'];have:(48+x.toNat)%2^8=48+x.toNat:=Nat.mod_eq_of_lt (by omega);rw[this];omega
def ltr(l:List Int):List UInt8:=l.reverse.map chr
theorem K3(l:List Int):(ltr l).length=l.length:=by simp[ltr]
theorem S9(l m:List Int):ltr (l++m)=ltr m++ltr l:=by simp[ltr]
theorem Cr6(x:Int)(m:List Int):ltr (x::m)=ltr m++[chr x]:=by simp[ltr]
def dtx(n:Int):List UInt8:=if n<=0 then[48] else ltr (dg 10 n)
def tx(n:Int):List UInt8:=if n<0 then 45::dtx (-n) else dtx n
theorem h10:(1:Int)<10:=by decide
theorem Dl7:∀(u:Nat),Lib.decDigits u=dtx (u:Int):=by
 have key:∀(k u:Nat),u<=k->Lib.decDigits u=dtx (u:Int):=by
  intro k
  induction k with
  |zero=>
   intro u hu;have:u=0:=by omega
   subst this;rw[Lib.decDigits_one (by decide)];rfl
  |succ k ih=>
   intro u hu;unfold dtx;by_cases h0:u=0
   .subst h0;rw[Lib.decDigits_one (by decide)];rfl
   rw[if_neg (by omega),N3 h10 (by omega)];rw[Lib.decDigits];by_cases h:u<10
   .rw[dif_pos h,show((u:Int)%10)=(u:Int) by omega,show((u:Int)/10)=0 by omega,E9 (Int.le_refl _)];simp[ltr,chr]
   .rw[dif_neg h,ih (u/10) (by omega),Cr6];unfold dtx;rw[if_neg (by omega)];have e:((u/10:Nat):Int)=(u:Int)/10:=by omega
    rw[e];congr 1
 exact fun u=>key u u (ac_ _)
theorem Fe5(n:Int):Lib.itoa n=tx n:=by
 unfold Lib.itoa tx;by_cases h:n<0
 .rw[if_pos h,if_pos h,Dl7,show((n.natAbs:Nat):Int)= -n by omega]
 .rw[if_neg h,if_neg h,Dl7,show((n.toNat:Nat):Int)=n by omega]
theorem Ef9{n:Int}(h0: -9223372036854775808<=n)(h1:n<=9223372036854775807):Ci6 n=some (tx n):=by
 have:∃r,Ci6 n=some r:=by
  unfold Ci6;rw[dT_ h0,dT_ h1];exact⟨_,rfl⟩
 obtain⟨r,hr⟩:=this;rw[hr,(Cr4 hr).2,Fe5]
def pd:Nat->Int->List Int
 |0,_=>[]
 |k+1,x=>x%10::pd k (x/10)
theorem Cs8:∀(k:Nat) (x:Int),(pd k x).length=k
 |0,_=>rfl
 |k+1,x=>by rw[pd,length_cons,Cs8 k]
theorem O8(k:Nat):(10:Int)^(k+1)=10*10^k:=cw_ ..
theorem Fw9:∀(k:Nat) (x:Int),0<=x->x<10^k->val 10 (pd k x)=x
 |0,x,h0,h1=>by simp at h1;simp[pd,val];omega
 |k+1,x,h0,h1=>by
  rw[O8]at h1;rw[pd,val,Fw9 k (x/10) (by omega) (by omega)];omega
theorem Fc1:∀(k:Nat) (x v:Int),0<=x->x<10^k->0<v->dg 10 (x+10^k*v)=pd k x++dg 10 v
 |0,x,v,h0,h1,_=>by
  simp at h1;have:x=0:=by omega
  subst this;simp[pd]
 |k+1,x,v,h0,h1,hv=>by
  rw[O8]at h1;have hp:(0:Int)<10^k:=R1 (by decide) k;have hm:=cz_ hp hv;rw[O8,Int.mul_assoc];rw[N3 h10 (by omega),pd,cons_append,<-Fc1 k (x/10) v (by omega) (by omega) hv];have e1:(x+10*(10^k*v))%10=x%10:=by omega
  have e2:(x+10*(10^k*v))/10=x/10+10^k*v:=by omega
  rw[e1,e2]
theorem Fg3:∀(k:Nat) (x:Int),0<=x->x<10^k->pd k x=dg 10 x++List.replicate (k-(dg 10 x).length) 0
 |0,x,h0,h1=>by
  simp at h1;have:x=0:=by omega
  subst this;rw[E9 (Int.le_refl _)];rfl
 |k+1,x,h0,h1=>by
  rw[O8]at h1;rw[pd,Fg3 k (x/10) (by omega) (by omega)];by_cases hx:x=0
  .subst hx;rw[show(0:Int)/10=0 from rfl,E9 (Int.le_refl _)];simp[List.replicate_succ]
  .rw[N3 h10 (show 0<x by omega)];simp
theorem Cp0{k:Nat}{x:Int}(h1:x<10^k):(dg 10 x).length<=k:=G7 h10 h1
def fv:Int->List UInt8->Int
 |a,[]=>a
 |a,c::s=>fv (10*a+((c.toNat:Int)-48)) s
theorem Ep3:∀(s t:List UInt8) (a:Int),fv a (s++t)=fv (fv a s) t
 |[],_,_=>rfl
 |_::s,t,_=>Ep3 s t _
theorem Bw6:∀(l:List Int),dig 10 l->∀a,fv a (ltr l)=a*10^l.length+val 10 l
 |[],_,a=>by simp[ltr,fv,val]
 |x::l,h,a=>by
  have h:=E1.1 h;rw[Cr6,Ep3,Bw6 l h.2,length_cons,O8,val];show 10*(a*10^l.length+val 10 l)+(((chr x).toNat:Int)-48)=_;rw[Az3 h.1.1 h.1.2];grind
theorem By0{l:List Int}(h:dig 10 l):∀c∈ltr l,48<=c.toNat/\c.toNat<=57:=by
 intro c hc;unfold ltr at hc;obtain⟨x,hx,rfl⟩:=at_.1 hc;obtain⟨h0,h1⟩:=h x (List.mem_reverse.1 hx);have:=Az3 h0 h1;omega
def dgs(s:List UInt8):List Int:=(s.map fun c=>(c.toNat:Int)-48).reverse
theorem Fc2{s:List UInt8}(h:∀c∈s,48<=c.toNat/\c.toNat<=57):dig 10 (dgs s):=by
 intro x hx;unfold dgs at hx;obtain⟨c,hc,rfl⟩:=at_.1 (List.mem_reverse.1 hx);have:=h c hc;omega
theorem Dr0{s:List UInt8}(h:∀c∈s,48<=c.toNat/\c.toNat<=57):ltr (dgs s)=s:=by
 unfold ltr dgs;rw[List.reverse_reverse,List.map_map];have:∀c∈s,(chr∘fun c:UInt8=>(c.toNat:Int)-48) c=c:=fun c hc=>by
  have:=h c hc;unfold chr;show UInt8.ofNat (48+((c.toNat:Int)-48).toNat)=c;rw[show 48+((c.toNat:Int)-48).toNat=c.toNat by omega,UInt8.ofNat_toNat]
 rw[b7_ this];simp
theorem An7{n:Int}(h:0<=n):tx n=dtx n:=if_neg (by omega)
theorem M3{n:Int}(h:0<n):dtx n=ltr (dg 10 n):=if_neg (by omega)
theorem Gk0:dtx 0=[48]:=rfl
theorem G2{n:Int}(h:0<=n):∀c∈dtx n,48<=c.toNat/\c.toNat<=57:=by
 by_cases h0:n=0
 .subst h0;intro c hc;rw[Gk0]at hc;simp at hc;subst hc;decide
 .rw[M3 (by omega)];exact By0 (H3 h10 n h)
theorem Bj1{n:Int}:dtx n≠[]:=by
 unfold dtx;split
 .simp
 .intro h;have:=congrArg List.length h;rw[K3]at this;have h2:=aq_.2 (Bf4 h10 (show 0<n by omega));simp at this;rw[this]at h2;simp at h2
theorem Ae6{n:Int}(h:0<n):∃c s,dtx n=c::s/\49<=c.toNat/\c.toNat<=57:=by
 obtain⟨l,y,e,h0,h1⟩:=Aq8 h10 h;refine⟨chr y,ltr l,?_,?_⟩
 .rw[M3 h,e,S9];rfl
 .have:=Az3 (ai_ h0) h1;omega
theorem Ac1{n:Int}(h:0<n):(dtx n).length=(dg 10 n).length:=by rw[M3 h,K3]
theorem Cp6{n:Int}{k:Nat}(hk:0<k)(h:n<10^k):(dtx n).length<=k:=by
 by_cases h0:n<=0
 .unfold dtx;rw[if_pos h0];exact hk
 .rw[Ac1 (by omega)];exact G7 h10 h
theorem Bw5{n:Int}(h:0<=n):fv 0 (dtx n)=n:=by
 by_cases h0:n=0
 .subst h0;rfl
 .rw[M3 (by omega),Bw6 _ (H3 h10 n h),I9 h10 n h];omega
theorem Dm5{a b:Int}(ha:0<=a)(hb:0<=b)(h:dtx a=dtx b):a=b:=by rw[<-Bw5 ha,<-Bw5 hb,h]
theorem An6{a b:Int}(h:tx a=tx b):a=b:=by
 have hh:∀{x y:Int},x<0->0<=y->tx x≠tx y:=fun{x y} hx hy h=>by
  unfold tx at h;rw[if_pos hx,if_neg (by omega)]at h;have:=G2 hy 45 (by rw[<-h];exact aa_);exact absurd this.1 (by decide)
 by_cases h1:a<0<;>by_cases h2:b<0
 .unfold tx at h;rw[if_pos h1,if_pos h2]at h;have:=Dm5 (by omega) (by omega) (ck_ h).2;omega
 .exact absurd h (hh h1 (by omega))
 .exact absurd h.symm (hh h2 (by omega))
 .rw[An7 (by omega),An7 (by omega)]at h;exact Dm5 (by omega) (by omega) h
theorem Fu1{s:List UInt8}(h:∀c∈s,48<=c.toNat/\c.toNat<=57){c:UInt8}{r:List UInt8}(hs:s=c::r)(hc:c.toNat≠48):s=dtx (fv 0 s)/\0<fv 0 s:=by
 have hd:=Fc2 h;have e:dgs s=dgs r++[(c.toNat:Int)-48]:=by subst hs;simp[dgs]
 have hv:fv 0 s=val 10 (dgs s):=by
  have:=Bw6 (dgs s) hd 0;rw[Dr0 h]at this;omega
 have hcan:=Eo0 h10 (l:=dgs r) (y:=(c.toNat:Int)-48) (e▸hd) (by omega);rw[<-e]at hcan;have hpos:0<fv 0 s:=by
  rw[hv];by_cases h0:val 10 (dgs s)<=0
  .rw[E9 h0,e]at hcan;simp at hcan
  .omega
 refine⟨?_,hpos⟩;rw[M3 hpos,hv,hcan,Dr0 h]
end
end Go.Proofs.YtfgbhfphjmmiaaaGreatDoor
end
