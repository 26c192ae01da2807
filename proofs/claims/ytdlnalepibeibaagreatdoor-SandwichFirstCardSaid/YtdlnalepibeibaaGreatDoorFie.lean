/- One part of the texts that lead to the theorem; it claims nothing by itself. -/
import Derived.Test.YtdlnalepibeibaaGreatDoorFid
section
set_option linter.unusedVariables false
set_option maxRecDepth 100000
namespace Go.Proofs.YtdlnalepibeibaaGreatDoor
open Go Go.RowKit Kx Go.IntKind
section
theorem Hf3:A8 Tryz.prog 42:=Kx.A7 Tryz.func42 (by kernel_rfl) (by kernel_rfl)
theorem Gx2:A8 Tryz.prog 26:=Kx.A7 Tryz.func26 (by kernel_rfl) (by kernel_rfl)
theorem Hm7:A8 Tryz.prog 43:=Kx.A7 Tryz.func43 (by kernel_rfl) (by kernel_rfl)
theorem Gv5:A8 Tryz.prog 202:=Kx.A7 Tryz.func202 (by kernel_rfl) (by kernel_rfl)
theorem Gw7:A8 Tryz.prog 251:=Kx.A7 Tryz.func251 (by kernel_rfl) (by kernel_rfl)
theorem Gv4:A8 Tryz.prog 201:=Kx.A7 Tryz.func201 (by kernel_rfl) (by kernel_rfl)
theorem Gu4:A8 Tryz.prog 160:=Kx.A7 Tryz.func160 (by kernel_rfl) (by kernel_rfl)
theorem Gv7:A8 Tryz.prog 204:=Kx.A7 Tryz.func204 (by kernel_rfl) (by kernel_rfl)
theorem Gw8:A8 Tryz.prog 252:=Kx.A7 Tryz.func252 (by kernel_rfl) (by kernel_rfl)
theorem Gv6:A8 Tryz.prog 203:=Kx.A7 Tryz.func203 (by kernel_rfl) (by kernel_rfl)
theorem Gu5:A8 Tryz.prog 161:=Kx.A7 Tryz.func161 (by kernel_rfl) (by kernel_rfl)
theorem Fk3:A8 Tryz.prog 205:=Kx.A7 Tryz.func205 (by kernel_rfl) (by kernel_rfl)
theorem Gv9:A8 Tryz.prog 207:=Kx.A7 Tryz.func207 (by kernel_rfl) (by kernel_rfl)
theorem Gw9:A8 Tryz.prog 254:=Kx.A7 Tryz.func254 (by kernel_rfl) (by kernel_rfl)
theorem Gv8:A8 Tryz.prog 206:=Kx.A7 Tryz.func206 (by kernel_rfl) (by kernel_rfl)
theorem Fk7:A8 Tryz.prog 253:=Kx.A7 Tryz.func253 (by kernel_rfl) (by kernel_rfl)
theorem Gu6:A8 Tryz.prog 162:=Kx.A7 Tryz.func162 (by kernel_rfl) (by kernel_rfl)
theorem Gx0:A8 Tryz.prog 255:=Kx.A7 Tryz.func255 (by kernel_rfl) (by kernel_rfl)
theorem Gx1:A8 Tryz.prog 256:=Kx.A7 Tryz.func256 (by kernel_rfl) (by kernel_rfl)
theorem Fk8:A8 Tryz.prog 257:=Kx.A7 Tryz.func257 (by kernel_rfl) (by kernel_rfl)
theorem Fk4:A8 Tryz.prog 208:=Kx.A7 Tryz.func208 (by kernel_rfl) (by kernel_rfl)
theorem Ge2:A8 Tryz.prog 258:=Kx.A7 Tryz.func258 (by kernel_rfl) (by kernel_rfl)
theorem Gd6:A8 Tryz.prog 209:=Kx.A7 Tryz.func209 (by kernel_rfl) (by kernel_rfl)
theorem Gu7:A8 Tryz.prog 163:=Kx.A7 Tryz.func163 (by kernel_rfl) (by kernel_rfl)
theorem Gw0:A8 Tryz.prog 210:=Kx.A7 Tryz.func210 (by kernel_rfl) (by kernel_rfl)
theorem Gu8:A8 Tryz.prog 164:=Kx.A7 Tryz.func164 (by kernel_rfl) (by kernel_rfl)
theorem Gt2:A8 Tryz.prog 109:=Kx.A7 Tryz.func109 (by kernel_rfl) (by kernel_rfl)
theorem Hf5:A8 Tryz.prog 61:=Kx.A7 Tryz.func61 (by kernel_rfl) (by kernel_rfl)
theorem Gu9:A8 Tryz.prog 165:=Kx.A7 Tryz.func165 (by kernel_rfl) (by kernel_rfl)
theorem Gt3:A8 Tryz.prog 110:=Kx.A7 Tryz.func110 (by kernel_rfl) (by kernel_rfl)
structure Di4 where
 a0:Int
 a1:Int
 a2:Int
 deriving DecidableEq
structure Bj7 where
 a0:Int
 a1:Int
 deriving DecidableEq
structure D1 where
 State:Int
 Act:Int
 Gain:Int
 To:Di4
 Part:Bj7
 deriving DecidableEq
structure B1 where
 States:Int
 Owners:Int
 Grain:Int
 Cents:Int
 Picks:List D1
 deriving DecidableEq
structure C1 where
 To:Int
 P:List UInt8
 deriving DecidableEq
structure A2 where
 Act:List UInt8
 Gain:List UInt8
 Next:List C1
 deriving DecidableEq
structure B6 where
 Owner:List Int
 Choices:List (List A2)
 deriving DecidableEq
def A9(x:C1):List Dat:=[.int .i64 x.To,.str x.P]
def B0(x:A2):List Dat:=[.str x.Act,.str x.Gain,.sl 2 (x.Next.map A9)]
def A0(x:List A2):List Dat:=[.sl 3 (x.map B0)]
def B8(x:D1):List Dat:=[.int .u8 x.State,.int .u8 x.Act,.int .u8 x.Gain,.int .u8 x.To.a0,.int .u8 x.To.a1,.int .u8 x.To.a2,.int .u8 x.Part.a0,.int .u8 x.Part.a1]
def F42(d0:B1):Option Int:=
 some (i64.wrap (1+(i64.wrap (Int.tmod d0.States 5))))
theorem Eq4{d0:B1}{r:Int}(hF:F42 d0=some r):
 C3 Tryz.prog 42 [.agg [.y d0.States,.y d0.Owners,.y d0.Grain,.y d0.Cents,.l 8 d0.Picks B8]] (.i r):=by
 unfold F42 at hF;refine cf 8 Tryz.func42 ?_;cases hF;exact jr 14
def Bk1(v2:Int)(cL1:Int->(List C1)->Option A2)(l19:List C1):Option A2:=
 cL1 (i64.wrap (v2+1)) l19
def Ah7(fuel:Nat)(l4:List Int)(y1:Int)(y2:Int)(y9:List UInt8)(y11:List UInt8):Nat->Int->(List C1)->Option A2
 |0,_,_=>none
 |nL1+1,v2,l16=>
  bif decide (v2<y1) then
   (Option.bind (C6 l4 v2) fun y37=>
   bif decide (y37>0) then
    (Option.bind (C6 l4 v2) fun y40=>
    Option.bind (F26 fuel y40 y2) fun y41=>
    Option.bind (app l16 [(⟨v2,y41⟩:C1)]) fun l21=>
    Bk1 v2 (Ah7 fuel l4 y1 y2 y9 y11 nL1) l21)
   else
    (Bk1 v2 (Ah7 fuel l4 y1 y2 y9 y11 nL1) l16))
  else
   (some (⟨y9,y11,l16⟩:A2))
def F43(fuel:Nat)(d0:B1)(d1:D1):Option A2:=
 Option.bind (F42 d0) fun y1=>
 Option.bind (C6 [1,2,3,4,6,10,100,5] (Int.tmod d0.Grain 8)) fun y2=>
 ass (decide ((i64.wrap (y2+1))≠0))<|
 ass (decide ((i64.wrap ((i64.wrap (y2-(Int.tmod (i64.wrap d1.Part.a0) (i64.wrap (y2+1)))))+1))≠0))<|
 Option.bind (mkL y1 y1 0) fun l1=>
 ass (decide (y1≠0))<|
 Option.bind (C6 l1 (Int.tmod (i64.wrap d1.To.a0) y1)) fun y3=>
 Option.bind (C6 l1 (Int.tmod (i64.wrap d1.To.a0) y1)) fun y4=>
 Option.bind (some (l1.set (0+Int.toNat (Int.tmod (i64.wrap d1.To.a0) y1)) (i64.wrap (y3+(Int.tmod (i64.wrap d1.Part.a0) (i64.wrap (y2+1))))))) fun l2=>
 ass (decide (y1≠0))<|
 Option.bind (C6 l2 (Int.tmod (i64.wrap d1.To.a1) y1)) fun y5=>
 Option.bind (C6 l2 (Int.tmod (i64.wrap d1.To.a1) y1)) fun y6=>
 Option.bind (some (l2.set (0+Int.toNat (Int.tmod (i64.wrap d1.To.a1) y1)) (i64.wrap (y5+(Int.tmod (i64.wrap d1.Part.a1) (i64.wrap ((i64.wrap (y2-(Int.tmod (i64.wrap d1.Part.a0) (i64.wrap (y2+1)))))+1))))))) fun l3=>
 ass (decide (y1≠0))<|
 Option.bind (C6 l3 (Int.tmod (i64.wrap d1.To.a2) y1)) fun y7=>
 Option.bind (C6 l3 (Int.tmod (i64.wrap d1.To.a2) y1)) fun y8=>
 Option.bind (some (l3.set (0+Int.toNat (Int.tmod (i64.wrap d1.To.a2) y1)) (i64.wrap (y7+(i64.wrap ((i64.wrap (y2-(Int.tmod (i64.wrap d1.Part.a0) (i64.wrap (y2+1)))))-(Int.tmod (i64.wrap d1.Part.a1) (i64.wrap ((i64.wrap (y2-(Int.tmod (i64.wrap d1.Part.a0) (i64.wrap (y2+1)))))+1))))))))) fun l4=>
 Option.bind (C6 [[],[97],[103,111],[97,98,99,100,101,102,103,104]] (Int.tmod d1.Act 4)) fun y9=>
 Option.bind (C6 [1,2,3,1] (Int.tmod d0.Cents 4)) fun y10=>
 Option.bind (F26 fuel (i64.wrap (Int.tmod d1.Gain 20)) y10) fun y11=>
 Ah7 fuel l4 y1 y2 y9 y11 fuel 0 []
noncomputable abbrev b43:=C2 Tryz.f43
abbrev G43(r:A2):=J none Tryz.prog 117 [] (L5 Tryz.prog Tryz.f43 (.agg [.s r.Act,.s r.Gain,.l 2 r.Next A9]))
theorem Fw8{fuel:Nat}{d0:B1}{d1:D1}{r:A2}(hF:F43 fuel d0 d1=some r):
 C3 Tryz.prog 43 [.agg [.y d0.States,.y d0.Owners,.y d0.Grain,.y d0.Cents,.l 8 d0.Picks B8],.agg [.y d1.State,.y d1.Act,.y d1.Gain,.y d1.To.a0,.y d1.To.a1,.y d1.To.a2,.y d1.Part.a0,.y d1.Part.a1]] (.agg [.s r.Act,.s r.Gain,.l 2 r.Next A9]):=by
 unfold F43 at hF;refine cf 117 Tryz.func43 ?_;refine jB 9 hF Hf3 Eq4 fun y1 hF=> ?_
 obtain⟨y2,e2,hF⟩:=bnd hF;refine jo1 8 (gm (f:=A6) e2) ?_;obtain⟨hb1,hF⟩:=K8 hF;refine jo1 10 (ck hb1) ?_;obtain⟨hb2,hF⟩:=K8 hF;refine jo1 12 (ck hb2) ?_;obtain⟨l1,e3,hF⟩:=bnd hF;refine jo2 5 (mm (f:=A6) e3) ?_;obtain⟨hb3,hF⟩:=K8 hF;refine jo1 10 (ck hb3) ?_;obtain⟨y3,e4,hF⟩:=bnd hF;refine jo1 0 (gm (f:=A6) e4) ?_;refine jo1 0 (gjm (f:=A6) (gj e4)) ?_;obtain⟨y4,e5,hF⟩:=bnd hF;refine jo1 2 (gm (f:=A6) e5) ?_;obtain⟨l2,e6,hF⟩:=bnd hF;have hst:=stm (f:=A6) (z:=i64.wrap (y3+(Int.tmod (i64.wrap d1.Part.a0) (i64.wrap (y2+1))))) (k:=0) (xs:=[.int .i64 (i64.wrap (y3+(Int.tmod (i64.wrap d1.Part.a0) (i64.wrap (y2+1)))))]) (gj e5) rfl;refine C4 0 (H5 (o:=(match(l1.map A6)[0+Int.toNat (Int.tmod (i64.wrap d1.To.a0) y1)]? with|some old=>some ((l1.map A6).set (0+Int.toNat (Int.tmod (i64.wrap d1.To.a0) y1)) (Ah3 old 0 [.int .i64 (i64.wrap (y3+(Int.tmod (i64.wrap d1.Part.a0) (i64.wrap (y2+1)))))]))|none=>none)) (l2.map A6) (by kernel_rfl) (by cases e6;exact hst) ?_);obtain⟨hb4,hF⟩:=K8 hF;refine jo1 9 (ck hb4) ?_;obtain⟨y5,e7,hF⟩:=bnd hF;refine jo1 0 (gm (f:=A6) e7) ?_;refine jo1 0 (gjm (f:=A6) (gj e7)) ?_;obtain⟨y6,e8,hF⟩:=bnd hF;refine jo1 2 (gm (f:=A6) e8) ?_;obtain⟨l3,e9,hF⟩:=bnd hF;have hst:=stm (f:=A6) (z:=i64.wrap (y5+(Int.tmod (i64.wrap d1.Part.a1) (i64.wrap ((i64.wrap (y2-(Int.tmod (i64.wrap d1.Part.a0) (i64.wrap (y2+1)))))+1))))) (k:=0) (xs:=[.int .i64 (i64.wrap (y5+(Int.tmod (i64.wrap d1.Part.a1) (i64.wrap ((i64.wrap (y2-(Int.tmod (i64.wrap d1.Part.a0) (i64.wrap (y2+1)))))+1)))))]) (gj e8) rfl;refine C4 0 (H5 (o:=(match(l2.map A6)[0+Int.toNat (Int.tmod (i64.wrap d1.To.a1) y1)]? with|some old=>some ((l2.map A6).set (0+Int.toNat (Int.tmod (i64.wrap d1.To.a1) y1)) (Ah3 old 0 [.int .i64 (i64.wrap (y5+(Int.tmod (i64.wrap d1.Part.a1) (i64.wrap ((i64.wrap (y2-(Int.tmod (i64.wrap d1.Part.a0) (i64.wrap (y2+1)))))+1)))))]))|none=>none)) (l3.map A6) (by kernel_rfl) (by cases e9;exact hst) ?_);obtain⟨hb5,hF⟩:=K8 hF;refine jo1 9 (ck hb5) ?_;obtain⟨y7,e10,hF⟩:=bnd hF;refine jo1 0 (gm (f:=A6) e10) ?_;refine jo1 0 (gjm (f:=A6) (gj e10)) ?_;obtain⟨y8,e11,hF⟩:=bnd hF;refine jo1 6 (gm (f:=A6) e11) ?_;obtain⟨l4,e12,hF⟩:=bnd hF;have hst:=stm (f:=A6) (z:=i64.wrap (y7+(i64.wrap ((i64.wrap (y2-(Int.tmod (i64.wrap d1.Part.a0) (i64.wrap (y2+1)))))-(Int.tmod (i64.wrap d1.Part.a1) (i64.wrap ((i64.wrap (y2-(Int.tmod (i64.wrap d1.Part.a0) (i64.wrap (y2+1)))))+1))))))) (k:=0) (xs:=[.int .i64 (i64.wrap (y7+(i64.wrap ((i64.wrap (y2-(Int.tmod (i64.wrap d1.Part.a0) (i64.wrap (y2+1)))))-(Int.tmod (i64.wrap d1.Part.a1) (i64.wrap ((i64.wrap (y2-(Int.tmod (i64.wrap d1.Part.a0) (i64.wrap (y2+1)))))+1)))))))]) (gj e11) rfl;refine C4 0 (H5 (o:=(match(l3.map A6)[0+Int.toNat (Int.tmod (i64.wrap d1.To.a2) y1)]? with|some old=>some ((l3.map A6).set (0+Int.toNat (Int.tmod (i64.wrap d1.To.a2) y1)) (Ah3 old 0 [.int .i64 (i64.wrap (y7+(i64.wrap ((i64.wrap (y2-(Int.tmod (i64.wrap d1.Part.a0) (i64.wrap (y2+1)))))-(Int.tmod (i64.wrap d1.Part.a1) (i64.wrap ((i64.wrap (y2-(Int.tmod (i64.wrap d1.Part.a0) (i64.wrap (y2+1)))))+1)))))))]))|none=>none)) (l4.map A6) (by kernel_rfl) (by cases e12;exact hst) ?_);refine jd 2 ?_;obtain⟨y9,e13,hF⟩:=bnd hF;refine do1 4 (gm (f:=e_s) e13) ?_;obtain⟨y10,e14,hF⟩:=bnd hF;refine do1 8 (gm (f:=A6) e14) ?_;refine dB 0 hF Gx2 Dm3 fun y11 hF=> ?_
 refine je 3 ?_;have hL1:∀(nL1:Nat) (v2:Int) (l16:List C1),Ah7 fuel l4 y1 y2 y9 y11 nL1 v2 l16=some r->G43 r ⟨mkT [(4,.ptr 4 0),(5,.i y1),(6,.i y2),(9,.suf 36 0 0),(10,.ptr 10 0),(11,.i v2)],[(4,.box 41 [.s [],.s [],.esl 2]),(10,.box 41 [.s y9,.s y11,.suf 114 0 0]),(36,.buf 0 3 1 (l4.map A6)),(114,.buf 0 38 2 (l16.map A9))],[kL b43 [1,1,1,1,1,1,1,1,1,1,0,1,0,0],.inBlock 0,kC b43 [1,1,1,1,1,1,1,1,1,1,1]]⟩:=by
  clear hF;intro nL1
  induction nL1 with
  |zero=>intro v2 l16 hF;cases hF
  |succ nL1 iL1=>
   intro v2 l16 hF;rw[Ah7]at hF;refine jI 8 95 hF ?_ ?_<;>intro hF
   ·have hA2:∀(l19:List C1),Bk1 v2 (Ah7 fuel l4 y1 y2 y9 y11 nL1) l19=some r->G43 r ⟨mkT [(4,.ptr 4 0),(5,.i y1),(6,.i y2),(9,.suf 36 0 0),(10,.ptr 10 0),(11,.i v2)],[(4,.box 41 [.s [],.s [],.esl 2]),(10,.box 41 [.s y9,.s y11,.suf 114 0 0]),(36,.buf 0 3 1 (l4.map A6)),(114,.buf 0 38 2 (l19.map A9))],[kC b43 [1,1,1,1,1,1,1,1,1,1,0,1,0,0,1,1],kL b43 [1,1,1,1,1,1,1,1,1,1,0,1,0,0],.inBlock 0,kC b43 [1,1,1,1,1,1,1,1,1,1,1]]⟩:=by
     intro l19 hF;unfold Bk1 at hF;exact ja 5 (iL1 _ _ hF)
    obtain⟨y37,e51,hF⟩:=bnd hF;refine jo1 8 (gm (f:=A6) e51) ?_;refine jo1 0 (gjm (f:=A6) (gj e51)) ?_;refine jI 2 102 hF ?_ ?_<;>intro hF
    ·refine jd 1 ?_;obtain⟨y40,e55,hF⟩:=bnd hF;refine do1 5 (gm (f:=A6) e55) ?_;refine do1 0 (gjm (f:=A6) (gj e55)) ?_;refine dB 1 hF Gx2 Dm3 fun y41 hF=> ?_
     obtain⟨l21,e57,hF⟩:=bnd hF;refine do2 2 (am (f:=A9) e57) ?_;refine je 2 ?_;exact ja 1 (hA2 _ hF)
    ·exact ja 3 (hA2 _ hF)
   ·cases hF;exact jr 7
 refine C4 7 (Bw6 (n:=2) 10 2 114 38 2 (by kernel_rfl) (by kernel_rfl) ?_);exact ja 0 (hL1 _ _ _ hF)
def Bj8(v2:Int)(cL1:Int->(List Int)->Option B6)(l17:List Int):Option B6:=
 cL1 (i64.wrap (v2+1)) l17
def Av6(v4:Int)(cL3:Int->(List (List A2))->Option B6)(l44:List (List A2)):Option B6:=
 cL3 (i64.wrap (v4+1)) l44
def Bj9(v6:Int)(cL5:Int->(List (List A2))->Option B6)(l63:List (List A2)):Option B6:=
 cL5 (i64.wrap (v6+1)) l63
def Ah6(l14:List Int)(y1:Int):Nat->Int->(List (List A2))->Option B6
 |0,_,_=>none
 |nL5+1,v6,l60=>
  bif decide (v6<y1) then
   (Option.bind (C6 l60 v6) fun y72=>
   Option.bind (some (l60.set (Int.toNat v6) y72)) fun l64=>
   bif ((y72.map B0).length:Int)==0 then
    (Option.bind (C6 l64 v6) fun y73=>
    Option.bind (some (l64.set (Int.toNat v6) [(⟨[],[48],[(⟨v6,[49]⟩:C1)]⟩:A2)])) fun l65=>
    Bj9 v6 (Ah6 l14 y1 nL5) l65)
   else
    (Bj9 v6 (Ah6 l14 y1 nL5) l64))
  else
   (some (⟨l14,l60⟩:B6))
def V3(fuel:Nat)(d0:B1)(l14:List Int)(y1:Int):Nat->Int->(List (List A2))->Option B6
 |0,_,_=>none
 |nL3+1,v4,l39=>
  Option.bind (
   bif decide (v4<((d0.Picks.map B8).length:Int)) then
    (some (decide (v4<20)))
   else
    (some false)) fun o3=>
  bif o3 then
   (Option.bind (C6 d0.Picks v4) fun y55=>
   ass (decide (y1≠0))<|
   Option.bind (C6 l39 (Int.tmod (i64.wrap y55.State) y1)) fun y56=>
   Option.bind (some (l39.set (Int.toNat (Int.tmod (i64.wrap y55.State) y1)) y56)) fun l45=>
   bif decide (((y56.map B0).length:Int)<3) then
    (Option.bind (C6 l45 (Int.tmod (i64.wrap y55.State) y1)) fun y57=>
    Option.bind (C6 d0.Picks v4) fun y60=>
    Option.bind (F43 fuel d0 y60) fun y61=>
    Option.bind (app y57 [y61]) fun l47=>
    Option.bind (some (l45.set (Int.toNat (Int.tmod (i64.wrap y55.State) y1)) l47)) fun l48=>
    Av6 v4 (V3 fuel d0 l14 y1 nL3) l48)
   else
    (Av6 v4 (V3 fuel d0 l14 y1 nL3) l45))
  else
   (Ah6 l14 y1 fuel 0 l39)
def Am9(fuel:Nat)(d0:B1)(l2:List (List A2))(y1:Int):Nat->Int->(List Int)->Option B6
 |0,_,_=>none
 |nL1+1,v2,l14=>
  bif decide (v2<y1) then
   (ass (decide (0<=v2))<|
   bif (IntKind.u8.wrap (BitVec.ofInt IntKind.u8.bits (Int.fdiv d0.Owners (2^(min (Int.toNat v2) IntKind.u8.bits)))&&&BitVec.ofInt IntKind.u8.bits 1).toNat)==1 then
    (Option.bind (C6 l14 v2) fun y13=>
    Option.bind (some (l14.set (0+Int.toNat v2) 1)) fun l19=>
    Bj8 v2 (Am9 fuel d0 l2 y1 nL1) l19)
   else
    (Bj8 v2 (Am9 fuel d0 l2 y1 nL1) l14))
  else
   (V3 fuel d0 l14 y1 fuel 0 l2)
def F18(fuel:Nat)(d0:B1):Option B6:=
 Option.bind (F42 d0) fun y1=>
 Option.bind (mkL y1 y1 0) fun l1=>
 Option.bind (mkL y1 y1 []) fun l2=>
 Am9 fuel d0 l2 y1 fuel 0 l1
noncomputable abbrev b18:=C2 Tryz.f18
abbrev G18(r:B6):=J none Tryz.prog 98 [] (L5 Tryz.prog Tryz.f18 (.agg [.l 1 r.Owner A6,.l 1 r.Choices A0]))
theorem Fv3{fuel:Nat}{d0:B1}{r:B6}(hF:F18 fuel d0=some r):
 C3 Tryz.prog 18 [.agg [.y d0.States,.y d0.Owners,.y d0.Grain,.y d0.Cents,.l 8 d0.Picks B8]] (.agg [.l 1 r.Owner A6,.l 1 r.Choices A0]):=by
 unfold F18 at hF;refine cf 98 Tryz.func18 ?_;refine jB 8 hF Hf3 Eq4 fun y1 hF=> ?_
 refine jd 3 ?_;obtain⟨l1,e2,hF⟩:=bnd hF;refine do2 1 (mm (f:=A6) e2) ?_;obtain⟨l2,e3,hF⟩:=bnd hF;refine do2 1 (mm (f:=A0) e3) ?_;refine je 3 ?_;have hL1:∀(nL1:Nat) (v2:Int) (l14:List Int),Am9 fuel d0 l2 y1 nL1 v2 l14=some r->G18 r ⟨mkT [(1,.ptr 1 0),(2,.ptr 2 0),(3,.i y1),(4,.ptr 4 0),(5,.i v2)],[(1,.box 47 [.y d0.States,.y d0.Owners,.y d0.Grain,.y d0.Cents,.l 8 d0.Picks B8]),(2,.box 26 [.esl 1,.esl 1]),(4,.box 26 [.suf 12 0 0,.suf 14 0 0]),(12,.buf 0 3 1 (l14.map A6)),(14,.tree 0 42 1 [.o 41 3 [.z,.z,.z]] (l2.map A0) none)],[kL b18 [1,1,1,0,1,0,0],.inBlock 0,kC b18 [1,1,1,1]]⟩:=by
  clear hF;intro nL1
  induction nL1 with
  |zero=>intro v2 l14 hF;cases hF
  |succ nL1 iL1=>
   intro v2 l14 hF;rw[Am9]at hF;refine jI 8 18 hF ?_ ?_<;>intro hF
   ·have hA2:∀(l17:List Int),Bj8 v2 (Am9 fuel d0 l2 y1 nL1) l17=some r->G18 r ⟨mkT [(1,.ptr 1 0),(2,.ptr 2 0),(3,.i y1),(4,.ptr 4 0),(5,.i v2)],[(1,.box 47 [.y d0.States,.y d0.Owners,.y d0.Grain,.y d0.Cents,.l 8 d0.Picks B8]),(2,.box 26 [.esl 1,.esl 1]),(4,.box 26 [.suf 12 0 0,.suf 14 0 0]),(12,.buf 0 3 1 (l17.map A6)),(14,.tree 0 42 1 [.o 41 3 [.z,.z,.z]] (l2.map A0) none)],[kC b18 [1,1,1,0,1,0,0,1,1],kL b18 [1,1,1,0,1,0,0],.inBlock 0,kC b18 [1,1,1,1]]⟩:=by
     intro l17 hF;unfold Bj8 at hF;exact ja 5 (iL1 _ _ hF)
    obtain⟨hb20,hF⟩:=K8 hF;refine jo1 9 (ck hb20) ?_;refine jI 3 26 hF ?_ ?_<;>intro hF
    ·obtain⟨y13,e26,hF⟩:=bnd hF;refine jo1 5 (gm (f:=A6) e26) ?_;obtain⟨l19,e27,hF⟩:=bnd hF;have hst:=stm (f:=A6) (z:=1) (k:=0) (xs:=[.int .i64 1]) (gj e26) rfl;refine C4 0 (H5 (o:=(match(l14.map A6)[0+Int.toNat v2]? with|some old=>some ((l14.map A6).set (0+Int.toNat v2) (Ah3 old 0 [.int .i64 1]))|none=>none)) (l19.map A6) (by kernel_rfl) (by cases e27;exact hst) ?_);exact ja 2 (hA2 _ hF)
    ·exact ja 3 (hA2 _ hF)
   ·have hL3:∀(nL3:Nat) (v4:Int) (l39:List (List A2)),V3 fuel d0 l14 y1 nL3 v4 l39=some r->G18 r ⟨mkT [(1,.ptr 1 0),(2,.ptr 2 0),(3,.i y1),(4,.ptr 4 0),(6,.i v4)],[(1,.box 47 [.y d0.States,.y d0.Owners,.y d0.Grain,.y d0.Cents,.l 8 d0.Picks B8]),(2,.box 26 [.esl 1,.esl 1]),(4,.box 26 [.suf 12 0 0,.suf 14 0 0]),(12,.buf 0 3 1 (l14.map A6)),(14,.tree 0 42 1 [.o 41 3 [.z,.z,.z]] (l39.map A0) none)],[kL b18 [1,1,1,1,0,1,0,0],.inBlock 2,kC b18 [1,1,1,1,1]]⟩:=by
     clear hF;intro nL3
     induction nL3 with
     |zero=>intro v4 l39 hF;cases hF
     |succ nL3 iL3=>
      intro v4 l39 hF;rw[V3]at hF;obtain⟨o3,hO,hF⟩:=bnd hF;have hR3:G18 r ⟨mkT [(1,.ptr 1 0),(2,.ptr 2 0),(3,.i y1),(4,.ptr 4 0),(6,.i v4),(39,.b o3)],[(1,.box 47 [.y d0.States,.y d0.Owners,.y d0.Grain,.y d0.Cents,.l 8 d0.Picks B8]),(2,.box 26 [.esl 1,.esl 1]),(4,.box 26 [.suf 12 0 0,.suf 14 0 0]),(12,.buf 0 3 1 (l14.map A6)),(14,.tree 0 42 1 [.o 41 3 [.z,.z,.z]] (l39.map A0) none)],[kO b18 [1,1,1,1,0,1,0,0,0,0],kC b18 [1,1,1,1,0,1,0,0,0,1],kC b18 [1,1,1,1,0,1,0,0,1],kL b18 [1,1,1,1,0,1,0,0],.inBlock 2,kC b18 [1,1,1,1,1]]⟩:=by
       clear hO;refine jI 1 39 hF ?_ ?_<;>intro hF
       ·have hA4:∀(l44:List (List A2)),Av6 v4 (V3 fuel d0 l14 y1 nL3) l44=some r->G18 r ⟨mkT [(1,.ptr 1 0),(2,.ptr 2 0),(3,.i y1),(4,.ptr 4 0),(6,.i v4)],[(1,.box 47 [.y d0.States,.y d0.Owners,.y d0.Grain,.y d0.Cents,.l 8 d0.Picks B8]),(2,.box 26 [.esl 1,.esl 1]),(4,.box 26 [.suf 12 0 0,.suf 14 0 0]),(12,.buf 0 3 1 (l14.map A6)),(14,.tree 0 42 1 [.o 41 3 [.z,.z,.z]] (l44.map A0) none)],[kC b18 [1,1,1,1,0,1,0,0,1,1],kL b18 [1,1,1,1,0,1,0,0],.inBlock 2,kC b18 [1,1,1,1,1]]⟩:=by
         intro l44 hF;unfold Av6 at hF;exact ja 5 (iL3 _ _ hF)
        obtain⟨y55,e89,hF⟩:=bnd hF;refine jo1 9 (gm (f:=B8) e89) ?_;obtain⟨hb52,hF⟩:=K8 hF;refine jo1 4 (ck hb52) ?_;obtain⟨y56,e90,hF⟩:=bnd hF;refine C4 3 (Cr6 (g:=0) (e:=42) (e2:=41) (n:=3) (es:=l39.map A0) 14 1200 (Int.toNat (Int.tmod (i64.wrap y55.State) y1)) (y56.map B0) (by kernel_rfl) (by kernel_rfl) (by kernel_rfl) (gjo (f:=A0) e90) ?_);refine C4 4 (G5 (o:=chk (decide (0<=(Int.tmod (i64.wrap y55.State) y1))&&(decide (0+Int.toNat (Int.tmod (i64.wrap y55.State) y1)=Int.toNat (Int.tmod (i64.wrap y55.State) y1))&&decide (Int.toNat (Int.tmod (i64.wrap y55.State) y1)<(l39.map A0).length)))) [] (by kernel_rfl) (ckI e90) ?_);refine C4 0 (G5 (o:=chk (decide ((Int.toNat (Int.tmod (i64.wrap y55.State) y1))=(Int.toNat (Int.tmod (i64.wrap y55.State) y1)))&&decide ((Int.toNat (Int.tmod (i64.wrap y55.State) y1))<(l39.map A0).length))) [] (by kernel_rfl) (ckE e90) ?_);obtain⟨l45,e91,hF⟩:=bnd hF;refine C4 3 (Bo8 (g:=0) (gd:=0) (e:=42) (e2:=41) (n:=3) (es:=l39.map A0) (ds:=y56.map B0) 14 1200 (Int.toNat (Int.tmod (i64.wrap y55.State) y1)) (l45.map A0) (by kernel_rfl) (by kernel_rfl) (by kernel_rfl) (by kernel_rfl) (glt (f:=A0) e90) (by cases e91;exact shm (f:=A0) (z:=y56)) ?_);refine ja 0 (S0:=[(1,.ptr 1 0),(2,.ptr 2 0),(3,.i y1),(4,.ptr 4 0),(6,.i v4),(7,.i (Int.tmod (i64.wrap y55.State) y1)),(57,.b (decide (((y56.map B0).length:Int)<3)))]) (O0:=[(1,.box 47 [.y d0.States,.y d0.Owners,.y d0.Grain,.y d0.Cents,.l 8 d0.Picks B8]),(2,.box 26 [.esl 1,.esl 1]),(4,.box 26 [.suf 12 0 0,.suf 14 0 0]),(12,.buf 0 3 1 (l14.map A6)),(14,.tree 0 42 1 [.o 41 3 [.z,.z,.z]] (l45.map A0) none)]) (T0:=[kC b18 [1,1,1,1,0,1,0,0,1,0,0,1,1],.inBlock 3,kC b18 [1,1,1,1,0,1,0,0,1,1],kL b18 [1,1,1,1,0,1,0,0],.inBlock 2,kC b18 [1,1,1,1,1]]) ?_;refine jI 0 57 hF ?_ ?_<;>intro hF
        ·obtain⟨y57,e92,hF⟩:=bnd hF;refine C4 1 (Cr6 (g:=0) (e:=42) (e2:=41) (n:=3) (es:=l45.map A0) 14 1200 (Int.toNat (Int.tmod (i64.wrap y55.State) y1)) (y57.map B0) (by kernel_rfl) (by kernel_rfl) (by kernel_rfl) (gjo (f:=A0) e92) ?_);refine jd 0 ?_;refine R4 6 (As9 (o:=chk (decide (0<=(Int.tmod (i64.wrap y55.State) y1))&&(decide (0+Int.toNat (Int.tmod (i64.wrap y55.State) y1)=Int.toNat (Int.tmod (i64.wrap y55.State) y1))&&decide (Int.toNat (Int.tmod (i64.wrap y55.State) y1)<(l45.map A0).length)))) [] (by kernel_rfl) (by kernel_rfl) (ckI e92) ?_);refine R4 0 (As9 (o:=chk (decide ((Int.toNat (Int.tmod (i64.wrap y55.State) y1))=(Int.toNat (Int.tmod (i64.wrap y55.State) y1)))&&decide ((Int.toNat (Int.tmod (i64.wrap y55.State) y1))<(l45.map A0).length))) [] (by kernel_rfl) (by kernel_rfl) (ckE e92) ?_);obtain⟨y60,e96,hF⟩:=bnd hF;refine do1 4 (gm (f:=B8) e96) ?_;refine dB 1 hF Hm7 Fw8 fun y61 hF=> ?_
         obtain⟨l47,e98,hF⟩:=bnd hF;refine do2 1 (am (f:=B0) e98) ?_;refine R4 0 (As9 (o:=chk (decide (0<=(Int.tmod (i64.wrap y55.State) y1))&&(decide (0+Int.toNat (Int.tmod (i64.wrap y55.State) y1)=Int.toNat (Int.tmod (i64.wrap y55.State) y1))&&decide (Int.toNat (Int.tmod (i64.wrap y55.State) y1)<(l45.map A0).length)))) [] (by kernel_rfl) (by kernel_rfl) (ckI e92) ?_);refine R4 0 (As9 (o:=chk (decide ((Int.toNat (Int.tmod (i64.wrap y55.State) y1))=(Int.toNat (Int.tmod (i64.wrap y55.State) y1)))&&decide ((Int.toNat (Int.tmod (i64.wrap y55.State) y1))<(l45.map A0).length))) [] (by kernel_rfl) (by kernel_rfl) (ckE e92) ?_);refine je 0 ?_;obtain⟨l48,e99,hF⟩:=bnd hF;refine C4 0 (Bo8 (g:=0) (gd:=1) (e:=42) (e2:=41) (n:=3) (es:=l45.map A0) (ds:=l47.map B0) 14 1200 (Int.toNat (Int.tmod (i64.wrap y55.State) y1)) (l48.map A0) (by kernel_rfl) (by kernel_rfl) (by kernel_rfl) (by kernel_rfl) (glt (f:=A0) e92) (by cases e99;exact shm (f:=A0) (z:=l47)) ?_);refine ja 0 (S0:=[(1,.ptr 1 0),(2,.ptr 2 0),(3,.i y1),(4,.ptr 4 0),(6,.i v4)]) (O0:=[(1,.box 47 [.y d0.States,.y d0.Owners,.y d0.Grain,.y d0.Cents,.l 8 d0.Picks B8]),(2,.box 26 [.esl 1,.esl 1]),(4,.box 26 [.suf 12 0 0,.suf 14 0 0]),(12,.buf 0 3 1 (l14.map A6)),(14,.tree 0 42 1 [.o 41 3 [.z,.z,.z]] (l48.map A0) none)]) (T0:=[.inBlock 3,kC b18 [1,1,1,1,0,1,0,0,1,1],kL b18 [1,1,1,1,0,1,0,0],.inBlock 2,kC b18 [1,1,1,1,1]]) ?_;exact ja 1 (hA4 _ hF)
        ·exact ja 3 (hA4 _ hF)
       ·have hL5:∀(nL5:Nat) (v6:Int) (l60:List (List A2)),Ah6 l14 y1 nL5 v6 l60=some r->G18 r ⟨mkT [(2,.ptr 2 0),(3,.i y1),(4,.ptr 4 0),(8,.i v6)],[(2,.box 26 [.esl 1,.esl 1]),(4,.box 26 [.suf 12 0 0,.suf 14 0 0]),(12,.buf 0 3 1 (l14.map A6)),(14,.tree 0 42 1 [.o 41 3 [.z,.z,.z]] (l60.map A0) none)],[kL b18 [1,1,1,1,1,0,1,0,0],.inBlock 4,kC b18 [1,1,1,1,1,1]]⟩:=by
         clear hF;intro nL5
         induction nL5 with
         |zero=>intro v6 l60 hF;cases hF
         |succ nL5 iL5=>
          intro v6 l60 hF;rw[Ah6]at hF;refine jI 8 78 hF ?_ ?_<;>intro hF
          ·have hA6:∀(l63:List (List A2)),Bj9 v6 (Ah6 l14 y1 nL5) l63=some r->G18 r ⟨mkT [(2,.ptr 2 0),(3,.i y1),(4,.ptr 4 0),(8,.i v6)],[(2,.box 26 [.esl 1,.esl 1]),(4,.box 26 [.suf 12 0 0,.suf 14 0 0]),(12,.buf 0 3 1 (l14.map A6)),(14,.tree 0 42 1 [.o 41 3 [.z,.z,.z]] (l63.map A0) none)],[kC b18 [1,1,1,1,1,0,1,0,0,1,1],kL b18 [1,1,1,1,1,0,1,0,0],.inBlock 4,kC b18 [1,1,1,1,1,1]]⟩:=by
            intro l63 hF;unfold Bj9 at hF;exact ja 5 (iL5 _ _ hF)
           obtain⟨y72,e120,hF⟩:=bnd hF;refine C4 5 (Cr6 (g:=0) (e:=42) (e2:=41) (n:=3) (es:=l60.map A0) 14 1200 (Int.toNat v6) (y72.map B0) (by kernel_rfl) (by kernel_rfl) (by kernel_rfl) (gjo (f:=A0) e120) ?_);refine C4 4 (G5 (o:=chk (decide (0<=v6)&&(decide (0+Int.toNat v6=Int.toNat v6)&&decide (Int.toNat v6<(l60.map A0).length)))) [] (by kernel_rfl) (ckI e120) ?_);refine C4 0 (G5 (o:=chk (decide ((Int.toNat v6)=(Int.toNat v6))&&decide ((Int.toNat v6)<(l60.map A0).length))) [] (by kernel_rfl) (ckE e120) ?_);obtain⟨l64,e121,hF⟩:=bnd hF;refine C4 3 (Bo8 (g:=0) (gd:=0) (e:=42) (e2:=41) (n:=3) (es:=l60.map A0) (ds:=y72.map B0) 14 1200 (Int.toNat v6) (l64.map A0) (by kernel_rfl) (by kernel_rfl) (by kernel_rfl) (by kernel_rfl) (glt (f:=A0) e120) (by cases e121;exact shm (f:=A0) (z:=y72)) ?_);refine ja 0 (S0:=[(2,.ptr 2 0),(3,.i y1),(4,.ptr 4 0),(8,.i v6),(87,.b (((y72.map B0).length:Int)==0))]) (O0:=[(2,.box 26 [.esl 1,.esl 1]),(4,.box 26 [.suf 12 0 0,.suf 14 0 0]),(12,.buf 0 3 1 (l14.map A6)),(14,.tree 0 42 1 [.o 41 3 [.z,.z,.z]] (l64.map A0) none)]) (T0:=[kC b18 [1,1,1,1,1,0,1,0,0,1,0,0,1],.inBlock 5,kC b18 [1,1,1,1,1,0,1,0,0,1,1],kL b18 [1,1,1,1,1,0,1,0,0],.inBlock 4,kC b18 [1,1,1,1,1,1]]) ?_;refine jI 0 87 hF ?_ ?_<;>intro hF
           ·obtain⟨y73,e122,hF⟩:=bnd hF;refine C4 1 (Cr6 (g:=0) (e:=42) (e2:=41) (n:=3) (es:=l64.map A0) 14 1200 (Int.toNat v6) (y73.map B0) (by kernel_rfl) (by kernel_rfl) (by kernel_rfl) (gjo (f:=A0) e122) ?_);refine C4 9 (G5 (o:=chk (decide (0<=v6)&&(decide (0+Int.toNat v6=Int.toNat v6)&&decide (Int.toNat v6<(l64.map A0).length)))) [] (by kernel_rfl) (ckI e122) ?_);refine C4 0 (G5 (o:=chk (decide ((Int.toNat v6)=(Int.toNat v6))&&decide ((Int.toNat v6)<(l64.map A0).length))) [] (by kernel_rfl) (ckE e122) ?_);obtain⟨l65,e123,hF⟩:=bnd hF;refine C4 1 (Bo8 (g:=0) (gd:=0) (e:=42) (e2:=41) (n:=3) (es:=l64.map A0) (ds:=[(⟨[],[48],[(⟨v6,[49]⟩:C1)]⟩:A2)].map B0) 14 95 (Int.toNat v6) (l65.map A0) (by kernel_rfl) (by kernel_rfl) (by kernel_rfl) (by kernel_rfl) (glt (f:=A0) e122) (by cases e123;exact shm (f:=A0) (z:=[(⟨[],[48],[(⟨v6,[49]⟩:C1)]⟩:A2)])) ?_);refine ja 0 (S0:=[(2,.ptr 2 0),(3,.i y1),(4,.ptr 4 0),(8,.i v6)]) (O0:=[(2,.box 26 [.esl 1,.esl 1]),(4,.box 26 [.suf 12 0 0,.suf 14 0 0]),(12,.buf 0 3 1 (l14.map A6)),(14,.tree 0 42 1 [.o 41 3 [.z,.z,.z]] (l65.map A0) none)]) (T0:=[.inBlock 5,kC b18 [1,1,1,1,1,0,1,0,0,1,1],kL b18 [1,1,1,1,1,0,1,0,0],.inBlock 4,kC b18 [1,1,1,1,1,1]]) ?_;exact ja 1 (hA6 _ hF)
           ·exact ja 3 (hA6 _ hF)
          ·refine C4 7 (Fy9 (g:=0) (sz:=1) (e:=42) (shs:=[.o 41 3 [.z,.z,.z]]) (es:=l60.map A0) 14 (by kernel_rfl) ?_);cases hF;exact jr 0
        exact ja 9 (hL5 _ _ _ hF)
      clear hF;rename _=some o3=>hF
      refine jI 10 36 hF ?_ ?_<;>intro hF
      ·cases hF;exact ja 3 hR3
      ·cases hF;exact ja 3 hR3
    exact ja 9 (hL3 _ _ _ hF)
 exact ja 7 (hL1 _ _ _ hF)
structure B2 where
 Model:B6
 p:Int
 gains:Int
 deriving DecidableEq
def Fv4(d0:List A2):Option Bool:=
 Option.bind (
  bif decide (((d0.map B0).length:Int)<1) then
   (some true)
  else
   (some (decide (((d0.map B0).length:Int)>4)))) fun o1=>
 some o1
noncomputable abbrev Hc7:=C2 Tryz.f202
abbrev Hi6(r:Bool):=J none Tryz.prog 11 [] (L5 Tryz.prog Tryz.f202 (.b r))
theorem Fb9{d0:List A2}{r:Bool}(hF:Fv4 d0=some r):
 C3 Tryz.prog 202 [.l 3 d0 B0] (.b r):=by
 unfold Fv4 at hF;refine cf 11 Tryz.func202 ?_;obtain⟨o1,hO,hF⟩:=bnd hF;have hR1:Hi6 r ⟨mkT [(2,.b o1)],[],[kO Hc7 [1,0],kC Hc7 [1,1]]⟩:=by
  clear hO;cases hF;exact jr 1
 clear hF;rename _=some o1=>hF
 refine jI 10 6 hF ?_ ?_<;>intro hF
 ·cases hF;exact ja 5 hR1
 ·cases hF;exact ja 5 hR1
def Ad1(d0:List (List A2)):Nat->Int->Option Int
 |0,_=>none
 |nL1+1,v2=>
  bif decide (v2<((d0.map A0).length:Int)) then
   (Option.bind (C6 d0 v2) fun y5=>
   Option.bind (Fv4 y5) fun y6=>
   bif y6 then
    (some v2)
   else
    ((Ad1 d0 nL1) (i64.wrap (v2+1))))
  else
   (some (-1))
def Gk7(fuel:Nat)(d0:List (List A2)):Option Int:=
 Ad1 d0 fuel 0
noncomputable abbrev Hd3:=C2 Tryz.f251
abbrev Hj4(r:Int):=J none Tryz.prog 19 [] (L5 Tryz.prog Tryz.f251 (.i r))
theorem Fd3{fuel:Nat}{d0:List (List A2)}{r:Int}(hF:Gk7 fuel d0=some r):
 C3 Tryz.prog 251 [.l 1 d0 A0,.d (.fnc 202)] (.i r):=by
 unfold Gk7 at hF;refine cf 19 Tryz.func251 ?_;have hL1:∀(nL1:Nat) (v2:Int),Ad1 d0 nL1 v2=some r->Hj4 r ⟨mkT [(0,.l 1 d0 A0),(1,.d (.fnc 202)),(7,.i ((d0.map A0).length:Int)),(8,.i v2)],[],[kL Hd3 [1,0,1,0,0],.inBlock 0,kC Hd3 [1,1]]⟩:=by
  clear hF;intro nL1
  induction nL1 with
  |zero=>intro v2 hF;cases hF
  |succ nL1 iL1=>
   intro v2 hF;rw[Ad1]at hF;refine jI 6 9 hF ?_ ?_<;>intro hF
   ·obtain⟨y5,e5,hF⟩:=bnd hF;refine jo1 14 (gm (f:=A0) e5) ?_;refine jB 1 hF Gv5 Fb9 fun y6 hF=> ?_
    refine jI 1 16 hF ?_ ?_<;>intro hF
    ·cases hF;exact jr 6
    ·exact ja 7 (iL1 _ hF)
   ·cases hF;exact jr 6
 exact ja 13 (hL1 _ _ hF)
def Gk5(fuel:Nat)(d0:List (List A2)):Option Bool:=
 Option.bind (Gk7 fuel d0) fun y1=>
 some (decide (y1>=0))
theorem Fb8{fuel:Nat}{d0:List (List A2)}{r:Bool}(hF:Gk5 fuel d0=some r):
 C3 Tryz.prog 201 [.l 1 d0 A0,.d (.fnc 202)] (.b r):=by
 unfold Gk5 at hF;refine cf 9 Tryz.func201 ?_;refine jB 8 hF Gw7 Fd3 fun y1 hF=> ?_
 cases hF;exact jr 3
noncomputable abbrev Hk3:=C2 Tryz.f160
def Fv5(d0:Int):Option Bool:=
 Option.bind (
  bif d0 !=0 then
   (some (d0 !=1))
  else
   (some false)) fun o1=>
 some o1
noncomputable abbrev Hc8:=C2 Tryz.f204
abbrev Hi7(r:Bool):=J none Tryz.prog 9 [] (L5 Tryz.prog Tryz.f204 (.b r))
theorem Fc1{d0:Int}{r:Bool}(hF:Fv5 d0=some r):
 C3 Tryz.prog 204 [.i d0] (.b r):=by
 unfold Fv5 at hF;refine cf 9 Tryz.func204 ?_;obtain⟨o1,hO,hF⟩:=bnd hF;have hR1:Hi7 r ⟨mkT [(2,.b o1)],[],[kO Hc8 [1,0],kC Hc8 [1,1]]⟩:=by
  clear hO;cases hF;exact jr 1
 clear hF;rename _=some o1=>hF
 refine jI 9 5 hF ?_ ?_<;>intro hF
 ·cases hF;exact ja 4 hR1
 ·cases hF;exact ja 4 hR1
def Ad2(d0:List Int):Nat->Int->Option Int
 |0,_=>none
 |nL1+1,v2=>
  bif decide (v2<((d0.map A6).length:Int)) then
   (Option.bind (C6 d0 v2) fun y5=>
   Option.bind (Fv5 y5) fun y6=>
   bif y6 then
    (some v2)
   else
    ((Ad2 d0 nL1) (i64.wrap (v2+1))))
  else
   (some (-1))
def Gk8(fuel:Nat)(d0:List Int):Option Int:=
 Ad2 d0 fuel 0
noncomputable abbrev Hd4:=C2 Tryz.f252
abbrev Hj5(r:Int):=J none Tryz.prog 19 [] (L5 Tryz.prog Tryz.f252 (.i r))
theorem Fd4{fuel:Nat}{d0:List Int}{r:Int}(hF:Gk8 fuel d0=some r):
 C3 Tryz.prog 252 [.l 1 d0 A6,.d (.fnc 204)] (.i r):=by
 unfold Gk8 at hF;refine cf 19 Tryz.func252 ?_;have hL1:∀(nL1:Nat) (v2:Int),Ad2 d0 nL1 v2=some r->Hj5 r ⟨mkT [(0,.l 1 d0 A6),(1,.d (.fnc 204)),(7,.i ((d0.map A6).length:Int)),(8,.i v2)],[],[kL Hd4 [1,0,1,0,0],.inBlock 0,kC Hd4 [1,1]]⟩:=by
  clear hF;intro nL1
  induction nL1 with
  |zero=>intro v2 hF;cases hF
  |succ nL1 iL1=>
   intro v2 hF;rw[Ad2]at hF;refine jI 6 9 hF ?_ ?_<;>intro hF
   ·obtain⟨y5,e5,hF⟩:=bnd hF;refine jo1 14 (gm (f:=A6) e5) ?_;refine jB 1 hF Gv7 Fc1 fun y6 hF=> ?_
    refine jI 1 16 hF ?_ ?_<;>intro hF
    ·cases hF;exact jr 6
    ·exact ja 7 (iL1 _ hF)
   ·cases hF;exact jr 6
 exact ja 13 (hL1 _ _ hF)
def Gk6(fuel:Nat)(d0:List Int):Option Bool:=
 Option.bind (Gk8 fuel d0) fun y1=>
 some (decide (y1>=0))
theorem Fc0{fuel:Nat}{d0:List Int}{r:Bool}(hF:Gk6 fuel d0=some r):
 C3 Tryz.prog 203 [.l 1 d0 A6,.d (.fnc 204)] (.b r):=by
 unfold Gk6 at hF;refine cf 9 Tryz.func203 ?_;refine jB 8 hF Gw8 Fd4 fun y1 hF=> ?_
 cases hF;exact jr 3
def Cq3(d0:B6):Option (List Int×List (List A2)):=
 some (d0.Owner,d0.Choices)
noncomputable abbrev Hk6:=C2 Tryz.f205
theorem Ch6{d0:B6}{r:List Int×List (List A2)}(hF:Cq3 d0=some r):
 I0 Tryz.prog 205 [] [.agg [.l 1 d0.Owner A6,.l 1 d0.Choices A0]] [(2000,.box 26 [.l 1 r.1 A6,.l 1 r.2 A0])] (.fn 253 [] [.ptr 2000 0]):=by
 unfold Cq3 at hF;refine cr 4 Tryz.func205 ?_;refine ja 10 (S0:=[(2,.fn 253 [] [.ptr 1 0])]) (O0:=[(1,.box 26 [.l 1 d0.Owner A6,.l 1 d0.Choices A0])]) (T0:=[kC Hk6 [1,1]]) ?_;refine C4 0 (Ax2 [(1,2000)] (by kernel_rfl) (by kernel_rfl) (by kernel_rfl) (by kernel_rfl) ?_);have hF:=oi hF;subst hF;exact C4 0 (Ci6 (xs:=[.fn 253 [] [.ptr 2000 0]]) [.fn 253 [] [.ptr 2000 0]] rfl (by kernel_rfl) (by kernel_rfl) (M8.refl _) rfl)
def D0(x:Int×A2):List Kx.V:=[.d (.int .i64 x.1),.agg [.d (.str x.2.Act),.d (.str x.2.Gain),.d (.sl 2 (x.2.Next.map A9))]]
def Ak5(v6:Int)(y9:List A2)(cL1:Int->Option (List (Int×A2))):Nat->Int->Option (List (Int×A2))
 |0,_=>none
 |nL2+1,v8=>
  bif decide (v8<((y9.map B0).length:Int)) then
   (Option.bind (C6 y9 v8) fun y12=>
   Option.bind (
    (Ak5 v6 y9 cL1 nL2) (i64.wrap (v8+1))) fun l9=>
   some ((v6,y12)::l9))
  else
   (cL1 (i64.wrap (v6+1)))
def Aa0(fuel:Nat)(d1:List (List A2)):Nat->Int->Option (List (Int×A2))
 |0,_=>none
 |nL1+1,v6=>
  bif decide (v6<((d1.map A0).length:Int)) then
   (Option.bind (C6 d1 v6) fun y9=>
   Ak5 v6 y9 (Aa0 fuel d1 nL1) fuel 0)
  else
   (some [])
def Fd5(fuel:Nat)(d0:List Int)(d1:List (List A2)):Option (List (Int×A2)):=
 Aa0 fuel d1 fuel 0
noncomputable abbrev Gl8:=C2 Tryz.f253
theorem Ci1{fuel:Nat}{d0:List Int}{d1:List (List A2)}{r:List (Int×A2)}(hF:Fd5 fuel d0 d1=some r):
 Dc4 Tryz.prog 253 [(2000,.frn 2000)] [.yl 2000,.rp [.sl 1 (d0.map A6),.sl 1 (d1.map A0)] 0] (r.map D0) false:=by
 unfold Fd5 at hF;refine Cw7 (N:=28) (b:=C2 Tryz.f253) Tryz.func253 (by kernel_rfl) rfl rfl (fun yl_ Inv_ Stop_ Pan_ hR_=> ?_);have hL1:∀(nL1:Nat) (r:List (Int×A2)) (v6:Int),Aa0 fuel d1 nL1 v6=some r->J none Tryz.prog 28 [] (Df3 Tryz.prog Tryz.f253 yl_ Inv_ Stop_ Pan_ false (some (r.map D0))) ⟨mkT [(0,.yl 2000),(8,.l 1 d1 A0),(9,.i ((d1.map A0).length:Int)),(10,.i v6)],[(2000,.frn 2000)],[kL Gl8 [1,0,0],.inBlock 0]⟩:=by
  clear hF;intro nL1
  induction nL1 with
  |zero=>intro r v6 hF;cases hF
  |succ nL1 iL1=>
   intro r v6 hF;rw[Aa0]at hF;refine jI 6 11 hF ?_ ?_<;>intro hF
   ·obtain⟨y9,e9,hF⟩:=bnd hF;refine jo1 7 (gm (f:=A0) e9) ?_;have hL2:∀(nL2:Nat) (r:List (Int×A2)) (v8:Int),Ak5 v6 y9 (Aa0 fuel d1 nL1) nL2 v8=some r->J none Tryz.prog 28 [] (Df3 Tryz.prog Tryz.f253 yl_ Inv_ Stop_ Pan_ false (some (r.map D0))) ⟨mkT [(0,.yl 2000),(3,.i v6),(8,.l 1 d1 A0),(9,.i ((d1.map A0).length:Int)),(10,.i v6),(15,.l 3 y9 B0),(16,.i ((y9.map B0).length:Int)),(17,.i v8)],[(2000,.frn 2000)],[kL Gl8 [1,0,0,1,1,0,0,1,1,0,0],.inBlock 2,.inBlock 1,kC Gl8 [1,0,0,1,1,1],kL Gl8 [1,0,0],.inBlock 0]⟩:=by
     clear hF;intro nL2
     induction nL2 with
     |zero=>intro r v8 hF;cases hF
     |succ nL2 iL2=>
      intro r v8 hF;rw[Ak5]at hF;refine jI 6 18 hF ?_ ?_<;>intro hF
      ·obtain⟨y12,e12,hF⟩:=bnd hF;refine jo1 6 (gm (f:=B0) e12) ?_;obtain⟨l9,hY_,hr_⟩:=bnd hF;clear hF;have hr_:=Option.some.inj hr_;subst hr_;have hF:=hY_;clear hY_;refine C4 9 (Ci7 hR_ (xs:=[.i v6,.agg [.s y12.Act,.s y12.Gain,.l 2 y12.Next A9]]) [.i v6,.agg [.s y12.Act,.s y12.Gain,.l 2 y12.Next A9]] (ys:=l9.map D0) (by kernel_rfl) (by kernel_rfl) (M8.refl _) ?_ ?_)
       rotate_left
       ·exact C4 3 (Bb6 hR_ (.inr rfl) rfl rfl (by kernel_rfl))
       ·exact ja 9 (iL2 _ _ hF)
      ·exact ja 7 (iL1 _ _ hF)
    exact ja 12 (hL2 _ _ _ hF)
   ·have hF:=oi hF;subst hF;exact C4 2 (Bb6 hR_ (.inl ⟨rfl,rfl⟩) rfl rfl (by kernel_rfl))
 exact ja 9 (hL1 _ _ _ hF)
def Fv7(d0:Int):Option Bool:=
 Option.bind (
  bif decide (d0<97) then
   (some true)
  else
   (some (decide (d0>122)))) fun o1=>
 some o1
noncomputable abbrev Hc9:=C2 Tryz.f207
abbrev Hi8(r:Bool):=J none Tryz.prog 9 [] (L5 Tryz.prog Tryz.f207 (.b r))
theorem Fc3{d0:Int}{r:Bool}(hF:Fv7 d0=some r):
 C3 Tryz.prog 207 [.y d0] (.b r):=by
 unfold Fv7 at hF;refine cf 9 Tryz.func207 ?_;obtain⟨o1,hO,hF⟩:=bnd hF;have hR1:Hi8 r ⟨mkT [(2,.b o1)],[],[kO Hc9 [1,0],kC Hc9 [1,1]]⟩:=by
  clear hO;cases hF;exact jr 1
 clear hF;rename _=some o1=>hF
 refine jI 9 5 hF ?_ ?_<;>intro hF
 ·cases hF;exact ja 4 hR1
 ·cases hF;exact ja 4 hR1
def Ad3(d0:List Int):Nat->Int->Option Int
 |0,_=>none
 |nL1+1,v2=>
  bif decide (v2<((d0.map L4).length:Int)) then
   (Option.bind (C6 d0 v2) fun y5=>
   Option.bind (Fv7 y5) fun y6=>
   bif y6 then
    (some v2)
   else
    ((Ad3 d0 nL1) (i64.wrap (v2+1))))
  else
   (some (-1))
def Gk9(fuel:Nat)(d0:List Int):Option Int:=
 Ad3 d0 fuel 0
noncomputable abbrev Hd5:=C2 Tryz.f254
abbrev Hj6(r:Int):=J none Tryz.prog 19 [] (L5 Tryz.prog Tryz.f254 (.i r))
theorem Fd6{fuel:Nat}{d0:List Int}{r:Int}(hF:Gk9 fuel d0=some r):
 C3 Tryz.prog 254 [.l 1 d0 L4,.d (.fnc 207)] (.i r):=by
 unfold Gk9 at hF;refine cf 19 Tryz.func254 ?_;have hL1:∀(nL1:Nat) (v2:Int),Ad3 d0 nL1 v2=some r->Hj6 r ⟨mkT [(0,.l 1 d0 L4),(1,.d (.fnc 207)),(7,.i ((d0.map L4).length:Int)),(8,.i v2)],[],[kL Hd5 [1,0,1,0,0],.inBlock 0,kC Hd5 [1,1]]⟩:=by
  clear hF;intro nL1
  induction nL1 with
  |zero=>intro v2 hF;cases hF
  |succ nL1 iL1=>
   intro v2 hF;rw[Ad3]at hF;refine jI 6 9 hF ?_ ?_<;>intro hF
   ·obtain⟨y5,e5,hF⟩:=bnd hF;refine jo1 14 (gm (f:=L4) e5) ?_;refine jB 1 hF Gv9 Fc3 fun y6 hF=> ?_
    refine jI 1 16 hF ?_ ?_<;>intro hF
    ·cases hF;exact jr 6
    ·exact ja 7 (iL1 _ hF)
   ·cases hF;exact jr 6
 exact ja 13 (hL1 _ _ hF)
def Fv6(fuel:Nat)(d0:List Int):Option Bool:=
 Option.bind (Gk9 fuel d0) fun y1=>
 some (decide (y1>=0))
theorem Fc2{fuel:Nat}{d0:List Int}{r:Bool}(hF:Fv6 fuel d0=some r):
 C3 Tryz.prog 206 [.l 1 d0 L4,.d (.fnc 207)] (.b r):=by
 unfold Fv6 at hF;refine cf 9 Tryz.func206 ?_;refine jB 8 hF Gw9 Fd6 fun y1 hF=> ?_
 cases hF;exact jr 3
def Fa7:Option Bool:=
 some false
def Fa8(fuel:Nat):List (Int×A2)->Option Bool
 |[]=>
  some true
 |y6::ys_F162_L1=>
  Option.bind (
   bif decide ((y6.2.Act.length:Int)>8) then
    (some true)
   else
    (Option.bind (Fv6 fuel (y6.2.Act.map toI)) fun y9=>
    some y9)) fun o2=>
  bif o2 then
   (Fa7)
  else
   ((Fa8 fuel ys_F162_L1))
noncomputable abbrev Cj5:=C2 Tryz.f162
def Ak6(d0:List UInt8):Nat->Int->Int->Option Int
 |0,_,_=>none
 |nL1+1,v3,v4=>
  bif decide (v4<(d0.length:Int)) then
   (Option.bind (C6 d0 v4) fun y5=>
   (Ak6 d0 nL1) (i64.wrap ((i64.wrap (10*v3))+(i64.wrap (IntKind.u8.wrap ((y5.toNat:Int)-48))))) (i64.wrap (v4+1)))
  else
   (some v3)
def Ed5:Nat->(List UInt8)->Option Int
 |0,_=>none
 |fuel+1,d0=>
  Option.bind (C6 d0 0) fun y1=>
  bif (y1.toNat:Int)==45 then
   (ass (decide (0<=1)&&decide (1<=(d0.length:Int))&&decide ((d0.length:Int)<=d0.length))<|
   Option.bind ((Ed5 fuel) ((d0.drop (Int.toNat 1)).take (Int.toNat ((d0.length:Int)-1)))) fun y2=>
   some (i64.wrap (0-y2)))
  else
   (Ak6 d0 fuel 0 0)
noncomputable abbrev Hd7:=C2 Tryz.f257
abbrev Hj8(r:Int):=J none Tryz.prog 27 [] (L5 Tryz.prog Tryz.f257 (.i r))
theorem Dl9:∀{fuel:Nat} {d0:List UInt8} {r:Int},Ed5 fuel d0=some r->C3 Tryz.prog 257 [.s d0] (.i r):=by
 intro fuel
 induction fuel with
 |zero=>intro _ r hF;cases hF
 |succ fuel ih=>
  intro d0 r hF;have ih_F257:∀(d0:List UInt8) (r:Int),Ed5 fuel d0=some r->C3 Tryz.prog 257 [.s d0] (.i r):=fun d0 r h=>ih h
  rw[Ed5]at hF;refine cf 27 Tryz.func257 ?_;obtain⟨y1,e1,hF⟩:=bnd hF;refine C4 8 (G5 (o:=(match C6 d0 0 with|some c=>some [.int .u8 c.toNat]|none=>none)) [.int .u8 y1.toNat] (by kernel_rfl) (by rw[e1]) ?_);refine jI 2 7 hF ?_ ?_<;>intro hF
  ·obtain⟨hb2,hF⟩:=K8 hF;refine jo1 4 (ck hb2) ?_;obtain⟨y2,e2,hF⟩:=bnd hF;refine jc 0 Fk8 (ih_F257 _ _ e2) ?_;cases hF;exact jr 3
  ·have hL1:∀(nL1:Nat) (v3:Int) (v4:Int),Ak6 d0 nL1 v3 v4=some r->Hj8 r ⟨mkT [(0,.s d0),(3,.i v3),(13,.i (d0.length:Int)),(14,.i v4)],[],[kL Hd7 [1,1,1,0,1,0,0],.inBlock 0,kC Hd7 [1,1,1,1]]⟩:=by
    clear hF;intro nL1
    induction nL1 with
    |zero=>intro v3 v4 hF;cases hF
    |succ nL1 iL1=>
     intro v3 v4 hF;rw[Ak6]at hF;refine jI 6 15 hF ?_ ?_<;>intro hF
     ·obtain⟨y5,e5,hF⟩:=bnd hF;refine C4 14 (G5 (o:=(match C6 d0 v4 with|some c=>some [.int .u8 c.toNat]|none=>none)) [.int .u8 y5.toNat] (by kernel_rfl) (by rw[e5]) ?_);exact ja 10 (iL1 _ _ hF)
     ·cases hF;exact jr 7
   exact ja 15 (hL1 _ _ _ hF)
def Ch7(fuel:Nat)(d0:List UInt8):Option (Int×Int×Bool):=
 Option.bind (Fr8 fuel d0) fun y1=>
 bif !y1 then
  (some (0,0,false))
 else
  (Option.bind (Gl0 fuel d0) fun y2=>
  Option.bind (Ed5 fuel y2.1) fun y3=>
  Option.bind (Ed5 fuel y2.2.1) fun y4=>
  some (y3,y4,y2.2.2==0))
theorem Ch8{fuel:Nat}{d0:List UInt8}{r:Int×Int×Bool}(hF:Ch7 fuel d0=some r):
 C3 Tryz.prog 208 [.s d0] (.tup [.i r.1,.i r.2.1,.b r.2.2]):=by
 unfold Ch7 at hF;refine cf 23 Tryz.func208 ?_;refine jB 10 hF Gx0 Fd7 fun y1 hF=> ?_
 refine jI 2 10 hF ?_ ?_<;>intro hF
 ·cases hF;exact jr 7
 ·refine jB 5 hF Gx1 Fd8 fun y2 hF=> ?_
  refine jB 11 hF Fk8 Dl9 fun y3 hF=> ?_
  refine jB 1 hF Fk8 Dl9 fun y4 hF=> ?_
  cases hF;exact jr 6
def As8:Nat->Int->Int->Option Int
 |0,_,_=>none
 |nL1+1,v3,v4=>
  bif decide (v4>0) then
   (ass (decide (v4≠0))<|
   (As8 nL1) v4 (Int.tmod v3 v4))
  else
   (some v3)
def Fd9(fuel:Nat)(d0:Int)(d1:Int):Option Int:=
 As8 fuel d0 d1
noncomputable abbrev Hd8:=C2 Tryz.f258
abbrev Hj9(r:Int):=J none Tryz.prog 12 [] (L5 Tryz.prog Tryz.f258 (.i r))
theorem Dm0{fuel:Nat}{d0:Int}{d1:Int}{r:Int}(hF:Fd9 fuel d0 d1=some r):
 C3 Tryz.prog 258 [.i d0,.i d1] (.i r):=by
 unfold Fd9 at hF;refine cf 12 Tryz.func258 ?_;have hL1:∀(nL1:Nat) (v3:Int) (v4:Int),As8 nL1 v3 v4=some r->Hj9 r ⟨mkT [(0,.i v3),(1,.i v4)],[],[kL Hd8 [1,0,0,0],.inBlock 0,kC Hd8 [1,1]]⟩:=by
  clear hF;intro nL1
  induction nL1 with
  |zero=>intro v3 v4 hF;cases hF
  |succ nL1 iL1=>
   intro v3 v4 hF;rw[As8]at hF;refine jI 7 6 hF ?_ ?_<;>intro hF
   ·refine jd 3 ?_;obtain⟨hb6,hF⟩:=K8 hF;refine do1 3 (ck hb6) ?_;refine je 2 ?_;exact ja 1 (iL1 _ _ hF)
   ·cases hF;exact jr 7
 exact ja 7 (hL1 _ _ _ hF)
def Hh6(fuel:Nat)(d0:Int)(d1:List Int)(d2:List (List A2))(d3:Int)(d4:Int):Option (Bool×Int):=
 Option.bind (Fd9 fuel d4 d0) fun y1=>
 ass (decide (y1≠0))<|
 some (decide ((i64.wrap ((i64.wrap (Int.tdiv d4 y1))*d0))<=9999),i64.wrap ((i64.wrap (Int.tdiv d4 y1))*d0))
def Fa9(v5:Int):Option (Bool×Int):=
 some (false,v5)
def Fb0(fuel:Nat)(d0:List Int)(d1:List (List A2))(d2:Int):List (Int×A2)->Int->Option (Bool×Int)
 |[],v4=>
  some (true,v4)
 |y12::ys_F163_L1,v4=>
  Option.bind (Ch7 fuel y12.2.Gain) fun y13=>
  Option.bind (
   bif !y13.2.2 then
    (some (true,v4))
   else
    (bif decide (y13.1<0) then
     (some (true,v4))
    else
     (Option.bind (Hh6 fuel y13.2.1 d0 d1 d2 v4) fun y16=>
     some (!y16.1,y16.2)))) fun o3=>
  bif o3.1 then
   (Fa9 o3.2)
  else
   ((Fb0 fuel d0 d1 d2 ys_F163_L1) o3.2)
noncomputable abbrev Cj6:=C2 Tryz.f163
def Go8(fuel:Nat)(d0:Int)(d1:List Int)(d2:List (List A2))(d3:Int)(d4:Int):Option (Bool×Int):=
 Option.bind (Fd9 fuel d3 d0) fun y1=>
 ass (decide (y1≠0))<|
 some (decide ((i64.wrap ((i64.wrap (Int.tdiv d3 y1))*d0))<=9999),i64.wrap ((i64.wrap (Int.tdiv d3 y1))*d0))
def Dl1(fuel:Nat)(d0:List C1)(v8:Int):Nat->Int->Int->Option (Bool×Int)
 |0,_,_=>none
 |nL2+1,v12,v13=>
  bif decide (v13<((d0.map A9).length:Int)) then
   (Option.bind (C6 d0 v13) fun y20=>
   Option.bind (Ch7 fuel y20.P) fun y21=>
   ass (decide (y21.2.1≠0))<|
   (Dl1 fuel d0 v8 nL2) (i64.wrap (v12+(i64.wrap (y21.1*(i64.wrap (Int.tdiv v8 y21.2.1)))))) (i64.wrap (v13+1)))
  else
   (some (v12==v8,v8))
def Fc4(fuel:Nat)(d0:List C1)(d1:List Int)(d2:List (List A2))(d4:Int):Nat->Int->Int->Int->Option (Bool×Int)
 |0,_,_,_=>none
 |nL1+1,v6,v7,v8=>
  bif decide (v7<((d0.map A9).length:Int)) then
   (Option.bind (C6 d0 v7) fun y11=>
   Option.bind (Ch7 fuel y11.P) fun y12=>
   Option.bind (
    bif decide (y11.To<=v6) then
     (some (true,v8))
    else
     (bif decide (y11.To>=((d1.map A6).length:Int)) then
      (some (true,v8))
     else
      (bif !y12.2.2 then
       (some (true,v8))
      else
       (bif decide (y12.1<1) then
        (some (true,v8))
       else
        (Option.bind (Go8 fuel y12.2.1 d1 d2 v8 d4) fun y15=>
        some (!y15.1,y15.2)))))) fun o3=>
   bif o3.1 then
    (some (false,o3.2))
   else
    ((Fc4 fuel d0 d1 d2 d4 nL1) y11.To (i64.wrap (v7+1)) o3.2))
  else
   (Dl1 fuel d0 v8 fuel 0 0)
noncomputable abbrev Eh5:=C2 Tryz.f210
noncomputable abbrev Dd3:=C2 Tryz.f164
def Dc0(fuel:Nat)(d0:List Int)(d1:List (List A2))(d2:Int)(d3:Int):Option Bool:=
 Option.bind (
  bif decide (((d0.map A6).length:Int)>=1) then
   (bif decide (((d0.map A6).length:Int)<=12) then
    (bif ((d1.map A0).length:Int)==((d0.map A6).length:Int) then
     (Option.bind (Gk5 fuel d1) fun y3=>
     some (!y3))
    else
     (some false))
   else
    (some false))
  else
   (some false)) fun o1=>
 some o1
abbrev Gp4(d0:List Int)(d1:List (List A2))(d2:Int)(d3:Int)(r:Bool):=J none Tryz.prog 43 [] (Cf8 Tryz.prog Tryz.f160 [(2000,.box 217 [.l 1 d0 A6,.l 1 d1 A0,.i d2,.i d3])] (.b r))
theorem Ef3{fuel:Nat}{d0:List Int}{d1:List (List A2)}{d2:Int}{d3:Int}{r:Bool}(hF:Dc0 fuel d0 d1 d2 d3=some r):
 I0 Tryz.prog 160 [(2000,.box 217 [.l 1 d0 A6,.l 1 d1 A0,.i d2,.i d3])] [.ptr 2000 0] [(2000,.box 217 [.l 1 d0 A6,.l 1 d1 A0,.i d2,.i d3])] (.b r):=by
 unfold Dc0 at hF;refine cr 43 Tryz.func160 ?_;obtain⟨o1,hO,hF⟩:=bnd hF;have hR1:Gp4 d0 d1 d2 d3 r ⟨mkT [(2,.b o1)],[(2000,.box 217 [.l 1 d0 A6,.l 1 d1 A0,.i d2,.i d3])],[kC Hk3 [1,1]]⟩:=by
  clear hO;cases hF;exact jrr 0
 clear hF;rename _=some o1=>hF
 refine jd 5 ?_;refine dI 8 10 hF ?_ ?_<;>intro hF
 ·refine dI 9 19 hF ?_ ?_<;>intro hF
  ·refine dI 15 34 hF ?_ ?_<;>intro hF
   ·refine dB 5 hF Gv4 Fb8 fun y3 hF=> ?_
    refine je 3 ?_;cases hF;exact ja 0 hR1
   ·refine je 9 ?_;cases hF;exact ja 0 hR1
  ·refine je 24 ?_;cases hF;exact ja 0 hR1
 ·refine je 33 ?_;cases hF;exact ja 0 hR1
def Dc1(fuel:Nat)(d0:List Int)(d1:List (List A2))(d2:Int)(d3:Int):Option Bool:=
 Option.bind (Gk6 fuel d0) fun y1=>
 some (!y1)
theorem Ef4{fuel:Nat}{d0:List Int}{d1:List (List A2)}{d2:Int}{d3:Int}{r:Bool}(hF:Dc1 fuel d0 d1 d2 d3=some r):
 I0 Tryz.prog 161 [(2000,.box 217 [.l 1 d0 A6,.l 1 d1 A0,.i d2,.i d3])] [.ptr 2000 0] [(2000,.box 217 [.l 1 d0 A6,.l 1 d1 A0,.i d2,.i d3])] (.b r):=by
 unfold Dc1 at hF;refine cr 10 Tryz.func161 ?_;refine jB 11 hF Gv6 Fc0 fun y1 hF=> ?_
 cases hF;exact jrr 3
def Bo1:Option Bool:=
 some false
def Z5(fuel:Nat):List (Int×A2)->Option Bool
 |[]=>
  some true
 |y6::ys_F162a_L1=>
  Option.bind (
   bif decide ((y6.2.Act.length:Int)>8) then
    (some true)
   else
    (Option.bind (Fv6 fuel (y6.2.Act.map toI)) fun y9=>
    some y9)) fun o2=>
  bif o2 then
   (Bo1)
  else
   ((Z5 fuel ys_F162a_L1))
def Bw0(fuel:Nat)(d0:List Int)(d1:List (List A2))(d2:Int)(d3:Int):Option Bool:=
 Option.bind (Cq3 (⟨d0,d1⟩:B6)) fun y1=>
 Option.bind (Fd5 fuel y1.1 y1.2) fun ys1=>
 Z5 fuel ys1
theorem Ef5{fuel:Nat}{d0:List Int}{d1:List (List A2)}{d2:Int}{d3:Int}{r:Bool}(hF:Bw0 fuel d0 d1 d2 d3=some r):
 I0 Tryz.prog 162 [(2000,.box 217 [.l 1 d0 A6,.l 1 d1 A0,.i d2,.i d3])] [.ptr 2000 0] [(2000,.box 217 [.l 1 d0 A6,.l 1 d1 A0,.i d2,.i d3])] (.b r):=by
 unfold Bw0 at hF;refine Bp2 (N:=22) (b:=C2 Tryz.f162) Tryz.func162 (by kernel_rfl) rfl rfl (by kernel_rfl) (fun s_ r0_ w00_ M00_ st_=> ?_);obtain⟨y1,e1,hF⟩:=bnd hF;refine jcr 11 [(9,2000)] Fk3 (Ch6 e1) ?_;refine ja 2 (S0:=[(2,.ptr 2 0),(9,.fn 253 [] [.ptr 9 0])]) (O0:=[(2,.box 4 [.b false]),(9,.box 26 [.l 1 y1.1 A6,.l 1 y1.2 A0]),(2000,.box 217 [.l 1 d0 A6,.l 1 d1 A0,.i d2,.i d3])]) (T0:=[kC Cj5 [1,0,1,0],.inBlock 0,kC Cj5 [1,1]]) ?_;refine Ax2 [(9,9),(2000,2000),(2,2100)] (by kernel_rfl) (by kernel_rfl) (by kernel_rfl) (by kernel_rfl) ?_;refine Ci5 (S0:=[(2,.ptr 2100 0),(9,.fn 253 [] [.ptr 9 0])]) (O0:=[(9,.box 26 [.l 1 y1.1 A6,.l 1 y1.2 A0]),(2000,.box 217 [.l 1 d0 A6,.l 1 d1 A0,.i d2,.i d3]),(2100,.box 4 [.b false])]) (T0:=[kC Cj5 [1,0,1,0],.inBlock 0,kC Cj5 [1,1]]) [2,9] [9,2000,2100] (by kernel_rfl) rfl ?_;obtain⟨ys1,e2,hF⟩:=bnd hF;obtain⟨G_,hG_⟩:∃G:List (List Kx.V)->List (Nat×B9)->Prop,G=(fun yv ob=>∃(yl_:List (Int×A2)),yv=yl_.map D0/\ob=[(2000,.box 217 [.l 1 d0 A6,.l 1 d1 A0,.i d2,.i d3]),(2100,.box 4 [.b false])]/\Z5 fuel yl_=some r):=⟨_,rfl⟩
 obtain⟨GX_,hGX_⟩:∃G:Code->List (Nat×B9)->Prop,G=(fun j ob=>(∃(_:Unit),j= .ret/\ob=[(2000,.box 217 [.l 1 d0 A6,.l 1 d1 A0,.i d2,.i d3]),(2100,.box 4 [.b false])]/\Bo1=some r)):=⟨_,rfl⟩
 refine Bb8 (P:=Tryz.prog) (g:=(.tmp 9)) (ps:= #[10,11]) (asg:=(cAt Cj5 [1,0,1,0,0])) (bo:=(cAt Cj5 [1,0,1,0,1])) (k:=[.inBlock 0,kC Cj5 [1,1]]) (gf:=253) (first:=[]) (cap:=[.ptr 9 0]) (xs:=[.rp [.sl 1 (y1.1.map A6),.sl 1 (y1.2.map A0)] 0]) (os:=[]) (S1:=[(2,.ptr 2100 0)]) (ob0:=[(2000,.box 217 [.l 1 d0 A6,.l 1 d1 A0,.i d2,.i d3]),(2100,.box 4 [.b false])]) [] [2] [2000,2100] [.rp [.sl 1 (y1.1.map A6),.sl 1 (y1.2.map A0)] 0] (ysAll:=ys1.map D0) [2000,2100] G_ GX_ rfl (by kernel_rfl) rfl (by kernel_rfl) rfl (by kernel_rfl) (M8.refl _) Fk7 (Ci1 e2) (by kernel_rfl) (by kernel_rfl) (by kernel_rfl) ?_ ?_ ?_ ⟨by kernel_rfl,by kernel_rfl⟩ ?_ ?_ ?_
 ·rw[hG_];exact⟨ys1,rfl,by kernel_rfl,hF⟩
 ·intro yv_ ob_ h_;rw[hG_]at h_;obtain⟨_,_,rfl,_⟩:=h_;kernel_rfl
 ·intro j_ ob_ h_;rw[hGX_]at h_;rcases h_ with⟨_,_,rfl,_⟩<;>kernel_rfl
 ·intro x_ hxa_ hxb_ hxp_ yv_ ysv_ ob_ h_;rw[hG_]at h_;obtain⟨yl_,hy_,rfl,hF⟩:=h_;cases yl_ with
  |nil=>cases hy_
  |cons y6 ys_F162a_L1=>
   cases hy_;rw[Z5]at hF;refine Cm9 (by kernel_rfl) ?_;refine Ci5 (S0:=[(2,.ptr 2100 0),(10,.i y6.1),(11,.agg [.s y6.2.Act,.s y6.2.Gain,.l 2 y6.2.Next A9])]) (O0:=[(3000,.raw x_.D (.deferred (some []))),(3001,.raw x_.L (.loop (F4 x_ .ready none))),(2000,.box 217 [.l 1 d0 A6,.l 1 d1 A0,.i d2,.i d3]),(2100,.box 4 [.b false])]) (T0:=[kC Cj5 [1,0,1,0,0],.begR x_.L,kC Cj5 [1,0,1,0,1]]) [2,10,11] [3000,3001,2000,2100] (by kernel_rfl) rfl ?_;refine ja 4 (S0:=[(2,.ptr 2100 0),(4,.ptr 4 0),(10,.i y6.1),(11,.agg [.s y6.2.Act,.s y6.2.Gain,.l 2 y6.2.Next A9])]) (O0:=[(3000,.raw x_.D (.deferred (some []))),(3001,.raw x_.L (.loop (F4 x_ .ready none))),(4,.box 41 [.s y6.2.Act,.s y6.2.Gain,.l 2 y6.2.Next A9]),(2000,.box 217 [.l 1 d0 A6,.l 1 d1 A0,.i d2,.i d3]),(2100,.box 4 [.b false])]) (T0:=[.begR x_.L,kC Cj5 [1,0,1,0,1]]) ?_;refine Bb5 (l:=x_.L) (q:=3001) (k:=[kC Cj5 [1,0,1,0,1]]) (rec:=F4 x_ .ready none) rfl rfl rfl ?_;obtain⟨o2,hO,hF⟩:=bnd hF;have hR2:J (some x_.L) Tryz.prog 22 [] (Ed9 x_ G_ GX_ (fun _=>False) (ys_F162a_L1.map D0)) ⟨mkT [(2,.ptr 2100 0),(21,.b o2)],[(3000,.raw x_.D (.deferred (some []))),(3001,.raw x_.L (.loop (F4 x_ .busy none))),(2000,.box 217 [.l 1 d0 A6,.l 1 d1 A0,.i d2,.i d3]),(2100,.box 4 [.b false])],[kO Cj5 [1,0,1,0,1,0,0],kC Cj5 [1,0,1,0,1,0,1],.inBlock 1]⟩:=by
    clear hO;refine jI 1 21 hF ?_ ?_<;>intro hF
    ·refine ja 5 (S0:=[]) (O0:=rob x_ .busy none [(2000,.box 217 [.l 1 d0 A6,.l 1 d1 A0,.i d2,.i d3]),(2100,.box 4 [.b false])]) (T0:=[.code (.ret),.inBlock 1]) ?_;exact Cr9 rfl [(2000,.box 217 [.l 1 d0 A6,.l 1 d1 A0,.i d2,.i d3]),(2100,.box 4 [.b false])] (k:=[.inBlock 1]) rfl rfl rfl (by kernel_rfl) (by rw[hGX_];exact⟨(),rfl,rfl,hF⟩)
    ·refine ja 3 (S0:=[]) (O0:=rob x_ .busy none [(2000,.box 217 [.l 1 d0 A6,.l 1 d1 A0,.i d2,.i d3]),(2100,.box 4 [.b false])]) (T0:=[]) ?_;exact Bb7 rfl [(2000,.box 217 [.l 1 d0 A6,.l 1 d1 A0,.i d2,.i d3]),(2100,.box 4 [.b false])] rfl rfl (by kernel_rfl) (by rw[hG_];exact⟨ys_F162a_L1,rfl,rfl,hF⟩)
   clear hF;rename _=some o2=>hF
   refine jI 8 16 hF ?_ ?_<;>intro hF
   ·cases hF;exact ja 5 hR2
   ·refine C4 2 (H5 (o:=some (y6.2.Act.map Ao0)) ((y6.2.Act.map toI).map L4) (by kernel_rfl) (bym (f:=L4) (fun _=>rfl)) ?_);refine jB 0 hF Gv8 Fc2 fun y9 hF=> ?_
    cases hF;exact ja 1 hR2
 ·intro D_ ob_ h_;rw[hG_]at h_;obtain⟨yl_,hy_,rfl,hF⟩:=h_;cases yl_ with
  |cons _ _=>cases hy_
  |nil=>
   clear hy_;rw[Z5]at hF;refine Bk9 st_ [(2100,2),(2000,2000)] (by kernel_rfl) (by kernel_rfl) (by kernel_rfl) (by kernel_rfl) ?_;refine ja 0 (S0:=[(2,.ptr 2 0)]) (O0:=[(2,.box 4 [.b false]),(2000,.box 217 [.l 1 d0 A6,.l 1 d1 A0,.i d2,.i d3])]) (T0:=[.inBlock 0,kC Cj5 [1,1]]) ?_;have hF:=oi hF;subst hF;exact C4 5 (Bl0 (xs:=[.b true]) st_ [.b true] rfl rfl (by kernel_rfl) (M8.refl _) rfl (by kernel_rfl))
 ·intro D_ ob_ j_ h_;rw[hGX_]at h_;rcases h_ with⟨_,rfl,rfl,hF⟩
  ·unfold Bo1 at hF;refine Bk9 st_ [(2100,2),(2000,2000)] (by kernel_rfl) (by kernel_rfl) (by kernel_rfl) (by kernel_rfl) ?_;refine ja 0 (S0:=[(2,.ptr 2 0)]) (O0:=[(2,.box 4 [.b false]),(2000,.box 217 [.l 1 d0 A6,.l 1 d1 A0,.i d2,.i d3])]) (T0:=[.code (.ret),.inBlock 0,kC Cj5 [1,1]]) ?_;have hF:=oi hF;subst hF;exact C4 0 (Bl0 (xs:=[.b false]) st_ [.b false] rfl rfl (by kernel_rfl) (M8.refl _) rfl (by kernel_rfl))
def Dl0(fuel:Nat)(d0:Int)(d1:List Int)(d2:List (List A2))(d3:Int)(d4:Int):Option (Bool×Int):=
 Option.bind (Fd9 fuel d4 d0) fun y1=>
 ass (decide (y1≠0))<|
 some (decide ((i64.wrap ((i64.wrap (Int.tdiv d4 y1))*d0))<=9999),i64.wrap ((i64.wrap (Int.tdiv d4 y1))*d0))
theorem Ef8{fuel:Nat}{d0:Int}{d1:List Int}{d2:List (List A2)}{d3:Int}{d4:Int}{r:Bool×Int}(hF:Dl0 fuel d0 d1 d2 d3 d4=some r):
 I0 Tryz.prog 209 [(2000,.box 217 [.l 1 d1 A6,.l 1 d2 A0,.i d3,.i d4])] [.ptr 2000 3,.i d0] [(2000,.box 217 [.l 1 d1 A6,.l 1 d2 A0,.i d3,.i r.2])] (.b r.1):=by
 unfold Dl0 at hF;refine cr 22 Tryz.func209 ?_;refine jd 5 ?_;refine dB 8 hF Ge2 Dm0 fun y1 hF=> ?_
 obtain⟨hb1,hF⟩:=K8 hF;refine do1 0 (ck hb1) ?_;refine je 4 ?_;cases hF;exact jrr 8
def Bo2(v5:Int):Option (Bool×Int):=
 some (false,v5)
def H4(fuel:Nat)(d0:List Int)(d1:List (List A2))(d2:Int):List (Int×A2)->Int->Option (Bool×Int)
 |[],v4=>
  some (true,v4)
 |y12::ys_F163a_L1,v4=>
  Option.bind (Ch7 fuel y12.2.Gain) fun y13=>
  Option.bind (
   bif !y13.2.2 then
    (some (true,v4))
   else
    (bif decide (y13.1<0) then
     (some (true,v4))
    else
     (Option.bind (Dl0 fuel y13.2.1 d0 d1 d2 v4) fun y16=>
     some (!y16.1,y16.2)))) fun o3=>
  bif o3.1 then
   (Bo2 o3.2)
  else
   ((H4 fuel d0 d1 d2 ys_F163a_L1) o3.2)
def Cg9(fuel:Nat)(d0:List Int)(d1:List (List A2))(d2:Int)(d3:Int):Option (Bool×Int):=
 Option.bind (Cq3 (⟨d0,d1⟩:B6)) fun y1=>
 Option.bind (Fd5 fuel y1.1 y1.2) fun ys1=>
 H4 fuel d0 d1 d2 ys1 1
theorem Ef6{fuel:Nat}{d0:List Int}{d1:List (List A2)}{d2:Int}{d3:Int}{r:Bool×Int}(hF:Cg9 fuel d0 d1 d2 d3=some r):
 I0 Tryz.prog 163 [(2000,.box 217 [.l 1 d0 A6,.l 1 d1 A0,.i d2,.i d3])] [.ptr 2000 0] [(2000,.box 217 [.l 1 d0 A6,.l 1 d1 A0,.i d2,.i r.2])] (.b r.1):=by
 unfold Cg9 at hF;refine Bp2 (N:=39) (b:=C2 Tryz.f163) Tryz.func163 (by kernel_rfl) rfl rfl (by kernel_rfl) (fun s_ r0_ w00_ M00_ st_=> ?_);obtain⟨y1,e1,hF⟩:=bnd hF;refine jcr 19 [(15,2000)] Fk3 (Ch6 e1) ?_;refine ja 2 (S0:=[(1,.ptr 1 0),(2,.ptr 2 0),(15,.fn 253 [] [.ptr 15 0])]) (O0:=[(1,.box 171 [.ptr 2000 0]),(2,.box 4 [.b false]),(15,.box 26 [.l 1 y1.1 A6,.l 1 y1.2 A0]),(2000,.box 217 [.l 1 d0 A6,.l 1 d1 A0,.i d2,.i 1])]) (T0:=[kC Cj6 [1,1,0,1,0],.inBlock 0,kC Cj6 [1,1,1]]) ?_;refine Ax2 [(15,15),(2000,2000),(1,2100),(2,2101)] (by kernel_rfl) (by kernel_rfl) (by kernel_rfl) (by kernel_rfl) ?_;refine Ci5 (S0:=[(1,.ptr 2100 0),(2,.ptr 2101 0),(15,.fn 253 [] [.ptr 15 0])]) (O0:=[(15,.box 26 [.l 1 y1.1 A6,.l 1 y1.2 A0]),(2000,.box 217 [.l 1 d0 A6,.l 1 d1 A0,.i d2,.i 1]),(2100,.box 171 [.ptr 2000 0]),(2101,.box 4 [.b false])]) (T0:=[kC Cj6 [1,1,0,1,0],.inBlock 0,kC Cj6 [1,1,1]]) [1,2,15] [15,2000,2100,2101] (by kernel_rfl) rfl ?_;obtain⟨ys1,e2,hF⟩:=bnd hF;obtain⟨G_,hG_⟩:∃G:List (List Kx.V)->List (Nat×B9)->Prop,G=(fun yv ob=>∃(yl_:List (Int×A2)) (v4:Int),yv=yl_.map D0/\ob=[(2000,.box 217 [.l 1 d0 A6,.l 1 d1 A0,.i d2,.i v4]),(2100,.box 171 [.ptr 2000 0]),(2101,.box 4 [.b false])]/\H4 fuel d0 d1 d2 yl_ v4=some r):=⟨_,rfl⟩
 obtain⟨GX_,hGX_⟩:∃G:Code->List (Nat×B9)->Prop,G=(fun j ob=>(∃(v5:Int),j= .ret/\ob=[(2000,.box 217 [.l 1 d0 A6,.l 1 d1 A0,.i d2,.i v5]),(2100,.box 171 [.ptr 2000 0]),(2101,.box 4 [.b false])]/\Bo2 v5=some r)):=⟨_,rfl⟩
 refine Bb8 (P:=Tryz.prog) (g:=(.tmp 15)) (ps:= #[16,17]) (asg:=(cAt Cj6 [1,1,0,1,0,0])) (bo:=(cAt Cj6 [1,1,0,1,0,1])) (k:=[.inBlock 0,kC Cj6 [1,1,1]]) (gf:=253) (first:=[]) (cap:=[.ptr 15 0]) (xs:=[.rp [.sl 1 (y1.1.map A6),.sl 1 (y1.2.map A0)] 0]) (os:=[]) (S1:=[(1,.ptr 2100 0),(2,.ptr 2101 0)]) (ob0:=[(2000,.box 217 [.l 1 d0 A6,.l 1 d1 A0,.i d2,.i 1]),(2100,.box 171 [.ptr 2000 0]),(2101,.box 4 [.b false])]) [] [1,2] [2000,2100,2101] [.rp [.sl 1 (y1.1.map A6),.sl 1 (y1.2.map A0)] 0] (ysAll:=ys1.map D0) [2000,2100,2101] G_ GX_ rfl (by kernel_rfl) rfl (by kernel_rfl) rfl (by kernel_rfl) (M8.refl _) Fk7 (Ci1 e2) (by kernel_rfl) (by kernel_rfl) (by kernel_rfl) ?_ ?_ ?_ ⟨by kernel_rfl,by kernel_rfl⟩ ?_ ?_ ?_
 ·rw[hG_];exact⟨ys1,1,rfl,by kernel_rfl,hF⟩
 ·intro yv_ ob_ h_;rw[hG_]at h_;obtain⟨_,_,_,rfl,_⟩:=h_;kernel_rfl
 ·intro j_ ob_ h_;rw[hGX_]at h_;rcases h_ with⟨_,_,rfl,_⟩<;>kernel_rfl
 ·intro x_ hxa_ hxb_ hxp_ yv_ ysv_ ob_ h_;rw[hG_]at h_;obtain⟨yl_,v4,hy_,rfl,hF⟩:=h_;cases yl_ with
  |nil=>cases hy_
  |cons y12 ys_F163a_L1=>
   cases hy_;rw[H4]at hF;refine Cm9 (by kernel_rfl) ?_;refine Ci5 (S0:=[(1,.ptr 2100 0),(2,.ptr 2101 0),(16,.i y12.1),(17,.agg [.s y12.2.Act,.s y12.2.Gain,.l 2 y12.2.Next A9])]) (O0:=[(3000,.raw x_.D (.deferred (some []))),(3001,.raw x_.L (.loop (F4 x_ .ready none))),(2000,.box 217 [.l 1 d0 A6,.l 1 d1 A0,.i d2,.i v4]),(2100,.box 171 [.ptr 2000 0]),(2101,.box 4 [.b false])]) (T0:=[kC Cj6 [1,1,0,1,0,0],.begR x_.L,kC Cj6 [1,1,0,1,0,1]]) [1,2,16,17] [3000,3001,2000,2100,2101] (by kernel_rfl) rfl ?_;refine ja 4 (S0:=[(1,.ptr 2100 0),(2,.ptr 2101 0),(4,.ptr 4 0),(16,.i y12.1),(17,.agg [.s y12.2.Act,.s y12.2.Gain,.l 2 y12.2.Next A9])]) (O0:=[(3000,.raw x_.D (.deferred (some []))),(3001,.raw x_.L (.loop (F4 x_ .ready none))),(4,.box 41 [.s y12.2.Act,.s y12.2.Gain,.l 2 y12.2.Next A9]),(2000,.box 217 [.l 1 d0 A6,.l 1 d1 A0,.i d2,.i v4]),(2100,.box 171 [.ptr 2000 0]),(2101,.box 4 [.b false])]) (T0:=[.begR x_.L,kC Cj6 [1,1,0,1,0,1]]) ?_;refine Bb5 (l:=x_.L) (q:=3001) (k:=[kC Cj6 [1,1,0,1,0,1]]) (rec:=F4 x_ .ready none) rfl rfl rfl ?_;refine jB 5 hF Fk4 Ch8 fun y13 hF=> ?_
   obtain⟨o3,hO,hF⟩:=bnd hF;have hR3:J (some x_.L) Tryz.prog 39 [] (Ed9 x_ G_ GX_ (fun _=>False) (ys_F163a_L1.map D0)) ⟨mkT [(2,.ptr 2101 0),(38,.b o3.1)],[(3000,.raw x_.D (.deferred (some []))),(3001,.raw x_.L (.loop (F4 x_ .busy none))),(2000,.box 217 [.l 1 d0 A6,.l 1 d1 A0,.i d2,.i o3.2]),(2100,.box 171 [.ptr 2000 0]),(2101,.box 4 [.b false])],[kO Cj6 [1,1,0,1,0,1,0,1,0],kC Cj6 [1,1,0,1,0,1,0,1,1],.inBlock 1]⟩:=by
    clear hO;refine jI 1 38 hF ?_ ?_<;>intro hF
    ·refine ja 5 (S0:=[]) (O0:=rob x_ .busy none [(2000,.box 217 [.l 1 d0 A6,.l 1 d1 A0,.i d2,.i o3.2]),(2100,.box 171 [.ptr 2000 0]),(2101,.box 4 [.b false])]) (T0:=[.code (.ret),.inBlock 1]) ?_;exact Cr9 rfl [(2000,.box 217 [.l 1 d0 A6,.l 1 d1 A0,.i d2,.i o3.2]),(2100,.box 171 [.ptr 2000 0]),(2101,.box 4 [.b false])] (k:=[.inBlock 1]) rfl rfl rfl (by kernel_rfl) (by rw[hGX_];exact⟨o3.2,rfl,rfl,hF⟩)
    ·refine ja 3 (S0:=[]) (O0:=rob x_ .busy none [(2000,.box 217 [.l 1 d0 A6,.l 1 d1 A0,.i d2,.i o3.2]),(2100,.box 171 [.ptr 2000 0]),(2101,.box 4 [.b false])]) (T0:=[]) ?_;exact Bb7 rfl [(2000,.box 217 [.l 1 d0 A6,.l 1 d1 A0,.i d2,.i o3.2]),(2100,.box 171 [.ptr 2000 0]),(2101,.box 4 [.b false])] rfl rfl (by kernel_rfl) (by rw[hG_];exact⟨ys_F163a_L1,o3.2,rfl,rfl,hF⟩)
   clear hF;rename _=some o3=>hF
   refine jI 13 27 hF ?_ ?_<;>intro hF
   ·cases hF;exact ja 11 hR3
   ·refine jI 4 31 hF ?_ ?_<;>intro hF
    ·cases hF;exact ja 7 hR3
    ·obtain⟨y16,e14,hF⟩:=bnd hF;refine jcr 4 [(2000,2000)] Gd6 (Ef8 e14) ?_;cases hF;exact ja 2 hR3
 ·intro D_ ob_ h_;rw[hG_]at h_;obtain⟨yl_,v4,hy_,rfl,hF⟩:=h_;cases yl_ with
  |cons _ _=>cases hy_
  |nil=>
   clear hy_;rw[H4]at hF;refine Bk9 st_ [(2100,1),(2101,2),(2000,2000)] (by kernel_rfl) (by kernel_rfl) (by kernel_rfl) (by kernel_rfl) ?_;refine ja 0 (S0:=[(2,.ptr 2 0)]) (O0:=[(2,.box 4 [.b false]),(2000,.box 217 [.l 1 d0 A6,.l 1 d1 A0,.i d2,.i v4])]) (T0:=[.inBlock 0,kC Cj6 [1,1,1]]) ?_;have hF:=oi hF;subst hF;exact C4 5 (Bl0 (xs:=[.b true]) st_ [.b true] rfl rfl (by kernel_rfl) (M8.refl _) rfl (by kernel_rfl))
 ·intro D_ ob_ j_ h_;rw[hGX_]at h_;rcases h_ with⟨v5,rfl,rfl,hF⟩
  ·unfold Bo2 at hF;refine Bk9 st_ [(2100,1),(2101,2),(2000,2000)] (by kernel_rfl) (by kernel_rfl) (by kernel_rfl) (by kernel_rfl) ?_;refine ja 0 (S0:=[(2,.ptr 2 0)]) (O0:=[(2,.box 4 [.b false]),(2000,.box 217 [.l 1 d0 A6,.l 1 d1 A0,.i d2,.i v5])]) (T0:=[.code (.ret),.inBlock 0,kC Cj6 [1,1,1]]) ?_;have hF:=oi hF;subst hF;exact C4 0 (Bl0 (xs:=[.b false]) st_ [.b false] rfl rfl (by kernel_rfl) (M8.refl _) rfl (by kernel_rfl))
def Ch9(fuel:Nat)(d0:Int)(d1:List Int)(d2:List (List A2))(d3:Int)(d4:Int):Option (Bool×Int):=
 Option.bind (Fd9 fuel d3 d0) fun y1=>
 ass (decide (y1≠0))<|
 some (decide ((i64.wrap ((i64.wrap (Int.tdiv d3 y1))*d0))<=9999),i64.wrap ((i64.wrap (Int.tdiv d3 y1))*d0))
theorem Ef9{fuel:Nat}{d0:Int}{d1:List Int}{d2:List (List A2)}{d3:Int}{d4:Int}{r:Bool×Int}(hF:Ch9 fuel d0 d1 d2 d3 d4=some r):
 I0 Tryz.prog 209 [(2000,.box 217 [.l 1 d1 A6,.l 1 d2 A0,.i d3,.i d4])] [.ptr 2000 2,.i d0] [(2000,.box 217 [.l 1 d1 A6,.l 1 d2 A0,.i r.2,.i d4])] (.b r.1):=by
 unfold Ch9 at hF;refine cr 22 Tryz.func209 ?_;refine jd 5 ?_;refine dB 8 hF Ge2 Dm0 fun y1 hF=> ?_
 obtain⟨hb1,hF⟩:=K8 hF;refine do1 0 (ck hb1) ?_;refine je 4 ?_;cases hF;exact jrr 8
def V4(fuel:Nat)(d0:List C1)(v8:Int):Nat->Int->Int->Option (Bool×Int)
 |0,_,_=>none
 |nL2+1,v12,v13=>
  bif decide (v13<((d0.map A9).length:Int)) then
   (Option.bind (C6 d0 v13) fun y20=>
   Option.bind (Ch7 fuel y20.P) fun y21=>
   ass (decide (y21.2.1≠0))<|
   (V4 fuel d0 v8 nL2) (i64.wrap (v12+(i64.wrap (y21.1*(i64.wrap (Int.tdiv v8 y21.2.1)))))) (i64.wrap (v13+1)))
  else
   (some (v12==v8,v8))
def J4(fuel:Nat)(d0:List C1)(d1:List Int)(d2:List (List A2))(d4:Int):Nat->Int->Int->Int->Option (Bool×Int)
 |0,_,_,_=>none
 |nL1+1,v6,v7,v8=>
  bif decide (v7<((d0.map A9).length:Int)) then
   (Option.bind (C6 d0 v7) fun y11=>
   Option.bind (Ch7 fuel y11.P) fun y12=>
   Option.bind (
    bif decide (y11.To<=v6) then
     (some (true,v8))
    else
     (bif decide (y11.To>=((d1.map A6).length:Int)) then
      (some (true,v8))
     else
      (bif !y12.2.2 then
       (some (true,v8))
      else
       (bif decide (y12.1<1) then
        (some (true,v8))
       else
        (Option.bind (Ch9 fuel y12.2.1 d1 d2 v8 d4) fun y15=>
        some (!y15.1,y15.2)))))) fun o3=>
   bif o3.1 then
    (some (false,o3.2))
   else
    ((J4 fuel d0 d1 d2 d4 nL1) y11.To (i64.wrap (v7+1)) o3.2))
  else
   (V4 fuel d0 v8 fuel 0 0)
def Dl2(fuel:Nat)(d0:List C1)(d1:List Int)(d2:List (List A2))(d3:Int)(d4:Int):Option (Bool×Int):=
 J4 fuel d0 d1 d2 d4 fuel (-1) 0 d3
abbrev Fe4(d1:List Int)(d2:List (List A2))(d4:Int)(r:Bool×Int):=J none Tryz.prog 94 [] (Cf8 Tryz.prog Tryz.f210 [(2000,.box 217 [.l 1 d1 A6,.l 1 d2 A0,.i r.2,.i d4])] (.b r.1))
theorem Eg0{fuel:Nat}{d0:List C1}{d1:List Int}{d2:List (List A2)}{d3:Int}{d4:Int}{r:Bool×Int}(hF:Dl2 fuel d0 d1 d2 d3 d4=some r):
 I0 Tryz.prog 210 [(2000,.box 217 [.l 1 d1 A6,.l 1 d2 A0,.i d3,.i d4])] [.ptr 2000 0,.l 2 d0 A9] [(2000,.box 217 [.l 1 d1 A6,.l 1 d2 A0,.i r.2,.i d4])] (.b r.1):=by
 unfold Dl2 at hF;refine cr 94 Tryz.func210 ?_;have hL1:∀(nL1:Nat) (v6:Int) (v7:Int) (v8:Int),J4 fuel d0 d1 d2 d4 nL1 v6 v7 v8=some r->Fe4 d1 d2 d4 r ⟨mkT [(0,.ptr 2000 0),(1,.l 2 d0 A9),(5,.i v6),(17,.l 2 d0 A9),(18,.i ((d0.map A9).length:Int)),(19,.i v7)],[(2000,.box 217 [.l 1 d1 A6,.l 1 d2 A0,.i v8,.i d4])],[kL Eh5 [1,1,0,1,0,0],.inBlock 0,kC Eh5 [1,1,1]]⟩:=by
  clear hF;intro nL1
  induction nL1 with
  |zero=>intro v6 v7 v8 hF;cases hF
  |succ nL1 iL1=>
   intro v6 v7 v8 hF;rw[J4]at hF;refine jI 6 20 hF ?_ ?_<;>intro hF
   ·obtain⟨y11,e11,hF⟩:=bnd hF;refine jo1 6 (gm (f:=A9) e11) ?_;refine jB 8 hF Fk4 Ch8 fun y12 hF=> ?_
    obtain⟨o3,hO,hF⟩:=bnd hF;have hR3:Fe4 d1 d2 d4 r ⟨mkT [(0,.ptr 2000 0),(1,.l 2 d0 A9),(7,.ptr 7 0),(17,.l 2 d0 A9),(18,.i ((d0.map A9).length:Int)),(19,.i v7),(60,.b o3.1)],[(7,.box 38 [.i y11.To,.s y11.P]),(2000,.box 217 [.l 1 d1 A6,.l 1 d2 A0,.i o3.2,.i d4])],[kC Eh5 [1,1,0,1,0,0,1,1,0,0,1,1,0,1],kC Eh5 [1,1,0,1,0,0,1,1,0,0,1,1,1],.inBlock 1,kC Eh5 [1,1,0,1,0,0,1,1,1],kL Eh5 [1,1,0,1,0,0],.inBlock 0,kC Eh5 [1,1,1]]⟩:=by
     clear hO;refine jI 0 60 hF ?_ ?_<;>intro hF
     ·cases hF;exact jrr 5
     ·exact ja 12 (iL1 _ _ _ hF)
    clear hF;rename _=some o3=>hF
    refine jd 10 ?_;refine dI 5 34 hF ?_ ?_<;>intro hF
    ·refine je 26 ?_;cases hF;exact ja 0 hR3
    ·refine dI 11 45 hF ?_ ?_<;>intro hF
     ·refine je 15 ?_;cases hF;exact ja 0 hR3
     ·refine dI 4 49 hF ?_ ?_<;>intro hF
      ·refine je 11 ?_;cases hF;exact ja 0 hR3
      ·refine dI 4 53 hF ?_ ?_<;>intro hF
       ·refine je 7 ?_;cases hF;exact ja 0 hR3
       ·obtain⟨y15,e15,hF⟩:=bnd hF;refine dcr 4 [(2000,2000)] Gd6 (Ef9 e15) ?_;refine je 2 ?_;cases hF;exact ja 0 hR3
   ·have hL2:∀(nL2:Nat) (v12:Int) (v13:Int),V4 fuel d0 v8 nL2 v12 v13=some r->Fe4 d1 d2 d4 r ⟨mkT [(0,.ptr 2000 0),(11,.i v12),(64,.l 2 d0 A9),(65,.i ((d0.map A9).length:Int)),(66,.i v13)],[(2000,.box 217 [.l 1 d1 A6,.l 1 d2 A0,.i v8,.i d4])],[kL Eh5 [1,1,1,1,0,1,0,0],.inBlock 2,kC Eh5 [1,1,1,1,1]]⟩:=by
     clear hF;intro nL2
     induction nL2 with
     |zero=>intro v12 v13 hF;cases hF
     |succ nL2 iL2=>
      intro v12 v13 hF;rw[V4]at hF;refine jI 6 67 hF ?_ ?_<;>intro hF
      ·obtain⟨y20,e20,hF⟩:=bnd hF;refine jo1 6 (gm (f:=A9) e20) ?_;refine jB 8 hF Fk4 Ch8 fun y21 hF=> ?_
       obtain⟨hb48,hF⟩:=K8 hF;refine jo1 16 (ck hb48) ?_;exact ja 9 (iL2 _ _ hF)
      ·cases hF;exact jrr 12
    exact ja 15 (hL2 _ _ _ hF)
 exact ja 17 (hL1 _ _ _ _ hF)
def Bo3(v3:Int):Option (Bool×Int):=
 some (false,v3)
def K7(fuel:Nat)(d0:List Int)(d1:List (List A2))(d3:Int):List (Int×A2)->Int->Option (Bool×Int)
 |[],v2=>
  some (true,v2)
 |y6::ys_F164a_L1,v2=>
  Option.bind (Dl2 fuel y6.2.Next d0 d1 v2 d3) fun y7=>
  bif !y7.1 then
   (Bo3 y7.2)
  else
   ((K7 fuel d0 d1 d3 ys_F164a_L1) y7.2)
def Dc2(fuel:Nat)(d0:List Int)(d1:List (List A2))(d2:Int)(d3:Int):Option (Bool×Int):=
 Option.bind (Cq3 (⟨d0,d1⟩:B6)) fun y1=>
 Option.bind (Fd5 fuel y1.1 y1.2) fun ys1=>
 K7 fuel d0 d1 d3 ys1 1
theorem Ef7{fuel:Nat}{d0:List Int}{d1:List (List A2)}{d2:Int}{d3:Int}{r:Bool×Int}(hF:Dc2 fuel d0 d1 d2 d3=some r):
 I0 Tryz.prog 164 [(2000,.box 217 [.l 1 d0 A6,.l 1 d1 A0,.i d2,.i d3])] [.ptr 2000 0] [(2000,.box 217 [.l 1 d0 A6,.l 1 d1 A0,.i r.2,.i d3])] (.b r.1):=by
 unfold Dc2 at hF;refine Bp2 (N:=20) (b:=C2 Tryz.f164) Tryz.func164 (by kernel_rfl) rfl rfl (by kernel_rfl) (fun s_ r0_ w00_ M00_ st_=> ?_);obtain⟨y1,e1,hF⟩:=bnd hF;refine jcr 19 [(12,2000)] Fk3 (Ch6 e1) ?_;refine ja 2 (S0:=[(1,.ptr 1 0),(2,.ptr 2 0),(12,.fn 253 [] [.ptr 12 0])]) (O0:=[(1,.box 171 [.ptr 2000 0]),(2,.box 4 [.b false]),(12,.box 26 [.l 1 y1.1 A6,.l 1 y1.2 A0]),(2000,.box 217 [.l 1 d0 A6,.l 1 d1 A0,.i 1,.i d3])]) (T0:=[kC Dd3 [1,1,0,1,0],.inBlock 0,kC Dd3 [1,1,1]]) ?_;refine Ax2 [(12,12),(2000,2000),(1,2100),(2,2101)] (by kernel_rfl) (by kernel_rfl) (by kernel_rfl) (by kernel_rfl) ?_;refine Ci5 (S0:=[(1,.ptr 2100 0),(2,.ptr 2101 0),(12,.fn 253 [] [.ptr 12 0])]) (O0:=[(12,.box 26 [.l 1 y1.1 A6,.l 1 y1.2 A0]),(2000,.box 217 [.l 1 d0 A6,.l 1 d1 A0,.i 1,.i d3]),(2100,.box 171 [.ptr 2000 0]),(2101,.box 4 [.b false])]) (T0:=[kC Dd3 [1,1,0,1,0],.inBlock 0,kC Dd3 [1,1,1]]) [1,2,12] [12,2000,2100,2101] (by kernel_rfl) rfl ?_;obtain⟨ys1,e2,hF⟩:=bnd hF;obtain⟨G_,hG_⟩:∃G:List (List Kx.V)->List (Nat×B9)->Prop,G=(fun yv ob=>∃(yl_:List (Int×A2)) (v2:Int),yv=yl_.map D0/\ob=[(2000,.box 217 [.l 1 d0 A6,.l 1 d1 A0,.i v2,.i d3]),(2100,.box 171 [.ptr 2000 0]),(2101,.box 4 [.b false])]/\K7 fuel d0 d1 d3 yl_ v2=some r):=⟨_,rfl⟩
 obtain⟨GX_,hGX_⟩:∃G:Code->List (Nat×B9)->Prop,G=(fun j ob=>(∃(v3:Int),j= .ret/\ob=[(2000,.box 217 [.l 1 d0 A6,.l 1 d1 A0,.i v3,.i d3]),(2100,.box 171 [.ptr 2000 0]),(2101,.box 4 [.b false])]/\Bo3 v3=some r)):=⟨_,rfl⟩
 refine Bb8 (P:=Tryz.prog) (g:=(.tmp 12)) (ps:= #[13,14]) (asg:=(cAt Dd3 [1,1,0,1,0,0])) (bo:=(cAt Dd3 [1,1,0,1,0,1])) (k:=[.inBlock 0,kC Dd3 [1,1,1]]) (gf:=253) (first:=[]) (cap:=[.ptr 12 0]) (xs:=[.rp [.sl 1 (y1.1.map A6),.sl 1 (y1.2.map A0)] 0]) (os:=[]) (S1:=[(1,.ptr 2100 0),(2,.ptr 2101 0)]) (ob0:=[(2000,.box 217 [.l 1 d0 A6,.l 1 d1 A0,.i 1,.i d3]),(2100,.box 171 [.ptr 2000 0]),(2101,.box 4 [.b false])]) [] [1,2] [2000,2100,2101] [.rp [.sl 1 (y1.1.map A6),.sl 1 (y1.2.map A0)] 0] (ysAll:=ys1.map D0) [2000,2100,2101] G_ GX_ rfl (by kernel_rfl) rfl (by kernel_rfl) rfl (by kernel_rfl) (M8.refl _) Fk7 (Ci1 e2) (by kernel_rfl) (by kernel_rfl) (by kernel_rfl) ?_ ?_ ?_ ⟨by kernel_rfl,by kernel_rfl⟩ ?_ ?_ ?_
 ·rw[hG_];exact⟨ys1,1,rfl,by kernel_rfl,hF⟩
 ·intro yv_ ob_ h_;rw[hG_]at h_;obtain⟨_,_,_,rfl,_⟩:=h_;kernel_rfl
 ·intro j_ ob_ h_;rw[hGX_]at h_;rcases h_ with⟨_,_,rfl,_⟩<;>kernel_rfl
 ·intro x_ hxa_ hxb_ hxp_ yv_ ysv_ ob_ h_;rw[hG_]at h_;obtain⟨yl_,v2,hy_,rfl,hF⟩:=h_;cases yl_ with
  |nil=>cases hy_
  |cons y6 ys_F164a_L1=>
   cases hy_;rw[K7]at hF;refine Cm9 (by kernel_rfl) ?_;refine Ci5 (S0:=[(1,.ptr 2100 0),(2,.ptr 2101 0),(13,.i y6.1),(14,.agg [.s y6.2.Act,.s y6.2.Gain,.l 2 y6.2.Next A9])]) (O0:=[(3000,.raw x_.D (.deferred (some []))),(3001,.raw x_.L (.loop (F4 x_ .ready none))),(2000,.box 217 [.l 1 d0 A6,.l 1 d1 A0,.i v2,.i d3]),(2100,.box 171 [.ptr 2000 0]),(2101,.box 4 [.b false])]) (T0:=[kC Dd3 [1,1,0,1,0,0],.begR x_.L,kC Dd3 [1,1,0,1,0,1]]) [1,2,13,14] [3000,3001,2000,2100,2101] (by kernel_rfl) rfl ?_;refine ja 4 (S0:=[(1,.ptr 2100 0),(2,.ptr 2101 0),(4,.ptr 4 0),(13,.i y6.1),(14,.agg [.s y6.2.Act,.s y6.2.Gain,.l 2 y6.2.Next A9])]) (O0:=[(3000,.raw x_.D (.deferred (some []))),(3001,.raw x_.L (.loop (F4 x_ .ready none))),(4,.box 41 [.s y6.2.Act,.s y6.2.Gain,.l 2 y6.2.Next A9]),(2000,.box 217 [.l 1 d0 A6,.l 1 d1 A0,.i v2,.i d3]),(2100,.box 171 [.ptr 2000 0]),(2101,.box 4 [.b false])]) (T0:=[.begR x_.L,kC Dd3 [1,1,0,1,0,1]]) ?_;refine Bb5 (l:=x_.L) (q:=3001) (k:=[kC Dd3 [1,1,0,1,0,1]]) (rec:=F4 x_ .ready none) rfl rfl rfl ?_;obtain⟨y7,e5,hF⟩:=bnd hF;refine jcr 6 [(2000,2000)] Gw0 (Eg0 e5) ?_;refine jI 2 19 hF ?_ ?_<;>intro hF
   ·refine ja 5 (S0:=[]) (O0:=rob x_ .busy none [(2000,.box 217 [.l 1 d0 A6,.l 1 d1 A0,.i y7.2,.i d3]),(2100,.box 171 [.ptr 2000 0]),(2101,.box 4 [.b false])]) (T0:=[.code (.ret),.inBlock 1]) ?_;exact Cr9 rfl [(2000,.box 217 [.l 1 d0 A6,.l 1 d1 A0,.i y7.2,.i d3]),(2100,.box 171 [.ptr 2000 0]),(2101,.box 4 [.b false])] (k:=[.inBlock 1]) rfl rfl rfl (by kernel_rfl) (by rw[hGX_];exact⟨y7.2,rfl,rfl,hF⟩)
   ·refine ja 3 (S0:=[]) (O0:=rob x_ .busy none [(2000,.box 217 [.l 1 d0 A6,.l 1 d1 A0,.i y7.2,.i d3]),(2100,.box 171 [.ptr 2000 0]),(2101,.box 4 [.b false])]) (T0:=[]) ?_;exact Bb7 rfl [(2000,.box 217 [.l 1 d0 A6,.l 1 d1 A0,.i y7.2,.i d3]),(2100,.box 171 [.ptr 2000 0]),(2101,.box 4 [.b false])] rfl rfl (by kernel_rfl) (by rw[hG_];exact⟨ys_F164a_L1,y7.2,rfl,rfl,hF⟩)
 ·intro D_ ob_ h_;rw[hG_]at h_;obtain⟨yl_,v2,hy_,rfl,hF⟩:=h_;cases yl_ with
  |cons _ _=>cases hy_
  |nil=>
   clear hy_;rw[K7]at hF;refine Bk9 st_ [(2100,1),(2101,2),(2000,2000)] (by kernel_rfl) (by kernel_rfl) (by kernel_rfl) (by kernel_rfl) ?_;refine ja 0 (S0:=[(2,.ptr 2 0)]) (O0:=[(2,.box 4 [.b false]),(2000,.box 217 [.l 1 d0 A6,.l 1 d1 A0,.i v2,.i d3])]) (T0:=[.inBlock 0,kC Dd3 [1,1,1]]) ?_;have hF:=oi hF;subst hF;exact C4 5 (Bl0 (xs:=[.b true]) st_ [.b true] rfl rfl (by kernel_rfl) (M8.refl _) rfl (by kernel_rfl))
 ·intro D_ ob_ j_ h_;rw[hGX_]at h_;rcases h_ with⟨v3,rfl,rfl,hF⟩
  ·unfold Bo3 at hF;refine Bk9 st_ [(2100,1),(2101,2),(2000,2000)] (by kernel_rfl) (by kernel_rfl) (by kernel_rfl) (by kernel_rfl) ?_;refine ja 0 (S0:=[(2,.ptr 2 0)]) (O0:=[(2,.box 4 [.b false]),(2000,.box 217 [.l 1 d0 A6,.l 1 d1 A0,.i v3,.i d3])]) (T0:=[.code (.ret),.inBlock 0,kC Dd3 [1,1,1]]) ?_;have hF:=oi hF;subst hF;exact C4 0 (Bl0 (xs:=[.b false]) st_ [.b false] rfl rfl (by kernel_rfl) (M8.refl _) rfl (by kernel_rfl))
def I2(fuel:Nat)(d0:B6):Nat->Int->Int->Int->Option (B2×Bool)
 |0,_,_,_=>none
 |nL1+1,v4,v5,v6=>
  bif decide (v4<5) then
   (bif decide (v4=0) then
    (Option.bind (Dc0 fuel d0.Owner d0.Choices v5 v6) fun y11=>
    bif !y11 then
     (some ((⟨d0,v5,v6⟩:B2),false))
    else
     ((I2 fuel d0 nL1) (i64.wrap (v4+1)) v5 v6))
   else bif decide (v4=1) then
    (Option.bind (Dc1 fuel d0.Owner d0.Choices v5 v6) fun y12=>
    bif !y12 then
     (some ((⟨d0,v5,v6⟩:B2),false))
    else
     ((I2 fuel d0 nL1) (i64.wrap (v4+1)) v5 v6))
   else bif decide (v4=2) then
    (Option.bind (Bw0 fuel d0.Owner d0.Choices v5 v6) fun y13=>
    bif !y13 then
     (some ((⟨d0,v5,v6⟩:B2),false))
    else
     ((I2 fuel d0 nL1) (i64.wrap (v4+1)) v5 v6))
   else bif decide (v4=3) then
    (Option.bind (Cg9 fuel d0.Owner d0.Choices v5 v6) fun y14=>
    bif !y14.1 then
     (some ((⟨d0,v5,y14.2⟩:B2),false))
    else
     ((I2 fuel d0 nL1) (i64.wrap (v4+1)) v5 y14.2))
   else bif decide (v4=4) then
    (Option.bind (Dc2 fuel d0.Owner d0.Choices v5 v6) fun y15=>
    bif !y15.1 then
     (some ((⟨d0,y15.2,v6⟩:B2),false))
    else
     ((I2 fuel d0 nL1) (i64.wrap (v4+1)) y15.2 v6))
   else none)
  else
   (some ((⟨d0,v5,v6⟩:B2),true))
def Di6(fuel:Nat)(d0:B6):Option (B2×Bool):=
 I2 fuel d0 fuel 0 0 0
noncomputable abbrev Gq8:=C2 Tryz.f109
abbrev Hh7(r:B2×Bool):=J none Tryz.prog 22 [] (L5 Tryz.prog Tryz.f109 (.tup [.d (.pt [.sl 1 (r.1.Model.Owner.map A6),.sl 1 (r.1.Model.Choices.map A0),.int .i64 r.1.p,.int .i64 r.1.gains]),.b r.2]))
theorem Ez1{fuel:Nat}{d0:B6}{r:B2×Bool}(hF:Di6 fuel d0=some r):
 C3 Tryz.prog 109 [.agg [.l 1 d0.Owner A6,.l 1 d0.Choices A0]] (.tup [.d (.pt [.sl 1 (r.1.Model.Owner.map A6),.sl 1 (r.1.Model.Choices.map A0),.int .i64 r.1.p,.int .i64 r.1.gains]),.b r.2]):=by
 unfold Di6 at hF;refine cf 22 Tryz.func109 ?_;have hL1:∀(nL1:Nat) (v4:Int) (v5:Int) (v6:Int),I2 fuel d0 nL1 v4 v5 v6=some r->Hh7 r ⟨mkT [(4,.ptr 10 0),(5,.b true),(11,.agg [.d (.fnc 160),.d (.fnc 161),.d (.fnc 162),.d (.fnc 163),.d (.fnc 164)]),(12,.i v4)],[(10,.box 217 [.l 1 d0.Owner A6,.l 1 d0.Choices A0,.i v5,.i v6])],[kL Gq8 [1,0,1,1,1,0,1,0,0],.inBlock 0,kC Gq8 [1,0,1,1,1,1],.inScope (cAt Gq8 [1,0])]⟩:=by
  clear hF;intro nL1
  induction nL1 with
  |zero=>intro v4 v5 v6 hF;cases hF
  |succ nL1 iL1=>
   intro v4 v5 v6 hF;rw[I2]at hF;refine jI 6 13 hF ?_ ?_<;>intro hF
   ·rcases Bool.eq_false_or_eq_true (decide (v4=0)) with hb23|hb23
    ·replace hF:=ift hb23 hF;refine C4 6 (G5 (o:=C6 (N3 1 5 ([.fnc 160,.fnc 161,.fnc 162,.fnc 163,.fnc 164]:List Dat)) v4) ([.fnc 160]:List Dat) (by kernel_rfl) (by rw[of_decide_eq_true hb23];rfl) ?_);obtain⟨y11,e11,hF⟩:=bnd hF;refine jcr 6 [(10,2000)] Gu4 (Ef3 e11) ?_;refine jI 2 18 hF ?_ ?_<;>intro hF
     ·have hF:=oi hF;subst hF;exact C4 13 (Bo7 (xs:=[.rp [.sl 1 (d0.Owner.map A6),.sl 1 (d0.Choices.map A0),.int .i64 v5,.int .i64 v6] 0,.b false]) [.d (.pt [.sl 1 ((((⟨d0,v5,v6⟩:B2).Model).Owner).map A6),.sl 1 ((((⟨d0,v5,v6⟩:B2).Model).Choices).map A0),.int .i64 ((⟨d0,v5,v6⟩:B2).p),.int .i64 ((⟨d0,v5,v6⟩:B2).gains)]),.b false] rfl rfl (by kernel_rfl) ⟨Re.pt _,⟨Re.refl _,trivial⟩⟩ rfl)
     ·exact ja 7 (iL1 _ _ _ hF)
    ·replace hF:=Ft6 hb23 hF;rcases Bool.eq_false_or_eq_true (decide (v4=1)) with hb25|hb25
     ·replace hF:=ift hb25 hF;refine C4 6 (G5 (o:=C6 (N3 1 5 ([.fnc 160,.fnc 161,.fnc 162,.fnc 163,.fnc 164]:List Dat)) v4) ([.fnc 161]:List Dat) (by kernel_rfl) (by rw[of_decide_eq_true hb25];rfl) ?_);obtain⟨y12,e12,hF⟩:=bnd hF;refine jcr 6 [(10,2000)] Gu5 (Ef4 e12) ?_;refine jI 2 18 hF ?_ ?_<;>intro hF
      ·have hF:=oi hF;subst hF;exact C4 13 (Bo7 (xs:=[.rp [.sl 1 (d0.Owner.map A6),.sl 1 (d0.Choices.map A0),.int .i64 v5,.int .i64 v6] 0,.b false]) [.d (.pt [.sl 1 ((((⟨d0,v5,v6⟩:B2).Model).Owner).map A6),.sl 1 ((((⟨d0,v5,v6⟩:B2).Model).Choices).map A0),.int .i64 ((⟨d0,v5,v6⟩:B2).p),.int .i64 ((⟨d0,v5,v6⟩:B2).gains)]),.b false] rfl rfl (by kernel_rfl) ⟨Re.pt _,⟨Re.refl _,trivial⟩⟩ rfl)
      ·exact ja 7 (iL1 _ _ _ hF)
     ·replace hF:=Ft6 hb25 hF;rcases Bool.eq_false_or_eq_true (decide (v4=2)) with hb27|hb27
      ·replace hF:=ift hb27 hF;refine C4 6 (G5 (o:=C6 (N3 1 5 ([.fnc 160,.fnc 161,.fnc 162,.fnc 163,.fnc 164]:List Dat)) v4) ([.fnc 162]:List Dat) (by kernel_rfl) (by rw[of_decide_eq_true hb27];rfl) ?_);obtain⟨y13,e13,hF⟩:=bnd hF;refine jcr 6 [(10,2000)] Gu6 (Ef5 e13) ?_;refine jI 2 18 hF ?_ ?_<;>intro hF
       ·have hF:=oi hF;subst hF;exact C4 13 (Bo7 (xs:=[.rp [.sl 1 (d0.Owner.map A6),.sl 1 (d0.Choices.map A0),.int .i64 v5,.int .i64 v6] 0,.b false]) [.d (.pt [.sl 1 ((((⟨d0,v5,v6⟩:B2).Model).Owner).map A6),.sl 1 ((((⟨d0,v5,v6⟩:B2).Model).Choices).map A0),.int .i64 ((⟨d0,v5,v6⟩:B2).p),.int .i64 ((⟨d0,v5,v6⟩:B2).gains)]),.b false] rfl rfl (by kernel_rfl) ⟨Re.pt _,⟨Re.refl _,trivial⟩⟩ rfl)
       ·exact ja 7 (iL1 _ _ _ hF)
      ·replace hF:=Ft6 hb27 hF;rcases Bool.eq_false_or_eq_true (decide (v4=3)) with hb29|hb29
       ·replace hF:=ift hb29 hF;refine C4 6 (G5 (o:=C6 (N3 1 5 ([.fnc 160,.fnc 161,.fnc 162,.fnc 163,.fnc 164]:List Dat)) v4) ([.fnc 163]:List Dat) (by kernel_rfl) (by rw[of_decide_eq_true hb29];rfl) ?_);obtain⟨y14,e14,hF⟩:=bnd hF;refine jcr 6 [(10,2000)] Gu7 (Ef6 e14) ?_;refine jI 2 18 hF ?_ ?_<;>intro hF
        ·have hF:=oi hF;subst hF;exact C4 13 (Bo7 (xs:=[.rp [.sl 1 (d0.Owner.map A6),.sl 1 (d0.Choices.map A0),.int .i64 v5,.int .i64 y14.2] 0,.b false]) [.d (.pt [.sl 1 ((((⟨d0,v5,y14.2⟩:B2).Model).Owner).map A6),.sl 1 ((((⟨d0,v5,y14.2⟩:B2).Model).Choices).map A0),.int .i64 ((⟨d0,v5,y14.2⟩:B2).p),.int .i64 ((⟨d0,v5,y14.2⟩:B2).gains)]),.b false] rfl rfl (by kernel_rfl) ⟨Re.pt _,⟨Re.refl _,trivial⟩⟩ rfl)
        ·exact ja 7 (iL1 _ _ _ hF)
       ·replace hF:=Ft6 hb29 hF;rcases Bool.eq_false_or_eq_true (decide (v4=4)) with hb31|hb31
        ·replace hF:=ift hb31 hF;refine C4 6 (G5 (o:=C6 (N3 1 5 ([.fnc 160,.fnc 161,.fnc 162,.fnc 163,.fnc 164]:List Dat)) v4) ([.fnc 164]:List Dat) (by kernel_rfl) (by rw[of_decide_eq_true hb31];rfl) ?_);obtain⟨y15,e15,hF⟩:=bnd hF;refine jcr 6 [(10,2000)] Gu8 (Ef7 e15) ?_;refine jI 2 18 hF ?_ ?_<;>intro hF
         ·have hF:=oi hF;subst hF;exact C4 13 (Bo7 (xs:=[.rp [.sl 1 (d0.Owner.map A6),.sl 1 (d0.Choices.map A0),.int .i64 y15.2,.int .i64 v6] 0,.b false]) [.d (.pt [.sl 1 ((((⟨d0,y15.2,v6⟩:B2).Model).Owner).map A6),.sl 1 ((((⟨d0,y15.2,v6⟩:B2).Model).Choices).map A0),.int .i64 ((⟨d0,y15.2,v6⟩:B2).p),.int .i64 ((⟨d0,y15.2,v6⟩:B2).gains)]),.b false] rfl rfl (by kernel_rfl) ⟨Re.pt _,⟨Re.refl _,trivial⟩⟩ rfl)
         ·exact ja 7 (iL1 _ _ _ hF)
        ·replace hF:=Ft6 hb31 hF;cases hF
   ·have hF:=oi hF;subst hF;exact C4 9 (Bo7 (xs:=[.rp [.sl 1 (d0.Owner.map A6),.sl 1 (d0.Choices.map A0),.int .i64 v5,.int .i64 v6] 0,.b true]) [.d (.pt [.sl 1 ((((⟨d0,v5,v6⟩:B2).Model).Owner).map A6),.sl 1 ((((⟨d0,v5,v6⟩:B2).Model).Choices).map A0),.int .i64 ((⟨d0,v5,v6⟩:B2).p),.int .i64 ((⟨d0,v5,v6⟩:B2).gains)]),.b true] rfl rfl (by kernel_rfl) ⟨Re.pt _,⟨Re.refl _,trivial⟩⟩ rfl)
 exact ja 28 (hL1 _ _ _ _ hF)
def F61(fuel:Nat)(d0:B6):Option Int:=
 Option.bind (Di6 fuel d0) fun y1=>
 bif !y1.2 then
  (some 110)
 else
  (some 0)
theorem Eq6{fuel:Nat}{d0:B6}{r:Int}(hF:F61 fuel d0=some r):
 C3 Tryz.prog 61 [.agg [.l 1 d0.Owner A6,.l 1 d0.Choices A0]] (.i r):=by
 unfold F61 at hF;refine cf 12 Tryz.func61 ?_;refine jB 9 hF Gt2 Ez1 fun y1 hF=> ?_
 refine jI 11 11 hF ?_ ?_<;>intro hF
 ·cases hF;exact jr 5
 ·cases hF;exact jr 6
def Ak1(d0:List Int)(d1:Int):Nat->Int->Option Int
 |0,_=>none
 |nL1+1,v2=>
  bif decide (v2<((d0.map A6).length:Int)) then
   (Option.bind (C6 d0 v2) fun y3=>
   bif d1==y3 then
    (some v2)
   else
    ((Ak1 d0 d1 nL1) (i64.wrap (v2+1))))
  else
   (some (-1))
def Gk0(fuel:Nat)(d0:List Int)(d1:Int):Option Int:=
 Ak1 d0 d1 fuel 0
noncomputable abbrev Hc3:=C2 Tryz.f165
abbrev Hi1(r:Int):=J none Tryz.prog 19 [] (L5 Tryz.prog Tryz.f165 (.i r))
theorem Fb1{fuel:Nat}{d0:List Int}{d1:Int}{r:Int}(hF:Gk0 fuel d0 d1=some r):
 C3 Tryz.prog 165 [.l 1 d0 A6,.i d1] (.i r):=by
 unfold Gk0 at hF;refine cf 19 Tryz.func165 ?_;have hL1:∀(nL1:Nat) (v2:Int),Ak1 d0 d1 nL1 v2=some r->Hi1 r ⟨mkT [(0,.l 1 d0 A6),(1,.i d1),(7,.i ((d0.map A6).length:Int)),(8,.i v2)],[],[kL Hc3 [1,0,1,0,0],.inBlock 0,kC Hc3 [1,1]]⟩:=by
  clear hF;intro nL1
  induction nL1 with
  |zero=>intro v2 hF;cases hF
  |succ nL1 iL1=>
   intro v2 hF;rw[Ak1]at hF;refine jI 6 9 hF ?_ ?_<;>intro hF
   ·obtain⟨y3,e3,hF⟩:=bnd hF;refine jo1 14 (gm (f:=A6) e3) ?_;refine jI 3 16 hF ?_ ?_<;>intro hF
    ·cases hF;exact jr 6
    ·exact ja 7 (iL1 _ hF)
   ·cases hF;exact jr 6
 exact ja 13 (hL1 _ _ hF)
def Gj7(fuel:Nat)(d0:List Int)(d1:Int):Option Bool:=
 Option.bind (Gk0 fuel d0 d1) fun y1=>
 some (decide (y1>=0))
theorem Ez2{fuel:Nat}{d0:List Int}{d1:Int}{r:Bool}(hF:Gj7 fuel d0 d1=some r):
 C3 Tryz.prog 110 [.l 1 d0 A6,.i d1] (.b r):=by
 unfold Gj7 at hF;refine cf 9 Tryz.func110 ?_;refine jB 8 hF Gu9 Fb1 fun y1 hF=> ?_
 cases hF;exact jr 3
def F62(fuel:Nat)(d0:B6):Option Bool:=
 Option.bind (
  Option.bind (F61 fuel d0) fun y5=>
  bif y5==0 then
   (Option.bind (Gj7 fuel d0.Owner 1) fun y6=>
   some (!y6))
  else
   (some false)) fun o1=>
 some o1
noncomputable abbrev b62:=C2 Tryz.f62
abbrev G62(r:Bool):=J none Tryz.prog 12 [] (L5 Tryz.prog Tryz.f62 (.b r))
theorem Fx4{fuel:Nat}{d0:B6}{r:Bool}(hF:F62 fuel d0=some r):
 C3 Tryz.prog 62 [.agg [.l 1 d0.Owner A6,.l 1 d0.Choices A0]] (.b r):=by
 unfold F62 at hF;refine cf 12 Tryz.func62 ?_;obtain⟨o1,hO,hF⟩:=bnd hF;have hR1:G62 r ⟨mkT [(2,.b o1)],[],[kO b62 [1,0],kC b62 [1,1]]⟩:=by
  clear hO;cases hF;exact jr 1
 clear hF;rename _=some o1=>hF
 refine jB 8 hF Hf5 Eq6 fun y5 hF=> ?_
 refine jI 2 6 hF ?_ ?_<;>intro hF
 ·refine jB 2 hF Gt3 Ez2 fun y6 hF=> ?_
  cases hF;exact ja 3 hR1
 ·cases hF;exact ja 6 hR1
end
section
theorem Ft5:A8 Tryz.prog 78:=Kx.A7 Tryz.func78 (by kernel_rfl) (by kernel_rfl)
theorem Gu3:A8 Tryz.prog 159:=Kx.A7 Tryz.func159 (by kernel_rfl) (by kernel_rfl)
theorem Hf6:A8 Tryz.prog 65:=Kx.A7 Tryz.func65 (by kernel_rfl) (by kernel_rfl)
def Aj0(fuel:Nat)(d0:A2)(d1:List A1):Nat->Int->Bool->(List Int)->Bool->(List Int)->Option A1
 |0,_,_,_,_,_=>none
 |nL1+1,v2,t3,l3,t4,l4=>
  bif decide (v2<((d0.Next.map A9).length:Int)) then
   (Option.bind (C6 d0.Next v2) fun y20=>
   Option.bind (F36 fuel y20.P) fun y25=>
   Option.bind (C6 d1 y20.To) fun y26=>
   Option.bind (Fa5 fuel y25 y26) fun y27=>
   Option.bind (Eo9 fuel (⟨(⟨t3,l3⟩:A3),(⟨t4,l4⟩:A3)⟩:A1) y27) fun y28=>
   (Aj0 fuel d0 d1 nL1) (i64.wrap (v2+1)) y28.n_.neg y28.n_.mag y28.d.neg y28.d.mag)
  else
   (some (⟨(⟨t3,l3⟩:A3),(⟨t4,l4⟩:A3)⟩:A1))
def Gj6(fuel:Nat)(d0:A2)(d1:List A1):Option A1:=
 Option.bind (F78 fuel 0 1) fun y1=>
 Aj0 fuel d0 d1 fuel 0 y1.n_.neg y1.n_.mag y1.d.neg y1.d.mag
end
section
theorem Hn3:A8 Tryz.prog 62:=Kx.A7 Tryz.func62 (by kernel_rfl) (by kernel_rfl)
theorem Hf0:A8 Tryz.prog 34:=Kx.A7 Tryz.func34 (by kernel_rfl) (by kernel_rfl)
theorem Hf9:A8 Tryz.prog 77:=Kx.A7 Tryz.func77 (by kernel_rfl) (by kernel_rfl)
theorem Fj8:A8 Tryz.prog 183:=Kx.A7 Tryz.func183 (by kernel_rfl) (by kernel_rfl)
theorem Fj3:A8 Tryz.prog 133:=Kx.A7 Tryz.func133 (by kernel_rfl) (by kernel_rfl)
theorem Gt5:A8 Tryz.prog 132:=Kx.A7 Tryz.func132 (by kernel_rfl) (by kernel_rfl)
theorem Gc4:A8 Tryz.prog 131:=Kx.A7 Tryz.func131 (by kernel_rfl) (by kernel_rfl)
theorem Hn4:A8 Tryz.prog 75:=Kx.A7 Tryz.func75 (by kernel_rfl) (by kernel_rfl)
theorem Gt6:A8 Tryz.prog 134:=Kx.A7 Tryz.func134 (by kernel_rfl) (by kernel_rfl)
theorem Gc5:A8 Tryz.prog 135:=Kx.A7 Tryz.func135 (by kernel_rfl) (by kernel_rfl)
theorem Hf8:A8 Tryz.prog 76:=Kx.A7 Tryz.func76 (by kernel_rfl) (by kernel_rfl)
theorem Hf1:A8 Tryz.prog 38:=Kx.A7 Tryz.func38 (by kernel_rfl) (by kernel_rfl)
theorem Gt7:A8 Tryz.prog 138:=Kx.A7 Tryz.func138 (by kernel_rfl) (by kernel_rfl)
theorem Gd5:A8 Tryz.prog 187:=Kx.A7 Tryz.func187 (by kernel_rfl) (by kernel_rfl)
theorem Fk0:A8 Tryz.prog 186:=Kx.A7 Tryz.func186 (by kernel_rfl) (by kernel_rfl)
theorem Gc6:A8 Tryz.prog 137:=Kx.A7 Tryz.func137 (by kernel_rfl) (by kernel_rfl)
theorem Gv2:A8 Tryz.prog 188:=Kx.A7 Tryz.func188 (by kernel_rfl) (by kernel_rfl)
theorem Gt8:A8 Tryz.prog 139:=Kx.A7 Tryz.func139 (by kernel_rfl) (by kernel_rfl)
theorem Hg0:A8 Tryz.prog 79:=Kx.A7 Tryz.func79 (by kernel_rfl) (by kernel_rfl)
theorem Gm8:A8 Tryz.prog 41:=Kx.A7 Tryz.func41 (by kernel_rfl) (by kernel_rfl)
theorem Hf2:A8 Tryz.prog 39:=Kx.A7 Tryz.func39 (by kernel_rfl) (by kernel_rfl)
theorem Hm4:A8 Tryz.prog 35:=Kx.A7 Tryz.func35 (by kernel_rfl) (by kernel_rfl)
theorem Hm5:A8 Tryz.prog 37:=Kx.A7 Tryz.func37 (by kernel_rfl) (by kernel_rfl)
theorem Hn5:A8 Tryz.prog 80:=Kx.A7 Tryz.func80 (by kernel_rfl) (by kernel_rfl)
theorem Hm6:A8 Tryz.prog 40:=Kx.A7 Tryz.func40 (by kernel_rfl) (by kernel_rfl)
theorem He9:A8 Tryz.prog 33:=Kx.A7 Tryz.func33 (by kernel_rfl) (by kernel_rfl)
theorem He8:A8 Tryz.prog 32:=Kx.A7 Tryz.func32 (by kernel_rfl) (by kernel_rfl)
theorem Hl9:A8 Tryz.prog 12:=Kx.A7 Tryz.func12 (by kernel_rfl) (by kernel_rfl)
theorem Gt9:A8 Tryz.prog 14:=Kx.A7 Tryz.func14 (by kernel_rfl) (by kernel_rfl)
theorem Gm6:A8 Tryz.prog 30:=Kx.A7 Tryz.func30 (by kernel_rfl) (by kernel_rfl)
theorem Gm4:A8 Tryz.prog 15:=Kx.A7 Tryz.func15 (by kernel_rfl) (by kernel_rfl)
theorem Hl8:A8 Tryz.prog 11:=Kx.A7 Tryz.func11 (by kernel_rfl) (by kernel_rfl)
theorem Hm2:A8 Tryz.prog 18:=Kx.A7 Tryz.func18 (by kernel_rfl) (by kernel_rfl)
theorem Hm1:A8 Tryz.prog 17:=Kx.A7 Tryz.func17 (by kernel_rfl) (by kernel_rfl)
theorem Hm3:A8 Tryz.prog 20:=Kx.A7 Tryz.func20 (by kernel_rfl) (by kernel_rfl)
theorem Hm0:A8 Tryz.prog 13:=Kx.A7 Tryz.func13 (by kernel_rfl) (by kernel_rfl)
theorem Gc9:A8 Tryz.prog 150:=Kx.A7 Tryz.func150 (by kernel_rfl) (by kernel_rfl)
theorem Hn8:A8 Tryz.prog 91:=Kx.A7 Tryz.func91 (by kernel_rfl) (by kernel_rfl)
theorem Gd0:A8 Tryz.prog 151:=Kx.A7 Tryz.func151 (by kernel_rfl) (by kernel_rfl)
theorem Hn9:A8 Tryz.prog 92:=Kx.A7 Tryz.func92 (by kernel_rfl) (by kernel_rfl)
theorem Hn0:A8 Tryz.prog 48:=Kx.A7 Tryz.func48 (by kernel_rfl) (by kernel_rfl)
theorem Hm9:A8 Tryz.prog 47:=Kx.A7 Tryz.func47 (by kernel_rfl) (by kernel_rfl)
theorem Hn7:A8 Tryz.prog 90:=Kx.A7 Tryz.func90 (by kernel_rfl) (by kernel_rfl)
theorem Hm8:A8 Tryz.prog 46:=Kx.A7 Tryz.func46 (by kernel_rfl) (by kernel_rfl)
theorem Gm5:A8 Tryz.prog 22:=Kx.A7 Tryz.func22 (by kernel_rfl) (by kernel_rfl)
theorem He7:A8 Tryz.prog 28:=Kx.A7 Tryz.func28 (by kernel_rfl) (by kernel_rfl)
theorem He5:A8 Tryz.prog 16:=Kx.A7 Tryz.func16 (by kernel_rfl) (by kernel_rfl)
def F34(fuel:Nat)(d0:B6)(d1:Int):Option Int:=
 Option.bind (F61 fuel d0) fun y1=>
 bif y1 !=0 then
  (some y1)
 else
  (Option.bind (F62 fuel d0) fun y2=>
  bif !y2 then
   (some 111)
  else
   (ass (decide (0<=((d0.Owner.map A6).length:Int)))<|
   bif (Int.fdiv d1 (2^(min (Int.toNat ((d0.Owner.map A6).length:Int)) u64.bits))) !=0 then
    (some 2)
   else
    (some 0)))
theorem Eq1{fuel:Nat}{d0:B6}{d1:Int}{r:Int}(hF:F34 fuel d0 d1=some r):
 C3 Tryz.prog 34 [.agg [.l 1 d0.Owner A6,.l 1 d0.Choices A0],.n d1] (.i r):=by
 unfold F34 at hF;refine cf 20 Tryz.func34 ?_;refine jB 9 hF Hf5 Eq6 fun y1 hF=> ?_
 refine jI 7 9 hF ?_ ?_<;>intro hF
 ·cases hF;exact jr 6
 ·refine jB 6 hF Hn3 Fx4 fun y2 hF=> ?_
  refine jI 2 13 hF ?_ ?_<;>intro hF
  ·cases hF;exact jr 5
  ·obtain⟨hb3,hF⟩:=K8 hF;refine jo1 9 (ck hb3) ?_;refine jI 2 19 hF ?_ ?_<;>intro hF
   ·cases hF;exact jr 5
   ·cases hF;exact jr 6
structure B3 where
 Model:B6
 target:Int
 most:Bool
 zero:Int
 blocks:List Int
 deriving DecidableEq
def E6(x:Int):List Dat:=[.int .u64 x]
def Ak3(d0:A2)(d1:Int):Nat->Int->Option Bool
 |0,_=>none
 |nL1+1,v2=>
  bif decide (v2<((d0.Next.map A9).length:Int)) then
   (Option.bind (C6 d0.Next v2) fun y3=>
   ass (decide (0<=y3.To))<|
   bif (u64.wrap (BitVec.ofInt u64.bits (Int.fdiv d1 (2^(min (Int.toNat y3.To) u64.bits)))&&&BitVec.ofInt u64.bits 1).toNat)==0 then
    (some false)
   else
    ((Ak3 d0 d1 nL1) (i64.wrap (v2+1))))
  else
   (some true)
def Ep2(fuel:Nat)(d0:A2)(d1:Int):Option Bool:=
 Ak3 d0 d1 fuel 0
noncomputable abbrev Hc5:=C2 Tryz.f183
abbrev Hi3(r:Bool):=J none Tryz.prog 21 [] (L5 Tryz.prog Tryz.f183 (.b r))
theorem Ch1{fuel:Nat}{d0:A2}{d1:Int}{r:Bool}(hF:Ep2 fuel d0 d1=some r):
 C3 Tryz.prog 183 [.agg [.s d0.Act,.s d0.Gain,.l 2 d0.Next A9],.n d1] (.b r):=by
 unfold Ep2 at hF;refine cf 21 Tryz.func183 ?_;have hL1:∀(nL1:Nat) (v2:Int),Ak3 d0 d1 nL1 v2=some r->Hi3 r ⟨mkT [(1,.n d1),(8,.l 2 d0.Next A9),(9,.i ((d0.Next.map A9).length:Int)),(10,.i v2)],[],[kL Hc5 [1,0,1,0,0],.inBlock 0,kC Hc5 [1,1]]⟩:=by
  clear hF;intro nL1
  induction nL1 with
  |zero=>intro v2 hF;cases hF
  |succ nL1 iL1=>
   intro v2 hF;rw[Ak3]at hF;refine jI 6 11 hF ?_ ?_<;>intro hF
   ·obtain⟨y3,e3,hF⟩:=bnd hF;refine jo1 6 (gm (f:=A9) e3) ?_;obtain⟨hb8,hF⟩:=K8 hF;refine jo1 9 (ck hb8) ?_;refine jI 3 19 hF ?_ ?_<;>intro hF
    ·cases hF;exact jr 5
    ·exact ja 7 (iL1 _ hF)
   ·cases hF;exact jr 6
 exact ja 15 (hL1 _ _ hF)
def Dj1(v6:Int)(cL1:Int->Int->Option Int)(v7:Int):Option Int:=
 cL1 v7 (i64.wrap (v6+1))
def Dj2(fuel:Nat)(d7:Int)(y1:List A2):Nat->Int->Int->Option Int
 |0,_,_=>none
 |nL1+1,v5,v6=>
  bif decide (v6<((y1.map B0).length:Int)) then
   (Option.bind (C6 y1 v6) fun y12=>
   Option.bind (Ep2 fuel y12 d7) fun y13=>
   bif y13 then
    (Dj1 v6 (Dj2 fuel d7 y1 nL1) (i64.wrap (v5+1)))
   else
    (Dj1 v6 (Dj2 fuel d7 y1 nL1) v5))
  else
   (some v5)
noncomputable abbrev Ga3:=C2 Tryz.f133
noncomputable abbrev Bi1:=C2 Tryz.f131
def Fs1(d0:List Int)(d1:List (List A2))(d2:Int)(d3:Bool)(d4:Int):Option Int:=
 ass (decide (0<=((d0.map A6).length:Int)))<|
 some (u64.wrap ((u64.wrap (1*2^(min (Int.toNat ((d0.map A6).length:Int)) u64.bits)))-1))
theorem Dm7{d0:List Int}{d1:List (List A2)}{d2:Int}{d3:Bool}{d4:Int}{r:Int}(hF:Fs1 d0 d1 d2 d3 d4=some r):
 I0 Tryz.prog 77 [(2000,.box 139 [.l 1 d0 A6,.l 1 d1 A0,.n d2,.b d3,.n d4,.esl 1])] [.ptr 2000 0] [(2000,.box 139 [.l 1 d0 A6,.l 1 d1 A0,.n d2,.b d3,.n d4,.esl 1])] (.n r):=by
 unfold Fs1 at hF;refine cr 11 Tryz.func77 ?_;obtain⟨hb1,hF⟩:=K8 hF;refine jo1 12 (ck hb1) ?_;cases hF;exact jrr 3
def Am7(v6:Int)(cL1:Int->Int->Option Int)(v7:Int):Option Int:=
 cL1 v7 (i64.wrap (v6+1))
def R7(fuel:Nat)(d1:Int)(y1:List A2):Nat->Int->Int->Option Int
 |0,_,_=>none
 |nL1+1,v5,v6=>
  bif decide (v6<((y1.map B0).length:Int)) then
   (Option.bind (C6 y1 v6) fun y12=>
   Option.bind (Ep2 fuel y12 d1) fun y13=>
   bif y13 then
    (Am7 v6 (R7 fuel d1 y1 nL1) (i64.wrap (v5+1)))
   else
    (Am7 v6 (R7 fuel d1 y1 nL1) v5))
  else
   (some v5)
def Cg5(fuel:Nat)(d0:Int)(d1:Int)(d2:List Int)(d3:List (List A2))(d4:Int)(d5:Bool)(d6:Int):Option Int:=
 Option.bind (C6 d3 d0) fun y1=>
 R7 fuel d1 y1 fuel 0 0
abbrev Fy1(d2:List Int)(d3:List (List A2))(d4:Int)(d5:Bool)(d6:Int)(r:Int):=J none Tryz.prog 30 [] (Cf8 Tryz.prog Tryz.f133 [(2000,.box 139 [.l 1 d2 A6,.l 1 d3 A0,.n d4,.b d5,.n d6,.esl 1])] (.i r))
theorem Bo0{fuel:Nat}{d0:Int}{d1:Int}{d2:List Int}{d3:List (List A2)}{d4:Int}{d5:Bool}{d6:Int}{r:Int}(hF:Cg5 fuel d0 d1 d2 d3 d4 d5 d6=some r):
 I0 Tryz.prog 133 [(2000,.box 139 [.l 1 d2 A6,.l 1 d3 A0,.n d4,.b d5,.n d6,.esl 1])] [.ptr 2000 0,.i d0,.n d1] [(2000,.box 139 [.l 1 d2 A6,.l 1 d3 A0,.n d4,.b d5,.n d6,.esl 1])] (.i r):=by
 unfold Cg5 at hF;refine cr 30 Tryz.func133 ?_;obtain⟨y1,e1,hF⟩:=bnd hF;refine jo1 17 (gm (f:=A0) e1) ?_;have hL1:∀(nL1:Nat) (v5:Int) (v6:Int),R7 fuel d1 y1 nL1 v5 v6=some r->Fy1 d2 d3 d4 d5 d6 r ⟨mkT [(2,.n d1),(7,.i v5),(17,.l 3 y1 B0),(18,.i ((y1.map B0).length:Int)),(19,.i v6)],[(2000,.box 139 [.l 1 d2 A6,.l 1 d3 A0,.n d4,.b d5,.n d6,.esl 1])],[kL Ga3 [1,1,0,1,0,0],.inBlock 0,kC Ga3 [1,1,1]]⟩:=by
  clear hF;intro nL1
  induction nL1 with
  |zero=>intro v5 v6 hF;cases hF
  |succ nL1 iL1=>
   intro v5 v6 hF;rw[R7]at hF;refine jI 6 20 hF ?_ ?_<;>intro hF
   ·have hA2:∀(v7:Int),Am7 v6 (R7 fuel d1 y1 nL1) v7=some r->Fy1 d2 d3 d4 d5 d6 r ⟨mkT [(2,.n d1),(7,.i v7),(17,.l 3 y1 B0),(18,.i ((y1.map B0).length:Int)),(19,.i v6)],[(2000,.box 139 [.l 1 d2 A6,.l 1 d3 A0,.n d4,.b d5,.n d6,.esl 1])],[kC Ga3 [1,1,0,1,0,0,1,1,1],kL Ga3 [1,1,0,1,0,0],.inBlock 0,kC Ga3 [1,1,1]]⟩:=by
     intro v7 hF;unfold Am7 at hF;exact ja 4 (iL1 _ _ hF)
    obtain⟨y12,e12,hF⟩:=bnd hF;refine jo1 6 (gm (f:=B0) e12) ?_;refine jB 8 hF Fj8 Ch1 fun y13 hF=> ?_
    refine jI 1 25 hF ?_ ?_<;>intro hF
    ·exact ja 7 (hA2 _ hF)
    ·exact ja 3 (hA2 _ hF)
   ·cases hF;exact jrr 7
 exact ja 6 (hL1 _ _ _ hF)
def Dj0(fuel:Nat)(d0:Int)(d1:Int)(d2:List Int)(d3:List (List A2))(d4:Int)(d5:Bool)(d6:Int):Option Bool:=
 bif d5 then
  (Option.bind (Cg5 fuel d0 d1 d2 d3 d4 d5 d6) fun y3=>
  Option.bind (C6 d3 d0) fun y4=>
  some (y3==((y4.map B0).length:Int)))
 else
  (Option.bind (Cg5 fuel d0 d1 d2 d3 d4 d5 d6) fun y5=>
  some (decide (y5>0)))
theorem Ee9{fuel:Nat}{d0:Int}{d1:Int}{d2:List Int}{d3:List (List A2)}{d4:Int}{d5:Bool}{d6:Int}{r:Bool}(hF:Dj0 fuel d0 d1 d2 d3 d4 d5 d6=some r):
 I0 Tryz.prog 132 [(2000,.box 88 [.ptr 2001 0]),(2001,.box 139 [.l 1 d2 A6,.l 1 d3 A0,.n d4,.b d5,.n d6,.esl 1])] [.i d0,.n d1,.ptr 2000 0] [(2000,.box 88 [.ptr 2001 0]),(2001,.box 139 [.l 1 d2 A6,.l 1 d3 A0,.n d4,.b d5,.n d6,.esl 1])] (.b r):=by
 unfold Dj0 at hF;refine cr 29 Tryz.func132 ?_;refine jI 12 9 hF ?_ ?_<;>intro hF
 ·refine jd 2 ?_;obtain⟨y3,e3,hF⟩:=bnd hF;refine dcs 3 [(2001,2000)] [2001] Fj3 (Bo0 e3) ?_;obtain⟨y4,e4,hF⟩:=bnd hF;refine do1 6 (gm (f:=A0) e4) ?_;refine je 4 ?_;cases hF;exact jrr 0
 ·obtain⟨y5,e5,hF⟩:=bnd hF;refine jcr 7 [(2001,2000)] Fj3 (Bo0 e5) ?_;cases hF;exact jrr 3
def Z2(fuel:Nat)(d1:List Int)(d2:List (List A2))(d3:Int)(d4:Bool)(d5:Int)(v6:Int)(cL1:Int->Option Int):Nat->Int->Option Int
 |0,_=>none
 |nL2+1,v8=>
  bif decide (v8<((d1.map A6).length:Int)) then
   (Option.bind (
    ass (decide (0<=v8))<|
    bif (u64.wrap (BitVec.ofInt u64.bits (Int.fdiv v6 (2^(min (Int.toNat v8) u64.bits)))&&&BitVec.ofInt u64.bits 1).toNat)==1 then
     (Option.bind (Dj0 fuel v8 v6 d1 d2 d3 d4 d5) fun y27=>
     some (!y27))
    else
     (some false)) fun o9=>
   bif o9 then
    (ass (decide (0<=v8))<|
    cL1 (u64.wrap (BitVec.ofInt u64.bits v6&&& ~~~BitVec.ofInt u64.bits (u64.wrap (1*2^(min (Int.toNat v8) u64.bits)))).toNat))
   else
    ((Z2 fuel d1 d2 d3 d4 d5 v6 cL1 nL2) (i64.wrap (v8+1))))
  else
   (some v6)
def Af7(fuel:Nat)(d1:List Int)(d2:List (List A2))(d3:Int)(d4:Bool)(d5:Int):Nat->Int->Option Int
 |0,_=>none
 |nL1+1,v6=>
  Z2 fuel d1 d2 d3 d4 d5 v6 (Af7 fuel d1 d2 d3 d4 d5 nL1) fuel 0
def Di8(fuel:Nat)(d0:Int)(d1:List Int)(d2:List (List A2))(d3:Int)(d4:Bool)(d5:Int):Option Int:=
 Af7 fuel d1 d2 d3 d4 d5 fuel d0
abbrev Fe1(d1:List Int)(d2:List (List A2))(d3:Int)(d4:Bool)(d5:Int)(r:Int):=J none Tryz.prog 35 [] (Cf8 Tryz.prog Tryz.f131 [(2000,.box 139 [.l 1 d1 A6,.l 1 d2 A0,.n d3,.b d4,.n d5,.esl 1]),(2001,.box 88 [.ptr 2000 0])] (.n r))
theorem Ee7{fuel:Nat}{d0:Int}{d1:List Int}{d2:List (List A2)}{d3:Int}{d4:Bool}{d5:Int}{r:Int}(hF:Di8 fuel d0 d1 d2 d3 d4 d5=some r):
 I0 Tryz.prog 131 [(2000,.box 139 [.l 1 d1 A6,.l 1 d2 A0,.n d3,.b d4,.n d5,.esl 1]),(2001,.box 88 [.ptr 2000 0])] [.ptr 2000 0,.n d0,.fn 132 [] [.ptr 2001 0]] [(2000,.box 139 [.l 1 d1 A6,.l 1 d2 A0,.n d3,.b d4,.n d5,.esl 1]),(2001,.box 88 [.ptr 2000 0])] (.n r):=by
 unfold Di8 at hF;refine cr 35 Tryz.func131 ?_;have hL1:∀(nL1:Nat) (v6:Int),Af7 fuel d1 d2 d3 d4 d5 nL1 v6=some r->Fe1 d1 d2 d3 d4 d5 r ⟨mkT [(0,.ptr 2000 0),(1,.n v6),(2,.fn 132 [] [.ptr 2001 0])],[(2000,.box 139 [.l 1 d1 A6,.l 1 d2 A0,.n d3,.b d4,.n d5,.esl 1]),(2001,.box 88 [.ptr 2000 0])],[kC Bi1 [1,0,1],.inScope (cAt Bi1 [1,0])]⟩:=by
  clear hF;intro nL1
  induction nL1 with
  |zero=>intro v6 hF;cases hF
  |succ nL1 iL1=>
   intro v6 hF;rw[Af7]at hF;have hL2:∀(nL2:Nat) (v8:Int),Z2 fuel d1 d2 d3 d4 d5 v6 (Af7 fuel d1 d2 d3 d4 d5 nL1) nL2 v8=some r->Fe1 d1 d2 d3 d4 d5 r ⟨mkT [(0,.ptr 2000 0),(1,.n v6),(2,.fn 132 [] [.ptr 2001 0]),(13,.i ((d1.map A6).length:Int)),(14,.i v8)],[(2000,.box 139 [.l 1 d1 A6,.l 1 d2 A0,.n d3,.b d4,.n d5,.esl 1]),(2001,.box 88 [.ptr 2000 0])],[kL Bi1 [1,0,1,0,1,0,0],.inBlock 0,kC Bi1 [1,0,1,1],.inScope (cAt Bi1 [1,0])]⟩:=by
    clear hF;intro nL2
    induction nL2 with
    |zero=>intro v8 hF;cases hF
    |succ nL2 iL2=>
     intro v8 hF;rw[Z2]at hF;refine jI 6 15 hF ?_ ?_<;>intro hF
     ·obtain⟨o9,hO,hF⟩:=bnd hF;have hR9:Fe1 d1 d2 d3 d4 d5 r ⟨mkT [(0,.ptr 2000 0),(1,.n v6),(2,.fn 132 [] [.ptr 2001 0]),(7,.i v8),(13,.i ((d1.map A6).length:Int)),(14,.i v8),(28,.b o9)],[(2000,.box 139 [.l 1 d1 A6,.l 1 d2 A0,.n d3,.b d4,.n d5,.esl 1]),(2001,.box 88 [.ptr 2000 0])],[kO Bi1 [1,0,1,0,1,0,0,1,1,0,0,1,0],kC Bi1 [1,0,1,0,1,0,0,1,1,0,0,1,1],.inBlock 1,kC Bi1 [1,0,1,0,1,0,0,1,1,1],kL Bi1 [1,0,1,0,1,0,0],.inBlock 0,kC Bi1 [1,0,1,1],.inScope (cAt Bi1 [1,0])]⟩:=by
       clear hO;refine jI 1 28 hF ?_ ?_<;>intro hF
       ·obtain⟨hb79,hF⟩:=K8 hF;refine jo1 5 (ck hb79) ?_;exact ja 6 (iL1 _ hF)
       ·exact ja 7 (iL2 _ hF)
      clear hF;rename _=some o9=>hF
      obtain⟨hb80,hF⟩:=K8 hF;refine jo1 13 (ck hb80) ?_;refine jI 3 22 hF ?_ ?_<;>intro hF
      ·obtain⟨y27,e27,hF⟩:=bnd hF;refine jcr 3 [(2001,2000),(2000,2001)] Gt5 (Ee9 e27) ?_;cases hF;exact ja 2 hR9
      ·cases hF;exact ja 6 hR9
     ·cases hF;exact jrr 7
   exact ja 13 (hL2 _ _ hF)
 exact ja 7 (hL1 _ _ hF)
def Fs0(fuel:Nat)(d0:List Int)(d1:List (List A2))(d2:Int)(d3:Bool)(d4:Int):Option Int:=
 Option.bind (Fs1 d0 d1 d2 d3 d4) fun y3=>
 Option.bind (Di8 fuel (u64.wrap (BitVec.ofInt u64.bits y3&&& ~~~BitVec.ofInt u64.bits d2).toNat) d0 d1 d2 d3 d4) fun y4=>
 some y4
theorem Fe0{fuel:Nat}{d0:List Int}{d1:List (List A2)}{d2:Int}{d3:Bool}{d4:Int}{r:Int}(hF:Fs0 fuel d0 d1 d2 d3 d4=some r):
 I0 Tryz.prog 75 [(2000,.box 139 [.l 1 d0 A6,.l 1 d1 A0,.n d2,.b d3,.n d4,.esl 1])] [.ptr 2000 0] [(2000,.box 139 [.l 1 d0 A6,.l 1 d1 A0,.n d2,.b d3,.n d4,.esl 1])] (.n r):=by
 unfold Fs0 at hF;refine cr 13 Tryz.func75 ?_;refine jd 6 ?_;obtain⟨y3,e3,hF⟩:=bnd hF;refine dcs 2 [(2000,2000)] [2000] Hf9 (Dm7 e3) ?_;obtain⟨y4,e4,hF⟩:=bnd hF;refine dcs 6 [(2000,2000),(1,2001)] [2000,1] Gc4 (Ee7 e4) ?_;refine je 1 ?_;cases hF;exact jrr 0
def Fu5(fuel:Nat)(d0:Int)(d1:Int)(d2:List Int)(d3:List (List A2))(d4:Int)(d5:Bool)(d6:Int):Option Bool:=
 Option.bind (Cg5 fuel d0 d1 d2 d3 d4 d5 d6) fun y1=>
 some (decide (y1>0))
theorem Ez6{fuel:Nat}{d0:Int}{d1:Int}{d2:List Int}{d3:List (List A2)}{d4:Int}{d5:Bool}{d6:Int}{r:Bool}(hF:Fu5 fuel d0 d1 d2 d3 d4 d5 d6=some r):
 I0 Tryz.prog 134 [(2000,.box 88 [.ptr 2001 0]),(2001,.box 139 [.l 1 d2 A6,.l 1 d3 A0,.n d4,.b d5,.n d6,.esl 1])] [.i d0,.n d1,.ptr 2000 0] [(2000,.box 88 [.ptr 2001 0]),(2001,.box 139 [.l 1 d2 A6,.l 1 d3 A0,.n d4,.b d5,.n d6,.esl 1])] (.b r):=by
 unfold Fu5 at hF;refine cr 11 Tryz.func134 ?_;obtain⟨y1,e1,hF⟩:=bnd hF;refine jcr 9 [(2001,2000)] Fj3 (Bo0 e1) ?_;cases hF;exact jrr 3
def Z3(fuel:Nat)(d1:List Int)(d2:List (List A2))(d3:Int)(d4:Bool)(d5:Int)(v6:Int)(cL1:Int->Option Int):Nat->Int->Option Int
 |0,_=>none
 |nL2+1,v8=>
  bif decide (v8<((d1.map A6).length:Int)) then
   (Option.bind (
    ass (decide (0<=v8))<|
    bif (u64.wrap (BitVec.ofInt u64.bits (Int.fdiv v6 (2^(min (Int.toNat v8) u64.bits)))&&&BitVec.ofInt u64.bits 1).toNat)==1 then
     (Option.bind (Fu5 fuel v8 v6 d1 d2 d3 d4 d5) fun y27=>
     some (!y27))
    else
     (some false)) fun o9=>
   bif o9 then
    (ass (decide (0<=v8))<|
    cL1 (u64.wrap (BitVec.ofInt u64.bits v6&&& ~~~BitVec.ofInt u64.bits (u64.wrap (1*2^(min (Int.toNat v8) u64.bits)))).toNat))
   else
    ((Z3 fuel d1 d2 d3 d4 d5 v6 cL1 nL2) (i64.wrap (v8+1))))
  else
   (some v6)
def Af8(fuel:Nat)(d1:List Int)(d2:List (List A2))(d3:Int)(d4:Bool)(d5:Int):Nat->Int->Option Int
 |0,_=>none
 |nL1+1,v6=>
  Z3 fuel d1 d2 d3 d4 d5 v6 (Af8 fuel d1 d2 d3 d4 d5 nL1) fuel 0
def Di9(fuel:Nat)(d0:Int)(d1:List Int)(d2:List (List A2))(d3:Int)(d4:Bool)(d5:Int):Option Int:=
 Af8 fuel d1 d2 d3 d4 d5 fuel d0
abbrev Fe2(d1:List Int)(d2:List (List A2))(d3:Int)(d4:Bool)(d5:Int)(r:Int):=J none Tryz.prog 35 [] (Cf8 Tryz.prog Tryz.f131 [(2000,.box 139 [.l 1 d1 A6,.l 1 d2 A0,.n d3,.b d4,.n d5,.esl 1]),(2001,.box 88 [.ptr 2000 0])] (.n r))
theorem Ee8{fuel:Nat}{d0:Int}{d1:List Int}{d2:List (List A2)}{d3:Int}{d4:Bool}{d5:Int}{r:Int}(hF:Di9 fuel d0 d1 d2 d3 d4 d5=some r):
 I0 Tryz.prog 131 [(2000,.box 139 [.l 1 d1 A6,.l 1 d2 A0,.n d3,.b d4,.n d5,.esl 1]),(2001,.box 88 [.ptr 2000 0])] [.ptr 2000 0,.n d0,.fn 134 [] [.ptr 2001 0]] [(2000,.box 139 [.l 1 d1 A6,.l 1 d2 A0,.n d3,.b d4,.n d5,.esl 1]),(2001,.box 88 [.ptr 2000 0])] (.n r):=by
 unfold Di9 at hF;refine cr 35 Tryz.func131 ?_;have hL1:∀(nL1:Nat) (v6:Int),Af8 fuel d1 d2 d3 d4 d5 nL1 v6=some r->Fe2 d1 d2 d3 d4 d5 r ⟨mkT [(0,.ptr 2000 0),(1,.n v6),(2,.fn 134 [] [.ptr 2001 0])],[(2000,.box 139 [.l 1 d1 A6,.l 1 d2 A0,.n d3,.b d4,.n d5,.esl 1]),(2001,.box 88 [.ptr 2000 0])],[kC Bi1 [1,0,1],.inScope (cAt Bi1 [1,0])]⟩:=by
  clear hF;intro nL1
  induction nL1 with
  |zero=>intro v6 hF;cases hF
  |succ nL1 iL1=>
   intro v6 hF;rw[Af8]at hF;have hL2:∀(nL2:Nat) (v8:Int),Z3 fuel d1 d2 d3 d4 d5 v6 (Af8 fuel d1 d2 d3 d4 d5 nL1) nL2 v8=some r->Fe2 d1 d2 d3 d4 d5 r ⟨mkT [(0,.ptr 2000 0),(1,.n v6),(2,.fn 134 [] [.ptr 2001 0]),(13,.i ((d1.map A6).length:Int)),(14,.i v8)],[(2000,.box 139 [.l 1 d1 A6,.l 1 d2 A0,.n d3,.b d4,.n d5,.esl 1]),(2001,.box 88 [.ptr 2000 0])],[kL Bi1 [1,0,1,0,1,0,0],.inBlock 0,kC Bi1 [1,0,1,1],.inScope (cAt Bi1 [1,0])]⟩:=by
    clear hF;intro nL2
    induction nL2 with
    |zero=>intro v8 hF;cases hF
    |succ nL2 iL2=>
     intro v8 hF;rw[Z3]at hF;refine jI 6 15 hF ?_ ?_<;>intro hF
     ·obtain⟨o9,hO,hF⟩:=bnd hF;have hR9:Fe2 d1 d2 d3 d4 d5 r ⟨mkT [(0,.ptr 2000 0),(1,.n v6),(2,.fn 134 [] [.ptr 2001 0]),(7,.i v8),(13,.i ((d1.map A6).length:Int)),(14,.i v8),(28,.b o9)],[(2000,.box 139 [.l 1 d1 A6,.l 1 d2 A0,.n d3,.b d4,.n d5,.esl 1]),(2001,.box 88 [.ptr 2000 0])],[kO Bi1 [1,0,1,0,1,0,0,1,1,0,0,1,0],kC Bi1 [1,0,1,0,1,0,0,1,1,0,0,1,1],.inBlock 1,kC Bi1 [1,0,1,0,1,0,0,1,1,1],kL Bi1 [1,0,1,0,1,0,0],.inBlock 0,kC Bi1 [1,0,1,1],.inScope (cAt Bi1 [1,0])]⟩:=by
       clear hO;refine jI 1 28 hF ?_ ?_<;>intro hF
       ·obtain⟨hb79,hF⟩:=K8 hF;refine jo1 5 (ck hb79) ?_;exact ja 6 (iL1 _ hF)
       ·exact ja 7 (iL2 _ hF)
      clear hF;rename _=some o9=>hF
      obtain⟨hb80,hF⟩:=K8 hF;refine jo1 13 (ck hb80) ?_;refine jI 3 22 hF ?_ ?_<;>intro hF
      ·obtain⟨y27,e27,hF⟩:=bnd hF;refine jcr 3 [(2001,2000),(2000,2001)] Gt6 (Ez6 e27) ?_;cases hF;exact ja 2 hR9
      ·cases hF;exact ja 6 hR9
     ·cases hF;exact jrr 7
   exact ja 13 (hL2 _ _ hF)
 exact ja 7 (hL1 _ _ hF)
def As1(v424:Int)(cL2:Int->Int->Option Int)(v450:Int):Option Int:=
 cL2 v450 (i64.wrap (v424+1))
def As2(v474:Int)(cL5:Int->Int->Option Int)(v475:Int):Option Int:=
 cL5 v475 (i64.wrap (v474+1))
def Q9(fuel:Nat)(d1:Int)(v468:Int)(y708:A2)(cL4:Int->Int->Option Int):Nat->Int->Int->Option Int
 |0,_,_=>none
 |nL5+1,v473,v474=>
  bif decide (v474<((y708.Next.map A9).length:Int)) then
   (Option.bind (C6 y708.Next v474) fun y719=>
   Option.bind (Ep2 fuel y708 d1) fun y720=>
   bif y720 then
    (ass (decide (0<=y719.To))<|
    As2 v474 (Q9 fuel d1 v468 y708 cL4 nL5) (u64.wrap (BitVec.ofInt u64.bits v473|||BitVec.ofInt u64.bits (u64.wrap (1*2^(min (Int.toNat y719.To) u64.bits)))).toNat))
   else
    (As2 v474 (Q9 fuel d1 v468 y708 cL4 nL5) v473))
  else
   (cL4 v473 (i64.wrap (v468+1)))
def W5(fuel:Nat)(d1:Int)(v424:Int)(y681:List A2)(cL2:Int->Int->Option Int):Nat->Int->Int->Option Int
 |0,_,_=>none
 |nL4+1,v467,v468=>
  bif decide (v468<((y681.map B0).length:Int)) then
   (Option.bind (C6 y681 v468) fun y708=>
   Q9 fuel d1 v468 y708 (W5 fuel d1 v424 y681 cL2 nL4) fuel v467 0)
  else
   (As1 v424 cL2 v467)
def M9(fuel:Nat)(d1:Int)(d2:List Int)(d3:List (List A2))(v317:Int)(cL1:Int->Int->Option Int):Nat->Int->Int->Option Int
 |0,_,_=>none
 |nL2+1,v423,v424=>
  bif decide (v424<((d2.map A6).length:Int)) then
   (ass (decide (0<=v424))<|
   bif (u64.wrap (BitVec.ofInt u64.bits (Int.fdiv v317 (2^(min (Int.toNat v424) u64.bits)))&&&BitVec.ofInt u64.bits 1).toNat)==0 then
    (As1 v424 (M9 fuel d1 d2 d3 v317 cL1 nL2) v423)
   else
    (Option.bind (C6 d3 v424) fun y681=>
    W5 fuel d1 v424 y681 (M9 fuel d1 d2 d3 v317 cL1 nL2) fuel v423 0))
  else
   (cL1 v423 v317)
def O5(fuel:Nat)(d1:Int)(d2:List Int)(d3:List (List A2)):Nat->Int->Int->Option Int
 |0,_,_=>none
 |nL1+1,v317,v318=>
  bif v318 !=v317 then
   (M9 fuel d1 d2 d3 v317 (O5 fuel d1 d2 d3 nL1) fuel v317 0)
  else
   (some v317)
def Fq6(fuel:Nat)(d0:Int)(d1:Int)(d2:List Int)(d3:List (List A2))(d4:Int)(d5:Bool)(d6:Int):Option Int:=
 ass (decide (0<=d0))<|
 O5 fuel d1 d2 d3 fuel (u64.wrap (1*2^(min (Int.toNat d0) u64.bits))) 0
noncomputable abbrev An7:=C2 Tryz.f135
abbrev Fs2(d2:List Int)(d3:List (List A2))(d4:Int)(d5:Bool)(d6:Int)(r:Int):=J none Tryz.prog 66 [] (Cf8 Tryz.prog Tryz.f135 [(2000,.box 139 [.l 1 d2 A6,.l 1 d3 A0,.n d4,.b d5,.n d6,.esl 1])] (.n r))
theorem Dj3{fuel:Nat}{d0:Int}{d1:Int}{d2:List Int}{d3:List (List A2)}{d4:Int}{d5:Bool}{d6:Int}{r:Int}(hF:Fq6 fuel d0 d1 d2 d3 d4 d5 d6=some r):
 I0 Tryz.prog 135 [(2000,.box 139 [.l 1 d2 A6,.l 1 d3 A0,.n d4,.b d5,.n d6,.esl 1])] [.ptr 2000 0,.i d0,.n d1] [(2000,.box 139 [.l 1 d2 A6,.l 1 d3 A0,.n d4,.b d5,.n d6,.esl 1])] (.n r):=by
 unfold Fq6 at hF;refine cr 66 Tryz.func135 ?_;obtain⟨hb1,hF⟩:=K8 hF;refine jo1 7 (ck hb1) ?_;have hL1:∀(nL1:Nat) (v317:Int) (v318:Int),O5 fuel d1 d2 d3 nL1 v317 v318=some r->Fs2 d2 d3 d4 d5 d6 r ⟨mkT [(0,.ptr 2000 0),(2,.n d1),(7,.n v317),(8,.n v318)],[(2000,.box 139 [.l 1 d2 A6,.l 1 d3 A0,.n d4,.b d5,.n d6,.esl 1])],[kL An7 [1,1,0,1,0,0],.inBlock 0,kC An7 [1,1,1]]⟩:=by
  clear hF;intro nL1
  induction nL1 with
  |zero=>intro v317 v318 hF;cases hF
  |succ nL1 iL1=>
   intro v317 v318 hF;rw[O5]at hF;refine jI 8 18 hF ?_ ?_<;>intro hF
   ·have hL2:∀(nL2:Nat) (v423:Int) (v424:Int),M9 fuel d1 d2 d3 v317 (O5 fuel d1 d2 d3 nL1) nL2 v423 v424=some r->Fs2 d2 d3 d4 d5 d6 r ⟨mkT [(0,.ptr 2000 0),(2,.n d1),(7,.n v423),(8,.n v317),(25,.i ((d2.map A6).length:Int)),(26,.i v424)],[(2000,.box 139 [.l 1 d2 A6,.l 1 d3 A0,.n d4,.b d5,.n d6,.esl 1])],[kL An7 [1,1,0,1,0,0,1,0,1,1,0,0],.inBlock 2,.inBlock 1,kL An7 [1,1,0,1,0,0],.inBlock 0,kC An7 [1,1,1]]⟩:=by
     clear hF;intro nL2
     induction nL2 with
     |zero=>intro v423 v424 hF;cases hF
     |succ nL2 iL2=>
      intro v423 v424 hF;rw[M9]at hF;refine jI 6 27 hF ?_ ?_<;>intro hF
      ·have hA3:∀(v450:Int),As1 v424 (M9 fuel d1 d2 d3 v317 (O5 fuel d1 d2 d3 nL1) nL2) v450=some r->Fs2 d2 d3 d4 d5 d6 r ⟨mkT [(0,.ptr 2000 0),(2,.n d1),(7,.n v450),(8,.n v317),(25,.i ((d2.map A6).length:Int)),(26,.i v424)],[(2000,.box 139 [.l 1 d2 A6,.l 1 d3 A0,.n d4,.b d5,.n d6,.esl 1])],[kC An7 [1,1,0,1,0,0,1,0,1,1,0,0,1,1,1],kL An7 [1,1,0,1,0,0,1,0,1,1,0,0],.inBlock 2,.inBlock 1,kL An7 [1,1,0,1,0,0],.inBlock 0,kC An7 [1,1,1]]⟩:=by
        intro v450 hF;unfold As1 at hF;exact ja 4 (iL2 _ _ hF)
       obtain⟨hb864,hF⟩:=K8 hF;refine jo1 14 (ck hb864) ?_;refine jI 3 33 hF ?_ ?_<;>intro hF
       ·exact ja 2 (hA3 _ hF)
       ·obtain⟨y681,e681,hF⟩:=bnd hF;refine jo1 10 (gm (f:=A0) e681) ?_;have hL4:∀(nL4:Nat) (v467:Int) (v468:Int),W5 fuel d1 v424 y681 (M9 fuel d1 d2 d3 v317 (O5 fuel d1 d2 d3 nL1) nL2) nL4 v467 v468=some r->Fs2 d2 d3 d4 d5 d6 r ⟨mkT [(0,.ptr 2000 0),(2,.n d1),(7,.n v467),(8,.n v317),(25,.i ((d2.map A6).length:Int)),(26,.i v424),(41,.l 3 y681 B0),(42,.i ((y681.map B0).length:Int)),(43,.i v468)],[(2000,.box 139 [.l 1 d2 A6,.l 1 d3 A0,.n d4,.b d5,.n d6,.esl 1])],[kL An7 [1,1,0,1,0,0,1,0,1,1,0,0,1,1,0,0,1,1,1,0,0],.inBlock 4,.inBlock 3,kC An7 [1,1,0,1,0,0,1,0,1,1,0,0,1,1,1],kL An7 [1,1,0,1,0,0,1,0,1,1,0,0],.inBlock 2,.inBlock 1,kL An7 [1,1,0,1,0,0],.inBlock 0,kC An7 [1,1,1]]⟩:=by
         clear hF;intro nL4
         induction nL4 with
         |zero=>intro v467 v468 hF;cases hF
         |succ nL4 iL4=>
          intro v467 v468 hF;rw[W5]at hF;refine jI 6 44 hF ?_ ?_<;>intro hF
          ·obtain⟨y708,e708,hF⟩:=bnd hF;refine jo1 6 (gm (f:=B0) e708) ?_;have hL5:∀(nL5:Nat) (v473:Int) (v474:Int),Q9 fuel d1 v468 y708 (W5 fuel d1 v424 y681 (M9 fuel d1 d2 d3 v317 (O5 fuel d1 d2 d3 nL1) nL2) nL4) nL5 v473 v474=some r->Fs2 d2 d3 d4 d5 d6 r ⟨mkT [(0,.ptr 2000 0),(2,.n d1),(7,.n v473),(8,.n v317),(11,.ptr 11 0),(25,.i ((d2.map A6).length:Int)),(26,.i v424),(41,.l 3 y681 B0),(42,.i ((y681.map B0).length:Int)),(43,.i v468),(48,.l 2 y708.Next A9),(49,.i ((y708.Next.map A9).length:Int)),(50,.i v474)],[(11,.box 41 [.s y708.Act,.s y708.Gain,.l 2 y708.Next A9]),(2000,.box 139 [.l 1 d2 A6,.l 1 d3 A0,.n d4,.b d5,.n d6,.esl 1])],[kL An7 [1,1,0,1,0,0,1,0,1,1,0,0,1,1,0,0,1,1,1,0,0,1,1,0,0,1,1,0,0],.inBlock 6,.inBlock 5,kC An7 [1,1,0,1,0,0,1,0,1,1,0,0,1,1,0,0,1,1,1,0,0,1,1,1],kL An7 [1,1,0,1,0,0,1,0,1,1,0,0,1,1,0,0,1,1,1,0,0],.inBlock 4,.inBlock 3,kC An7 [1,1,0,1,0,0,1,0,1,1,0,0,1,1,1],kL An7 [1,1,0,1,0,0,1,0,1,1,0,0],.inBlock 2,.inBlock 1,kL An7 [1,1,0,1,0,0],.inBlock 0,kC An7 [1,1,1]]⟩:=by
            clear hF;intro nL5
            induction nL5 with
            |zero=>intro v473 v474 hF;cases hF
            |succ nL5 iL5=>
             intro v473 v474 hF;rw[Q9]at hF;refine jI 6 51 hF ?_ ?_<;>intro hF
             ·have hA6:∀(v475:Int),As2 v474 (Q9 fuel d1 v468 y708 (W5 fuel d1 v424 y681 (M9 fuel d1 d2 d3 v317 (O5 fuel d1 d2 d3 nL1) nL2) nL4) nL5) v475=some r->Fs2 d2 d3 d4 d5 d6 r ⟨mkT [(0,.ptr 2000 0),(2,.n d1),(7,.n v475),(8,.n v317),(11,.ptr 11 0),(25,.i ((d2.map A6).length:Int)),(26,.i v424),(41,.l 3 y681 B0),(42,.i ((y681.map B0).length:Int)),(43,.i v468),(48,.l 2 y708.Next A9),(49,.i ((y708.Next.map A9).length:Int)),(50,.i v474)],[(11,.box 41 [.s y708.Act,.s y708.Gain,.l 2 y708.Next A9]),(2000,.box 139 [.l 1 d2 A6,.l 1 d3 A0,.n d4,.b d5,.n d6,.esl 1])],[kC An7 [1,1,0,1,0,0,1,0,1,1,0,0,1,1,0,0,1,1,1,0,0,1,1,0,0,1,1,0,0,1,1,1],kL An7 [1,1,0,1,0,0,1,0,1,1,0,0,1,1,0,0,1,1,1,0,0,1,1,0,0,1,1,0,0],.inBlock 6,.inBlock 5,kC An7 [1,1,0,1,0,0,1,0,1,1,0,0,1,1,0,0,1,1,1,0,0,1,1,1],kL An7 [1,1,0,1,0,0,1,0,1,1,0,0,1,1,0,0,1,1,1,0,0],.inBlock 4,.inBlock 3,kC An7 [1,1,0,1,0,0,1,0,1,1,0,0,1,1,1],kL An7 [1,1,0,1,0,0,1,0,1,1,0,0],.inBlock 2,.inBlock 1,kL An7 [1,1,0,1,0,0],.inBlock 0,kC An7 [1,1,1]]⟩:=by
               intro v475 hF;unfold As2 at hF;exact ja 4 (iL5 _ _ hF)
              obtain⟨y719,e719,hF⟩:=bnd hF;refine jo1 6 (gm (f:=A9) e719) ?_;refine jB 8 hF Fj8 Ch1 fun y720 hF=> ?_
              refine jI 1 56 hF ?_ ?_<;>intro hF
              ·obtain⟨hb913,hF⟩:=K8 hF;refine jo1 5 (ck hb913) ?_;exact ja 4 (hA6 _ hF)
              ·exact ja 3 (hA6 _ hF)
             ·exact ja 7 (iL4 _ _ hF)
           exact ja 13 (hL5 _ _ _ hF)
          ·exact ja 3 (hA3 _ hF)
        exact ja 6 (hL4 _ _ _ hF)
      ·exact ja 3 (iL1 _ _ hF)
    exact ja 20 (hL2 _ _ _ hF)
   ·cases hF;exact jrr 7
 exact ja 9 (hL1 _ _ _ hF)
def An1(v34:Int)(cL1:Int->(List Int)->Option (List Int))(l10:List Int):Option (List Int):=
 cL1 (i64.wrap (v34+1)) l10
def Bk4(v49:Int)(cL3:Int->Int->Option (List Int))(v50:Int):Option (List Int):=
 cL3 v50 (i64.wrap (v49+1))
def An2(d1:List Int)(d2:List (List A2))(d3:Int)(d4:Bool)(d5:Int)(l8:List Int)(v34:Int)(v48:Int)(rec_F76:Int->(List Int)->(List (List A2))->Int->Bool->Int->Option (List Int))(cL1:Int->(List Int)->Option (List Int)):Nat->Int->Option (List Int)
 |0,_=>none
 |nL5+1,v52=>
  bif decide (v52<((l8.map E6).length:Int)) then
   (Option.bind (C6 l8 v52) fun y234=>
   ass (decide (0<=v34))<|
   bif (u64.wrap (BitVec.ofInt u64.bits (Int.fdiv y234 (2^(min (Int.toNat v34) u64.bits)))&&&BitVec.ofInt u64.bits 1).toNat)==1 then
    (An1 v34 cL1 l8)
   else
    ((An2 d1 d2 d3 d4 d5 l8 v34 v48 rec_F76 cL1 nL5) (i64.wrap (v52+1))))
  else
   (ass (decide (0<=v34))<|
   bif (u64.wrap (BitVec.ofInt u64.bits v48&&&BitVec.ofInt u64.bits (u64.wrap ((u64.wrap (1*2^(min (Int.toNat v34) u64.bits)))-1))).toNat)==0 then
    (Option.bind (rec_F76 v48 d1 d2 d3 d4 d5) fun y235=>
    Option.bind (app l8 y235) fun l11=>
    An1 v34 cL1 l11)
   else
    (An1 v34 cL1 l8))
def Ah8(fuel:Nat)(d1:List Int)(d2:List (List A2))(d3:Int)(d4:Bool)(d5:Int)(l8:List Int)(v34:Int)(y1:Int)(rec_F76:Int->(List Int)->(List (List A2))->Int->Bool->Int->Option (List Int))(cL1:Int->(List Int)->Option (List Int)):Nat->Int->Int->Option (List Int)
 |0,_,_=>none
 |nL3+1,v48,v49=>
  bif decide (v49<((d1.map A6).length:Int)) then
   (Option.bind (
    ass (decide (0<=v49))<|
    bif (u64.wrap (BitVec.ofInt u64.bits (Int.fdiv y1 (2^(min (Int.toNat v49) u64.bits)))&&&BitVec.ofInt u64.bits 1).toNat)==1 then
     (Option.bind (Fq6 fuel v34 y1 d1 d2 d3 d4 d5) fun y230=>
     ass (decide (0<=v49))<|
     bif (u64.wrap (BitVec.ofInt u64.bits (Int.fdiv y230 (2^(min (Int.toNat v49) u64.bits)))&&&BitVec.ofInt u64.bits 1).toNat)==1 then
      (Option.bind (Fq6 fuel v49 y1 d1 d2 d3 d4 d5) fun y231=>
      ass (decide (0<=v34))<|
      some ((u64.wrap (BitVec.ofInt u64.bits (Int.fdiv y231 (2^(min (Int.toNat v34) u64.bits)))&&&BitVec.ofInt u64.bits 1).toNat)==1))
     else
      (some false))
    else
     (some false)) fun o36=>
   bif o36 then
    (ass (decide (0<=v49))<|
    Bk4 v49 (Ah8 fuel d1 d2 d3 d4 d5 l8 v34 y1 rec_F76 cL1 nL3) (u64.wrap (BitVec.ofInt u64.bits v48|||BitVec.ofInt u64.bits (u64.wrap (1*2^(min (Int.toNat v49) u64.bits)))).toNat))
   else
    (Bk4 v49 (Ah8 fuel d1 d2 d3 d4 d5 l8 v34 y1 rec_F76 cL1 nL3) v48))
  else
   (bif v48==y1 then
    (some [y1])
   else
    (An2 d1 d2 d3 d4 d5 l8 v34 v48 rec_F76 cL1 fuel 0))
def O3(fuel:Nat)(d1:List Int)(d2:List (List A2))(d3:Int)(d4:Bool)(d5:Int)(y1:Int)(rec_F76:Int->(List Int)->(List (List A2))->Int->Bool->Int->Option (List Int)):Nat->Int->(List Int)->Option (List Int)
 |0,_,_=>none
 |nL1+1,v34,l8=>
  bif decide (v34<((d1.map A6).length:Int)) then
   (ass (decide (0<=v34))<|
   bif (u64.wrap (BitVec.ofInt u64.bits (Int.fdiv y1 (2^(min (Int.toNat v34) u64.bits)))&&&BitVec.ofInt u64.bits 1).toNat)==0 then
    (An1 v34 (O3 fuel d1 d2 d3 d4 d5 y1 rec_F76 nL1) l8)
   else
    (Ah8 fuel d1 d2 d3 d4 d5 l8 v34 y1 rec_F76 (O3 fuel d1 d2 d3 d4 d5 y1 rec_F76 nL1) fuel 0 0))
  else
   (some l8)
def F76:Nat->Int->(List Int)->(List (List A2))->Int->Bool->Int->Option (List Int)
 |0,_,_,_,_,_,_=>none
 |fuel+1,d0,d1,d2,d3,d4,d5=>
  Option.bind (Di9 fuel d0 d1 d2 d3 d4 d5) fun y1=>
  O3 fuel d1 d2 d3 d4 d5 y1 (F76 fuel) fuel 0 []
noncomputable abbrev b76:=C2 Tryz.f76
abbrev G76(d1:List Int)(d2:List (List A2))(d3:Int)(d4:Bool)(d5:Int)(r:List Int):=J none Tryz.prog 98 [] (Cf8 Tryz.prog Tryz.f76 [(2000,.box 139 [.l 1 d1 A6,.l 1 d2 A0,.n d3,.b d4,.n d5,.esl 1])] (.l 1 r E6))
theorem Fx5:∀{fuel:Nat} {d0:Int} {d1:List Int} {d2:List (List A2)} {d3:Int} {d4:Bool} {d5:Int} {r:List Int},F76 fuel d0 d1 d2 d3 d4 d5=some r->I0 Tryz.prog 76 [(2000,.box 139 [.l 1 d1 A6,.l 1 d2 A0,.n d3,.b d4,.n d5,.esl 1])] [.ptr 2000 0,.n d0] [(2000,.box 139 [.l 1 d1 A6,.l 1 d2 A0,.n d3,.b d4,.n d5,.esl 1])] (.l 1 r E6):=by
 intro fuel
 induction fuel with
 |zero=>intro _ _ _ _ _ _ r hF;cases hF
 |succ fuel ih=>
  intro d0 d1 d2 d3 d4 d5 r hF;have ih_F76:∀(d0:Int) (d1:List Int) (d2:List (List A2)) (d3:Int) (d4:Bool) (d5:Int) (r:List Int),F76 fuel d0 d1 d2 d3 d4 d5=some r->I0 Tryz.prog 76 [(2000,.box 139 [.l 1 d1 A6,.l 1 d2 A0,.n d3,.b d4,.n d5,.esl 1])] [.ptr 2000 0,.n d0] [(2000,.box 139 [.l 1 d1 A6,.l 1 d2 A0,.n d3,.b d4,.n d5,.esl 1])] (.l 1 r E6):=fun d0 d1 d2 d3 d4 d5 r h=>ih h
  rw[F76]at hF;refine cr 98 Tryz.func76 ?_;obtain⟨y1,e1,hF⟩:=bnd hF;refine jcr 11 [(2000,2000),(2,2001)] Gc4 (Ee8 e1) ?_;have hL1:∀(nL1:Nat) (v34:Int) (l8:List Int),O3 fuel d1 d2 d3 d4 d5 y1 (F76 fuel) nL1 v34 l8=some r->G76 d1 d2 d3 d4 d5 r ⟨mkT [(1,.n y1),(2,.ptr 2 0),(5,.suf 95 0 0),(20,.i ((d1.map A6).length:Int)),(21,.i v34)],[(2,.box 88 [.ptr 2000 0]),(95,.buf 0 33 1 (l8.map E6)),(2000,.box 139 [.l 1 d1 A6,.l 1 d2 A0,.n d3,.b d4,.n d5,.esl 1])],[kL b76 [1,0,1,1,1,0,1,0,0],.inBlock 0,kC b76 [1,0,1,1,1,1],.inScope (cAt b76 [1,0])]⟩:=by
   clear hF;intro nL1
   induction nL1 with
   |zero=>intro v34 l8 hF;cases hF
   |succ nL1 iL1=>
    intro v34 l8 hF;rw[O3]at hF;refine jI 6 22 hF ?_ ?_<;>intro hF
    ·have hA2:∀(l10:List Int),An1 v34 (O3 fuel d1 d2 d3 d4 d5 y1 (F76 fuel) nL1) l10=some r->G76 d1 d2 d3 d4 d5 r ⟨mkT [(1,.n y1),(2,.ptr 2 0),(5,.suf 95 0 0),(20,.i ((d1.map A6).length:Int)),(21,.i v34)],[(2,.box 88 [.ptr 2000 0]),(95,.buf 0 33 1 (l10.map E6)),(2000,.box 139 [.l 1 d1 A6,.l 1 d2 A0,.n d3,.b d4,.n d5,.esl 1])],[kC b76 [1,0,1,1,1,0,1,0,0,1,1,1],kL b76 [1,0,1,1,1,0,1,0,0],.inBlock 0,kC b76 [1,0,1,1,1,1],.inScope (cAt b76 [1,0])]⟩:=by
      intro l10 hF;unfold An1 at hF;exact ja 4 (iL1 _ _ hF)
     obtain⟨hb579,hF⟩:=K8 hF;refine jo1 14 (ck hb579) ?_;refine jI 3 28 hF ?_ ?_<;>intro hF
     ·exact ja 2 (hA2 _ hF)
     ·have hL3:∀(nL3:Nat) (v48:Int) (v49:Int),Ah8 fuel d1 d2 d3 d4 d5 l8 v34 y1 (F76 fuel) (O3 fuel d1 d2 d3 d4 d5 y1 (F76 fuel) nL1) nL3 v48 v49=some r->G76 d1 d2 d3 d4 d5 r ⟨mkT [(1,.n y1),(2,.ptr 2 0),(5,.suf 95 0 0),(6,.i v34),(7,.n v48),(20,.i ((d1.map A6).length:Int)),(21,.i v34),(34,.i ((d1.map A6).length:Int)),(35,.i v49)],[(2,.box 88 [.ptr 2000 0]),(95,.buf 0 33 1 (l8.map E6)),(2000,.box 139 [.l 1 d1 A6,.l 1 d2 A0,.n d3,.b d4,.n d5,.esl 1])],[kL b76 [1,0,1,1,1,0,1,0,0,1,1,0,0,1,1,1,0,1,0,0],.inBlock 2,kC b76 [1,0,1,1,1,0,1,0,0,1,1,0,0,1,1,1,1],.inBlock 1,kC b76 [1,0,1,1,1,0,1,0,0,1,1,1],kL b76 [1,0,1,1,1,0,1,0,0],.inBlock 0,kC b76 [1,0,1,1,1,1],.inScope (cAt b76 [1,0])]⟩:=by
       clear hF;intro nL3
       induction nL3 with
       |zero=>intro v48 v49 hF;cases hF
       |succ nL3 iL3=>
        intro v48 v49 hF;rw[Ah8]at hF;refine jI 6 36 hF ?_ ?_<;>intro hF
        ·have hA4:∀(v50:Int),Bk4 v49 (Ah8 fuel d1 d2 d3 d4 d5 l8 v34 y1 (F76 fuel) (O3 fuel d1 d2 d3 d4 d5 y1 (F76 fuel) nL1) nL3) v50=some r->G76 d1 d2 d3 d4 d5 r ⟨mkT [(1,.n y1),(2,.ptr 2 0),(5,.suf 95 0 0),(6,.i v34),(7,.n v50),(20,.i ((d1.map A6).length:Int)),(21,.i v34),(34,.i ((d1.map A6).length:Int)),(35,.i v49)],[(2,.box 88 [.ptr 2000 0]),(95,.buf 0 33 1 (l8.map E6)),(2000,.box 139 [.l 1 d1 A6,.l 1 d2 A0,.n d3,.b d4,.n d5,.esl 1])],[kC b76 [1,0,1,1,1,0,1,0,0,1,1,0,0,1,1,1,0,1,0,0,1,1,1],kL b76 [1,0,1,1,1,0,1,0,0,1,1,0,0,1,1,1,0,1,0,0],.inBlock 2,kC b76 [1,0,1,1,1,0,1,0,0,1,1,0,0,1,1,1,1],.inBlock 1,kC b76 [1,0,1,1,1,0,1,0,0,1,1,1],kL b76 [1,0,1,1,1,0,1,0,0],.inBlock 0,kC b76 [1,0,1,1,1,1],.inScope (cAt b76 [1,0])]⟩:=by
          intro v50 hF;unfold Bk4 at hF;exact ja 4 (iL3 _ _ hF)
         obtain⟨o36,hO,hF⟩:=bnd hF;have hR36:G76 d1 d2 d3 d4 d5 r ⟨mkT [(1,.n y1),(2,.ptr 2 0),(5,.suf 95 0 0),(6,.i v34),(7,.n v48),(8,.i v49),(20,.i ((d1.map A6).length:Int)),(21,.i v34),(34,.i ((d1.map A6).length:Int)),(35,.i v49),(62,.b o36)],[(2,.box 88 [.ptr 2000 0]),(95,.buf 0 33 1 (l8.map E6)),(2000,.box 139 [.l 1 d1 A6,.l 1 d2 A0,.n d3,.b d4,.n d5,.esl 1])],[kO b76 [1,0,1,1,1,0,1,0,0,1,1,0,0,1,1,1,0,1,0,0,1,1,0,0,1,0],kC b76 [1,0,1,1,1,0,1,0,0,1,1,0,0,1,1,1,0,1,0,0,1,1,0,0,1,1],.inBlock 3,kC b76 [1,0,1,1,1,0,1,0,0,1,1,0,0,1,1,1,0,1,0,0,1,1,1],kL b76 [1,0,1,1,1,0,1,0,0,1,1,0,0,1,1,1,0,1,0,0],.inBlock 2,kC b76 [1,0,1,1,1,0,1,0,0,1,1,0,0,1,1,1,1],.inBlock 1,kC b76 [1,0,1,1,1,0,1,0,0,1,1,1],kL b76 [1,0,1,1,1,0,1,0,0],.inBlock 0,kC b76 [1,0,1,1,1,1],.inScope (cAt b76 [1,0])]⟩:=by
          clear hO;refine jI 1 62 hF ?_ ?_<;>intro hF
          ·obtain⟨hb680,hF⟩:=K8 hF;refine jo1 4 (ck hb680) ?_;exact ja 4 (hA4 _ hF)
          ·exact ja 3 (hA4 _ hF)
         clear hF;rename _=some o36=>hF
         obtain⟨hb681,hF⟩:=K8 hF;refine jo1 13 (ck hb681) ?_;refine jI 3 43 hF ?_ ?_<;>intro hF
         ·obtain⟨y230,e235,hF⟩:=bnd hF;refine jcr 3 [(2000,2000)] Gc5 (Dj3 e235) ?_;obtain⟨hb683,hF⟩:=K8 hF;refine jo1 1 (ck hb683) ?_;refine jI 4 53 hF ?_ ?_<;>intro hF
          ·obtain⟨y231,e236,hF⟩:=bnd hF;refine jcr 3 [(2000,2000)] Gc5 (Dj3 e236) ?_;obtain⟨hb685,hF⟩:=K8 hF;refine jo1 1 (ck hb685) ?_;cases hF;exact ja 3 hR36
          ·cases hF;exact ja 9 hR36
         ·cases hF;exact ja 19 hR36
        ·refine jI 9 70 hF ?_ ?_<;>intro hF
         ·cases hF;exact jrr 7
         ·have hL5:∀(nL5:Nat) (v52:Int),An2 d1 d2 d3 d4 d5 l8 v34 v48 (F76 fuel) (O3 fuel d1 d2 d3 d4 d5 y1 (F76 fuel) nL1) nL5 v52=some r->G76 d1 d2 d3 d4 d5 r ⟨mkT [(1,.n y1),(2,.ptr 2 0),(5,.suf 95 0 0),(6,.i v34),(7,.n v48),(20,.i ((d1.map A6).length:Int)),(21,.i v34),(73,.suf 95 0 0),(74,.i ((l8.map E6).length:Int)),(75,.i v52)],[(2,.box 88 [.ptr 2000 0]),(95,.buf 0 33 1 (l8.map E6)),(2000,.box 139 [.l 1 d1 A6,.l 1 d2 A0,.n d3,.b d4,.n d5,.esl 1])],[kL b76 [1,0,1,1,1,0,1,0,0,1,1,0,0,1,1,1,1,1,0,1,0,0],.inBlock 4,kC b76 [1,0,1,1,1,0,1,0,0,1,1,0,0,1,1,1,1,1,1],.inBlock 1,kC b76 [1,0,1,1,1,0,1,0,0,1,1,1],kL b76 [1,0,1,1,1,0,1,0,0],.inBlock 0,kC b76 [1,0,1,1,1,1],.inScope (cAt b76 [1,0])]⟩:=by
           clear hF;intro nL5
           induction nL5 with
           |zero=>intro v52 hF;cases hF
           |succ nL5 iL5=>
            intro v52 hF;rw[An2]at hF;refine jI 6 76 hF ?_ ?_<;>intro hF
            ·obtain⟨y234,e239,hF⟩:=bnd hF;refine jo1 6 (gm (f:=E6) e239) ?_;refine jo1 0 (gjm (f:=E6) (gj e239)) ?_;obtain⟨hb694,hF⟩:=K8 hF;refine jo1 6 (ck hb694) ?_;refine jI 3 83 hF ?_ ?_<;>intro hF
             ·exact ja 2 (hA2 _ hF)
             ·exact ja 7 (iL5 _ hF)
            ·obtain⟨hb696,hF⟩:=K8 hF;refine jo1 6 (ck hb696) ?_;refine jI 4 90 hF ?_ ?_<;>intro hF
             ·obtain⟨y235,e240,hF⟩:=bnd hF;refine jcr 5 [(2000,2000)] Hf8 (ih_F76 _ _ _ _ _ _ _ e240) ?_;obtain⟨l11,e241,hF⟩:=bnd hF;refine jo2 0 (am (f:=E6) e241) ?_;exact ja 3 (hA2 _ hF)
             ·exact ja 3 (hA2 _ hF)
          exact ja 11 (hL5 _ _ hF)
      exact ja 19 (hL3 _ _ _ hF)
    ·cases hF;exact jrr 7
  refine C4 21 (Dc6 (n:=1) 5 95 33 1 (by kernel_rfl) (by kernel_rfl) ?_);exact ja 0 (hL1 _ _ _ hF)
def F38(fuel:Nat)(d0:B6)(d1:Int)(d2:Bool):Option B3:=
 Option.bind (Fs0 fuel d0.Owner d0.Choices d1 d2 0) fun y1=>
 bif d2 then
  (Option.bind (Fs1 d0.Owner d0.Choices d1 d2 y1) fun y4=>
  Option.bind (F76 fuel (u64.wrap (BitVec.ofInt u64.bits y4&&& ~~~BitVec.ofInt u64.bits (u64.wrap (BitVec.ofInt u64.bits d1|||BitVec.ofInt u64.bits y1).toNat)).toNat) d0.Owner d0.Choices d1 d2 y1) fun y5=>
  some (⟨d0,d1,d2,y1,y5⟩:B3))
 else
  (some (⟨d0,d1,d2,y1,[]⟩:B3))
theorem Eq2{fuel:Nat}{d0:B6}{d1:Int}{d2:Bool}{r:B3}(hF:F38 fuel d0 d1 d2=some r):
 C3 Tryz.prog 38 [.agg [.l 1 d0.Owner A6,.l 1 d0.Choices A0],.n d1,.b d2] (.d (.pt [.sl 1 (r.Model.Owner.map A6),.sl 1 (r.Model.Choices.map A0),.int .u64 r.target,.bool r.most,.int .u64 r.zero,.sl 1 (r.blocks.map E6)])):=by
 unfold F38 at hF;refine cf 37 Tryz.func38 ?_;obtain⟨y1,e1,hF⟩:=bnd hF;refine jcr 18 [(12,2000)] Hn4 (Fe0 e1) ?_;refine jI 9 18 hF ?_ ?_<;>intro hF
 ·refine jd 1 ?_;obtain⟨y4,e4,hF⟩:=bnd hF;refine dcs 3 [(12,2000)] [12] Hf9 (Dm7 e4) ?_;obtain⟨y5,e5,hF⟩:=bnd hF;refine dcs 10 [(12,2000)] [12] Hf8 (Fx5 e5) ?_;refine je 3 ?_;have hF:=oi hF;subst hF;exact C4 5 (Bo7 (xs:=[.rp [.sl 1 (d0.Owner.map A6),.sl 1 (d0.Choices.map A0),.int .u64 d1,.bool d2,.int .u64 y1,.sl 1 (y5.map E6)] 0]) [.d (.pt [.sl 1 ((((⟨d0,d1,d2,y1,y5⟩:B3).Model).Owner).map A6),.sl 1 ((((⟨d0,d1,d2,y1,y5⟩:B3).Model).Choices).map A0),.int .u64 ((⟨d0,d1,d2,y1,y5⟩:B3).target),.bool ((⟨d0,d1,d2,y1,y5⟩:B3).most),.int .u64 ((⟨d0,d1,d2,y1,y5⟩:B3).zero),.sl 1 (((⟨d0,d1,d2,y1,y5⟩:B3).blocks).map E6)])] rfl rfl (by kernel_rfl) ⟨Re.pt _,trivial⟩ rfl)
 ·have hF:=oi hF;subst hF;exact C4 7 (Bo7 (xs:=[.rp [.sl 1 (d0.Owner.map A6),.sl 1 (d0.Choices.map A0),.int .u64 d1,.bool d2,.int .u64 y1,.sl 1 ([].map E6)] 0]) [.d (.pt [.sl 1 ((((⟨d0,d1,d2,y1,[]⟩:B3).Model).Owner).map A6),.sl 1 ((((⟨d0,d1,d2,y1,[]⟩:B3).Model).Choices).map A0),.int .u64 ((⟨d0,d1,d2,y1,[]⟩:B3).target),.bool ((⟨d0,d1,d2,y1,[]⟩:B3).most),.int .u64 ((⟨d0,d1,d2,y1,[]⟩:B3).zero),.sl 1 (((⟨d0,d1,d2,y1,[]⟩:B3).blocks).map E6)])] rfl rfl (by kernel_rfl) ⟨Re.pt _,trivial⟩ rfl)
def Gj8(d0:A2):Option Bool:=
 some true
theorem Ez8{d0:A2}{r:Bool}(hF:Gj8 d0=some r):
 C3 Tryz.prog 138 [.agg [.s d0.Act,.s d0.Gain,.l 2 d0.Next A9]] (.b r):=by
 unfold Gj8 at hF;refine cf 3 Tryz.func138 ?_;cases hF;exact jr 9
def As7(fuel:Nat)(d0:A2)(d1:List A1):Nat->Int->Bool->(List Int)->Bool->(List Int)->Option A1
 |0,_,_,_,_,_=>none
 |nL1+1,v2,t3,l3,t4,l4=>
  bif decide (v2<((d0.Next.map A9).length:Int)) then
   (Option.bind (C6 d0.Next v2) fun y20=>
   Option.bind (F36 fuel y20.P) fun y25=>
   Option.bind (C6 d1 y20.To) fun y26=>
   Option.bind (Fa5 fuel y25 y26) fun y27=>
   Option.bind (Eo9 fuel (⟨(⟨t3,l3⟩:A3),(⟨t4,l4⟩:A3)⟩:A1) y27) fun y28=>
   (As7 fuel d0 d1 nL1) (i64.wrap (v2+1)) y28.n_.neg y28.n_.mag y28.d.neg y28.d.mag)
  else
   (some (⟨(⟨t3,l3⟩:A3),(⟨t4,l4⟩:A3)⟩:A1))
def Ep4(fuel:Nat)(d0:A2)(d1:List A1):Option A1:=
 Option.bind (F78 fuel 0 1) fun y1=>
 As7 fuel d0 d1 fuel 0 y1.n_.neg y1.n_.mag y1.d.neg y1.d.mag
noncomputable abbrev Hc6:=C2 Tryz.f187
abbrev Hi5(r:A1):=J none Tryz.prog 29 [] (L5 Tryz.prog Tryz.f187 (.agg [.b r.n_.neg,.l 1 r.n_.mag A5,.b r.d.neg,.l 1 r.d.mag A5]))
theorem Dk8{fuel:Nat}{d0:A2}{d1:List A1}{r:A1}(hF:Ep4 fuel d0 d1=some r):
 C3 Tryz.prog 187 [.agg [.s d0.Act,.s d0.Gain,.l 2 d0.Next A9],.l 4 d1 A4] (.agg [.b r.n_.neg,.l 1 r.n_.mag A5,.b r.d.neg,.l 1 r.d.mag A5]):=by
 unfold Ep4 at hF;refine cf 29 Tryz.func187 ?_;refine jB 7 hF Ft5 Bk5 fun y1 hF=> ?_
 have hL1:∀(nL1:Nat) (v2:Int) (t3:Bool) (l3:List Int) (t4:Bool) (l4:List Int),As7 fuel d0 d1 nL1 v2 t3 l3 t4 l4=some r->Hi5 r ⟨mkT [(1,.l 4 d1 A4),(4,.ptr 4 0),(5,.ptr 5 0),(10,.l 2 d0.Next A9),(11,.i ((d0.Next.map A9).length:Int)),(12,.i v2)],[(4,.box 84 [.b false,.esl 1,.b false,.esl 1]),(5,.box 84 [.b t3,.l 1 l3 A5,.b t4,.l 1 l4 A5])],[kL Hc6 [1,1,0,1,0,0],.inBlock 0,kC Hc6 [1,1,1]]⟩:=by
  clear hF;intro nL1
  induction nL1 with
  |zero=>intro v2 t3 l3 t4 l4 hF;cases hF
  |succ nL1 iL1=>
   intro v2 t3 l3 t4 l4 hF;rw[As7]at hF;refine jI 6 13 hF ?_ ?_<;>intro hF
   ·obtain⟨y20,e20,hF⟩:=bnd hF;refine jo1 6 (gm (f:=A9) e20) ?_;refine jd 4 ?_;refine dB 3 hF Gm7 Cq6 fun y25 hF=> ?_
    obtain⟨y26,e26,hF⟩:=bnd hF;refine do1 3 (gm (f:=A4) e26) ?_;refine dB 1 hF Gu3 Fa6 fun y27 hF=> ?_
    refine dB 0 hF Gc7 Dj7 fun y28 hF=> ?_
    refine je 1 ?_;exact ja 5 (iL1 _ _ _ _ _ hF)
   ·cases hF;exact jr 7
 exact ja 13 (hL1 _ _ _ _ _ _ hF)
def Dh7(fuel:Nat)(d0:B3)(d1:A1)(d2:A1):Option A1:=
 Option.bind (F65 fuel d1 d2) fun y1=>
 bif (decide (y1<0))==d0.most then
  (some d2)
 else
  (some d1)
theorem Ch3{fuel:Nat}{d0:B3}{d1:A1}{d2:A1}{r:A1}(hF:Dh7 fuel d0 d1 d2=some r):
 C3 Tryz.prog 186 [.d (.pt [.sl 1 (d0.Model.Owner.map A6),.sl 1 (d0.Model.Choices.map A0),.int .u64 d0.target,.bool d0.most,.int .u64 d0.zero,.sl 1 (d0.blocks.map E6)]),.agg [.b d1.n_.neg,.l 1 d1.n_.mag A5,.b d1.d.neg,.l 1 d1.d.mag A5],.agg [.b d2.n_.neg,.l 1 d2.n_.mag A5,.b d2.d.neg,.l 1 d2.d.mag A5]] (.agg [.b r.n_.neg,.l 1 r.n_.mag A5,.b r.d.neg,.l 1 r.d.mag A5]):=by
 unfold Dh7 at hF;refine cf 18 Tryz.func186 ?_;refine jd 8 ?_;refine dB 2 hF Hf6 Eq7 fun y1 hF=> ?_
 refine je 6 ?_;refine jI 0 15 hF ?_ ?_<;>intro hF
 ·cases hF;exact jr 6
 ·cases hF;exact jr 7
def Z4(v2:Int)(cL1:Bool->Int->Bool->(List Int)->Bool->(List Int)->Option (A1×Bool))(t13:Bool)(t14:Bool)(l9:List Int)(t15:Bool)(l10:List Int):Option (A1×Bool):=
 cL1 t13 (i64.wrap (v2+1)) t14 l9 t15 l10
def O6(fuel:Nat)(d0:B3)(d2:List A1)(y1:List A2):Nat->Bool->Int->Bool->(List Int)->Bool->(List Int)->Option (A1×Bool)
 |0,_,_,_,_,_,_=>none
 |nL1+1,t10,v2,t11,l7,t12,l8=>
  bif decide (v2<((y1.map B0).length:Int)) then
   (Option.bind (C6 y1 v2) fun y20=>
   Option.bind (Gj8 y20) fun y21=>
   bif !y21 then
    (Z4 v2 (O6 fuel d0 d2 y1 nL1) t10 t11 l7 t12 l8)
   else
    (Option.bind (Ep4 fuel y20 d2) fun y22=>
    bif t10 then
     (Option.bind (Dh7 fuel d0 (⟨(⟨t11,l7⟩:A3),(⟨t12,l8⟩:A3)⟩:A1) y22) fun y23=>
     Z4 v2 (O6 fuel d0 d2 y1 nL1) true y23.n_.neg y23.n_.mag y23.d.neg y23.d.mag)
    else
     (Z4 v2 (O6 fuel d0 d2 y1 nL1) true y22.n_.neg y22.n_.mag y22.d.neg y22.d.mag)))
  else
   (some ((⟨(⟨t11,l7⟩:A3),(⟨t12,l8⟩:A3)⟩:A1),t10))
def Fu6(fuel:Nat)(d0:B3)(d1:Int)(d2:List A1):Option (A1×Bool):=
 Option.bind (C6 d0.Model.Choices d1) fun y1=>
 O6 fuel d0 d2 y1 fuel false 0 false [] false []
noncomputable abbrev Ed7:=C2 Tryz.f137
abbrev Hb0(r:A1×Bool):=J none Tryz.prog 47 [] (L5 Tryz.prog Tryz.f137 (.tup [.agg [.b r.1.n_.neg,.l 1 r.1.n_.mag A5,.b r.1.d.neg,.l 1 r.1.d.mag A5],.b r.2]))
theorem Ez7{fuel:Nat}{d0:B3}{d1:Int}{d2:List A1}{r:A1×Bool}(hF:Fu6 fuel d0 d1 d2=some r):
 C3 Tryz.prog 137 [.d (.pt [.sl 1 (d0.Model.Owner.map A6),.sl 1 (d0.Model.Choices.map A0),.int .u64 d0.target,.bool d0.most,.int .u64 d0.zero,.sl 1 (d0.blocks.map E6)]),.i d1,.l 4 d2 A4,.d (.fnc 138)] (.tup [.agg [.b r.1.n_.neg,.l 1 r.1.n_.mag A5,.b r.1.d.neg,.l 1 r.1.d.mag A5],.b r.2]):=by
 unfold Fu6 at hF;refine cf 47 Tryz.func137 ?_;obtain⟨y1,e1,hF⟩:=bnd hF;refine jo1 25 (gm (f:=A0) e1) ?_;have hL1:∀(nL1:Nat) (t10:Bool) (v2:Int) (t11:Bool) (l7:List Int) (t12:Bool) (l8:List Int),O6 fuel d0 d2 y1 nL1 t10 v2 t11 l7 t12 l8=some r->Hb0 r ⟨mkT [(2,.l 4 d2 A4),(3,.d (.fnc 138)),(8,.ptr 8 0),(10,.ptr 10 0),(11,.b t10),(12,.fn 186 [.d (.pt [.sl 1 (d0.Model.Owner.map A6),.sl 1 (d0.Model.Choices.map A0),.int .u64 d0.target,.bool d0.most,.int .u64 d0.zero,.sl 1 (d0.blocks.map E6)])] []),(25,.l 3 y1 B0),(26,.i ((y1.map B0).length:Int)),(27,.i v2)],[(8,.box 84 [.b false,.esl 1,.b false,.esl 1]),(10,.box 84 [.b t11,.l 1 l7 A5,.b t12,.l 1 l8 A5])],[kL Ed7 [1,1,1,0,1,0,0],.inBlock 0,kC Ed7 [1,1,1,1]]⟩:=by
  clear hF;intro nL1
  induction nL1 with
  |zero=>intro t10 v2 t11 l7 t12 l8 hF;cases hF
  |succ nL1 iL1=>
   intro t10 v2 t11 l7 t12 l8 hF;rw[O6]at hF;refine jI 6 28 hF ?_ ?_<;>intro hF
   ·have hA2:∀(t13:Bool) (t14:Bool) (l9:List Int) (t15:Bool) (l10:List Int),Z4 v2 (O6 fuel d0 d2 y1 nL1) t13 t14 l9 t15 l10=some r->Hb0 r ⟨mkT [(2,.l 4 d2 A4),(3,.d (.fnc 138)),(8,.ptr 8 0),(10,.ptr 10 0),(11,.b t13),(12,.fn 186 [.d (.pt [.sl 1 (d0.Model.Owner.map A6),.sl 1 (d0.Model.Choices.map A0),.int .u64 d0.target,.bool d0.most,.int .u64 d0.zero,.sl 1 (d0.blocks.map E6)])] []),(25,.l 3 y1 B0),(26,.i ((y1.map B0).length:Int)),(27,.i v2)],[(8,.box 84 [.b false,.esl 1,.b false,.esl 1]),(10,.box 84 [.b t14,.l 1 l9 A5,.b t15,.l 1 l10 A5])],[kC Ed7 [1,1,1,0,1,0,0,1,1,1],kL Ed7 [1,1,1,0,1,0,0],.inBlock 0,kC Ed7 [1,1,1,1]]⟩:=by
     intro t13 t14 l9 t15 l10 hF;unfold Z4 at hF;exact ja 4 (iL1 _ _ _ _ _ _ hF)
    obtain⟨y20,e20,hF⟩:=bnd hF;refine jo1 6 (gm (f:=B0) e20) ?_;refine jB 9 hF Gt7 Ez8 fun y21 hF=> ?_
    refine jI 2 34 hF ?_ ?_<;>intro hF
    ·exact ja 2 (hA2 _ _ _ _ _ hF)
    ·refine jB 6 hF Gd5 Dk8 fun y22 hF=> ?_
     refine jI 8 38 hF ?_ ?_<;>intro hF
     ·refine jB 5 hF Fk0 Ch3 fun y23 hF=> ?_
      exact ja 8 (hA2 _ _ _ _ _ hF)
     ·exact ja 8 (hA2 _ _ _ _ _ hF)
   ·cases hF;exact jr 9
 refine C4 6 (Cr5 (n:=1) 10 1 1 (by kernel_rfl) ?_);refine C4 0 (Cr5 (n:=1) 10 3 1 (by kernel_rfl) ?_);exact ja 0 (hL1 _ _ _ _ _ _ _ hF)
def Gk3(fuel:Nat)(d0:A2)(d1:Int):Option Bool:=
 Option.bind (Ep2 fuel d0 d1) fun y1=>
 some (!y1)
theorem Fb5{fuel:Nat}{d0:A2}{d1:Int}{r:Bool}(hF:Gk3 fuel d0 d1=some r):
 C3 Tryz.prog 188 [.agg [.s d0.Act,.s d0.Gain,.l 2 d0.Next A9],.rp [.int .u64 d1] 0] (.b r):=by
 unfold Gk3 at hF;refine cf 8 Tryz.func188 ?_;refine jB 9 hF Fj8 Ch1 fun y1 hF=> ?_
 cases hF;exact jr 3
def P4(v2:Int)(cL1:Bool->Int->Bool->(List Int)->Bool->(List Int)->Option (A1×Bool))(t13:Bool)(t14:Bool)(l9:List Int)(t15:Bool)(l10:List Int):Option (A1×Bool):=
 cL1 t13 (i64.wrap (v2+1)) t14 l9 t15 l10
def K6(fuel:Nat)(d0:B3)(d2:List A1)(d3:Int)(y1:List A2):Nat->Bool->Int->Bool->(List Int)->Bool->(List Int)->Option (A1×Bool)
 |0,_,_,_,_,_,_=>none
 |nL1+1,t10,v2,t11,l7,t12,l8=>
  bif decide (v2<((y1.map B0).length:Int)) then
   (Option.bind (C6 y1 v2) fun y20=>
   Option.bind (Gk3 fuel y20 d3) fun y21=>
   bif !y21 then
    (P4 v2 (K6 fuel d0 d2 d3 y1 nL1) t10 t11 l7 t12 l8)
   else
    (Option.bind (Ep4 fuel y20 d2) fun y22=>
    bif t10 then
     (Option.bind (Dh7 fuel d0 (⟨(⟨t11,l7⟩:A3),(⟨t12,l8⟩:A3)⟩:A1) y22) fun y23=>
     P4 v2 (K6 fuel d0 d2 d3 y1 nL1) true y23.n_.neg y23.n_.mag y23.d.neg y23.d.mag)
    else
     (P4 v2 (K6 fuel d0 d2 d3 y1 nL1) true y22.n_.neg y22.n_.mag y22.d.neg y22.d.mag)))
  else
   (some ((⟨(⟨t11,l7⟩:A3),(⟨t12,l8⟩:A3)⟩:A1),t10))
def Dj4(fuel:Nat)(d0:B3)(d1:Int)(d2:List A1)(d3:Int):Option (A1×Bool):=
 Option.bind (C6 d0.Model.Choices d1) fun y1=>
 K6 fuel d0 d2 d3 y1 fuel false 0 false [] false []
abbrev Fy2(r:A1×Bool):=J none Tryz.prog 47 [] (L5 Tryz.prog Tryz.f137 (.tup [.agg [.b r.1.n_.neg,.l 1 r.1.n_.mag A5,.b r.1.d.neg,.l 1 r.1.d.mag A5],.b r.2]))
theorem Ef1{fuel:Nat}{d0:B3}{d1:Int}{d2:List A1}{d3:Int}{r:A1×Bool}(hF:Dj4 fuel d0 d1 d2 d3=some r):
 C3 Tryz.prog 137 [.d (.pt [.sl 1 (d0.Model.Owner.map A6),.sl 1 (d0.Model.Choices.map A0),.int .u64 d0.target,.bool d0.most,.int .u64 d0.zero,.sl 1 (d0.blocks.map E6)]),.i d1,.l 4 d2 A4,.fn 188 [] [.rp [.int .u64 d3] 0]] (.tup [.agg [.b r.1.n_.neg,.l 1 r.1.n_.mag A5,.b r.1.d.neg,.l 1 r.1.d.mag A5],.b r.2]):=by
 unfold Dj4 at hF;refine cf 47 Tryz.func137 ?_;obtain⟨y1,e1,hF⟩:=bnd hF;refine jo1 25 (gm (f:=A0) e1) ?_;have hL1:∀(nL1:Nat) (t10:Bool) (v2:Int) (t11:Bool) (l7:List Int) (t12:Bool) (l8:List Int),K6 fuel d0 d2 d3 y1 nL1 t10 v2 t11 l7 t12 l8=some r->Fy2 r ⟨mkT [(2,.l 4 d2 A4),(3,.fn 188 [] [.rp [.int .u64 d3] 0]),(8,.ptr 8 0),(10,.ptr 10 0),(11,.b t10),(12,.fn 186 [.d (.pt [.sl 1 (d0.Model.Owner.map A6),.sl 1 (d0.Model.Choices.map A0),.int .u64 d0.target,.bool d0.most,.int .u64 d0.zero,.sl 1 (d0.blocks.map E6)])] []),(25,.l 3 y1 B0),(26,.i ((y1.map B0).length:Int)),(27,.i v2)],[(8,.box 84 [.b false,.esl 1,.b false,.esl 1]),(10,.box 84 [.b t11,.l 1 l7 A5,.b t12,.l 1 l8 A5])],[kL Ed7 [1,1,1,0,1,0,0],.inBlock 0,kC Ed7 [1,1,1,1]]⟩:=by
  clear hF;intro nL1
  induction nL1 with
  |zero=>intro t10 v2 t11 l7 t12 l8 hF;cases hF
  |succ nL1 iL1=>
   intro t10 v2 t11 l7 t12 l8 hF;rw[K6]at hF;refine jI 6 28 hF ?_ ?_<;>intro hF
   ·have hA2:∀(t13:Bool) (t14:Bool) (l9:List Int) (t15:Bool) (l10:List Int),P4 v2 (K6 fuel d0 d2 d3 y1 nL1) t13 t14 l9 t15 l10=some r->Fy2 r ⟨mkT [(2,.l 4 d2 A4),(3,.fn 188 [] [.rp [.int .u64 d3] 0]),(8,.ptr 8 0),(10,.ptr 10 0),(11,.b t13),(12,.fn 186 [.d (.pt [.sl 1 (d0.Model.Owner.map A6),.sl 1 (d0.Model.Choices.map A0),.int .u64 d0.target,.bool d0.most,.int .u64 d0.zero,.sl 1 (d0.blocks.map E6)])] []),(25,.l 3 y1 B0),(26,.i ((y1.map B0).length:Int)),(27,.i v2)],[(8,.box 84 [.b false,.esl 1,.b false,.esl 1]),(10,.box 84 [.b t14,.l 1 l9 A5,.b t15,.l 1 l10 A5])],[kC Ed7 [1,1,1,0,1,0,0,1,1,1],kL Ed7 [1,1,1,0,1,0,0],.inBlock 0,kC Ed7 [1,1,1,1]]⟩:=by
     intro t13 t14 l9 t15 l10 hF;unfold P4 at hF;exact ja 4 (iL1 _ _ _ _ _ _ hF)
    obtain⟨y20,e20,hF⟩:=bnd hF;refine jo1 6 (gm (f:=B0) e20) ?_;refine jB 9 hF Gv2 Fb5 fun y21 hF=> ?_
    refine jI 2 34 hF ?_ ?_<;>intro hF
    ·exact ja 2 (hA2 _ _ _ _ _ hF)
    ·refine jB 6 hF Gd5 Dk8 fun y22 hF=> ?_
     refine jI 8 38 hF ?_ ?_<;>intro hF
     ·refine jB 5 hF Fk0 Ch3 fun y23 hF=> ?_
      exact ja 8 (hA2 _ _ _ _ _ hF)
     ·exact ja 8 (hA2 _ _ _ _ _ hF)
   ·cases hF;exact jr 9
 refine C4 6 (Cr5 (n:=1) 10 1 1 (by kernel_rfl) ?_);refine C4 0 (Cr5 (n:=1) 10 3 1 (by kernel_rfl) ?_);exact ja 0 (hL1 _ _ _ _ _ _ _ hF)
def Ac7(v12:Int)(cL2:Int->Bool->(List Int)->Bool->(List Int)->Option (List A1))(t29:Bool)(l53:List Int)(t30:Bool)(l54:List Int):Option (List A1):=
 cL2 (i64.wrap (v12+1)) t29 l53 t30 l54
def As3(v14:Int)(cL4:Int->(List A1)->Option (List A1))(l64:List A1):Option (List A1):=
 cL4 (i64.wrap (v14+1)) l64
def W7(d1:List A1)(l51:List Int)(l52:List Int)(t27:Bool)(t28:Bool)(v10:Int)(y41:Int)(cL1:Int->(List A1)->Option (List A1)):Nat->Int->(List A1)->Option (List A1)
 |0,_,_=>none
 |nL4+1,v14,l62=>
  bif decide (v14<((d1.map A4).length:Int)) then
   (ass (decide (0<=v14))<|
   bif (u64.wrap (BitVec.ofInt u64.bits (Int.fdiv y41 (2^(min (Int.toNat v14) u64.bits)))&&&BitVec.ofInt u64.bits 1).toNat)==1 then
    (Option.bind (C6 l62 v14) fun y60=>
    Option.bind (some (l62.set (0+Int.toNat v14) (⟨(⟨t27,l51⟩:A3),(⟨t28,l52⟩:A3)⟩:A1))) fun l65=>
    As3 v14 (W7 d1 l51 l52 t27 t28 v10 y41 cL1 nL4) l65)
   else
    (As3 v14 (W7 d1 l51 l52 t27 t28 v10 y41 cL1 nL4) l62))
  else
   (cL1 (i64.wrap (v10+1)) l62)
def W6(fuel:Nat)(d0:B3)(d1:List A1)(l44:List A1)(v10:Int)(y41:Int)(cL1:Int->(List A1)->Option (List A1)):Nat->Int->Bool->(List Int)->Bool->(List Int)->Option (List A1)
 |0,_,_,_,_,_=>none
 |nL2+1,v12,t27,l51,t28,l52=>
  bif decide (v12<((d1.map A4).length:Int)) then
   (ass (decide (0<=v12))<|
   bif (u64.wrap (BitVec.ofInt u64.bits (Int.fdiv y41 (2^(min (Int.toNat v12) u64.bits)))&&&BitVec.ofInt u64.bits 1).toNat)==0 then
    (Ac7 v12 (W6 fuel d0 d1 l44 v10 y41 cL1 nL2) t27 l51 t28 l52)
   else
    (Option.bind (Dj4 fuel d0 v12 d1 y41) fun y53=>
    bif y53.2 then
     (Option.bind (Dh7 fuel d0 (⟨(⟨t27,l51⟩:A3),(⟨t28,l52⟩:A3)⟩:A1) y53.1) fun y54=>
     Ac7 v12 (W6 fuel d0 d1 l44 v10 y41 cL1 nL2) y54.n_.neg y54.n_.mag y54.d.neg y54.d.mag)
    else
     (Ac7 v12 (W6 fuel d0 d1 l44 v10 y41 cL1 nL2) t27 l51 t28 l52)))
  else
   (W7 d1 l51 l52 t27 t28 v10 y41 cL1 fuel 0 l44)
def O7(fuel:Nat)(d0:B3)(d1:List A1):Nat->Int->(List A1)->Option (List A1)
 |0,_,_=>none
 |nL1+1,v10,l44=>
  bif decide (v10<((d0.blocks.map E6).length:Int)) then
   (Option.bind (C6 d0.blocks v10) fun y41=>
   Option.bind (F78 fuel 0 1) fun y42=>
   W6 fuel d0 d1 l44 v10 y41 (O7 fuel d0 d1 nL1) fuel 0 y42.n_.neg y42.n_.mag y42.d.neg y42.d.mag)
  else
   (some l44)
def Fu7(fuel:Nat)(d0:B3)(d1:List A1)(d2:List A1):Option (List A1):=
 O7 fuel d0 d1 fuel 0 d2
noncomputable abbrev Bx7:=C2 Tryz.f139
abbrev Fy3(r:List A1):=J none Tryz.prog 63 [] (Cf8 Tryz.prog Tryz.f139 [(2000,.buf 0 84 4 (r.map A4))] (.tup []))
theorem Ez9{fuel:Nat}{d0:B3}{d1:List A1}{d2:List A1}{r:List A1}(hF:Fu7 fuel d0 d1 d2=some r):
 I0 Tryz.prog 139 [(2000,.buf 0 84 4 (d2.map A4))] [.d (.pt [.sl 1 (d0.Model.Owner.map A6),.sl 1 (d0.Model.Choices.map A0),.int .u64 d0.target,.bool d0.most,.int .u64 d0.zero,.sl 1 (d0.blocks.map E6)]),.l 4 d1 A4,.suf 2000 0 0] [(2000,.buf 0 84 4 (r.map A4))] (.tup []):=by
 unfold Fu7 at hF;refine cr 63 Tryz.func139 ?_;have hL1:∀(nL1:Nat) (v10:Int) (l44:List A1),O7 fuel d0 d1 nL1 v10 l44=some r->Fy3 r ⟨mkT [(0,.d (.pt [.sl 1 (d0.Model.Owner.map A6),.sl 1 (d0.Model.Choices.map A0),.int .u64 d0.target,.bool d0.most,.int .u64 d0.zero,.sl 1 (d0.blocks.map E6)])),(1,.l 4 d1 A4),(2,.suf 2000 0 0),(16,.l 1 d0.blocks E6),(17,.i ((d0.blocks.map E6).length:Int)),(18,.i v10)],[(2000,.buf 0 84 4 (l44.map A4))],[kL Bx7 [1,0,0],.inBlock 0]⟩:=by
  clear hF;intro nL1
  induction nL1 with
  |zero=>intro v10 l44 hF;cases hF
  |succ nL1 iL1=>
   intro v10 l44 hF;rw[O7]at hF;refine jI 6 19 hF ?_ ?_<;>intro hF
   ·obtain⟨y41,e53,hF⟩:=bnd hF;refine jo1 6 (gm (f:=E6) e53) ?_;refine jB 6 hF Ft5 Bk5 fun y42 hF=> ?_
    have hL2:∀(nL2:Nat) (v12:Int) (t27:Bool) (l51:List Int) (t28:Bool) (l52:List Int),W6 fuel d0 d1 l44 v10 y41 (O7 fuel d0 d1 nL1) nL2 v12 t27 l51 t28 l52=some r->Fy3 r ⟨mkT [(0,.d (.pt [.sl 1 (d0.Model.Owner.map A6),.sl 1 (d0.Model.Choices.map A0),.int .u64 d0.target,.bool d0.most,.int .u64 d0.zero,.sl 1 (d0.blocks.map E6)])),(1,.l 4 d1 A4),(2,.suf 2000 0 0),(7,.ptr 7 0),(8,.ptr 8 0),(16,.l 1 d0.blocks E6),(17,.i ((d0.blocks.map E6).length:Int)),(18,.i v10),(24,.i ((d1.map A4).length:Int)),(25,.i v12)],[(7,.fzb [.n y41]),(8,.box 84 [.b t27,.l 1 l51 A5,.b t28,.l 1 l52 A5]),(2000,.buf 0 84 4 (l44.map A4))],[kL Bx7 [1,0,0,1,1,0,0,1,1,0,1,0,0],.inBlock 2,kC Bx7 [1,0,0,1,1,0,0,1,1,1],.inBlock 1,kC Bx7 [1,0,0,1,1,1],kL Bx7 [1,0,0],.inBlock 0]⟩:=by
     clear hF;intro nL2
     induction nL2 with
     |zero=>intro v12 t27 l51 t28 l52 hF;cases hF
     |succ nL2 iL2=>
      intro v12 t27 l51 t28 l52 hF;rw[W6]at hF;refine jI 6 26 hF ?_ ?_<;>intro hF
      ·have hA3:∀(t29:Bool) (l53:List Int) (t30:Bool) (l54:List Int),Ac7 v12 (W6 fuel d0 d1 l44 v10 y41 (O7 fuel d0 d1 nL1) nL2) t29 l53 t30 l54=some r->Fy3 r ⟨mkT [(0,.d (.pt [.sl 1 (d0.Model.Owner.map A6),.sl 1 (d0.Model.Choices.map A0),.int .u64 d0.target,.bool d0.most,.int .u64 d0.zero,.sl 1 (d0.blocks.map E6)])),(1,.l 4 d1 A4),(2,.suf 2000 0 0),(7,.ptr 7 0),(8,.ptr 8 0),(16,.l 1 d0.blocks E6),(17,.i ((d0.blocks.map E6).length:Int)),(18,.i v10),(24,.i ((d1.map A4).length:Int)),(25,.i v12)],[(7,.fzb [.n y41]),(8,.box 84 [.b t29,.l 1 l53 A5,.b t30,.l 1 l54 A5]),(2000,.buf 0 84 4 (l44.map A4))],[kC Bx7 [1,0,0,1,1,0,0,1,1,0,1,0,0,1,1,1],kL Bx7 [1,0,0,1,1,0,0,1,1,0,1,0,0],.inBlock 2,kC Bx7 [1,0,0,1,1,0,0,1,1,1],.inBlock 1,kC Bx7 [1,0,0,1,1,1],kL Bx7 [1,0,0],.inBlock 0]⟩:=by
        intro t29 l53 t30 l54 hF;unfold Ac7 at hF;exact ja 4 (iL2 _ _ _ _ _ hF)
       obtain⟨hb94,hF⟩:=K8 hF;refine jo1 14 (ck hb94) ?_;refine jI 3 32 hF ?_ ?_<;>intro hF
       ·exact ja 2 (hA3 _ _ _ _ hF)
       ·refine jB 8 hF Gc6 Ef1 fun y53 hF=> ?_
        refine jI 11 41 hF ?_ ?_<;>intro hF
        ·refine jB 5 hF Fk0 Ch3 fun y54 hF=> ?_
         exact ja 3 (hA3 _ _ _ _ hF)
        ·exact ja 3 (hA3 _ _ _ _ hF)
      ·have hL4:∀(nL4:Nat) (v14:Int) (l62:List A1),W7 d1 l51 l52 t27 t28 v10 y41 (O7 fuel d0 d1 nL1) nL4 v14 l62=some r->Fy3 r ⟨mkT [(0,.d (.pt [.sl 1 (d0.Model.Owner.map A6),.sl 1 (d0.Model.Choices.map A0),.int .u64 d0.target,.bool d0.most,.int .u64 d0.zero,.sl 1 (d0.blocks.map E6)])),(1,.l 4 d1 A4),(2,.suf 2000 0 0),(7,.ptr 7 0),(8,.ptr 8 0),(16,.l 1 d0.blocks E6),(17,.i ((d0.blocks.map E6).length:Int)),(18,.i v10),(48,.i ((d1.map A4).length:Int)),(49,.i v14)],[(7,.fzb [.n y41]),(8,.box 84 [.b t27,.l 1 l51 A5,.b t28,.l 1 l52 A5]),(2000,.buf 0 84 4 (l62.map A4))],[kL Bx7 [1,0,0,1,1,0,0,1,1,1,1,0,0],.inBlock 4,.inBlock 1,kC Bx7 [1,0,0,1,1,1],kL Bx7 [1,0,0],.inBlock 0]⟩:=by
        clear hF;intro nL4
        induction nL4 with
        |zero=>intro v14 l62 hF;cases hF
        |succ nL4 iL4=>
         intro v14 l62 hF;rw[W7]at hF;refine jI 6 50 hF ?_ ?_<;>intro hF
         ·have hA5:∀(l64:List A1),As3 v14 (W7 d1 l51 l52 t27 t28 v10 y41 (O7 fuel d0 d1 nL1) nL4) l64=some r->Fy3 r ⟨mkT [(0,.d (.pt [.sl 1 (d0.Model.Owner.map A6),.sl 1 (d0.Model.Choices.map A0),.int .u64 d0.target,.bool d0.most,.int .u64 d0.zero,.sl 1 (d0.blocks.map E6)])),(1,.l 4 d1 A4),(2,.suf 2000 0 0),(7,.ptr 7 0),(8,.ptr 8 0),(16,.l 1 d0.blocks E6),(17,.i ((d0.blocks.map E6).length:Int)),(18,.i v10),(48,.i ((d1.map A4).length:Int)),(49,.i v14)],[(7,.fzb [.n y41]),(8,.box 84 [.b t27,.l 1 l51 A5,.b t28,.l 1 l52 A5]),(2000,.buf 0 84 4 (l64.map A4))],[kC Bx7 [1,0,0,1,1,0,0,1,1,1,1,0,0,1,1,1],kL Bx7 [1,0,0,1,1,0,0,1,1,1,1,0,0],.inBlock 4,.inBlock 1,kC Bx7 [1,0,0,1,1,1],kL Bx7 [1,0,0],.inBlock 0]⟩:=by
           intro l64 hF;unfold As3 at hF;exact ja 4 (iL4 _ _ hF)
          obtain⟨hb110,hF⟩:=K8 hF;refine jo1 13 (ck hb110) ?_;refine jI 3 56 hF ?_ ?_<;>intro hF
          ·obtain⟨y60,e77,hF⟩:=bnd hF;refine jo1 5 (gm (f:=A4) e77) ?_;obtain⟨l65,e78,hF⟩:=bnd hF;have hst:=stm (f:=A4) (z:=(⟨(⟨t27,l51⟩:A3),(⟨t28,l52⟩:A3)⟩:A1)) (k:=0) (xs:=[.bool t27,.sl 1 (l51.map A5),.bool t28,.sl 1 (l52.map A5)]) (gj e77) rfl;refine C4 0 (H5 (o:=(match(l62.map A4)[0+Int.toNat v14]? with|some old=>some ((l62.map A4).set (0+Int.toNat v14) (Ah3 old 0 [.bool t27,.sl 1 (l51.map A5),.bool t28,.sl 1 (l52.map A5)]))|none=>none)) (l65.map A4) (by kernel_rfl) (by cases e78;exact hst) ?_);exact ja 2 (hA5 _ hF)
          ·exact ja 3 (hA5 _ hF)
         ·exact ja 7 (iL1 _ _ hF)
       exact ja 10 (hL4 _ _ _ hF)
    refine C4 12 (Gp7 (te:=33) 7 [.n y41] (by kernel_rfl) (by kernel_rfl) ?_);exact ja 0 (hL2 _ _ _ _ _ _ hF)
   ·cases hF;exact jrr 2
 exact ja 11 (hL1 _ _ _ hF)
def Ba9(v2:Int)(cL1:Int->(List A1)->Option (List A1))(l21:List A1):Option (List A1):=
 cL1 (i64.wrap (v2+1)) l21
def Ad4(fuel:Nat)(d0:B3)(d1:List A1)(d2:Bool):Nat->Int->(List A1)->Option (List A1)
 |0,_,_=>none
 |nL1+1,v2,l17=>
  bif decide (v2<((d1.map A4).length:Int)) then
   (ass (decide (0<=v2))<|
   bif (u64.wrap (BitVec.ofInt u64.bits (Int.fdiv d0.target (2^(min (Int.toNat v2) u64.bits)))&&&BitVec.ofInt u64.bits 1).toNat)==1 then
    (Option.bind (F78 fuel 1 1) fun y31=>
    Option.bind (C6 l17 v2) fun y32=>
    Option.bind (some (l17.set (0+Int.toNat v2) y31)) fun l22=>
    Ba9 v2 (Ad4 fuel d0 d1 d2 nL1) l22)
   else
    (Option.bind (
     bif d2 then
      (ass (decide (0<=v2))<|
      some ((u64.wrap (BitVec.ofInt u64.bits (Int.fdiv d0.zero (2^(min (Int.toNat v2) u64.bits)))&&&BitVec.ofInt u64.bits 1).toNat)==1))
     else
      (some false)) fun o6=>
    bif o6 then
     (Option.bind (F78 fuel 0 1) fun y33=>
     Option.bind (C6 l17 v2) fun y34=>
     Option.bind (some (l17.set (0+Int.toNat v2) y33)) fun l23=>
     Ba9 v2 (Ad4 fuel d0 d1 d2 nL1) l23)
    else
     (Option.bind (Fu6 fuel d0 v2 d1) fun y35=>
     Option.bind (C6 l17 v2) fun y36=>
     Option.bind (some (l17.set (0+Int.toNat v2) y35.1)) fun l24=>
     Ba9 v2 (Ad4 fuel d0 d1 d2 nL1) l24)))
  else
   (bif d2 then
    (Option.bind (Fu7 fuel d0 d1 l17) fun y37=>
    some y37)
   else
    (some l17))
def F79(fuel:Nat)(d0:B3)(d1:List A1)(d2:Bool):Option (List A1):=
 Option.bind (mkL ((d1.map A4).length:Int) ((d1.map A4).length:Int) (⟨(⟨false,[]⟩:A3),(⟨false,[]⟩:A3)⟩:A1)) fun l1=>
 Ad4 fuel d0 d1 d2 fuel 0 l1
noncomputable abbrev b79:=C2 Tryz.f79
abbrev G79(r:List A1):=J none Tryz.prog 63 [] (L5 Tryz.prog Tryz.f79 (.l 4 r A4))
theorem Eq9{fuel:Nat}{d0:B3}{d1:List A1}{d2:Bool}{r:List A1}(hF:F79 fuel d0 d1 d2=some r):
 C3 Tryz.prog 79 [.d (.pt [.sl 1 (d0.Model.Owner.map A6),.sl 1 (d0.Model.Choices.map A0),.int .u64 d0.target,.bool d0.most,.int .u64 d0.zero,.sl 1 (d0.blocks.map E6)]),.l 4 d1 A4,.b d2] (.l 4 r A4):=by
 unfold F79 at hF;refine cf 63 Tryz.func79 ?_;obtain⟨l1,e1,hF⟩:=bnd hF;refine jo2 8 (mm (f:=A4) e1) ?_;have hL1:∀(nL1:Nat) (v2:Int) (l17:List A1),Ad4 fuel d0 d1 d2 nL1 v2 l17=some r->G79 r ⟨mkT [(0,.d (.pt [.sl 1 (d0.Model.Owner.map A6),.sl 1 (d0.Model.Choices.map A0),.int .u64 d0.target,.bool d0.most,.int .u64 d0.zero,.sl 1 (d0.blocks.map E6)])),(1,.l 4 d1 A4),(2,.b d2),(7,.suf 11 0 0),(13,.i ((d1.map A4).length:Int)),(14,.i v2)],[(11,.buf 0 84 4 (l17.map A4))],[kL b79 [1,1,0,1,0,0],.inBlock 0,kC b79 [1,1,1]]⟩:=by
  clear hF;intro nL1
  induction nL1 with
  |zero=>intro v2 l17 hF;cases hF
  |succ nL1 iL1=>
   intro v2 l17 hF;rw[Ad4]at hF;refine jI 6 15 hF ?_ ?_<;>intro hF
   ·have hA2:∀(l21:List A1),Ba9 v2 (Ad4 fuel d0 d1 d2 nL1) l21=some r->G79 r ⟨mkT [(0,.d (.pt [.sl 1 (d0.Model.Owner.map A6),.sl 1 (d0.Model.Choices.map A0),.int .u64 d0.target,.bool d0.most,.int .u64 d0.zero,.sl 1 (d0.blocks.map E6)])),(1,.l 4 d1 A4),(2,.b d2),(7,.suf 11 0 0),(13,.i ((d1.map A4).length:Int)),(14,.i v2)],[(11,.buf 0 84 4 (l21.map A4))],[kC b79 [1,1,0,1,0,0,1,1,1],kL b79 [1,1,0,1,0,0],.inBlock 0,kC b79 [1,1,1]]⟩:=by
     intro l21 hF;unfold Ba9 at hF;exact ja 4 (iL1 _ _ hF)
    obtain⟨hb49,hF⟩:=K8 hF;refine jo1 17 (ck hb49) ?_;refine jI 4 27 hF ?_ ?_<;>intro hF
    ·refine jB 4 hF Ft5 Bk5 fun y31 hF=> ?_
     obtain⟨y32,e48,hF⟩:=bnd hF;refine jo1 0 (gm (f:=A4) e48) ?_;obtain⟨l22,e49,hF⟩:=bnd hF;have hst:=stm (f:=A4) (z:=y31) (k:=0) (xs:=[.bool y31.n_.neg,.sl 1 (y31.n_.mag.map A5),.bool y31.d.neg,.sl 1 (y31.d.mag.map A5)]) (gj e48) rfl;refine C4 0 (H5 (o:=(match(l17.map A4)[0+Int.toNat v2]? with|some old=>some ((l17.map A4).set (0+Int.toNat v2) (Ah3 old 0 [.bool y31.n_.neg,.sl 1 (y31.n_.mag.map A5),.bool y31.d.neg,.sl 1 (y31.d.mag.map A5)]))|none=>none)) (l22.map A4) (by kernel_rfl) (by cases e49;exact hst) ?_);exact ja 3 (hA2 _ hF)
    ·obtain⟨o6,hO,hF⟩:=bnd hF;have hR6:G79 r ⟨mkT [(0,.d (.pt [.sl 1 (d0.Model.Owner.map A6),.sl 1 (d0.Model.Choices.map A0),.int .u64 d0.target,.bool d0.most,.int .u64 d0.zero,.sl 1 (d0.blocks.map E6)])),(1,.l 4 d1 A4),(2,.b d2),(7,.suf 11 0 0),(8,.i v2),(13,.i ((d1.map A4).length:Int)),(14,.i v2),(40,.b o6)],[(11,.buf 0 84 4 (l17.map A4))],[kO b79 [1,1,0,1,0,0,1,1,0,0,1,0,1,1,0],kC b79 [1,1,0,1,0,0,1,1,0,0,1,0,1,1,1],.inBlock 2,.inBlock 1,kC b79 [1,1,0,1,0,0,1,1,1],kL b79 [1,1,0,1,0,0],.inBlock 0,kC b79 [1,1,1]]⟩:=by
      clear hO;refine jI 1 40 hF ?_ ?_<;>intro hF
      ·refine jB 4 hF Ft5 Bk5 fun y33 hF=> ?_
       obtain⟨y34,e51,hF⟩:=bnd hF;refine jo1 0 (gm (f:=A4) e51) ?_;obtain⟨l23,e52,hF⟩:=bnd hF;have hst:=stm (f:=A4) (z:=y33) (k:=0) (xs:=[.bool y33.n_.neg,.sl 1 (y33.n_.mag.map A5),.bool y33.d.neg,.sl 1 (y33.d.mag.map A5)]) (gj e51) rfl;refine C4 0 (H5 (o:=(match(l17.map A4)[0+Int.toNat v2]? with|some old=>some ((l17.map A4).set (0+Int.toNat v2) (Ah3 old 0 [.bool y33.n_.neg,.sl 1 (y33.n_.mag.map A5),.bool y33.d.neg,.sl 1 (y33.d.mag.map A5)]))|none=>none)) (l23.map A4) (by kernel_rfl) (by cases e52;exact hst) ?_);exact ja 3 (hA2 _ hF)
      ·refine jB 7 hF Gc6 Ez7 fun y35 hF=> ?_
       obtain⟨y36,e54,hF⟩:=bnd hF;refine jo1 3 (gm (f:=A4) e54) ?_;obtain⟨l24,e55,hF⟩:=bnd hF;have hst:=stm (f:=A4) (z:=y35.1) (k:=0) (xs:=[.bool y35.1.n_.neg,.sl 1 (y35.1.n_.mag.map A5),.bool y35.1.d.neg,.sl 1 (y35.1.d.mag.map A5)]) (gj e54) rfl;refine C4 0 (H5 (o:=(match(l17.map A4)[0+Int.toNat v2]? with|some old=>some ((l17.map A4).set (0+Int.toNat v2) (Ah3 old 0 [.bool y35.1.n_.neg,.sl 1 (y35.1.n_.mag.map A5),.bool y35.1.d.neg,.sl 1 (y35.1.d.mag.map A5)]))|none=>none)) (l24.map A4) (by kernel_rfl) (by cases e55;exact hst) ?_);exact ja 3 (hA2 _ hF)
     clear hF;rename _=some o6=>hF
     refine jI 5 42 hF ?_ ?_<;>intro hF
     ·obtain⟨hb57,hF⟩:=K8 hF;refine jo1 5 (ck hb57) ?_;cases hF;exact ja 4 hR6
     ·cases hF;exact ja 10 hR6
   ·refine jI 7 57 hF ?_ ?_<;>intro hF
    ·obtain⟨y37,e56,hF⟩:=bnd hF;refine jcr 5 [(11,2000)] Gt8 (Ez9 e56) ?_;cases hF;exact jr 6
    ·cases hF;exact jr 7
 exact ja 11 (hL1 _ _ _ hF)
def C9(x:(List A1)×(List A1)):List Kx.V:=[.d (.sl 4 (x.1.map A4)),.d (.sl 4 (x.2.map A4))]
def Bk0(fuel:Nat)(d0:B3):Nat->(List A1)->(List A1)->Option (List ((List A1)×(List A1)))
 |0,_,_=>some []
 |nL2+1,l17,l18=>
  Option.bind (
   Option.bind (F79 fuel d0 l17 false) fun y17=>
   Option.bind (F79 fuel d0 l18 true) fun y18=>
   (Bk0 fuel d0 nL2) y17 y18) fun l19=>
  some ((l17,l18)::l19)
def Ba4(fuel:Nat)(d0:B3)(l1:List A1):Nat->Int->(List A1)->(List A1)->Option (List ((List A1)×(List A1)))
 |0,_,_,_=>none
 |nL1+1,v2,l9,l10=>
  bif decide (v2<((l1.map A4).length:Int)) then
   (ass (decide (0<=v2))<|
   Option.bind (F78 fuel (i64.wrap (u64.wrap (BitVec.ofInt u64.bits (Int.fdiv d0.target (2^(min (Int.toNat v2) u64.bits)))&&&BitVec.ofInt u64.bits 1).toNat)) 1) fun y9=>
   ass (decide (0<=v2))<|
   Option.bind (F78 fuel (i64.wrap (u64.wrap (BitVec.ofInt u64.bits 1&&& ~~~BitVec.ofInt u64.bits (Int.fdiv d0.zero (2^(min (Int.toNat v2) u64.bits)))).toNat)) 1) fun y10=>
   Option.bind (C6 l10 v2) fun y11=>
   Option.bind (some (l10.set (0+Int.toNat v2) y9)) fun l11=>
   Option.bind (C6 l9 v2) fun y12=>
   Option.bind (some (l9.set (0+Int.toNat v2) y10)) fun l12=>
   (Ba4 fuel d0 l1 nL1) (i64.wrap (v2+1)) l12 l11)
  else
   (Bk0 fuel d0 (cap 10 fuel) l10 l9)
def F39(fuel:Nat)(d0:B3):Option (List ((List A1)×(List A1))):=
 Option.bind (mkL ((d0.Model.Owner.map A6).length:Int) ((d0.Model.Owner.map A6).length:Int) (⟨(⟨false,[]⟩:A3),(⟨false,[]⟩:A3)⟩:A1)) fun l1=>
 Option.bind (mkL ((d0.Model.Owner.map A6).length:Int) ((d0.Model.Owner.map A6).length:Int) (⟨(⟨false,[]⟩:A3),(⟨false,[]⟩:A3)⟩:A1)) fun l2=>
 Ba4 fuel d0 l1 fuel 0 l2 l1
noncomputable abbrev b39:=C2 Tryz.f39
theorem Eq3{fuel:Nat}{d0:B3}{r:List ((List A1)×(List A1))}(hF:F39 fuel d0=some r):
 Eg6 Tryz.prog 39 [(2000,.frn 2000)] [.d (.pt [.sl 1 (d0.Model.Owner.map A6),.sl 1 (d0.Model.Choices.map A0),.int .u64 d0.target,.bool d0.most,.int .u64 d0.zero,.sl 1 (d0.blocks.map E6)]),.yl 2000] (r.map C9) false:=by
 unfold F39 at hF;refine El6 (N:=61) (b:=C2 Tryz.f39) Tryz.func39 (by kernel_rfl) rfl rfl (fun yl_ Inv_ Stop_ Pan_ hR_ hE_=> ?_);refine jd 1 ?_;obtain⟨l1,e1,hF⟩:=bnd hF;refine do2 6 (mm (f:=A4) e1) ?_;obtain⟨l2,e2,hF⟩:=bnd hF;refine do2 6 (mm (f:=A4) e2) ?_;refine je 2 ?_;have hL1:∀(nL1:Nat) (r:List ((List A1)×(List A1))) (v2:Int) (l9:List A1) (l10:List A1),Ba4 fuel d0 l1 nL1 v2 l9 l10=some r->J none Tryz.prog 61 [] (Df3 Tryz.prog Tryz.f39 yl_ Inv_ Stop_ Pan_ false (some (r.map C9))) ⟨mkT [(0,.d (.pt [.sl 1 (d0.Model.Owner.map A6),.sl 1 (d0.Model.Choices.map A0),.int .u64 d0.target,.bool d0.most,.int .u64 d0.zero,.sl 1 (d0.blocks.map E6)])),(1,.yl 2000),(4,.suf 13 0 0),(5,.suf 20 0 0),(22,.i ((l1.map A4).length:Int)),(23,.i v2)],[(13,.buf 0 84 4 (l10.map A4)),(20,.buf 0 84 4 (l9.map A4)),(2000,.frn 2000)],[kL b39 [1,0,1,0,0],.inBlock 0,kC b39 [1,1]]⟩:=by
  clear hF;intro nL1
  induction nL1 with
  |zero=>intro r v2 l9 l10 hF;cases hF
  |succ nL1 iL1=>
   intro r v2 l9 l10 hF;rw[Ba4]at hF;refine jI 6 24 hF ?_ ?_<;>intro hF
   ·refine jd 9 ?_;obtain⟨hb8,hF⟩:=K8 hF;refine do1 9 (ck hb8) ?_;refine dB 2 hF Ft5 Bk5 fun y9 hF=> ?_
    obtain⟨hb9,hF⟩:=K8 hF;refine do1 5 (ck hb9) ?_;refine dB 2 hF Ft5 Bk5 fun y10 hF=> ?_
    obtain⟨y11,e17,hF⟩:=bnd hF;refine do1 0 (gm (f:=A4) e17) ?_;obtain⟨l11,e18,hF⟩:=bnd hF;have hst:=stm (f:=A4) (z:=y9) (k:=0) (xs:=[.bool y9.n_.neg,.sl 1 (y9.n_.mag.map A5),.bool y9.d.neg,.sl 1 (y9.d.mag.map A5)]) (gj e17) rfl;refine R4 0 (Bo6 (o:=(match(l10.map A4)[0+Int.toNat v2]? with|some old=>some ((l10.map A4).set (0+Int.toNat v2) (Ah3 old 0 [.bool y9.n_.neg,.sl 1 (y9.n_.mag.map A5),.bool y9.d.neg,.sl 1 (y9.d.mag.map A5)]))|none=>none)) (l11.map A4) (by kernel_rfl) (by kernel_rfl) (by cases e18;exact hst) ?_);obtain⟨y12,e19,hF⟩:=bnd hF;refine do1 0 (gm (f:=A4) e19) ?_;obtain⟨l12,e20,hF⟩:=bnd hF;have hst:=stm (f:=A4) (z:=y10) (k:=0) (xs:=[.bool y10.n_.neg,.sl 1 (y10.n_.mag.map A5),.bool y10.d.neg,.sl 1 (y10.d.mag.map A5)]) (gj e19) rfl;refine R4 0 (Bo6 (o:=(match(l9.map A4)[0+Int.toNat v2]? with|some old=>some ((l9.map A4).set (0+Int.toNat v2) (Ah3 old 0 [.bool y10.n_.neg,.sl 1 (y10.n_.mag.map A5),.bool y10.d.neg,.sl 1 (y10.d.mag.map A5)]))|none=>none)) (l12.map A4) (by kernel_rfl) (by kernel_rfl) (by cases e20;exact hst) ?_);refine je 0 ?_;exact ja 5 (iL1 _ _ _ _ hF)
   ·have hL2:∀(nL2:Nat) (r:List ((List A1)×(List A1))) (l17:List A1) (l18:List A1),Bk0 fuel d0 nL2 l17 l18=some r->J none Tryz.prog 61 [] (Df3 Tryz.prog Tryz.f39 yl_ Inv_ Stop_ Pan_ false (some (r.map C9))) ⟨mkT [(0,.d (.pt [.sl 1 (d0.Model.Owner.map A6),.sl 1 (d0.Model.Choices.map A0),.int .u64 d0.target,.bool d0.most,.int .u64 d0.zero,.sl 1 (d0.blocks.map E6)])),(1,.yl 2000),(4,.l 4 l17 A4),(5,.l 4 l18 A4)],[(2000,.frn 2000)],[kL b39 [1,1,0,0],.inBlock 2]⟩:=by
     clear hF;intro nL2
     induction nL2 with
     |zero=>intro r l17 l18 hF;have hr_:=Option.some.inj hF;subst hr_;exact Dn2 hE_ (by kernel_rfl)
     |succ nL2 iL2=>
      intro r l17 l18 hF;rw[Bk0]at hF;obtain⟨l19,hY_,hr_⟩:=bnd hF;clear hF;have hr_:=Option.some.inj hr_;subst hr_;have hF:=hY_;clear hY_;refine C4 7 (Ci7 hR_ (xs:=[.l 4 l17 A4,.l 4 l18 A4]) [.l 4 l17 A4,.l 4 l18 A4] (ys:=l19.map C9) (by kernel_rfl) (by kernel_rfl) (M8.refl _) ?_ ?_)
      rotate_left
      ·exact C4 3 (Bb6 hR_ (.inr rfl) rfl rfl (by kernel_rfl))
      ·refine jB 7 hF Hg0 Eq9 fun y17 hF=> ?_
       refine jB 2 hF Hg0 Eq9 fun y18 hF=> ?_
       exact ja 4 (iL2 _ _ _ hF)
    refine C4 4 (Cr4 4 (by kernel_rfl) (by kernel_rfl) ?_);refine C4 0 (Cr4 5 (by kernel_rfl) (by kernel_rfl) ?_);exact ja 0 (hL2 _ _ _ _ hF)
 exact ja 9 (hL1 _ _ _ _ _ hF)
def Dj9(l1:List (List UInt8))(l2:List (List UInt8))(v3:Int):Option (List (List UInt8)×List (List UInt8)×Int):=
 some (l2,l1,0)
def Am8(fuel:Nat):List ((List A1)×(List A1))->Int->Option (List (List UInt8)×List (List UInt8)×Int)
 |[],v2=>
  none
 |y9::ys_F14_L1,v2=>
  bif v2==0 then
   (Option.bind (F41 fuel y9.1) fun y10=>
   Option.bind (F41 fuel y9.2) fun y11=>
   Dj9 y11.1 y10.1 v2)
  else
   ((Am8 fuel ys_F14_L1) (i64.wrap (v2-1)))
def F14(fuel:Nat)(d0:B6)(d1:Int)(d2:Bool)(d3:Int):Option (List (List UInt8)×List (List UInt8)×Int):=
 Option.bind (F34 fuel d0 d1) fun y1=>
 bif y1 !=0 then
  (some ([],[],y1))
 else
  (Option.bind (
   bif decide (d3<0) then
    (some true)
   else
    (some (decide (d3>60)))) fun o1=>
  bif o1 then
   (some ([],[],2))
  else
   (Option.bind (F38 fuel d0 d1 d2) fun y2=>
   Option.bind (F39 fuel y2) fun ys1=>
   Am8 fuel ys1 d3))
noncomputable abbrev b14:=C2 Tryz.f14
theorem Dk0{fuel:Nat}{d0:B6}{d1:Int}{d2:Bool}{d3:Int}{r:List (List UInt8)×List (List UInt8)×Int}(hF:F14 fuel d0 d1 d2 d3=some r):
 C3 Tryz.prog 14 [.agg [.l 1 d0.Owner A6,.l 1 d0.Choices A0],.n d1,.b d2,.i d3] (.tup [.l 1 r.1 e_s,.l 1 r.2.1 e_s,.i r.2.2]):=by
 unfold F14 at hF;refine Ay2 (N:=49) (b:=C2 Tryz.f14) Tryz.func14 (by kernel_rfl) rfl rfl (fun w00_ M00_=> ?_);refine jB 13 hF Hf0 Eq1 fun y1 hF=> ?_
 refine jI 7 18 hF ?_ ?_<;>intro hF
 ·have hF:=oi hF;subst hF;exact C4 8 (Ai1 (xs:=[.l 1 [] e_s,.l 1 [] e_s,.i y1]) [.l 1 [] e_s,.l 1 [] e_s,.i y1] rfl rfl (by kernel_rfl) (M8.refl _) rfl (by kernel_rfl))
 ·obtain⟨o1,hO,hF⟩:=bnd hF;have hR1:J none Tryz.prog 49 (dfs []) (Gn5 Tryz.prog Tryz.f14 (.tup [.l 1 r.1 e_s,.l 1 r.2.1 e_s,.i r.2.2]) w00_ M00_ []) ⟨mkT [(1,.n d1),(2,.b d2),(4,.ptr 4 0),(7,.ptr 7 0),(8,.ptr 8 0),(9,.ptr 9 0),(25,.b o1)],[(4,.box 26 [.l 1 d0.Owner A6,.l 1 d0.Choices A0]),(7,.box 3 [.i d3]),(8,.box 28 [.esl 1]),(9,.box 28 [.esl 1])],[kO b14 [1,1,0,0],kC b14 [1,1,0,1],kC b14 [1,1,1]]⟩:=by
   clear hO;refine jI 1 25 hF ?_ ?_<;>intro hF
   ·have hF:=oi hF;subst hF;exact C4 7 (Ai1 (xs:=[.l 1 [] e_s,.l 1 [] e_s,.i 2]) [.l 1 [] e_s,.l 1 [] e_s,.i 2] rfl rfl (by kernel_rfl) (M8.refl _) rfl (by kernel_rfl))
   ·refine jB 8 hF Hf1 Eq2 fun y2 hF=> ?_
    refine ja 3 (S0:=[(7,.ptr 7 0),(8,.ptr 8 0),(9,.ptr 9 0),(30,.fn 39 [.d (.pt [.sl 1 (y2.Model.Owner.map A6),.sl 1 (y2.Model.Choices.map A0),.int .u64 y2.target,.bool y2.most,.int .u64 y2.zero,.sl 1 (y2.blocks.map E6)])] [])]) (O0:=[(7,.box 3 [.i d3]),(8,.box 28 [.esl 1]),(9,.box 28 [.esl 1])]) (T0:=[kC b14 [1,1,1,0,1,0],.inBlock 0,kC b14 [1,1,1,1]]) ?_;refine Ax2 [(7,2100),(8,2101),(9,2102)] (by kernel_rfl) (by kernel_rfl) (by kernel_rfl) (by kernel_rfl) ?_;refine Ci5 (S0:=[(7,.ptr 2100 0),(8,.ptr 2101 0),(9,.ptr 2102 0),(30,.fn 39 [.d (.pt [.sl 1 (y2.Model.Owner.map A6),.sl 1 (y2.Model.Choices.map A0),.int .u64 y2.target,.bool y2.most,.int .u64 y2.zero,.sl 1 (y2.blocks.map E6)])] [])]) (O0:=[(2100,.box 3 [.i d3]),(2101,.box 28 [.esl 1]),(2102,.box 28 [.esl 1])]) (T0:=[kC b14 [1,1,1,0,1,0],.inBlock 0,kC b14 [1,1,1,1]]) [7,8,9,30] [2100,2101,2102] (by kernel_rfl) rfl ?_;obtain⟨ys1,e3,hF⟩:=bnd hF;obtain⟨G_,hG_⟩:∃G:List (List Kx.V)->List (Nat×B9)->Prop,G=(fun yv ob=>∃(yl_:List ((List A1)×(List A1))) (v2:Int),yv=yl_.map C9/\ob=[(2100,.box 3 [.i v2]),(2101,.box 28 [.esl 1]),(2102,.box 28 [.esl 1])]/\Am8 fuel yl_ v2=some r):=⟨_,rfl⟩
    obtain⟨GX_,hGX_⟩:∃G:Code->List (Nat×B9)->Prop,G=(fun j ob=>(∃(l1:List (List UInt8)) (l2:List (List UInt8)) (v3:Int),j= .exit 0/\ob=[(2100,.box 3 [.i v3]),(2101,.box 28 [.l 1 l2 e_s]),(2102,.box 28 [.l 1 l1 e_s])]/\Dj9 l1 l2 v3=some r)):=⟨_,rfl⟩
    refine Cr8 (P:=Tryz.prog) (g:=(.tmp 30)) (ps:= #[31,32]) (asg:=(cAt b14 [1,1,1,0,1,0,0])) (bo:=(cAt b14 [1,1,1,0,1,0,1])) (k:=[.inBlock 0,kC b14 [1,1,1,1]]) (gf:=39) (first:=[.d (.pt [.sl 1 (y2.Model.Owner.map A6),.sl 1 (y2.Model.Choices.map A0),.int .u64 y2.target,.bool y2.most,.int .u64 y2.zero,.sl 1 (y2.blocks.map E6)])]) (cap:=[]) (xs:=[.d (.pt [.sl 1 (y2.Model.Owner.map A6),.sl 1 (y2.Model.Choices.map A0),.int .u64 y2.target,.bool y2.most,.int .u64 y2.zero,.sl 1 (y2.blocks.map E6)])]) (os:=[]) (S1:=[(7,.ptr 2100 0),(8,.ptr 2101 0),(9,.ptr 2102 0)]) (ob0:=[(2100,.box 3 [.i d3]),(2101,.box 28 [.esl 1]),(2102,.box 28 [.esl 1])]) [] [7,8,9] [2100,2101,2102] [.d (.pt [.sl 1 (y2.Model.Owner.map A6),.sl 1 (y2.Model.Choices.map A0),.int .u64 y2.target,.bool y2.most,.int .u64 y2.zero,.sl 1 (y2.blocks.map E6)])] (ysAll:=ys1.map C9) [2100,2101,2102] G_ GX_ rfl (by kernel_rfl) rfl (by kernel_rfl) rfl (by kernel_rfl) (M8.refl _) Hf2 (Eq3 e3) (by kernel_rfl) (by kernel_rfl) (by kernel_rfl) ?_ ?_ ?_ ⟨by kernel_rfl,by kernel_rfl⟩ ?_ ?_ ?_
    ·rw[hG_];exact⟨ys1,d3,rfl,by kernel_rfl,hF⟩
    ·intro yv_ ob_ h_;rw[hG_]at h_;obtain⟨_,_,_,rfl,_⟩:=h_;kernel_rfl
    ·intro j_ ob_ h_;rw[hGX_]at h_;rcases h_ with⟨_,_,_,_,rfl,_⟩<;>kernel_rfl
    ·intro x_ hxa_ hxb_ hxp_ yv_ ysv_ ob_ h_;rw[hG_]at h_;obtain⟨yl_,v2,hy_,rfl,hF⟩:=h_;cases yl_ with
     |nil=>cases hy_
     |cons y9 ys_F14_L1=>
      cases hy_;rw[Am8]at hF;refine Cm9 (by kernel_rfl) ?_;refine Ci5 (S0:=[(7,.ptr 2100 0),(8,.ptr 2101 0),(9,.ptr 2102 0),(31,.l 4 y9.1 A4),(32,.l 4 y9.2 A4)]) (O0:=[(3000,.raw x_.D (.deferred (some []))),(3001,.raw x_.L (.loop (F4 x_ .ready none))),(2100,.box 3 [.i v2]),(2101,.box 28 [.esl 1]),(2102,.box 28 [.esl 1])]) (T0:=[kC b14 [1,1,1,0,1,0,0],.begR x_.L,kC b14 [1,1,1,0,1,0,1]]) [7,8,9,31,32] [3000,3001,2100,2101,2102] (by kernel_rfl) rfl ?_;refine ja 7 (S0:=[(7,.ptr 2100 0),(8,.ptr 2101 0),(9,.ptr 2102 0),(12,.l 4 y9.1 A4),(13,.l 4 y9.2 A4),(31,.l 4 y9.1 A4),(32,.l 4 y9.2 A4)]) (O0:=[(3000,.raw x_.D (.deferred (some []))),(3001,.raw x_.L (.loop (F4 x_ .ready none))),(2100,.box 3 [.i v2]),(2101,.box 28 [.esl 1]),(2102,.box 28 [.esl 1])]) (T0:=[.begR x_.L,kC b14 [1,1,1,0,1,0,1]]) ?_;refine Bb5 (l:=x_.L) (q:=3001) (k:=[kC b14 [1,1,1,0,1,0,1]]) (rec:=F4 x_ .ready none) rfl rfl rfl ?_;refine jI 7 34 hF ?_ ?_<;>intro hF
      ·refine jB 4 hF Gm8 Cq7 fun y10 hF=> ?_
       refine jB 8 hF Gm8 Cq7 fun y11 hF=> ?_
       refine ja 5 (S0:=[]) (O0:=rob x_ .busy none [(2100,.box 3 [.i v2]),(2101,.box 28 [.l 1 y10.1 e_s]),(2102,.box 28 [.l 1 y11.1 e_s])]) (T0:=[.code (.exit 0),kC b14 [1,1,1,0,1,0,1,0,1],.inBlock 1]) ?_;exact Dn3 rfl [(2100,.box 3 [.i v2]),(2101,.box 28 [.l 1 y10.1 e_s]),(2102,.box 28 [.l 1 y11.1 e_s])] (k:=[kC b14 [1,1,1,0,1,0,1,0,1],.inBlock 1]) rfl rfl rfl (by kernel_rfl) (by rw[hGX_];exact⟨y11.1,y10.1,v2,rfl,rfl,hF⟩)
      ·refine ja 8 (S0:=[]) (O0:=rob x_ .busy none [(2100,.box 3 [.i (i64.wrap (v2-1))]),(2101,.box 28 [.esl 1]),(2102,.box 28 [.esl 1])]) (T0:=[]) ?_;exact Bb7 rfl [(2100,.box 3 [.i (i64.wrap (v2-1))]),(2101,.box 28 [.esl 1]),(2102,.box 28 [.esl 1])] rfl rfl (by kernel_rfl) (by rw[hG_];exact⟨ys_F14_L1,i64.wrap (v2-1),rfl,rfl,hF⟩)
    ·intro ob_ h_;rw[hG_]at h_;obtain⟨yl_,v2,hy_,rfl,hF⟩:=h_;cases yl_ with
     |cons _ _=>cases hy_
     |nil=>rw[Am8]at hF;cases hF
    ·intro D_ ob_ j_ h_;rw[hGX_]at h_;rcases h_ with⟨l1,l2,v3,rfl,rfl,hF⟩
     ·unfold Dj9 at hF;refine Bw7 [(2100,7),(2101,8),(2102,9)] (by kernel_rfl) (by kernel_rfl) (by kernel_rfl) ?_;refine ja 0 (S0:=[(8,.ptr 8 0),(9,.ptr 9 0)]) (O0:=[(8,.box 28 [.l 1 l2 e_s]),(9,.box 28 [.l 1 l1 e_s])]) (T0:=[.code (.exit 0),.inBlock 0,kC b14 [1,1,1,1]]) ?_;refine jd 2 ?_;refine je 5 ?_;have hF:=oi hF;subst hF;exact C4 0 (Ai1 (xs:=[.l 1 l2 e_s,.l 1 l1 e_s,.i 0]) [.l 1 l2 e_s,.l 1 l1 e_s,.i 0] rfl rfl (by kernel_rfl) (M8.refl _) rfl (by kernel_rfl))
  clear hF;rename _=some o1=>hF
  refine jI 8 22 hF ?_ ?_<;>intro hF
  ·cases hF;exact ja 3 hR1
  ·cases hF;exact ja 3 hR1
def Ba5(fuel:Nat)(d0:List A1)(d1:List A1)(d2:A1):Nat->Int->Option Bool
 |0,_=>none
 |nL1+1,v2=>
  bif decide (v2<((d0.map A4).length:Int)) then
   (Option.bind (C6 d0 v2) fun y15=>
   Option.bind (C6 d1 v2) fun y19=>
   Option.bind (F80 fuel y19 y15) fun y20=>
   Option.bind (F65 fuel y20 d2) fun y21=>
   bif decide (y21>0) then
    (some false)
   else
    ((Ba5 fuel d0 d1 d2 nL1) (i64.wrap (v2+1))))
  else
   (some true)
def F40(fuel:Nat)(d0:List A1)(d1:List A1)(d2:A1):Option Bool:=
 Ba5 fuel d0 d1 d2 fuel 0
noncomputable abbrev b40:=C2 Tryz.f40
abbrev G40(r:Bool):=J none Tryz.prog 26 [] (L5 Tryz.prog Tryz.f40 (.b r))
theorem Fw7{fuel:Nat}{d0:List A1}{d1:List A1}{d2:A1}{r:Bool}(hF:F40 fuel d0 d1 d2=some r):
 C3 Tryz.prog 40 [.l 4 d0 A4,.l 4 d1 A4,.agg [.b d2.n_.neg,.l 1 d2.n_.mag A5,.b d2.d.neg,.l 1 d2.d.mag A5]] (.b r):=by
 unfold F40 at hF;refine cf 26 Tryz.func40 ?_;have hL1:∀(nL1:Nat) (v2:Int),Ba5 fuel d0 d1 d2 nL1 v2=some r->G40 r ⟨mkT [(1,.l 4 d1 A4),(5,.ptr 5 0),(9,.l 4 d0 A4),(10,.i ((d0.map A4).length:Int)),(11,.i v2)],[(5,.box 84 [.b d2.n_.neg,.l 1 d2.n_.mag A5,.b d2.d.neg,.l 1 d2.d.mag A5])],[kL b40 [1,0,1,0,0],.inBlock 0,kC b40 [1,1]]⟩:=by
  clear hF;intro nL1
  induction nL1 with
  |zero=>intro v2 hF;cases hF
  |succ nL1 iL1=>
   intro v2 hF;rw[Ba5]at hF;refine jI 6 12 hF ?_ ?_<;>intro hF
   ·obtain⟨y15,e15,hF⟩:=bnd hF;refine jo1 7 (gm (f:=A4) e15) ?_;refine jd 6 ?_;obtain⟨y19,e19,hF⟩:=bnd hF;refine do1 2 (gm (f:=A4) e19) ?_;refine dB 2 hF Hn5 Fx6 fun y20 hF=> ?_
    refine dB 1 hF Hf6 Eq7 fun y21 hF=> ?_
    refine je 1 ?_;refine jI 0 24 hF ?_ ?_<;>intro hF
    ·cases hF;exact jr 5
    ·exact ja 7 (iL1 _ hF)
   ·cases hF;exact jr 6
 exact ja 14 (hL1 _ _ hF)
def Dj5(v3:Int)(l1:List (List UInt8))(l2:List (List UInt8)):Option (List (List UInt8)×List (List UInt8)×Int×Int):=
 some (l2,l1,v3,0)
def Dj6(v4:Int):Option (List (List UInt8)×List (List UInt8)×Int×Int):=
 some ([],[],0,4)
def Av5(fuel:Nat)(d4:Int)(y3:A1):List ((List A1)×(List A1))->Int->Option (List (List UInt8)×List (List UInt8)×Int×Int)
 |[],v2=>
  none
 |y15::ys_F13_L1,v2=>
  Option.bind (F40 fuel y15.1 y15.2 y3) fun y16=>
  bif y16 then
   (Option.bind (F41 fuel y15.1) fun y17=>
   Option.bind (F41 fuel y15.2) fun y18=>
   Dj5 v2 y18.1 y17.1)
  else
   (bif v2==d4 then
    (Dj6 v2)
   else
    ((Av5 fuel d4 y3 ys_F13_L1) (i64.wrap (v2+1))))
def F13(fuel:Nat)(d0:B6)(d1:Int)(d2:Bool)(d3:List UInt8)(d4:Int):Option (List (List UInt8)×List (List UInt8)×Int×Int):=
 Option.bind (F34 fuel d0 d1) fun y1=>
 bif y1 !=0 then
  (some ([],[],0,y1))
 else
  (Option.bind (F35 fuel d3) fun y2=>
  bif y2 !=0 then
   (some ([],[],0,5))
  else
   (Option.bind (F36 fuel d3) fun y3=>
   Option.bind (
    Option.bind (F37 y3) fun y19=>
    bif decide (y19<1) then
     (some true)
    else
     (bif decide (d4<0) then
      (some true)
     else
      (some (decide (d4>60))))) fun o1=>
   bif o1 then
    (some ([],[],0,2))
   else
    (Option.bind (F38 fuel d0 d1 d2) fun y6=>
    Option.bind (F39 fuel y6) fun ys1=>
    Av5 fuel d4 y3 ys1 0)))
noncomputable abbrev b13:=C2 Tryz.f13
theorem Fu8{fuel:Nat}{d0:B6}{d1:Int}{d2:Bool}{d3:List UInt8}{d4:Int}{r:List (List UInt8)×List (List UInt8)×Int×Int}(hF:F13 fuel d0 d1 d2 d3 d4=some r):
 C3 Tryz.prog 13 [.agg [.l 1 d0.Owner A6,.l 1 d0.Choices A0],.n d1,.b d2,.s d3,.i d4] (.tup [.l 1 r.1 e_s,.l 1 r.2.1 e_s,.i r.2.2.1,.i r.2.2.2]):=by
 unfold F13 at hF;refine Ay2 (N:=69) (b:=C2 Tryz.f13) Tryz.func13 (by kernel_rfl) rfl rfl (fun w00_ M00_=> ?_);refine jB 14 hF Hf0 Eq1 fun y1 hF=> ?_
 refine jI 7 22 hF ?_ ?_<;>intro hF
 ·have hF:=oi hF;subst hF;exact C4 9 (Ai1 (xs:=[.l 1 [] e_s,.l 1 [] e_s,.i 0,.i y1]) [.l 1 [] e_s,.l 1 [] e_s,.i 0,.i y1] rfl rfl (by kernel_rfl) (M8.refl _) rfl (by kernel_rfl))
 ·refine jB 6 hF Hm4 Fw5 fun y2 hF=> ?_
  refine jI 2 26 hF ?_ ?_<;>intro hF
  ·have hF:=oi hF;subst hF;exact C4 8 (Ai1 (xs:=[.l 1 [] e_s,.l 1 [] e_s,.i 0,.i 5]) [.l 1 [] e_s,.l 1 [] e_s,.i 0,.i 5] rfl rfl (by kernel_rfl) (M8.refl _) rfl (by kernel_rfl))
  ·refine jB 5 hF Gm7 Cq6 fun y3 hF=> ?_
   obtain⟨o1,hO,hF⟩:=bnd hF;have hR1:J none Tryz.prog 69 (dfs []) (Gn5 Tryz.prog Tryz.f13 (.tup [.l 1 r.1 e_s,.l 1 r.2.1 e_s,.i r.2.2.1,.i r.2.2.2]) w00_ M00_ []) ⟨mkT [(1,.n d1),(2,.b d2),(5,.ptr 5 0),(9,.ptr 9 0),(10,.ptr 10 0),(11,.ptr 11 0),(12,.ptr 12 0),(13,.ptr 13 0),(15,.ptr 15 0),(39,.b o1)],[(5,.box 26 [.l 1 d0.Owner A6,.l 1 d0.Choices A0]),(9,.box 3 [.i d4]),(10,.box 28 [.esl 1]),(11,.box 28 [.esl 1]),(12,.box 3 [.i 0]),(13,.box 29 [.i 0]),(15,.box 84 [.b y3.n_.neg,.l 1 y3.n_.mag A5,.b y3.d.neg,.l 1 y3.d.mag A5])],[kO b13 [1,1,1,1,0,0],kC b13 [1,1,1,1,0,1],kC b13 [1,1,1,1,1]]⟩:=by
    clear hO;refine jI 1 39 hF ?_ ?_<;>intro hF
    ·have hF:=oi hF;subst hF;exact C4 8 (Ai1 (xs:=[.l 1 [] e_s,.l 1 [] e_s,.i 0,.i 2]) [.l 1 [] e_s,.l 1 [] e_s,.i 0,.i 2] rfl rfl (by kernel_rfl) (M8.refl _) rfl (by kernel_rfl))
    ·refine jB 8 hF Hf1 Eq2 fun y6 hF=> ?_
     refine ja 3 (S0:=[(9,.ptr 9 0),(10,.ptr 10 0),(11,.ptr 11 0),(12,.ptr 12 0),(13,.ptr 13 0),(15,.ptr 15 0),(44,.fn 39 [.d (.pt [.sl 1 (y6.Model.Owner.map A6),.sl 1 (y6.Model.Choices.map A0),.int .u64 y6.target,.bool y6.most,.int .u64 y6.zero,.sl 1 (y6.blocks.map E6)])] [])]) (O0:=[(9,.box 3 [.i d4]),(10,.box 28 [.esl 1]),(11,.box 28 [.esl 1]),(12,.box 3 [.i 0]),(13,.box 29 [.i 0]),(15,.box 84 [.b y3.n_.neg,.l 1 y3.n_.mag A5,.b y3.d.neg,.l 1 y3.d.mag A5])]) (T0:=[kC b13 [1,1,1,1,1,0,1,0],.inBlock 0,kC b13 [1,1,1,1,1,1]]) ?_;refine Ax2 [(9,2100),(10,2101),(11,2102),(12,2103),(13,2104),(15,2105)] (by kernel_rfl) (by kernel_rfl) (by kernel_rfl) (by kernel_rfl) ?_;refine Ci5 (S0:=[(9,.ptr 2100 0),(10,.ptr 2101 0),(11,.ptr 2102 0),(12,.ptr 2103 0),(13,.ptr 2104 0),(15,.ptr 2105 0),(44,.fn 39 [.d (.pt [.sl 1 (y6.Model.Owner.map A6),.sl 1 (y6.Model.Choices.map A0),.int .u64 y6.target,.bool y6.most,.int .u64 y6.zero,.sl 1 (y6.blocks.map E6)])] [])]) (O0:=[(2100,.box 3 [.i d4]),(2101,.box 28 [.esl 1]),(2102,.box 28 [.esl 1]),(2103,.box 3 [.i 0]),(2104,.box 29 [.i 0]),(2105,.box 84 [.b y3.n_.neg,.l 1 y3.n_.mag A5,.b y3.d.neg,.l 1 y3.d.mag A5])]) (T0:=[kC b13 [1,1,1,1,1,0,1,0],.inBlock 0,kC b13 [1,1,1,1,1,1]]) [9,10,11,12,13,15,44] [2100,2101,2102,2103,2104,2105] (by kernel_rfl) rfl ?_;obtain⟨ys1,e7,hF⟩:=bnd hF;obtain⟨G_,hG_⟩:∃G:List (List Kx.V)->List (Nat×B9)->Prop,G=(fun yv ob=>∃(yl_:List ((List A1)×(List A1))) (v2:Int),yv=yl_.map C9/\ob=[(2100,.box 3 [.i d4]),(2101,.box 28 [.esl 1]),(2102,.box 28 [.esl 1]),(2103,.box 3 [.i v2]),(2104,.box 29 [.i 0]),(2105,.box 84 [.b y3.n_.neg,.l 1 y3.n_.mag A5,.b y3.d.neg,.l 1 y3.d.mag A5])]/\Av5 fuel d4 y3 yl_ v2=some r):=⟨_,rfl⟩
     obtain⟨GX_,hGX_⟩:∃G:Code->List (Nat×B9)->Prop,G=(fun j ob=>(∃(v3:Int) (l1:List (List UInt8)) (l2:List (List UInt8)),j= .ret/\ob=[(2100,.box 3 [.i d4]),(2101,.box 28 [.l 1 l2 e_s]),(2102,.box 28 [.l 1 l1 e_s]),(2103,.box 3 [.i v3]),(2104,.box 29 [.i 0]),(2105,.box 84 [.b y3.n_.neg,.l 1 y3.n_.mag A5,.b y3.d.neg,.l 1 y3.d.mag A5])]/\Dj5 v3 l1 l2=some r)\/(∃(v4:Int),j= .exit 0/\ob=[(2100,.box 3 [.i d4]),(2101,.box 28 [.esl 1]),(2102,.box 28 [.esl 1]),(2103,.box 3 [.i v4]),(2104,.box 29 [.i 0]),(2105,.box 84 [.b y3.n_.neg,.l 1 y3.n_.mag A5,.b y3.d.neg,.l 1 y3.d.mag A5])]/\Dj6 v4=some r)):=⟨_,rfl⟩
     refine Cr8 (P:=Tryz.prog) (g:=(.tmp 44)) (ps:= #[45,46]) (asg:=(cAt b13 [1,1,1,1,1,0,1,0,0])) (bo:=(cAt b13 [1,1,1,1,1,0,1,0,1])) (k:=[.inBlock 0,kC b13 [1,1,1,1,1,1]]) (gf:=39) (first:=[.d (.pt [.sl 1 (y6.Model.Owner.map A6),.sl 1 (y6.Model.Choices.map A0),.int .u64 y6.target,.bool y6.most,.int .u64 y6.zero,.sl 1 (y6.blocks.map E6)])]) (cap:=[]) (xs:=[.d (.pt [.sl 1 (y6.Model.Owner.map A6),.sl 1 (y6.Model.Choices.map A0),.int .u64 y6.target,.bool y6.most,.int .u64 y6.zero,.sl 1 (y6.blocks.map E6)])]) (os:=[]) (S1:=[(9,.ptr 2100 0),(10,.ptr 2101 0),(11,.ptr 2102 0),(12,.ptr 2103 0),(13,.ptr 2104 0),(15,.ptr 2105 0)]) (ob0:=[(2100,.box 3 [.i d4]),(2101,.box 28 [.esl 1]),(2102,.box 28 [.esl 1]),(2103,.box 3 [.i 0]),(2104,.box 29 [.i 0]),(2105,.box 84 [.b y3.n_.neg,.l 1 y3.n_.mag A5,.b y3.d.neg,.l 1 y3.d.mag A5])]) [] [9,10,11,12,13,15] [2100,2101,2102,2103,2104,2105] [.d (.pt [.sl 1 (y6.Model.Owner.map A6),.sl 1 (y6.Model.Choices.map A0),.int .u64 y6.target,.bool y6.most,.int .u64 y6.zero,.sl 1 (y6.blocks.map E6)])] (ysAll:=ys1.map C9) [2100,2101,2102,2103,2104,2105] G_ GX_ rfl (by kernel_rfl) rfl (by kernel_rfl) rfl (by kernel_rfl) (M8.refl _) Hf2 (Eq3 e7) (by kernel_rfl) (by kernel_rfl) (by kernel_rfl) ?_ ?_ ?_ ⟨by kernel_rfl,by kernel_rfl⟩ ?_ ?_ ?_
     ·rw[hG_];exact⟨ys1,0,rfl,by kernel_rfl,hF⟩
     ·intro yv_ ob_ h_;rw[hG_]at h_;obtain⟨_,_,_,rfl,_⟩:=h_;kernel_rfl
     ·intro j_ ob_ h_;rw[hGX_]at h_;rcases h_ with⟨_,_,_,_,rfl,_⟩|⟨_,_,rfl,_⟩<;>kernel_rfl
     ·intro x_ hxa_ hxb_ hxp_ yv_ ysv_ ob_ h_;rw[hG_]at h_;obtain⟨yl_,v2,hy_,rfl,hF⟩:=h_;cases yl_ with
      |nil=>cases hy_
      |cons y15 ys_F13_L1=>
       cases hy_;rw[Av5]at hF;refine Cm9 (by kernel_rfl) ?_;refine Ci5 (S0:=[(9,.ptr 2100 0),(10,.ptr 2101 0),(11,.ptr 2102 0),(12,.ptr 2103 0),(13,.ptr 2104 0),(15,.ptr 2105 0),(45,.l 4 y15.1 A4),(46,.l 4 y15.2 A4)]) (O0:=[(3000,.raw x_.D (.deferred (some []))),(3001,.raw x_.L (.loop (F4 x_ .ready none))),(2100,.box 3 [.i d4]),(2101,.box 28 [.esl 1]),(2102,.box 28 [.esl 1]),(2103,.box 3 [.i v2]),(2104,.box 29 [.i 0]),(2105,.box 84 [.b y3.n_.neg,.l 1 y3.n_.mag A5,.b y3.d.neg,.l 1 y3.d.mag A5])]) (T0:=[kC b13 [1,1,1,1,1,0,1,0,0],.begR x_.L,kC b13 [1,1,1,1,1,0,1,0,1]]) [9,10,11,12,13,15,45,46] [3000,3001,2100,2101,2102,2103,2104,2105] (by kernel_rfl) rfl ?_;refine ja 7 (S0:=[(9,.ptr 2100 0),(10,.ptr 2101 0),(11,.ptr 2102 0),(12,.ptr 2103 0),(13,.ptr 2104 0),(15,.ptr 2105 0),(16,.l 4 y15.1 A4),(17,.l 4 y15.2 A4),(45,.l 4 y15.1 A4),(46,.l 4 y15.2 A4)]) (O0:=[(3000,.raw x_.D (.deferred (some []))),(3001,.raw x_.L (.loop (F4 x_ .ready none))),(2100,.box 3 [.i d4]),(2101,.box 28 [.esl 1]),(2102,.box 28 [.esl 1]),(2103,.box 3 [.i v2]),(2104,.box 29 [.i 0]),(2105,.box 84 [.b y3.n_.neg,.l 1 y3.n_.mag A5,.b y3.d.neg,.l 1 y3.d.mag A5])]) (T0:=[.begR x_.L,kC b13 [1,1,1,1,1,0,1,0,1]]) ?_;refine Bb5 (l:=x_.L) (q:=3001) (k:=[kC b13 [1,1,1,1,1,0,1,0,1]]) (rec:=F4 x_ .ready none) rfl rfl rfl ?_;refine jB 7 hF Hm6 Fw7 fun y16 hF=> ?_
       refine jI 1 50 hF ?_ ?_<;>intro hF
       ·refine jB 4 hF Gm8 Cq7 fun y17 hF=> ?_
        refine jB 8 hF Gm8 Cq7 fun y18 hF=> ?_
        refine jd 6 ?_;refine je 7 ?_;refine ja 0 (S0:=[]) (O0:=rob x_ .busy none [(2100,.box 3 [.i d4]),(2101,.box 28 [.l 1 y17.1 e_s]),(2102,.box 28 [.l 1 y18.1 e_s]),(2103,.box 3 [.i v2]),(2104,.box 29 [.i 0]),(2105,.box 84 [.b y3.n_.neg,.l 1 y3.n_.mag A5,.b y3.d.neg,.l 1 y3.d.mag A5])]) (T0:=[.code (.ret),kC b13 [1,1,1,1,1,0,1,0,1,0,1],.inBlock 1]) ?_;exact Cr9 rfl [(2100,.box 3 [.i d4]),(2101,.box 28 [.l 1 y17.1 e_s]),(2102,.box 28 [.l 1 y18.1 e_s]),(2103,.box 3 [.i v2]),(2104,.box 29 [.i 0]),(2105,.box 84 [.b y3.n_.neg,.l 1 y3.n_.mag A5,.b y3.d.neg,.l 1 y3.d.mag A5])] (k:=[kC b13 [1,1,1,1,1,0,1,0,1,0,1],.inBlock 1]) rfl rfl rfl (by kernel_rfl) (by rw[hGX_];exact(.inl ⟨v2,y18.1,y17.1,rfl,rfl,hF⟩))
       ·refine jI 9 66 hF ?_ ?_<;>intro hF
        ·refine ja 1 (S0:=[]) (O0:=rob x_ .busy none [(2100,.box 3 [.i d4]),(2101,.box 28 [.esl 1]),(2102,.box 28 [.esl 1]),(2103,.box 3 [.i v2]),(2104,.box 29 [.i 0]),(2105,.box 84 [.b y3.n_.neg,.l 1 y3.n_.mag A5,.b y3.d.neg,.l 1 y3.d.mag A5])]) (T0:=[.code (.exit 0),kC b13 [1,1,1,1,1,0,1,0,1,0,1,1],.inBlock 1]) ?_;exact Dn3 rfl [(2100,.box 3 [.i d4]),(2101,.box 28 [.esl 1]),(2102,.box 28 [.esl 1]),(2103,.box 3 [.i v2]),(2104,.box 29 [.i 0]),(2105,.box 84 [.b y3.n_.neg,.l 1 y3.n_.mag A5,.b y3.d.neg,.l 1 y3.d.mag A5])] (k:=[kC b13 [1,1,1,1,1,0,1,0,1,0,1,1],.inBlock 1]) rfl rfl rfl (by kernel_rfl) (by rw[hGX_];exact(.inr (⟨v2,rfl,rfl,hF⟩)))
        ·refine ja 8 (S0:=[]) (O0:=rob x_ .busy none [(2100,.box 3 [.i d4]),(2101,.box 28 [.esl 1]),(2102,.box 28 [.esl 1]),(2103,.box 3 [.i (i64.wrap (v2+1))]),(2104,.box 29 [.i 0]),(2105,.box 84 [.b y3.n_.neg,.l 1 y3.n_.mag A5,.b y3.d.neg,.l 1 y3.d.mag A5])]) (T0:=[]) ?_;exact Bb7 rfl [(2100,.box 3 [.i d4]),(2101,.box 28 [.esl 1]),(2102,.box 28 [.esl 1]),(2103,.box 3 [.i (i64.wrap (v2+1))]),(2104,.box 29 [.i 0]),(2105,.box 84 [.b y3.n_.neg,.l 1 y3.n_.mag A5,.b y3.d.neg,.l 1 y3.d.mag A5])] rfl rfl (by kernel_rfl) (by rw[hG_];exact⟨ys_F13_L1,i64.wrap (v2+1),rfl,rfl,hF⟩)
     ·intro ob_ h_;rw[hG_]at h_;obtain⟨yl_,v2,hy_,rfl,hF⟩:=h_;cases yl_ with
      |cons _ _=>cases hy_
      |nil=>rw[Av5]at hF;cases hF
     ·intro D_ ob_ j_ h_;rw[hGX_]at h_;rcases h_ with⟨v3,l1,l2,rfl,rfl,hF⟩|⟨v4,rfl,rfl,hF⟩
      ·unfold Dj5 at hF;refine Bw7 [(2100,9),(2101,10),(2102,11),(2103,12),(2104,13),(2105,15)] (by kernel_rfl) (by kernel_rfl) (by kernel_rfl) ?_;refine ja 0 (S0:=[(10,.ptr 10 0),(11,.ptr 11 0),(12,.ptr 12 0),(13,.ptr 13 0)]) (O0:=[(10,.box 28 [.l 1 l2 e_s]),(11,.box 28 [.l 1 l1 e_s]),(12,.box 3 [.i v3]),(13,.box 29 [.i 0])]) (T0:=[.code (.ret),.inBlock 0,kC b13 [1,1,1,1,1,1]]) ?_;have hF:=oi hF;subst hF;exact C4 0 (Ai1 (xs:=[.l 1 l2 e_s,.l 1 l1 e_s,.i v3,.i 0]) [.l 1 l2 e_s,.l 1 l1 e_s,.i v3,.i 0] rfl rfl (by kernel_rfl) (M8.refl _) rfl (by kernel_rfl))
      ·unfold Dj6 at hF;refine Bw7 [(2100,9),(2101,10),(2102,11),(2103,12),(2104,13),(2105,15)] (by kernel_rfl) (by kernel_rfl) (by kernel_rfl) ?_;refine ja 0 (S0:=[(10,.ptr 10 0),(11,.ptr 11 0),(12,.ptr 12 0),(13,.ptr 13 0)]) (O0:=[(10,.box 28 [.esl 1]),(11,.box 28 [.esl 1]),(12,.box 3 [.i v4]),(13,.box 29 [.i 0])]) (T0:=[.code (.exit 0),.inBlock 0,kC b13 [1,1,1,1,1,1]]) ?_;have hF:=oi hF;subst hF;exact C4 8 (Ai1 (xs:=[.l 1 [] e_s,.l 1 [] e_s,.i 0,.i 4]) [.l 1 [] e_s,.l 1 [] e_s,.i 0,.i 4] rfl rfl (by kernel_rfl) (M8.refl _) rfl (by kernel_rfl))
   clear hF;rename _=some o1=>hF
   refine jB 7 hF Hm5 Fw6 fun y19 hF=> ?_
   refine jI 2 32 hF ?_ ?_<;>intro hF
   ·cases hF;exact ja 7 hR1
   ·refine jI 4 36 hF ?_ ?_<;>intro hF
    ·cases hF;exact ja 3 hR1
    ·cases hF;exact ja 3 hR1
def F33(d0:Int)(d1:Int):Option A2:=
 some (⟨[],[48],[(⟨d0,[49,47,50]⟩:C1),(⟨d1,[49,47,50]⟩:C1)]⟩:A2)
theorem Eq0{d0:Int}{d1:Int}{r:A2}(hF:F33 d0 d1=some r):
 C3 Tryz.prog 33 [.i d0,.i d1] (.agg [.s r.Act,.s r.Gain,.l 2 r.Next A9]):=by
 unfold F33 at hF;refine cf 11 Tryz.func33 ?_;cases hF;exact jr 14
def F32(d0:Int):Option A2:=
 some (⟨[],[48],[(⟨d0,[49]⟩:C1)]⟩:A2)
theorem Ep9{d0:Int}{r:A2}(hF:F32 d0=some r):
 C3 Tryz.prog 32 [.i d0] (.agg [.s r.Act,.s r.Gain,.l 2 r.Next A9]):=by
 unfold F32 at hF;refine cf 7 Tryz.func32 ?_;cases hF;exact jr 12
def F12:Option B6:=
 Option.bind (mkL 3 3 0) fun l2=>
 Option.bind (F33 0 1) fun y5=>
 Option.bind (F32 0) fun y6=>
 Option.bind (F33 1 2) fun y7=>
 Option.bind (F32 2) fun y8=>
 some (⟨l2,[[y5,y6],[y7],[y8]]⟩:B6)
theorem Fu4{r:B6}(hF:F12=some r):
 C3 Tryz.prog 12 [] (.agg [.l 1 r.Owner A6,.l 1 r.Choices A0]):=by
 unfold F12 at hF;refine cf 17 Tryz.func12 ?_;refine jd 13 ?_;obtain⟨l2,e6,hF⟩:=bnd hF;refine do2 0 (mm (f:=A6) e6) ?_;refine dB 1 hF He9 Eq0 fun y5 hF=> ?_
 refine dB 1 hF He8 Ep9 fun y6 hF=> ?_
 refine dB 2 hF He9 Eq0 fun y7 hF=> ?_
 refine dB 2 hF He8 Ep9 fun y8 hF=> ?_
 refine je 4 ?_;cases hF;exact jr 0
def F15(fuel:Nat)(d0:B6)(d1:Int)(d2:Bool)(d3:Int)(d4:List (List UInt8))(d5:List (List UInt8)):Option Bool:=
 Option.bind (F14 fuel d0 d1 d2 d3) fun y1=>
 Option.bind (
  bif y1.2.2==0 then
   (Option.bind (F30 fuel y1.1 d4) fun y6=>
   bif y6 then
    (Option.bind (F30 fuel y1.2.1 d5) fun y7=>
    some y7)
   else
    (some false))
  else
   (some false)) fun o1=>
 some o1
noncomputable abbrev b15:=C2 Tryz.f15
abbrev G15(r:Bool):=J none Tryz.prog 37 [] (L5 Tryz.prog Tryz.f15 (.b r))
theorem Cq0{fuel:Nat}{d0:B6}{d1:Int}{d2:Bool}{d3:Int}{d4:List (List UInt8)}{d5:List (List UInt8)}{r:Bool}(hF:F15 fuel d0 d1 d2 d3 d4 d5=some r):
 C3 Tryz.prog 15 [.agg [.l 1 d0.Owner A6,.l 1 d0.Choices A0],.n d1,.b d2,.i d3,.l 1 d4 e_s,.l 1 d5 e_s] (.b r):=by
 unfold F15 at hF;refine cf 37 Tryz.func15 ?_;refine jB 11 hF Gt9 Dk0 fun y1 hF=> ?_
 obtain⟨o1,hO,hF⟩:=bnd hF;have hR1:G15 r ⟨mkT [(12,.b o1)],[],[kO b15 [1,1,0],kC b15 [1,1,1]]⟩:=by
  clear hO;cases hF;exact jr 1
 clear hF;rename _=some o1=>hF
 refine jI 13 27 hF ?_ ?_<;>intro hF
 ·refine jB 2 hF Gm6 Cq5 fun y6 hF=> ?_
  refine jI 2 32 hF ?_ ?_<;>intro hF
  ·refine jB 2 hF Gm6 Cq5 fun y7 hF=> ?_
   cases hF;exact ja 2 hR1
  ·cases hF;exact ja 5 hR1
 ·cases hF;exact ja 10 hR1
def F11(fuel:Nat):Option Bool:=
 Option.bind (F12) fun y1=>
 Option.bind (
  Option.bind (F15 fuel y1 4 true 0 [[48],[48],[49]] [[49],[49],[49]]) fun y10=>
  bif y10 then
   (Option.bind (F15 fuel y1 4 true 1 [[48],[49,47,50],[49]] [[49],[49],[49]]) fun y11=>
   bif y11 then
    (Option.bind (F15 fuel y1 4 false 2 [[48],[51,47,52],[49]] [[48],[49],[49]]) fun y12=>
    bif y12 then
     (Option.bind (F15 fuel y1 1 true 5 [[49],[48],[48]] [[49],[48],[48]]) fun y13=>
     some y13)
    else
     (some false))
   else
    (some false))
  else
   (some false)) fun o1=>
 some o1
noncomputable abbrev b11:=C2 Tryz.f11
abbrev G11(r:Bool):=J none Tryz.prog 27 [] (L5 Tryz.prog Tryz.f11 (.b r))
theorem Fu2{fuel:Nat}{r:Bool}(hF:F11 fuel=some r):
 C3 Tryz.prog 11 [] (.b r):=by
 unfold F11 at hF;refine cf 27 Tryz.func11 ?_;refine jB 6 hF Hl9 Fu4 fun y1 hF=> ?_
 obtain⟨o1,hO,hF⟩:=bnd hF;have hR1:G11 r ⟨mkT [(0,.b o1)],[],[kO b11 [1,1,1,0],kC b11 [1,1,1,1]]⟩:=by
  clear hO;cases hF;exact jr 1
 clear hF;rename _=some o1=>hF
 refine jB 13 hF Gm4 Cq0 fun y10 hF=> ?_
 refine jI 1 9 hF ?_ ?_<;>intro hF
 ·refine jB 3 hF Gm4 Cq0 fun y11 hF=> ?_
  refine jI 2 15 hF ?_ ?_<;>intro hF
  ·refine jB 3 hF Gm4 Cq0 fun y12 hF=> ?_
   refine jI 2 21 hF ?_ ?_<;>intro hF
   ·refine jB 3 hF Gm4 Cq0 fun y13 hF=> ?_
    cases hF;exact ja 2 hR1
   ·cases hF;exact ja 6 hR1
  ·cases hF;exact ja 12 hR1
 ·cases hF;exact ja 18 hR1
def F17(fuel:Nat)(d0:B1):Option B6:=
 Option.bind (F18 fuel (⟨d0.States,0,d0.Grain,d0.Cents,d0.Picks⟩:B1)) fun y1=>
 some y1
theorem Fv2{fuel:Nat}{d0:B1}{r:B6}(hF:F17 fuel d0=some r):
 C3 Tryz.prog 17 [.agg [.y d0.States,.y d0.Owners,.y d0.Grain,.y d0.Cents,.l 8 d0.Picks B8]] (.agg [.l 1 r.Owner A6,.l 1 r.Choices A0]):=by
 unfold F17 at hF;refine cf 6 Tryz.func17 ?_;refine jB 13 hF Hm2 Fv3 fun y1 hF=> ?_
 cases hF;exact jr 2
def F20(d0:Int)(d1:Int):Option Int:=
 ass (decide (0<=d0))<|
 some (u64.wrap (BitVec.ofInt u64.bits (u64.wrap d1)&&&BitVec.ofInt u64.bits (u64.wrap ((u64.wrap (1*2^(min (Int.toNat d0) u64.bits)))-1))).toNat)
theorem Fv8{d0:Int}{d1:Int}{r:Int}(hF:F20 d0 d1=some r):
 C3 Tryz.prog 20 [.i d0,.d (.int .u16 d1)] (.n r):=by
 unfold F20 at hF;refine cf 11 Tryz.func20 ?_;obtain⟨hb1,hF⟩:=K8 hF;refine jo1 9 (ck hb1) ?_;cases hF;exact jr 4
noncomputable abbrev b8:=C2 Tryz.f8
def Aj8(d0:List UInt8):Nat->Int->Option Bool
 |0,_=>none
 |nL1+1,v2=>
  bif decide (v2<(((d0.drop (Int.toNat 1)).take (Int.toNat ((d0.length:Int)-1))).length:Int)) then
   (Option.bind (
    Option.bind (C6 ((d0.drop (Int.toNat 1)).take (Int.toNat ((d0.length:Int)-1))) v2) fun y21=>
    bif decide ((y21.toNat:Int)<48) then
     (some true)
    else
     (Option.bind (C6 ((d0.drop (Int.toNat 1)).take (Int.toNat ((d0.length:Int)-1))) v2) fun y22=>
     some (decide ((y22.toNat:Int)>57)))) fun o5=>
   bif o5 then
    (some false)
   else
    ((Aj8 d0 nL1) (i64.wrap (v2+1))))
  else
   (some true)
def Aj9(d0:List UInt8):Nat->Int->Option Bool
 |0,_=>none
 |nL2+1,v4=>
  bif decide (v4<(d0.length:Int)) then
   (Option.bind (
    Option.bind (C6 d0 v4) fun y42=>
    bif decide ((y42.toNat:Int)<48) then
     (some true)
    else
     (Option.bind (C6 d0 v4) fun y43=>
     some (decide ((y43.toNat:Int)>57)))) fun o9=>
   bif o9 then
    (some false)
   else
    ((Aj9 d0 nL2) (i64.wrap (v4+1))))
  else
   (some true)
def Fq8(fuel:Nat)(d0:List UInt8):Option Bool:=
 bif d0==[48] then
  (some true)
 else
  (Option.bind (
   bif decide ((d0.length:Int)>0) then
    (Option.bind (C6 d0 0) fun y45=>
    some ((y45.toNat:Int)==45))
   else
    (some false)) fun o1=>
  bif o1 then
   (ass (decide (0<=1)&&decide (1<=(d0.length:Int))&&decide ((d0.length:Int)<=d0.length))<|
   Option.bind (
    bif (((d0.drop (Int.toNat 1)).take (Int.toNat ((d0.length:Int)-1))).length:Int)==0 then
     (some true)
    else
     (Option.bind (C6 ((d0.drop (Int.toNat 1)).take (Int.toNat ((d0.length:Int)-1))) 0) fun y23=>
     some ((y23.toNat:Int)==48))) fun o2=>
   bif o2 then
    (some false)
   else
    (Aj8 d0 fuel 0))
  else
   (Option.bind (
    bif (d0.length:Int)==0 then
     (some true)
    else
     (Option.bind (C6 d0 0) fun y44=>
     some ((y44.toNat:Int)==48))) fun o6=>
   bif o6 then
    (some false)
   else
    (Aj9 d0 fuel 0)))
noncomputable abbrev Bc3:=C2 Tryz.f150
abbrev Fe3(r:Bool):=J none Tryz.prog 42 [] (L5 Tryz.prog Tryz.f150 (.b r))
theorem Dk1{fuel:Nat}{d0:List UInt8}{r:Bool}(hF:Fq8 fuel d0=some r):
 C3 Tryz.prog 150 [.s d0] (.b r):=by
 unfold Fq8 at hF;refine cf 42 Tryz.func150 ?_;refine jI 10 6 hF ?_ ?_<;>intro hF
 ·cases hF;exact jr 5
 ·obtain⟨o1,hO,hF⟩:=bnd hF;have hR1:Fe3 r ⟨mkT [(3,.s d0),(15,.b o1)],[],[kO Bc3 [1,1,1,0,0],kC Bc3 [1,1,1,0,1],kC Bc3 [1,1,1,1]]⟩:=by
   clear hO;refine jI 1 15 hF ?_ ?_<;>intro hF
   ·obtain⟨hb5,hF⟩:=K8 hF;refine jo1 3 (ck hb5) ?_;obtain⟨o2,hO,hF⟩:=bnd hF;have hR2:Fe3 r ⟨mkT [(3,.s ((d0.drop (Int.toNat 1)).take (Int.toNat ((d0.length:Int)-1)))),(25,.b o2)],[],[kO Bc3 [1,1,1,1,0,0],kC Bc3 [1,1,1,1,0,1],kC Bc3 [1,1,1,1,1]]⟩:=by
     clear hO;refine jI 1 25 hF ?_ ?_<;>intro hF
     ·cases hF;exact jr 5
     ·have hL1:∀(nL1:Nat) (v2:Int),Aj8 d0 nL1 v2=some r->Fe3 r ⟨mkT [(3,.s ((d0.drop (Int.toNat 1)).take (Int.toNat ((d0.length:Int)-1)))),(4,.i v2)],[],[kL Bc3 [1,1,1,1,1,0,1,0,0],.inBlock 0,kC Bc3 [1,1,1,1,1,1]]⟩:=by
       clear hF;intro nL1
       induction nL1 with
       |zero=>intro v2 hF;cases hF
       |succ nL1 iL1=>
        intro v2 hF;rw[Aj8]at hF;refine jI 9 29 hF ?_ ?_<;>intro hF
        ·obtain⟨o5,hO,hF⟩:=bnd hF;have hR5:Fe3 r ⟨mkT [(3,.s ((d0.drop (Int.toNat 1)).take (Int.toNat ((d0.length:Int)-1)))),(4,.i v2),(41,.b o5)],[],[kO Bc3 [1,1,1,1,1,0,1,0,0,1,0,0,0],kC Bc3 [1,1,1,1,1,0,1,0,0,1,0,0,1],.inBlock 1,kC Bc3 [1,1,1,1,1,0,1,0,0,1,1],kL Bc3 [1,1,1,1,1,0,1,0,0],.inBlock 0,kC Bc3 [1,1,1,1,1,1]]⟩:=by
          clear hO;refine jI 1 41 hF ?_ ?_<;>intro hF
          ·cases hF;exact jr 5
          ·exact ja 8 (iL1 _ hF)
         clear hF;rename _=some o5=>hF
         obtain⟨y21,e21,hF⟩:=bnd hF;refine C4 8 (G5 (o:=(match C6 ((d0.drop (Int.toNat 1)).take (Int.toNat ((d0.length:Int)-1))) v2 with|some c=>some [.int .u8 c.toNat]|none=>none)) [.int .u8 y21.toNat] (by kernel_rfl) (by rw[e21]) ?_);refine jI 2 36 hF ?_ ?_<;>intro hF
         ·cases hF;exact ja 5 hR5
         ·obtain⟨y22,e22,hF⟩:=bnd hF;refine C4 2 (G5 (o:=(match C6 ((d0.drop (Int.toNat 1)).take (Int.toNat ((d0.length:Int)-1))) v2 with|some c=>some [.int .u8 c.toNat]|none=>none)) [.int .u8 y22.toNat] (by kernel_rfl) (by rw[e22]) ?_);cases hF;exact ja 2 hR5
        ·cases hF;exact jr 6
      exact ja 9 (hL1 _ _ hF)
    clear hF;rename _=some o2=>hF
    refine jI 9 21 hF ?_ ?_<;>intro hF
    ·cases hF;exact ja 4 hR2
    ·obtain⟨y23,e23,hF⟩:=bnd hF;refine C4 1 (G5 (o:=(match C6 ((d0.drop (Int.toNat 1)).take (Int.toNat ((d0.length:Int)-1))) 0 with|some c=>some [.int .u8 c.toNat]|none=>none)) [.int .u8 y23.toNat] (by kernel_rfl) (by rw[e23]) ?_);cases hF;exact ja 2 hR2
   ·obtain⟨o6,hO,hF⟩:=bnd hF;have hR6:Fe3 r ⟨mkT [(3,.s d0),(25,.b o6)],[],[kO Bc3 [1,1,1,1,0,0],kC Bc3 [1,1,1,1,0,1],kC Bc3 [1,1,1,1,1]]⟩:=by
     clear hO;refine jI 1 25 hF ?_ ?_<;>intro hF
     ·cases hF;exact jr 5
     ·have hL2:∀(nL2:Nat) (v4:Int),Aj9 d0 nL2 v4=some r->Fe3 r ⟨mkT [(3,.s d0),(4,.i v4)],[],[kL Bc3 [1,1,1,1,1,0,1,0,0],.inBlock 0,kC Bc3 [1,1,1,1,1,1]]⟩:=by
       clear hF;intro nL2
       induction nL2 with
       |zero=>intro v4 hF;cases hF
       |succ nL2 iL2=>
        intro v4 hF;rw[Aj9]at hF;refine jI 9 29 hF ?_ ?_<;>intro hF
        ·obtain⟨o9,hO,hF⟩:=bnd hF;have hR9:Fe3 r ⟨mkT [(3,.s d0),(4,.i v4),(41,.b o9)],[],[kO Bc3 [1,1,1,1,1,0,1,0,0,1,0,0,0],kC Bc3 [1,1,1,1,1,0,1,0,0,1,0,0,1],.inBlock 1,kC Bc3 [1,1,1,1,1,0,1,0,0,1,1],kL Bc3 [1,1,1,1,1,0,1,0,0],.inBlock 0,kC Bc3 [1,1,1,1,1,1]]⟩:=by
          clear hO;refine jI 1 41 hF ?_ ?_<;>intro hF
          ·cases hF;exact jr 5
          ·exact ja 8 (iL2 _ hF)
         clear hF;rename _=some o9=>hF
         obtain⟨y42,e42,hF⟩:=bnd hF;refine C4 8 (G5 (o:=(match C6 d0 v4 with|some c=>some [.int .u8 c.toNat]|none=>none)) [.int .u8 y42.toNat] (by kernel_rfl) (by rw[e42]) ?_);refine jI 2 36 hF ?_ ?_<;>intro hF
         ·cases hF;exact ja 5 hR9
         ·obtain⟨y43,e43,hF⟩:=bnd hF;refine C4 2 (G5 (o:=(match C6 d0 v4 with|some c=>some [.int .u8 c.toNat]|none=>none)) [.int .u8 y43.toNat] (by kernel_rfl) (by rw[e43]) ?_);cases hF;exact ja 2 hR9
        ·cases hF;exact jr 6
      exact ja 9 (hL2 _ _ hF)
    clear hF;rename _=some o6=>hF
    refine jI 9 21 hF ?_ ?_<;>intro hF
    ·cases hF;exact ja 4 hR6
    ·obtain⟨y44,e44,hF⟩:=bnd hF;refine C4 1 (G5 (o:=(match C6 d0 0 with|some c=>some [.int .u8 c.toNat]|none=>none)) [.int .u8 y44.toNat] (by kernel_rfl) (by rw[e44]) ?_);cases hF;exact ja 2 hR6
  clear hF;rename _=some o1=>hF
  refine jI 14 11 hF ?_ ?_<;>intro hF
  ·obtain⟨y45,e45,hF⟩:=bnd hF;refine C4 1 (G5 (o:=(match C6 d0 0 with|some c=>some [.int .u8 c.toNat]|none=>none)) [.int .u8 y45.toNat] (by kernel_rfl) (by rw[e45]) ?_);cases hF;exact ja 2 hR1
  ·cases hF;exact ja 4 hR1
def F91(fuel:Nat)(d0:List UInt8):Option Bool:=
 Option.bind (F93 fuel d0) fun y1=>
 Option.bind (
  Option.bind (Fq8 fuel y1.1) fun y12=>
  bif !y12 then
   (some true)
  else
   (Option.bind (Fq8 fuel y1.2.1) fun y13=>
   some (!y13))) fun o1=>
 bif o1 then
  (some false)
 else
  (Option.bind (
   bif !y1.2.2 then
    (some true)
   else
    (Option.bind (F51 fuel y1.2.1 [49]) fun y10=>
    bif decide (y10>0) then
     (Option.bind (Fq5 fuel y1.1 y1.2.1) fun y11=>
     some (y11==[49]))
    else
     (some false))) fun o2=>
  some o2)
noncomputable abbrev b91:=C2 Tryz.f91
abbrev G91(r:Bool):=J none Tryz.prog 33 [] (L5 Tryz.prog Tryz.f91 (.b r))
theorem Fx9{fuel:Nat}{d0:List UInt8}{r:Bool}(hF:F91 fuel d0=some r):
 C3 Tryz.prog 91 [.s d0] (.b r):=by
 unfold F91 at hF;refine cf 33 Tryz.func91 ?_;refine jB 7 hF Hg1 Er0 fun y1 hF=> ?_
 obtain⟨o1,hO,hF⟩:=bnd hF;have hR1:G91 r ⟨mkT [(3,.s y1.1),(4,.s y1.2.1),(5,.b y1.2.2),(19,.b o1)],[],[kO b91 [1,1,0,0],kC b91 [1,1,0,1],kC b91 [1,1,1]]⟩:=by
  clear hO;refine jI 1 19 hF ?_ ?_<;>intro hF
  ·cases hF;exact jr 5
  ·obtain⟨o2,hO,hF⟩:=bnd hF;have hR2:G91 r ⟨mkT [(2,.b o2)],[],[kO b91 [1,1,1,0],kC b91 [1,1,1,1]]⟩:=by
    clear hO;cases hF;exact jr 1
   clear hF;rename _=some o2=>hF
   refine jI 7 22 hF ?_ ?_<;>intro hF
   ·cases hF;exact ja 11 hR2
   ·refine jB 1 hF Hf4 Eq5 fun y10 hF=> ?_
    refine jI 2 26 hF ?_ ?_<;>intro hF
    ·refine jB 2 hF Gc2 Di5 fun y11 hF=> ?_
     cases hF;exact ja 4 hR2
    ·cases hF;exact ja 7 hR2
 clear hF;rename _=some o1=>hF
 refine jB 12 hF Gc9 Dk1 fun y12 hF=> ?_
 refine jI 2 15 hF ?_ ?_<;>intro hF
 ·cases hF;exact ja 4 hR1
 ·refine jB 1 hF Gc9 Dk1 fun y13 hF=> ?_
  cases hF;exact ja 2 hR1
def Fq9(d0:List UInt8):Option Int:=
 Option.bind (C6 d0 0) fun y1=>
 bif (y1.toNat:Int)==45 then
  (some (i64.wrap ((d0.length:Int)-1)))
 else
  (some (d0.length:Int))
theorem Dk2{d0:List UInt8}{r:Int}(hF:Fq9 d0=some r):
 C3 Tryz.prog 151 [.s d0] (.i r):=by
 unfold Fq9 at hF;refine cf 11 Tryz.func151 ?_;obtain⟨y1,e1,hF⟩:=bnd hF;refine C4 8 (G5 (o:=(match C6 d0 0 with|some c=>some [.int .u8 c.toNat]|none=>none)) [.int .u8 y1.toNat] (by kernel_rfl) (by rw[e1]) ?_);refine jI 2 5 hF ?_ ?_<;>intro hF
 ·cases hF;exact jr 8
 ·cases hF;exact jr 8
def F92(fuel:Nat)(d0:List UInt8)(d1:Int):Option Bool:=
 Option.bind (F49 fuel d0) fun y1=>
 Option.bind (
  Option.bind (Fq9 y1.1) fun y6=>
  bif decide (y6<=d1) then
   (Option.bind (Fq9 y1.2) fun y7=>
   some (decide (y7<=d1)))
  else
   (some false)) fun o1=>
 some o1
noncomputable abbrev b92:=C2 Tryz.f92
abbrev G92(r:Bool):=J none Tryz.prog 22 [] (L5 Tryz.prog Tryz.f92 (.b r))
theorem Fy0{fuel:Nat}{d0:List UInt8}{d1:Int}{r:Bool}(hF:F92 fuel d0 d1=some r):
 C3 Tryz.prog 92 [.s d0,.i d1] (.b r):=by
 unfold F92 at hF;refine cf 22 Tryz.func92 ?_;refine jB 7 hF Ft3 Bk2 fun y1 hF=> ?_
 obtain⟨o1,hO,hF⟩:=bnd hF;have hR1:G92 r ⟨mkT [(4,.b o1)],[],[kO b92 [1,1,0],kC b92 [1,1,1]]⟩:=by
  clear hO;cases hF;exact jr 1
 clear hF;rename _=some o1=>hF
 refine jB 9 hF Gd0 Dk2 fun y6 hF=> ?_
 refine jI 3 16 hF ?_ ?_<;>intro hF
 ·refine jB 1 hF Gd0 Dk2 fun y7 hF=> ?_
  cases hF;exact ja 4 hR1
 ·cases hF;exact ja 6 hR1
def F48(fuel:Nat)(d0:List UInt8):Option Int:=
 Option.bind (F91 fuel d0) fun y1=>
 bif !y1 then
  (some 5)
 else
  (Option.bind (F92 fuel d0 2000) fun y2=>
  bif !y2 then
   (some 6)
  else
   (some 0))
theorem Fx1{fuel:Nat}{d0:List UInt8}{r:Int}(hF:F48 fuel d0=some r):
 C3 Tryz.prog 48 [.s d0] (.i r):=by
 unfold F48 at hF;refine cf 9 Tryz.func48 ?_;refine jB 8 hF Hn8 Fx9 fun y1 hF=> ?_
 refine jI 2 5 hF ?_ ?_<;>intro hF
 ·cases hF;exact jr 5
 ·refine jB 6 hF Hn9 Fy0 fun y2 hF=> ?_
  refine jI 2 8 hF ?_ ?_<;>intro hF
  ·cases hF;exact jr 5
  ·cases hF;exact jr 6
def F47(fuel:Nat)(d0:List UInt8):Option Bool:=
 Option.bind (F48 fuel d0) fun y1=>
 some (y1 !=0)
theorem Fx0{fuel:Nat}{d0:List UInt8}{r:Bool}(hF:F47 fuel d0=some r):
 C3 Tryz.prog 47 [.s d0] (.b r):=by
 unfold F47 at hF;refine cf 6 Tryz.func47 ?_;refine jB 7 hF Hn0 Fx1 fun y1 hF=> ?_
 cases hF;exact jr 3
def Bb0(fuel:Nat)(d0:List (List UInt8)):Nat->Int->Option Int
 |0,_=>none
 |nL1+1,v2=>
  bif decide (v2<((d0.map e_s).length:Int)) then
   (Option.bind (C6 d0 v2) fun y5=>
   Option.bind (F47 fuel y5) fun y6=>
   bif y6 then
    (some v2)
   else
    ((Bb0 fuel d0 nL1) (i64.wrap (v2+1))))
  else
   (some (-1))
def F90(fuel:Nat)(d0:List (List UInt8)):Option Int:=
 Bb0 fuel d0 fuel 0
noncomputable abbrev b90:=C2 Tryz.f90
abbrev G90(r:Int):=J none Tryz.prog 19 [] (L5 Tryz.prog Tryz.f90 (.i r))
theorem Fx8{fuel:Nat}{d0:List (List UInt8)}{r:Int}(hF:F90 fuel d0=some r):
 C3 Tryz.prog 90 [.l 1 d0 e_s,.d (.fnc 47)] (.i r):=by
 unfold F90 at hF;refine cf 19 Tryz.func90 ?_;have hL1:∀(nL1:Nat) (v2:Int),Bb0 fuel d0 nL1 v2=some r->G90 r ⟨mkT [(0,.l 1 d0 e_s),(1,.d (.fnc 47)),(7,.i ((d0.map e_s).length:Int)),(8,.i v2)],[],[kL b90 [1,0,1,0,0],.inBlock 0,kC b90 [1,1]]⟩:=by
  clear hF;intro nL1
  induction nL1 with
  |zero=>intro v2 hF;cases hF
  |succ nL1 iL1=>
   intro v2 hF;rw[Bb0]at hF;refine jI 6 9 hF ?_ ?_<;>intro hF
   ·obtain⟨y5,e5,hF⟩:=bnd hF;refine jo1 14 (gm (f:=e_s) e5) ?_;refine jB 1 hF Hm9 Fx0 fun y6 hF=> ?_
    refine jI 1 16 hF ?_ ?_<;>intro hF
    ·cases hF;exact jr 6
    ·exact ja 7 (iL1 _ hF)
   ·cases hF;exact jr 6
 exact ja 13 (hL1 _ _ hF)
def F46(fuel:Nat)(d0:List (List UInt8)):Option Bool:=
 Option.bind (F90 fuel d0) fun y1=>
 some (decide (y1>=0))
theorem Fw9{fuel:Nat}{d0:List (List UInt8)}{r:Bool}(hF:F46 fuel d0=some r):
 C3 Tryz.prog 46 [.l 1 d0 e_s,.d (.fnc 47)] (.b r):=by
 unfold F46 at hF;refine cf 9 Tryz.func46 ?_;refine jB 8 hF Hn7 Fx8 fun y1 hF=> ?_
 cases hF;exact jr 3
def F22(fuel:Nat)(d0:List (List UInt8)):Option Bool:=
 Option.bind (F46 fuel d0) fun y1=>
 some (!y1)
theorem Cq4{fuel:Nat}{d0:List (List UInt8)}{r:Bool}(hF:F22 fuel d0=some r):
 C3 Tryz.prog 22 [.l 1 d0 e_s] (.b r):=by
 unfold F22 at hF;refine cf 6 Tryz.func22 ?_;refine jB 7 hF Hm8 Fw9 fun y1 hF=> ?_
 cases hF;exact jr 3
def F16(fuel:Nat)(d0:List (List UInt8))(d1:List (List UInt8))(d2:List (List UInt8))(d3:List (List UInt8)):Option Bool:=
 Option.bind (
  Option.bind (F30 fuel d0 d2) fun y5=>
  bif y5 then
   (Option.bind (F30 fuel d1 d3) fun y6=>
   some y6)
  else
   (some false)) fun o1=>
 some o1
noncomputable abbrev b16:=C2 Tryz.f16
abbrev G16(r:Bool):=J none Tryz.prog 17 [] (L5 Tryz.prog Tryz.f16 (.b r))
theorem Ep0{fuel:Nat}{d0:List (List UInt8)}{d1:List (List UInt8)}{d2:List (List UInt8)}{d3:List (List UInt8)}{r:Bool}(hF:F16 fuel d0 d1 d2 d3=some r):
 C3 Tryz.prog 16 [.l 1 d0 e_s,.l 1 d1 e_s,.l 1 d2 e_s,.l 1 d3 e_s] (.b r):=by
 unfold F16 at hF;refine cf 17 Tryz.func16 ?_;obtain⟨o1,hO,hF⟩:=bnd hF;have hR1:G16 r ⟨mkT [(8,.b o1)],[],[kO b16 [1,0],kC b16 [1,1]]⟩:=by
  clear hO;cases hF;exact jr 1
 clear hF;rename _=some o1=>hF
 refine jB 8 hF Gm6 Cq5 fun y5 hF=> ?_
 refine jI 1 12 hF ?_ ?_<;>intro hF
 ·refine jB 2 hF Gm6 Cq5 fun y6 hF=> ?_
  cases hF;exact ja 2 hR1
 ·cases hF;exact ja 5 hR1
def Ci2(fuel:Nat)(v6:Int)(y4:List UInt8)(y5:List (List UInt8)×List (List UInt8)×Int×Int)(y98:List (List UInt8)×List (List UInt8)×Int)(cL1:Int->Option Bool):Nat->Bool->Int->Option Bool
 |0,_,_=>none
 |nL2+1,t17,v8=>
  bif decide (v8<((y98.1.map e_s).length:Int)) then
   (Option.bind (
    bif t17 then
     (Option.bind (C6 y98.2.1 v8) fun y135=>
     Option.bind (C6 y98.1 v8) fun y136=>
     Option.bind (F28 fuel y135 y136) fun y137=>
     Option.bind (F25 fuel y137 y4) fun y138=>
     some (decide (y138<=0)))
    else
     (some false)) fun o12=>
   (Ci2 fuel v6 y4 y5 y98 cL1 nL2) o12 (i64.wrap (v8+1)))
  else
   (Option.bind (
    bif !(t17==(v6==y5.2.2.1)) then
     (some true)
    else
     (bif t17 then
      (Option.bind (F16 fuel y98.1 y98.2.1 y5.1 y5.2.1) fun y141=>
      some (!y141))
     else
      (some false))) fun o13=>
   bif o13 then
    (some false)
   else
    (cL1 (i64.wrap (v6+1))))
def Bw2(fuel:Nat)(d2:Bool)(y2:B6)(y3:Int)(y4:List UInt8)(y5:List (List UInt8)×List (List UInt8)×Int×Int):Nat->Int->Option Bool
 |0,_=>none
 |nL1+1,v6=>
  bif decide (v6<=y5.2.2.1) then
   (Option.bind (F14 fuel y2 y3 d2 v6) fun y98=>
   Option.bind (
    bif y98.2.2 !=0 then
     (some true)
    else
     (bif ((y98.1.map e_s).length:Int) !=((y2.Owner.map A6).length:Int) then
      (some true)
     else
      (bif ((y98.2.1.map e_s).length:Int) !=((y98.1.map e_s).length:Int) then
       (some true)
      else
       (Option.bind (F22 fuel y98.1) fun y142=>
       bif !y142 then
        (some true)
       else
        (Option.bind (F22 fuel y98.2.1) fun y143=>
        some (!y143)))))) fun o10=>
   bif o10 then
    (some false)
   else
    (Ci2 fuel v6 y4 y5 y98 (Bw2 fuel d2 y2 y3 y4 y5 nL1) fuel true 0))
  else
   (some true)
def Ci3(fuel:Nat)(v14:Int)(y4:List UInt8)(y5:List (List UInt8)×List (List UInt8)×Int×Int)(y236:List (List UInt8)×List (List UInt8)×Int)(cL3:Int->Option Bool):Nat->Bool->Int->Option Bool
 |0,_,_=>none
 |nL4+1,t35,v16=>
  bif decide (v16<((y236.1.map e_s).length:Int)) then
   (Option.bind (
    bif t35 then
     (Option.bind (C6 y236.2.1 v16) fun y273=>
     Option.bind (C6 y236.1 v16) fun y274=>
     Option.bind (F28 fuel y273 y274) fun y275=>
     Option.bind (F25 fuel y275 y4) fun y276=>
     some (decide (y276<=0)))
    else
     (some false)) fun o24=>
   (Ci3 fuel v14 y4 y5 y236 cL3 nL4) o24 (i64.wrap (v16+1)))
  else
   (Option.bind (
    bif !(t35==false) then
     (some true)
    else
     (bif t35 then
      (Option.bind (F16 fuel y236.1 y236.2.1 y5.1 y5.2.1) fun y279=>
      some (!y279))
     else
      (some false))) fun o25=>
   bif o25 then
    (some false)
   else
    (cL3 (i64.wrap (v14+1))))
def Bw3(fuel:Nat)(d2:Bool)(d4:Int)(y2:B6)(y3:Int)(y4:List UInt8)(y5:List (List UInt8)×List (List UInt8)×Int×Int):Nat->Int->Option Bool
 |0,_=>none
 |nL3+1,v14=>
  bif decide (v14<=(i64.wrap (Int.tmod d4 6))) then
   (Option.bind (F14 fuel y2 y3 d2 v14) fun y236=>
   Option.bind (
    bif y236.2.2 !=0 then
     (some true)
    else
     (bif ((y236.1.map e_s).length:Int) !=((y2.Owner.map A6).length:Int) then
      (some true)
     else
      (bif ((y236.2.1.map e_s).length:Int) !=((y236.1.map e_s).length:Int) then
       (some true)
      else
       (Option.bind (F22 fuel y236.1) fun y280=>
       bif !y280 then
        (some true)
       else
        (Option.bind (F22 fuel y236.2.1) fun y281=>
        some (!y281)))))) fun o22=>
   bif o22 then
    (some false)
   else
    (Ci3 fuel v14 y4 y5 y236 (Bw3 fuel d2 d4 y2 y3 y4 y5 nL3) fuel true 0))
  else
   (some true)
def F7(fuel:Nat)(d0:B1)(d1:Int)(d2:Bool)(d3:Bj7)(d4:Int):Option Bool:=
 Option.bind (F11 fuel) fun y1=>
 bif !y1 then
  (some false)
 else
  (Option.bind (F17 fuel d0) fun y2=>
  Option.bind (F20 ((y2.Owner.map A6).length:Int) d1) fun y3=>
  Option.bind (F26 fuel (i64.wrap (1+(i64.wrap d3.a0))) (i64.wrap (1+(i64.wrap d3.a1)))) fun y4=>
  Option.bind (F13 fuel y2 y3 d2 y4 (i64.wrap (Int.tmod d4 6))) fun y5=>
  Option.bind (
   bif y5.2.2.2 !=0 then
    (bif y5.2.2.2 !=4 then
     (some true)
    else
     (bif y5.2.2.1 !=0 then
      (some true)
     else
      (bif decide (y5.2.2.1<0) then
       (some true)
      else
       (some (decide (y5.2.2.1>(i64.wrap (Int.tmod d4 6))))))))
   else
    (bif decide (y5.2.2.1<0) then
     (some true)
    else
     (some (decide (y5.2.2.1>(i64.wrap (Int.tmod d4 6))))))) fun o1=>
  bif o1 then
   (some false)
  else
   (bif y5.2.2.2==0 then
    (Bw2 fuel d2 y2 y3 y4 y5 fuel 0)
   else
    (Bw3 fuel d2 d4 y2 y3 y4 y5 fuel 0)))
noncomputable abbrev b7:=C2 Tryz.f7
abbrev G7(r:Bool):=J none Tryz.prog 163 [] (L5 Tryz.prog Tryz.f7 (.b r))
theorem Gp0{fuel:Nat}{d0:B1}{d1:Int}{d2:Bool}{d3:Bj7}{d4:Int}{r:Bool}(hF:F7 fuel d0 d1 d2 d3 d4=some r):
 C3 Tryz.prog 7 [.agg [.y d0.States,.y d0.Owners,.y d0.Grain,.y d0.Cents,.l 8 d0.Picks B8],.d (.int .u16 d1),.b d2,.agg [.y d3.a0,.y d3.a1],.y d4] (.b r):=by
 unfold F7 at hF;refine cf 163 Tryz.func7 ?_;refine jB 9 hF Hl8 Fu2 fun y1 hF=> ?_
 refine jI 2 27 hF ?_ ?_<;>intro hF
 ·cases hF;exact jr 5
 ·refine jB 5 hF Hm1 Fv2 fun y2 hF=> ?_
  refine jB 9 hF Hm3 Fv8 fun y3 hF=> ?_
  refine jB 12 hF Gx2 Dm3 fun y4 hF=> ?_
  refine jB 13 hF Hm0 Fu8 fun y5 hF=> ?_
  obtain⟨o1,hO,hF⟩:=bnd hF;have hR1:G7 r ⟨mkT [(2,.b d2),(11,.ptr 11 0),(12,.n y3),(13,.s y4),(14,.i (i64.wrap (Int.tmod d4 6))),(15,.l 1 y5.1 e_s),(16,.l 1 y5.2.1 e_s),(17,.i y5.2.2.1),(18,.i y5.2.2.2),(76,.b o1)],[(11,.box 26 [.l 1 y2.Owner A6,.l 1 y2.Choices A0])],[kO b7 [1,1,1,1,1,1,0,0],kC b7 [1,1,1,1,1,1,0,1],kC b7 [1,1,1,1,1,1,1]]⟩:=by
   clear hO;refine jI 1 76 hF ?_ ?_<;>intro hF
   ·cases hF;exact jr 5
   ·refine ji 13 79 hF (fun hb13 hF=> ?_) (fun hb13 hF=> ?_)
    ·have hL1:∀(nL1:Nat) (v6:Int),Bw2 fuel d2 y2 y3 y4 y5 nL1 v6=some r->G7 r ⟨mkT [(2,.b d2),(11,.ptr 11 0),(12,.n y3),(13,.s y4),(15,.l 1 y5.1 e_s),(16,.l 1 y5.2.1 e_s),(17,.i y5.2.2.1),(18,.i y5.2.2.2),(19,.i y5.2.2.1),(20,.i v6)],[(11,.box 26 [.l 1 y2.Owner A6,.l 1 y2.Choices A0])],[kL b7 [1,1,1,1,1,1,1,1,1,0,1,0,0],.inBlock 0,kC b7 [1,1,1,1,1,1,1,1,1,1]]⟩:=by
      clear hF;intro nL1
      induction nL1 with
      |zero=>intro v6 hF;cases hF
      |succ nL1 iL1=>
       intro v6 hF;rw[Bw2]at hF;refine jI 8 83 hF ?_ ?_<;>intro hF
       ·refine jB 10 hF Gt9 Dk0 fun y98 hF=> ?_
        obtain⟨o10,hO,hF⟩:=bnd hF;have hR10:G7 r ⟨mkT [(2,.b d2),(11,.ptr 11 0),(12,.n y3),(13,.s y4),(15,.l 1 y5.1 e_s),(16,.l 1 y5.2.1 e_s),(17,.i y5.2.2.1),(18,.i y5.2.2.2),(19,.i y5.2.2.1),(20,.i v6),(21,.l 1 y98.1 e_s),(22,.l 1 y98.2.1 e_s),(121,.b o10)],[(11,.box 26 [.l 1 y2.Owner A6,.l 1 y2.Choices A0])],[kO b7 [1,1,1,1,1,1,1,1,1,0,1,0,0,1,0,0,1,0,0],kC b7 [1,1,1,1,1,1,1,1,1,0,1,0,0,1,0,0,1,0,1],kC b7 [1,1,1,1,1,1,1,1,1,0,1,0,0,1,0,0,1,1],.inBlock 1,kC b7 [1,1,1,1,1,1,1,1,1,0,1,0,0,1,1],kL b7 [1,1,1,1,1,1,1,1,1,0,1,0,0],.inBlock 0,kC b7 [1,1,1,1,1,1,1,1,1,1]]⟩:=by
         clear hO;refine jI 1 121 hF ?_ ?_<;>intro hF
         ·cases hF;exact jr 5
         ·have hL2:∀(nL2:Nat) (t17:Bool) (v8:Int),Ci2 fuel v6 y4 y5 y98 (Bw2 fuel d2 y2 y3 y4 y5 nL1) nL2 t17 v8=some r->G7 r ⟨mkT [(2,.b d2),(11,.ptr 11 0),(12,.n y3),(13,.s y4),(15,.l 1 y5.1 e_s),(16,.l 1 y5.2.1 e_s),(17,.i y5.2.2.1),(18,.i y5.2.2.2),(19,.i y5.2.2.1),(20,.i v6),(21,.l 1 y98.1 e_s),(22,.l 1 y98.2.1 e_s),(24,.b t17),(123,.i ((y98.1.map e_s).length:Int)),(124,.i v8)],[(11,.box 26 [.l 1 y2.Owner A6,.l 1 y2.Choices A0])],[kL b7 [1,1,1,1,1,1,1,1,1,0,1,0,0,1,0,0,1,1,1,0,1,0,0],.inBlock 2,kC b7 [1,1,1,1,1,1,1,1,1,0,1,0,0,1,0,0,1,1,1,1],.inBlock 1,kC b7 [1,1,1,1,1,1,1,1,1,0,1,0,0,1,1],kL b7 [1,1,1,1,1,1,1,1,1,0,1,0,0],.inBlock 0,kC b7 [1,1,1,1,1,1,1,1,1,1]]⟩:=by
           clear hF;intro nL2
           induction nL2 with
           |zero=>intro t17 v8 hF;cases hF
           |succ nL2 iL2=>
            intro t17 v8 hF;rw[Ci2]at hF;refine jI 6 125 hF ?_ ?_<;>intro hF
            ·obtain⟨o12,hO,hF⟩:=bnd hF;have hR12:G7 r ⟨mkT [(2,.b d2),(11,.ptr 11 0),(12,.n y3),(13,.s y4),(15,.l 1 y5.1 e_s),(16,.l 1 y5.2.1 e_s),(17,.i y5.2.2.1),(18,.i y5.2.2.2),(19,.i y5.2.2.1),(20,.i v6),(21,.l 1 y98.1 e_s),(22,.l 1 y98.2.1 e_s),(24,.b o12),(123,.i ((y98.1.map e_s).length:Int)),(124,.i v8)],[(11,.box 26 [.l 1 y2.Owner A6,.l 1 y2.Choices A0])],[.inBlock 3,kC b7 [1,1,1,1,1,1,1,1,1,0,1,0,0,1,0,0,1,1,1,0,1,0,0,1,1,1],kL b7 [1,1,1,1,1,1,1,1,1,0,1,0,0,1,0,0,1,1,1,0,1,0,0],.inBlock 2,kC b7 [1,1,1,1,1,1,1,1,1,0,1,0,0,1,0,0,1,1,1,1],.inBlock 1,kC b7 [1,1,1,1,1,1,1,1,1,0,1,0,0,1,1],kL b7 [1,1,1,1,1,1,1,1,1,0,1,0,0],.inBlock 0,kC b7 [1,1,1,1,1,1,1,1,1,1]]⟩:=by
              clear hO;exact ja 5 (iL2 _ _ hF)
             clear hF;rename _=some o12=>hF
             refine jd 9 ?_;refine dI 2 128 hF ?_ ?_<;>intro hF
             ·obtain⟨y135,e135,hF⟩:=bnd hF;refine do1 2 (gm (f:=e_s) e135) ?_;obtain⟨y136,e136,hF⟩:=bnd hF;refine do1 3 (gm (f:=e_s) e136) ?_;refine dB 1 hF He7 Ep8 fun y137 hF=> ?_
              refine dB 1 hF He6 Ep7 fun y138 hF=> ?_
              refine je 3 ?_;cases hF;exact ja 0 hR12
             ·refine je 14 ?_;cases hF;exact ja 0 hR12
            ·obtain⟨o13,hO,hF⟩:=bnd hF;have hR13:G7 r ⟨mkT [(2,.b d2),(11,.ptr 11 0),(12,.n y3),(13,.s y4),(15,.l 1 y5.1 e_s),(16,.l 1 y5.2.1 e_s),(17,.i y5.2.2.1),(18,.i y5.2.2.2),(19,.i y5.2.2.1),(20,.i v6),(147,.i v6),(148,.i y5.2.2.1),(149,.b (v6==y5.2.2.1)),(162,.b o13)],[(11,.box 26 [.l 1 y2.Owner A6,.l 1 y2.Choices A0])],[kO b7 [1,1,1,1,1,1,1,1,1,0,1,0,0,1,0,0,1,1,1,1,0],kC b7 [1,1,1,1,1,1,1,1,1,0,1,0,0,1,0,0,1,1,1,1,1],.inBlock 1,kC b7 [1,1,1,1,1,1,1,1,1,0,1,0,0,1,1],kL b7 [1,1,1,1,1,1,1,1,1,0,1,0,0],.inBlock 0,kC b7 [1,1,1,1,1,1,1,1,1,1]]⟩:=by
              clear hO;refine jI 1 162 hF ?_ ?_<;>intro hF
              ·cases hF;exact jr 5
              ·exact ja 8 (iL1 _ hF)
             clear hF;rename _=some o13=>hF
             refine C4 8 (Dn4 146 hb13 (by kernel_rfl) ?_);refine jI 6 152 hF ?_ ?_<;>intro hF
             ·cases hF;exact ja 10 hR13
             ·refine jI 2 154 hF ?_ ?_<;>intro hF
              ·refine jB 4 hF He5 Ep0 fun y141 hF=> ?_
               cases hF;exact ja 3 hR13
              ·cases hF;exact ja 8 hR13
          exact ja 15 (hL2 _ _ _ hF)
        clear hF;rename _=some o10=>hF
        refine jI 14 97 hF ?_ ?_<;>intro hF
        ·cases hF;exact ja 24 hR10
        ·refine jI 8 105 hF ?_ ?_<;>intro hF
         ·cases hF;exact ja 16 hR10
         ·refine jI 7 112 hF ?_ ?_<;>intro hF
          ·cases hF;exact ja 9 hR10
          ·refine jB 1 hF Gm5 Cq4 fun y142 hF=> ?_
           refine jI 3 117 hF ?_ ?_<;>intro hF
           ·cases hF;exact ja 4 hR10
           ·refine jB 1 hF Gm5 Cq4 fun y143 hF=> ?_
            cases hF;exact ja 2 hR10
       ·cases hF;exact jr 6
     exact ja 12 (hL1 _ _ hF)
    ·have hL3:∀(nL3:Nat) (v14:Int),Bw3 fuel d2 d4 y2 y3 y4 y5 nL3 v14=some r->G7 r ⟨mkT [(2,.b d2),(11,.ptr 11 0),(12,.n y3),(13,.s y4),(15,.l 1 y5.1 e_s),(16,.l 1 y5.2.1 e_s),(17,.i y5.2.2.1),(18,.i y5.2.2.2),(19,.i (i64.wrap (Int.tmod d4 6))),(20,.i v14)],[(11,.box 26 [.l 1 y2.Owner A6,.l 1 y2.Choices A0])],[kL b7 [1,1,1,1,1,1,1,1,1,0,1,0,0],.inBlock 0,kC b7 [1,1,1,1,1,1,1,1,1,1]]⟩:=by
      clear hF;intro nL3
      induction nL3 with
      |zero=>intro v14 hF;cases hF
      |succ nL3 iL3=>
       intro v14 hF;rw[Bw3]at hF;refine jI 8 83 hF ?_ ?_<;>intro hF
       ·refine jB 10 hF Gt9 Dk0 fun y236 hF=> ?_
        obtain⟨o22,hO,hF⟩:=bnd hF;have hR22:G7 r ⟨mkT [(2,.b d2),(11,.ptr 11 0),(12,.n y3),(13,.s y4),(15,.l 1 y5.1 e_s),(16,.l 1 y5.2.1 e_s),(17,.i y5.2.2.1),(18,.i y5.2.2.2),(19,.i (i64.wrap (Int.tmod d4 6))),(20,.i v14),(21,.l 1 y236.1 e_s),(22,.l 1 y236.2.1 e_s),(121,.b o22)],[(11,.box 26 [.l 1 y2.Owner A6,.l 1 y2.Choices A0])],[kO b7 [1,1,1,1,1,1,1,1,1,0,1,0,0,1,0,0,1,0,0],kC b7 [1,1,1,1,1,1,1,1,1,0,1,0,0,1,0,0,1,0,1],kC b7 [1,1,1,1,1,1,1,1,1,0,1,0,0,1,0,0,1,1],.inBlock 1,kC b7 [1,1,1,1,1,1,1,1,1,0,1,0,0,1,1],kL b7 [1,1,1,1,1,1,1,1,1,0,1,0,0],.inBlock 0,kC b7 [1,1,1,1,1,1,1,1,1,1]]⟩:=by
         clear hO;refine jI 1 121 hF ?_ ?_<;>intro hF
         ·cases hF;exact jr 5
         ·have hL4:∀(nL4:Nat) (t35:Bool) (v16:Int),Ci3 fuel v14 y4 y5 y236 (Bw3 fuel d2 d4 y2 y3 y4 y5 nL3) nL4 t35 v16=some r->G7 r ⟨mkT [(2,.b d2),(11,.ptr 11 0),(12,.n y3),(13,.s y4),(15,.l 1 y5.1 e_s),(16,.l 1 y5.2.1 e_s),(17,.i y5.2.2.1),(18,.i y5.2.2.2),(19,.i (i64.wrap (Int.tmod d4 6))),(20,.i v14),(21,.l 1 y236.1 e_s),(22,.l 1 y236.2.1 e_s),(24,.b t35),(123,.i ((y236.1.map e_s).length:Int)),(124,.i v16)],[(11,.box 26 [.l 1 y2.Owner A6,.l 1 y2.Choices A0])],[kL b7 [1,1,1,1,1,1,1,1,1,0,1,0,0,1,0,0,1,1,1,0,1,0,0],.inBlock 2,kC b7 [1,1,1,1,1,1,1,1,1,0,1,0,0,1,0,0,1,1,1,1],.inBlock 1,kC b7 [1,1,1,1,1,1,1,1,1,0,1,0,0,1,1],kL b7 [1,1,1,1,1,1,1,1,1,0,1,0,0],.inBlock 0,kC b7 [1,1,1,1,1,1,1,1,1,1]]⟩:=by
           clear hF;intro nL4
           induction nL4 with
           |zero=>intro t35 v16 hF;cases hF
           |succ nL4 iL4=>
            intro t35 v16 hF;rw[Ci3]at hF;refine jI 6 125 hF ?_ ?_<;>intro hF
            ·obtain⟨o24,hO,hF⟩:=bnd hF;have hR24:G7 r ⟨mkT [(2,.b d2),(11,.ptr 11 0),(12,.n y3),(13,.s y4),(15,.l 1 y5.1 e_s),(16,.l 1 y5.2.1 e_s),(17,.i y5.2.2.1),(18,.i y5.2.2.2),(19,.i (i64.wrap (Int.tmod d4 6))),(20,.i v14),(21,.l 1 y236.1 e_s),(22,.l 1 y236.2.1 e_s),(24,.b o24),(123,.i ((y236.1.map e_s).length:Int)),(124,.i v16)],[(11,.box 26 [.l 1 y2.Owner A6,.l 1 y2.Choices A0])],[.inBlock 3,kC b7 [1,1,1,1,1,1,1,1,1,0,1,0,0,1,0,0,1,1,1,0,1,0,0,1,1,1],kL b7 [1,1,1,1,1,1,1,1,1,0,1,0,0,1,0,0,1,1,1,0,1,0,0],.inBlock 2,kC b7 [1,1,1,1,1,1,1,1,1,0,1,0,0,1,0,0,1,1,1,1],.inBlock 1,kC b7 [1,1,1,1,1,1,1,1,1,0,1,0,0,1,1],kL b7 [1,1,1,1,1,1,1,1,1,0,1,0,0],.inBlock 0,kC b7 [1,1,1,1,1,1,1,1,1,1]]⟩:=by
              clear hO;exact ja 5 (iL4 _ _ hF)
             clear hF;rename _=some o24=>hF
             refine jd 9 ?_;refine dI 2 128 hF ?_ ?_<;>intro hF
             ·obtain⟨y273,e273,hF⟩:=bnd hF;refine do1 2 (gm (f:=e_s) e273) ?_;obtain⟨y274,e274,hF⟩:=bnd hF;refine do1 3 (gm (f:=e_s) e274) ?_;refine dB 1 hF He7 Ep8 fun y275 hF=> ?_
              refine dB 1 hF He6 Ep7 fun y276 hF=> ?_
              refine je 3 ?_;cases hF;exact ja 0 hR24
             ·refine je 14 ?_;cases hF;exact ja 0 hR24
            ·obtain⟨o25,hO,hF⟩:=bnd hF;have hR25:G7 r ⟨mkT [(2,.b d2),(11,.ptr 11 0),(12,.n y3),(13,.s y4),(15,.l 1 y5.1 e_s),(16,.l 1 y5.2.1 e_s),(17,.i y5.2.2.1),(18,.i y5.2.2.2),(19,.i (i64.wrap (Int.tmod d4 6))),(20,.i v14),(162,.b o25)],[(11,.box 26 [.l 1 y2.Owner A6,.l 1 y2.Choices A0])],[kO b7 [1,1,1,1,1,1,1,1,1,0,1,0,0,1,0,0,1,1,1,1,0],kC b7 [1,1,1,1,1,1,1,1,1,0,1,0,0,1,0,0,1,1,1,1,1],.inBlock 1,kC b7 [1,1,1,1,1,1,1,1,1,0,1,0,0,1,1],kL b7 [1,1,1,1,1,1,1,1,1,0,1,0,0],.inBlock 0,kC b7 [1,1,1,1,1,1,1,1,1,1]]⟩:=by
              clear hO;refine jI 1 162 hF ?_ ?_<;>intro hF
              ·cases hF;exact jr 5
              ·exact ja 8 (iL3 _ hF)
             clear hF;rename _=some o25=>hF
             refine C4 8 (Dn4 146 hb13 (by kernel_rfl) ?_);refine jI 6 152 hF ?_ ?_<;>intro hF
             ·cases hF;exact ja 10 hR25
             ·refine jI 2 154 hF ?_ ?_<;>intro hF
              ·refine jB 4 hF He5 Ep0 fun y279 hF=> ?_
               cases hF;exact ja 3 hR25
              ·cases hF;exact ja 8 hR25
          exact ja 15 (hL4 _ _ _ hF)
        clear hF;rename _=some o22=>hF
        refine jI 14 97 hF ?_ ?_<;>intro hF
        ·cases hF;exact ja 24 hR22
        ·refine jI 8 105 hF ?_ ?_<;>intro hF
         ·cases hF;exact ja 16 hR22
         ·refine jI 7 112 hF ?_ ?_<;>intro hF
          ·cases hF;exact ja 9 hR22
          ·refine jB 1 hF Gm5 Cq4 fun y280 hF=> ?_
           refine jI 3 117 hF ?_ ?_<;>intro hF
           ·cases hF;exact ja 4 hR22
           ·refine jB 1 hF Gm5 Cq4 fun y281 hF=> ?_
            cases hF;exact ja 2 hR22
       ·cases hF;exact jr 6
     exact ja 9 (hL3 _ _ hF)
  clear hF;rename _=some o1=>hF
  refine jI 16 60 hF ?_ ?_<;>intro hF
  ·refine jI 3 63 hF ?_ ?_<;>intro hF
   ·cases hF;exact ja 13 hR1
   ·refine jI 5 68 hF ?_ ?_<;>intro hF
    ·cases hF;exact ja 8 hR1
    ·refine jI 4 72 hF ?_ ?_<;>intro hF
     ·cases hF;exact ja 4 hR1
     ·cases hF;exact ja 4 hR1
  ·refine jI 12 72 hF ?_ ?_<;>intro hF
   ·cases hF;exact ja 4 hR1
   ·cases hF;exact ja 4 hR1
noncomputable abbrev b5:=C2 Tryz.f5
end
end Go.Proofs.YtdlnalepibeibaaGreatDoor
end
section
namespace Go.Proofs.YtdlnalepibeibaaGreatDoor
open Go Go.RowKit Kx Go.IntKind
set_option maxRecDepth 100000
section
def val(B:Int):List Int->Int
 |[]=>0
 |x::l=>x+B*val B l
def dig(B:Int)(l:List Int):Prop:=∀x∈l,0<=x/\x<B
theorem J2{B:Int}:dig B []:=fun _ h=>by cases h
theorem E3{B x:Int}{l:List Int}:dig B (x::l)↔(0<=x/\x<B)/\dig B l:=by
 unfold dig;simp
theorem Al1{B:Int}{l m:List Int}:dig B (l++m)↔dig B l/\dig B m:=by
 unfold dig;simp only[List.mem_append];exact⟨fun h=>⟨fun x hx=>h x (Or.inl hx),fun x hx=>h x (Or.inr hx)⟩,fun h x hx=>hx.elim (h.1 x) (h.2 x)⟩
theorem F9{B:Int}{l:List Int}(h:dig B l)(i:Nat):dig B (l.take i):=fun x hx=>h x (List.mem_of_mem_take hx)
theorem L8{B:Int}{l:List Int}(h:dig B l)(i:Nat):dig B (l.drop i):=fun x hx=>h x (List.mem_of_mem_drop hx)
theorem Dq2{B:Int}{l:List Int}(h:dig B l){i:Nat}(hi:i<l.length):0<=l[i]/\l[i]<B:=h _ (List.getElem_mem hi)
theorem Al2{B:Int}{l:List Int}(h:dig B l)(i:Nat){y:Int}(hy:0<=y/\y<B):dig B (l.set i y):=fun x hx=>by
 rcases List.mem_or_eq_of_mem_set hx with h1|h1
 ·exact h x h1
 ·subst h1;exact hy
theorem Ao1{B:Int}(hB:0<B)(n:Nat):dig B (List.replicate n 0):=fun x hx=>by
 rw[(List.mem_replicate.mp hx).2];omega
theorem Am3{B:Int}:∀(l m:List Int),val B (l++m)=val B l+B^l.length*val B m
 |[],m=>by simp[val]
 |x::l,m=>by
  rw[List.cons_append,val,val,Am3 l m,List.length_cons,Int.pow_succ'];grind
theorem M5{B:Int}(hB:0<B):∀{l:List Int},dig B l->0<=val B l
 |[],_=>Int.le_refl _
 |x::l,h=>by
  have h:=E3.mp h;have:=M5 hB h.2;rw[val];have:=Int.mul_nonneg (Int.le_of_lt hB) this;omega
theorem R8{B:Int}(hB:0<B)(n:Nat):0<B^n:=Int.pow_pos hB
theorem Ar2{B:Int}(hB:0<B):∀{l:List Int},dig B l->val B l<B^l.length
 |[],_=>by simp[val]
 |x::l,h=>by
  have h:=E3.mp h;have h1:=Ar2 hB h.2;rw[val,List.length_cons,Int.pow_succ'];have h2:val B l+1<=B^l.length:=h1;have h3:=Int.mul_le_mul_of_nonneg_left h2 (Int.le_of_lt hB);rw[Int.mul_add]at h3;omega
theorem U8{B:Int}(l:List Int)(i:Nat)(hi:i<=l.length):val B l=val B (l.take i)+B^i*val B (l.drop i):=by
 have:=Am3 (B:=B) (l.take i) (l.drop i)
 rwa [List.take_append_drop,List.length_take,Nat.min_eq_left hi]at this
theorem Am4{B:Int}:∀(l:List Int) (i:Nat) (hi:i<l.length) (y:Int),val B (l.set i y)=val B l+(y-l[i])*B^i
 |x::l,0,_,y=>by simp[val];omega
 |x::l,i+1,hi,y=>by
  have ih:=Am4 (B:=B) l i (by simpa using hi) y;rw[List.set_cons_succ,val,val,ih,List.getElem_cons_succ,Int.pow_succ'];grind
theorem Ar3{B:Int}:∀(n:Nat),val B (List.replicate n 0)=0
 |0=>rfl
 |n+1=>by rw[List.replicate_succ,val,Ar3 n];simp
theorem S3{B:Int}{l:List Int}{i:Nat}(hi:i<l.length):val B (l.take (i+1))=val B (l.take i)+l[i]*B^i:=by
 rw[List.take_succ_eq_append_getElem hi,Am3,List.length_take,Nat.min_eq_left (by omega)];simp[val];grind
theorem Az7{B:Int}{l:List Int}{i:Nat}(hi:i<l.length):val B (l.drop i)=l[i]+B*val B (l.drop (i+1)):=by
 rw[List.drop_eq_getElem_cons hi,val]
def dgF(B:Int):Nat->Int->List Int
 |0,_=>[]
 |k+1,n=>if n<=0 then[] else n%B::dgF B k (n/B)
def dg(B:Int)(n:Int):List Int:=dgF B n.toNat n
theorem Ck8{B n:Int}(hB:1<B)(hn:0<n):n/B<n:=by
 have h1:=Int.emod_add_mul_ediv n B;have h2:=Int.emod_nonneg n (show B≠0 by omega);have h3:=Int.ediv_nonneg (Int.le_of_lt hn) (show(0:Int)<=B by omega);by_cases h:n/B=0
 ·omega
 ·have h4:=Int.mul_le_mul_of_nonneg_right (show(2:Int)<=B by omega) h3;omega
theorem Ct9{B:Int}(hB:1<B):∀(k j:Nat) (n:Int),n.toNat<=k->n.toNat<=j->dgF B k n=dgF B j n
 |0,0,_,_,_=>rfl
 |0,j+1,n,h,_=>by rw[dgF,dgF,if_pos (by omega)]
 |k+1,0,n,_,h=>by rw[dgF,dgF,if_pos (by omega)]
 |k+1,j+1,n,h,h'=>by
  rw[dgF,dgF];split
  ·rfl
  ·have:=Ck8 hB (n:=n) (by omega);rw[Ct9 hB k j (n/B) (by omega) (by omega)]
theorem E9{B n:Int}(hn:n<=0):dg B n=[]:=by
 unfold dg;rw[show n.toNat=0 by omega];rfl
theorem N4{B n:Int}(hB:1<B)(hn:0<n):dg B n=n%B::dg B (n/B):=by
 unfold dg;obtain⟨k,hk⟩:∃k,n.toNat=k+1:=⟨n.toNat-1,by omega⟩
 have:=Ck8 hB hn;rw[hk,dgF,if_neg (by omega),Ct9 hB k (n/B).toNat (n/B) (by omega) (Nat.le_refl _)]
theorem Bz0{B:Int}(hB:1<B){P:Int->Prop}(h0:P 0)(h1:∀n,0<n->P (n/B)->P n):∀(n:Int),0<=n->P n:=by
 have:∀(k:Nat) (n:Int),0<=n->n.toNat<=k->P n:=by
  intro k
  induction k with
  |zero=>intro n hn hk;rw[show n=0 by omega];exact h0
  |succ k ih=>
   intro n hn hk;by_cases h:n=0
   ·rw[h];exact h0
   ·have:=Ck8 hB (n:=n) (by omega);exact h1 n (by omega) (ih (n/B) (Int.ediv_nonneg hn (by omega)) (by omega))
 exact fun n hn=>this n.toNat n hn (Nat.le_refl _)
theorem I9{B:Int}(hB:1<B):∀n,0<=n->val B (dg B n)=n:=
 Bz0 hB (by rw[E9 (Int.le_refl _)];rfl) fun n hn ih=>by
  rw[N4 hB hn,val,ih];exact Int.emod_add_mul_ediv n B
theorem H6{B:Int}(hB:1<B):∀n,0<=n->dig B (dg B n):=
 Bz0 hB (by rw[E9 (Int.le_refl _)];exact J2) fun n hn ih=>by
  rw[N4 hB hn];exact E3.mpr ⟨⟨Int.emod_nonneg _ (by omega),Int.emod_lt_of_pos _ (by omega)⟩,ih⟩
theorem Ck5{B x v:Int}(hB:1<B)(hx:0<=x/\x<B)(_:0<=v)(h:0<x+B*v):dg B (x+B*v)=x::dg B v:=by
 rw[N4 hB h];have e1:(x+B*v)%B=x:=by
  rw[Int.add_mul_emod_self_left];exact Int.emod_eq_of_lt hx.1 hx.2
 have e2:(x+B*v)/B=v:=by
  rw[Int.add_mul_ediv_left _ _ (by omega),Int.ediv_eq_zero_of_lt hx.1 hx.2];omega
 rw[e1,e2]
def Bh4:List Int->List Int
 |[]=>[]
 |x::l=>match Bh4 l with
  |[]=>if x=0 then[] else[x]
  |y::m=>x::y::m
theorem Bh5{B:Int}(hB:1<B):∀{l:List Int},dig B l->Bh4 l=dg B (val B l)
 |[],_=>by rw[val,E9 (Int.le_refl _)];rfl
 |x::l,h=>by
  have h:=E3.mp h;have ih:=Bh5 hB h.2;have hn:=M5 (show 0<B by omega) h.2;rw[Bh4,val];by_cases hv:val B l=0
  ·rw[hv,E9 (Int.le_refl _)]at ih;rw[ih,hv];dsimp only;by_cases hx:x=0
   ·rw[if_pos hx,hx,E9 (by omega)]
   ·rw[if_neg hx,Ck5 hB h.1 (Int.le_refl _) (by omega),E9 (Int.le_refl _)]
  ·have hp:0<B*val B l:=Int.mul_pos (by omega) (by omega);rw[Ck5 hB h.1 hn (by omega),<-ih];have:Bh4 l≠[]:=by
    rw[ih,N4 hB (by omega)];simp
   cases ht:Bh4 l with
   |nil=>exact absurd ht this
   |cons y m=>rfl
theorem Av2:∀(l:List Int),Bh4 (l++[0])=Bh4 l
 |[]=>rfl
 |x::l=>by rw[List.cons_append,Bh4,Av2 l,Bh4]
theorem Aq8{y:Int}(hy:y≠0):∀(l:List Int),Bh4 (l++[y])=l++[y]
 |[]=>by simp[Bh4,hy]
 |x::l=>by
  rw[List.cons_append,Bh4,Aq8 hy l];cases l<;>rfl
theorem G8{B:Int}(hB:1<B):∀{L:Nat} {n:Int},n<B^L->(dg B n).length<=L
 |0,n,h=>by rw[E9 (by simp at h;omega)];simp
 |L+1,n,h=>by
  by_cases hn:n<=0
  ·rw[E9 hn];simp
  ·rw[N4 hB (by omega),List.length_cons];have:n/B<B^L:=Int.ediv_lt_of_lt_mul (by omega) (by rw[Int.pow_succ]at h;exact h);have:=G8 hB this;omega
theorem Ad7{B:Int}(hB:1<B){n:Int}(hn:0<=n):n<B^(dg B n).length:=by
 have:=Ar2 (show 0<B by omega) (H6 hB n hn)
 rwa [I9 hB n hn]at this
theorem Ei7{B:Int}(hB:1<B){n:Int}(hn:0<n):B^((dg B n).length-1)<=n:=by
 have key:∀n,0<=n->0<n->B^((dg B n).length-1)<=n:=by
  refine Bz0 hB (fun h=>absurd h (by omega)) fun n hn ih h=> ?_
  rw[N4 hB hn,List.length_cons,Nat.add_sub_cancel];have h0:=Int.ediv_nonneg (Int.le_of_lt hn) (show(0:Int)<=B by omega);by_cases hq:n/B=0
  ·rw[hq,E9 (Int.le_refl _)];simp;omega
  ·have ih:=ih (by omega);have hl:(dg B (n/B)).length=((dg B (n/B)).length-1)+1:=by
    have:0<(dg B (n/B)).length:=by rw[N4 hB (by omega)];simp
    omega
   rw[hl,Int.pow_succ'];have h1:=Int.mul_le_mul_of_nonneg_left ih (show(0:Int)<=B by omega);have h2:=Int.emod_add_mul_ediv n B;have h3:=Int.emod_nonneg n (show B≠0 by omega);omega
 exact key n (Int.le_of_lt hn) hn
theorem F0{B:Int}(hB:1<B){i j:Nat}(h:i<=j):B^i<=B^j:=by
 obtain⟨d,rfl⟩:=Nat.le.dest h;rw[Int.pow_add];have h1:=R8 (show 0<B by omega) i;have h2:=R8 (show 0<B by omega) d;have:=Int.mul_le_mul_of_nonneg_left (show 1<=B^d by omega) (Int.le_of_lt h1);rw[Int.mul_one]at this;exact this
theorem K3{B:Int}(hB:1<B){a b:Int}(ha:0<=a)(hb:0<=b)(h:(dg B a).length<(dg B b).length):a<b:=by
 have h1:=Ad7 hB ha;have hb':0<b:=by
  by_cases h0:b=0
  ·rw[h0,E9 (Int.le_refl _)]at h;simp at h
  ·omega
 have h2:=Ei7 hB hb';have h3:=F0 hB (show(dg B a).length<=(dg B b).length-1 by omega);omega
theorem At7{B:Int}(hB:1<B){n:Int}(hn:0<n):∃l y,dg B n=l++[y]/\0<y/\y<B:=by
 have key:∀n,0<=n->0<n->∃l y,dg B n=l++[y]/\0<y/\y<B:=by
  refine Bz0 hB (fun h=>absurd h (by omega)) fun n hn ih h=> ?_
  rw[N4 hB hn];have h0:=Int.ediv_nonneg (Int.le_of_lt hn) (show(0:Int)<=B by omega);have h2:=Int.emod_add_mul_ediv n B;have h3:=Int.emod_nonneg n (show B≠0 by omega);have h4:=Int.emod_lt_of_pos n (show 0<B by omega);by_cases hq:n/B=0
  ·rw[hq]at h2;exact⟨[],n%B,by rw[hq,E9 (Int.le_refl _)];rfl,by omega,h4⟩
  ·obtain⟨l,y,e,hy⟩:=ih (by omega);exact⟨n%B::l,y,by rw[e];rfl,hy⟩
 exact key n (Int.le_of_lt hn) hn
theorem Bi9{B:Int}(hB:1<B){n:Int}(hn:0<n):dg B n≠[]:=by rw[N4 hB hn];simp
theorem Dd8{B:Int}(hB:1<B){n:Int}(hn:0<=n):dg B n=[]↔n=0:=by
 constructor
 ·intro h;by_cases h0:n=0
  ·exact h0
  ·exact absurd h (Bi9 hB (by omega))
 ·intro h;rw[h];exact E9 (Int.le_refl _)
theorem Es8{B:Int}(hB:1<B){l:List Int}{y:Int}(hd:dig B (l++[y]))(hy:y≠0):dg B (val B (l++[y]))=l++[y]:=by
 rw[<-Bh5 hB hd,Aq8 hy]
theorem Bv3{B:Int}(hB:0<B){m o:List Int}(hm:dig B m)(ho:dig B o){i:Nat}(h1:i<m.length)(h2:i<o.length)(he:m.drop (i+1)=o.drop (i+1))(hl:m[i]<o[i]):val B m<val B o:=by
 rw[U8 m i (by omega),U8 o i (by omega),Az7 h1,Az7 h2,he];have a:=Ar2 hB (F9 hm i);rw[List.length_take,Nat.min_eq_left (by omega)]at a;have b:=M5 hB (F9 ho i);have p:=R8 hB i;have c:=Int.mul_le_mul_of_nonneg_left (show m[i]+1<=o[i] from hl) (Int.le_of_lt p);rw[Int.mul_add]at c;rw[Int.mul_add,Int.mul_add];omega
end
section
def Ev(p:Nat->Prop):Prop:=∃k,∀n,k<=n->p n
theorem Ev.of{p:Nat->Prop}(h:∀n,p n):Ev p:=⟨0,fun n _=>h n⟩
theorem Ev.from_{p:Nat->Prop}(k:Nat)(h:∀n,k<=n->p n):Ev p:=⟨k,h⟩
theorem Ev.mono{p q:Nat->Prop}(hp:Ev p)(h:∀n,p n->q n):Ev q:=hp.imp fun _ hk n hn=>h n (hk n hn)
theorem Ev.and{p q:Nat->Prop}(hp:Ev p)(hq:Ev q):Ev fun n=>p n/\q n:=by
 obtain⟨a,ha⟩:=hp;obtain⟨b,hb⟩:=hq;exact⟨a+b,fun n hn=>⟨ha n (by omega),hb n (by omega)⟩⟩
theorem Ev.ex{p:Nat->Prop}(hp:Ev p):∃n,p n:=by obtain⟨k,h⟩:=hp;exact⟨k,h k (Nat.le_refl _)⟩
theorem sb{α β:Type}(x:α)(f:α->Option β):Option.bind (some x) f=f x:=rfl
theorem E7{i:Int}(h0: -9223372036854775808<=i)(h1:i<9223372036854775808):i64.wrap i=i:=by
 have e64:(2^i64.bits:Int)=18446744073709551616:=rfl;have e63:(2^(i64.bits-1):Int)=9223372036854775808:=rfl;unfold IntKind.wrap;simp only[e64,e63,show i64.signed=true from rfl,Bool.true_and,decide_eq_true_eq];split<;>omega
theorem O1{i:Int}(h0:0<=i)(h1:i<18446744073709551616):u64.wrap i=i:=by
 have e64:(2^u64.bits:Int)=18446744073709551616:=rfl;unfold IntKind.wrap;simp only[e64,show u64.signed=false from rfl,Bool.false_and];rw[if_neg (by decide)];exact Int.emod_eq_of_lt h0 h1
theorem Ar5{i:Int}(h0:0<=i)(h1:i<4294967296):u32.wrap i=i:=by
 have e64:(2^u32.bits:Int)=4294967296:=rfl;unfold IntKind.wrap;simp only[e64,show u32.signed=false from rfl,Bool.false_and];rw[if_neg (by decide)];exact Int.emod_eq_of_lt h0 h1
theorem Ha4{i:Int}(h0: -9223372036854775808<=i)(h1:i<0):u64.wrap (0-u64.wrap i)= -i:=by
 have e64:(2^u64.bits:Int)=18446744073709551616:=rfl;unfold IntKind.wrap;simp only[e64,show u64.signed=false from rfl,Bool.false_and];rw[if_neg (by decide),if_neg (by decide)];omega
theorem tdm{a b:Int}(ha:0<=a):Int.tdiv a b=a/b/\Int.tmod a b=a%b:=⟨Int.tdiv_eq_ediv_of_nonneg ha,Int.tmod_eq_emod_of_nonneg ha⟩
theorem Ab9{α:Type}(l:List α)(k:Nat):C6 l (k:Int)=l[k]? :=by simp[C6]
theorem C7{α:Type}{l:List α}{k:Nat}(h:k<l.length):C6 l (k:Int)=some l[k]:=by rw[Ab9,List.getElem?_eq_getElem h]
theorem Eu8{α:Type}{l:List α}{v:Int}(h0:0<=v)(h:v.toNat<l.length):C6 l v=some l[v.toNat]:=by
 obtain⟨k,rfl⟩:∃k:Nat,v=(k:Int):=⟨v.toNat,by omega⟩
 exact C7 (by simpa using h)
theorem E1{α:Type}{b:Bool}{x:Option α}(h:b=true):ass b x=x:=by subst h;rfl
theorem V1{α:Type}(l m:List α)(h:l.length+m.length<=2147483648):app l m=some (l++m):=by
 unfold app;rw[show decide (l.length+m.length<=2147483648)=true from dT_ h];rfl
theorem dlt{α β:Type}{l:List α}{f:α->β}{i:Nat}(h:i<l.length):decide ((i:Int)<((l.map f).length:Int))=true:=dT_ (by rw[List.length_map];omega)
theorem dge{α β:Type}{l:List α}{f:α->β}{i:Nat}(h:l.length<=i):decide ((i:Int)<((l.map f).length:Int))=false:=dF_ (by rw[List.length_map];omega)
theorem wi(i:Nat)(h:i<4000000000000000000):i64.wrap ((i:Int)+1)=((i+1:Nat):Int):=by
 rw[E7 (i:=(i:Int)+1) (by omega) (by omega)];omega
theorem wip(i:Nat)(h:i<4000000000000000000):i64.wrap ((i:Int)-1)=(i:Int)-1:=E7 (by omega) (by omega)
theorem Em6{α:Type}{c:Int}(h0:0<=c)(h:c<=2147483648)(x:α):mkL 0 c x=some []:=by
 unfold mkL;rw[show(decide ((0:Int)<=0)&&decide ((0:Int)<=c)&&decide (c<=2147483648))=true by simp;omega];rfl
theorem Bf2{α:Type}{n:Nat}(h:n<=2147483648)(x:α):mkL (n:Int) (n:Int) x=some (List.replicate n x):=by
 unfold mkL;rw[show(decide ((0:Int)<=(n:Int))&&decide ((n:Int)<=(n:Int))&&decide ((n:Int)<=2147483648))=true by simp;omega];simp
def R5(a b:Int):Int:=if a<b then-1 else if a>b then 1 else 0
theorem J1{a:Int}:R5 a a=0:=by simp[R5]
theorem D8{a b:Int}(h:a<b):R5 a b= -1:=by simp[R5,h]
theorem D9{a b:Int}(h:b<a):R5 a b=1:=by unfold R5;rw[if_neg (by omega),if_pos h]
theorem Es4{a b:Int}:R5 a b=0↔a=b:=by
 unfold R5;split
 ·constructor<;>intro h<;>omega
 ·split<;>constructor<;>intro h<;>omega
theorem Ct3{a b:Int}:R5 (-a) (-b)=R5 b a:=by
 unfold R5;split<;>split<;>first|rfl|(split<;>first|rfl|omega)|omega
theorem Ct5(a b:Int):Fr1 a b=some (R5 a b):=by
 unfold Fr1 Fv9 R5;simp only[sb,bne_self_eq_false,cond_false];by_cases h:a<b
 ·simp[h]
 ·by_cases h':a>b<;>simp[h,h']
theorem Ei4(a b:Int):Fw0 a b=some (R5 a b):=by
 unfold Fw0 Fw4 R5;simp only[sb,bne_self_eq_false,cond_false];by_cases h:a<b
 ·simp[h]
 ·by_cases h':a>b<;>simp[h,h']
theorem Gl9{a b:Int}:(R5 a b !=0)=decide (a≠b):=by
 by_cases h:a=b
 ·subst h;simp[J1]
 ·have:R5 a b≠0:=fun e=>h (Es4.1 e)
  simp[h,this]
def sg(neg:Bool)(v:Int):Int:=bif neg then-v else v
def W(n:Int):A3:=⟨decide (n<0),dg 1000000000 (n.natAbs:Int)⟩
theorem hB1:(1:Int)<1000000000:=by decide
theorem Gq2{neg:Bool}{v:Int}(hv:0<=v):W (sg neg v)=⟨neg&&decide (v≠0),dg 1000000000 v⟩:=by
 unfold W sg;cases neg
 ·simp only[cond_false,Bool.false_and];rw[show((v.natAbs:Nat):Int)=v by omega,dF_ (by omega)]
 ·simp only[cond_true,Bool.true_and];rw[show(((-v).natAbs:Nat):Int)=v by omega];congr 1;rw[decide_eq_decide];omega
def sz(L:Nat)(n:Int):Prop:=(n.natAbs:Int)<1000000000^L
theorem Ec6{d0:Bool}:∀(k:Nat) (l:List Int),l.length<k->l.length<=2147483648->As0 d0 k l=some ⟨d0&&decide (Bh4 l≠[]),Bh4 l⟩
 |0,l,h,_=>absurd h (by omega)
 |k+1,l,h,hl=>by
  unfold As0;rcases List.eq_nil_or_concat l with rfl|⟨m,y,rfl⟩
  ·simp[Bh4]
  ·rw[List.concat_eq_append]at*;simp only[List.length_append,List.length_cons,List.length_nil]at h hl;have hw:i64.wrap ((((m++[y]).map A5).length:Int)-1)=((m.length:Nat):Int):=by
    rw[List.length_map,List.length_append];simp only[List.length_cons,List.length_nil];rw[E7 (by omega) (by omega)];omega
   have hg:C6 (m++[y]) ((m.length:Nat):Int)=some y:=by rw[Ab9];simp
   have hp:decide ((((m++[y]).map A5).length:Int)>0)=true:=dT_ (by rw[List.length_map,List.length_append];simp);rw[hp,hw,hg];simp only[cond_true,sb];by_cases hy:y=0
   ·subst hy;have hs:slc (m++[0]) 0 ((m.length:Nat):Int)=some m:=by
     unfold slc;have:((m.length:Nat):Int)<=(((m++[(0:Int)]).length:Nat):Int):=by simp;omega
     simp only[dT_ this,Int.le_refl,decide_true,Bool.and_true,dT_ (Int.natCast_nonneg m.length),cond_true];simp
    simp only[beq_self_eq_true,cond_true,hs,sb];rw[Ec6 k m (by omega) (by omega),Av2]
   ·have:(y==0)=false:=by simpa using hy
    simp only[this,cond_false];rw[Aq8 hy];cases d0<;>simp
theorem N8{fuel:Nat}{neg:Bool}{l:List Int}(hd:dig 1000000000 l)(hl:l.length<=2147483648)(hf:l.length<fuel):Bi0 fuel neg l=some (W (sg neg (val 1000000000 l))):=by
 have hv:=M5 (show(0:Int)<1000000000 by decide) hd;unfold Bi0;rw[Ec6 fuel l hf hl,Gq2 hv,Bh5 hB1 hd];congr 2;rw[decide_eq_decide.2 (show dg 1000000000 (val 1000000000 l)≠[]↔val 1000000000 l≠0 from not_congr (Dd8 hB1 hv))]
theorem Bu8{d0:Int}:∀(v:Int),0<=v->v<18446744073709551616->∀(k:Nat) (acc:List Int),(dg 1000000000 v).length<k->acc.length+(dg 1000000000 v).length<=2147483648->V5 d0 k v acc=some ⟨decide (d0<0),acc++dg 1000000000 v⟩:=by
 intro v hv;refine Bz0 hB1 (P:=fun v=>v<18446744073709551616->∀(k:Nat) (acc:List Int),(dg 1000000000 v).length<k->acc.length+(dg 1000000000 v).length<=2147483648->V5 d0 k v acc=some ⟨decide (d0<0),acc++dg 1000000000 v⟩) ?_ ?_ v hv
 ·intro _ k acc hk _;cases k with
  |zero=>omega
  |succ k=>
   unfold V5;simp[E9]
 ·intro n hn ih h64 k acc hk hl;rw[N4 hB1 hn,List.length_cons]at hk hl;cases k with
  |zero=>omega
  |succ k=>
   unfold V5;have h1:=Int.emod_nonneg n (show(1000000000:Int)≠0 by decide);have h2:=Int.emod_lt_of_pos n (show(0:Int)<1000000000 by decide);have h3:n/1000000000<=n:=Int.ediv_le_self _ (by omega);have h4:0<=n/1000000000:=Int.ediv_nonneg (by omega) (by decide);rw[dT_ (show n>0 from hn),(tdm (by omega:0<=n)).1,(tdm (by omega:0<=n)).2,Ar5 h1 (by omega),O1 h4 (by omega),V1 _ _ (by simp;omega)];simp only[cond_true,sb];rw[ih (by omega) k _ (by omega) (by simp;omega),N4 hB1 hn];simp
theorem Da0{d0:Int}:∀(k:Nat) (v:Int) (acc:List Int),Ba8 d0 k v acc=V5 d0 k v acc
 |0,_,_=>rfl
 |k+1,v,acc=>by
  unfold Ba8 V5;have:Ba8 d0 k=V5 d0 k:=by funext v acc;exact Da0 k v acc
  rw[this]
theorem Aq6{fuel:Nat}{n:Int}(h0: -9223372036854775808<=n)(h1:n<9223372036854775808)(hf:10<=fuel):F73 fuel n=some (W n):=by
 have hl:∀v:Int,0<=v->v<18446744073709551616->(dg 1000000000 v).length<=3:=fun v _ h=>G8 hB1 (by
  have:(1000000000:Int)^3=1000000000000000000000000000:=by decide
  omega)
 unfold F73 W;by_cases h:n<0
 ·rw[dT_ h];simp only[cond_true];have:=hl (-n) (by omega) (by omega);rw[Ha4 h0 h,Bu8 _ (by omega) (by omega) _ _ (by omega) (by simp;omega),dT_ h,show((n.natAbs:Nat):Int)= -n by omega];rfl
 ·rw[dF_ h];simp only[cond_false];have:=hl n (by omega) (by omega);rw[O1 (by omega) (by omega),Da0,Bu8 _ (by omega) (by omega) _ _ (by omega) (by simp;omega),dF_ h,show((n.natAbs:Nat):Int)=n by omega];rfl
theorem By7{m o:List Int}(hm:dig 1000000000 m)(ho:dig 1000000000 o)(he:m.length=o.length)(hl:m.length<=2147483648):∀(i k:Nat),i<=m.length->i<k->m.drop i=o.drop i->Ak2 m o k ((i:Int)-1)=some (R5 (val 1000000000 m) (val 1000000000 o))
 |0,0,_,h,_=>absurd h (by omega)
 |0,k+1,_,_,hd=>by
  unfold Ak2;rw[List.drop_zero,List.drop_zero]at hd;subst hd;simp[J1]
 |i+1,0,_,h,_=>absurd h (by omega)
 |i+1,k+1,hi,hk,hd=>by
  unfold Ak2;rw[show(((i+1:Nat):Int)-1)=((i:Nat):Int) by omega,dT_ (show((i:Nat):Int)>=0 by omega),C7 (l:=m) (by omega),C7 (l:=o) (by omega)];simp only[cond_true,sb,Ei4,Gl9];by_cases h:m[i]=o[i]
  ·rw[dF_ (by simpa using h)];simp only[cond_false];rw[wip i (by omega)];exact By7 hm ho he hl i k (by omega) (by omega) (by rw[List.drop_eq_getElem_cons (show i<m.length by omega),List.drop_eq_getElem_cons (show i<o.length by omega),h,hd])
  ·rw[dT_ h];simp only[cond_true];rcases Int.lt_or_gt_of_ne h with h'|h'
   ·rw[D8 h',D8 (Bv3 (by decide) hm ho (by omega) (by omega) hd h')]
   ·rw[D9 h',D9 (Bv3 (by decide) ho hm (by omega) (by omega) hd.symm h')]
theorem Ag3{fuel:Nat}{a b:Int}(ha:0<=a)(hb:0<=b)(hl:(dg 1000000000 a).length<=2147483648)(hl2:(dg 1000000000 b).length<=2147483648)(hf:(dg 1000000000 a).length<fuel):Dk6 fuel (dg 1000000000 a) (dg 1000000000 b)=some (R5 a b):=by
 unfold Dk6;rw[Ct5,sb,Gl9,List.length_map,List.length_map];by_cases h:(dg 1000000000 a).length=(dg 1000000000 b).length
 ·rw[dF_ (by omega)];simp only[cond_false];rw[wip _ (by omega),By7 (H6 hB1 a ha) (H6 hB1 b hb) h hl _ fuel (Nat.le_refl _) hf (by rw[List.drop_of_length_le (Nat.le_refl _),List.drop_of_length_le (by omega)]),I9 hB1 a ha,I9 hB1 b hb]
 ·rw[dT_ (by omega)];simp only[cond_true];rcases Nat.lt_or_gt_of_ne h with h'|h'
  ·rw[D8 (by omega),D8 (K3 hB1 ha hb h')]
  ·rw[D9 (by omega),D9 (K3 hB1 hb ha h')]
end
section
theorem Ar4{l:List Int}(h:dig 1000000000 l){i:Nat}(hi:i<l.length):0<=l[i]/\l[i]<1000000000:=Dq2 h hi
theorem Ah5{l:List Int}{i:Nat}(hi:i<l.length):val 1000000000 (l.drop i)=l[i]+1000000000*val 1000000000 (l.drop (i+1)):=Az7 hi
theorem O4{l:List Int}{i:Nat}(hi:l.length<=i):val 1000000000 (l.drop i)=0:=by rw[List.drop_of_length_le hi];rfl
theorem Cf7(x:Int)(l:List Int):val 1000000000 (x::l)=x+1000000000*val 1000000000 l:=rfl
theorem Cy6{m o:List Int}(hm:dig 1000000000 m)(ho:dig 1000000000 o)(hle:o.length<=m.length)(hb:m.length<=1073741824):∀(r i k:Nat) (c:Int) (acc:List Int),i+r=m.length->r<k->0<=c->c<=1->acc.length=i->
 ∃t,W9 m o k c (i:Int) acc=some (acc++t)/\dig 1000000000 t/\t.length<=r+1/\val 1000000000 t=val 1000000000 (m.drop i)+val 1000000000 (o.drop i)+c
 |0,i,0,_,_,_,h,_,_,_=>absurd h (by omega)
 |r+1,i,0,_,_,_,h,_,_,_=>absurd h (by omega)
 |0,i,k+1,c,acc,hi,_,h0,h1,ha=>by
  unfold W9;rw[dge (by omega),O4 (by omega:m.length<=i),O4 (by omega:o.length<=i)];simp only[cond_false];by_cases hc:c>0
  ·rw[dT_ hc,V1 _ _ (by simp;omega)];refine⟨[c],rfl,E3.2 ⟨⟨h0,by omega⟩,J2⟩,by simp,by simp[val]⟩
  ·rw[dF_ hc];refine⟨[],by simp,J2,by simp,by simp[val];omega⟩
 |r+1,i,k+1,c,acc,hi,hk,h0,h1,ha=>by
  unfold W9;obtain⟨a1,a2⟩:=Ar4 hm (show i<m.length by omega);rw[dlt (by omega),C7 (l:=m) (by omega),Ah5 (l:=m) (by omega)];simp only[cond_true,sb];rw[Ar5 (i:=m[i]+c) (by omega) (by omega),wi i (by omega)];by_cases hio:i<o.length
  ·obtain⟨b1,b2⟩:=Ar4 ho hio;rw[dlt hio,C7 (l:=o) hio,Ah5 (l:=o) hio];simp only[cond_true,sb];rw[Ar5 (i:=m[i]+c+o[i]) (by omega) (by omega),(tdm (show 0<=m[i]+c+o[i] by omega)).1,(tdm (show 0<=m[i]+c+o[i] by omega)).2,Ar5 (by omega) (by omega),V1 _ _ (by simp;omega)];simp only[sb];obtain⟨t,e1,e2,e3,e4⟩:=Cy6 hm ho hle hb r (i+1) k ((m[i]+c+o[i])/1000000000) (acc++[(m[i]+c+o[i])%1000000000]) (by omega) (by omega) (by omega) (by omega) (by simp;omega);refine⟨(m[i]+c+o[i])%1000000000::t,by rw[e1];simp,E3.2 ⟨⟨by omega,by omega⟩,e2⟩,by simp;omega,?_⟩;rw[Cf7,e4];omega
  ·rw[dge (by omega),O4 (by omega:o.length<=i)];simp only[cond_false];rw[(tdm (show 0<=m[i]+c by omega)).1,(tdm (show 0<=m[i]+c by omega)).2,Ar5 (by omega) (by omega),V1 _ _ (by simp;omega)];simp only[sb];obtain⟨t,e1,e2,e3,e4⟩:=Cy6 hm ho hle hb r (i+1) k ((m[i]+c)/1000000000) (acc++[(m[i]+c)%1000000000]) (by omega) (by omega) (by omega) (by omega) (by simp;omega);refine⟨(m[i]+c)%1000000000::t,by rw[e1];simp,E3.2 ⟨⟨by omega,by omega⟩,e2⟩,by simp;omega,?_⟩;rw[Cf7,e4,O4 (by omega:o.length<=i+1)];omega
theorem Dx6{m o:List Int}:∀(k:Nat),Ak4 m o k=W9 o m k
 |0=>by funext c i acc;rfl
 |k+1=>by
  funext c i acc;unfold Ak4 W9;rw[Dx6 k]
theorem Fn7{fuel:Nat}{m o:List Int}(hm:dig 1000000000 m)(ho:dig 1000000000 o)(h1:m.length<=1073741823)(h2:o.length<=1073741823)(hf:m.length+o.length<fuel):
 ∃t,Fr6 fuel m o=some t/\dig 1000000000 t/\t.length<=m.length+o.length+1/\val 1000000000 t=val 1000000000 m+val 1000000000 o:=by
 unfold Fr6;rw[List.length_map,List.length_map];by_cases h:m.length<o.length
 ·rw[dT_ (by omega)];simp only[cond_true];rw[E7 (by omega) (by omega),Em6 (by omega) (by omega)];simp only[sb];rw[Dx6];obtain⟨t,e1,e2,e3,e4⟩:=Cy6 ho hm (by omega) (by omega) o.length 0 fuel 0 [] (by omega) (by omega) (by omega) (by omega) rfl;refine⟨t,e1,e2,by omega,?_⟩;rw[e4,List.drop_zero,List.drop_zero];omega
 ·rw[dF_ (by omega)];simp only[cond_false];rw[E7 (by omega) (by omega),Em6 (by omega) (by omega)];simp only[sb];obtain⟨t,e1,e2,e3,e4⟩:=Cy6 hm ho (by omega) (by omega) m.length 0 fuel 0 [] (by omega) (by omega) (by omega) (by omega) rfl;refine⟨t,e1,e2,by omega,?_⟩;rw[e4,List.drop_zero,List.drop_zero];omega
theorem Dv9{m o:List Int}(hm:dig 1000000000 m)(ho:dig 1000000000 o)(hle:o.length<=m.length)(hb:m.length<=1073741824):∀(r i k:Nat) (c:Int) (acc:List Int),i+r=m.length->r<k->0<=c->c<=1->acc.length=i->
 ∃t,S8 m o k c (i:Int) acc=some (acc++t)/\dig 1000000000 t/\t.length=r/\(val 1000000000 t=val 1000000000 (m.drop i)-val 1000000000 (o.drop i)-c\/val 1000000000 t=val 1000000000 (m.drop i)-val 1000000000 (o.drop i)-c+1000000000^r)
 |0,i,0,_,_,_,h,_,_,_=>absurd h (by omega)
 |r+1,i,0,_,_,_,h,_,_,_=>absurd h (by omega)
 |0,i,k+1,c,acc,hi,_,h0,h1,ha=>by
  unfold S8;rw[dge (by omega),O4 (by omega:m.length<=i),O4 (by omega:o.length<=i)];refine⟨[],by simp,J2,rfl,?_⟩;simp only[val,Int.pow_zero];omega
 |r+1,i,k+1,c,acc,hi,hk,h0,h1,ha=>by
  unfold S8;obtain⟨a1,a2⟩:=Ar4 hm (show i<m.length by omega);have hp:(1000000000:Int)^(r+1)=1000000000*1000000000^r:=Int.pow_succ' ..;rw[dlt (by omega),C7 (l:=m) (by omega),Ah5 (l:=m) (by omega),hp];simp only[cond_true,sb];rw[E7 (i:=m[i]) (by omega) (by omega),E7 (i:=m[i]-c) (by omega) (by omega),wi i (by omega)];have key:∀(d c' y:Int),0<=d->d<1000000000->0<=c'->c'<=1->d=m[i]-c-y+1000000000*c'->val 1000000000 (o.drop i)=y+1000000000*val 1000000000 (o.drop (i+1))->
   ∃t,Option.bind (app acc [d]) (fun l=>S8 m o k c' ((i+1:Nat):Int) l)=some (acc++t)/\dig 1000000000 t/\t.length=r+1/\(val 1000000000 t=m[i]+1000000000*val 1000000000 (m.drop (i+1))-val 1000000000 (o.drop i)-c\/val 1000000000 t=m[i]+1000000000*val 1000000000 (m.drop (i+1))-val 1000000000 (o.drop i)-c+1000000000*1000000000^r):=by
   intro d c' y d0 d1 c0 c1 hd hv;rw[V1 _ _ (by simp;omega)];simp only[sb];obtain⟨t,e1,e2,e3,e4⟩:=Dv9 hm ho hle hb r (i+1) k c' (acc++[d]) (by omega) (by omega) c0 c1 (by simp;omega);refine⟨d::t,by rw[e1];simp,E3.2 ⟨⟨d0,d1⟩,e2⟩,by simp;omega,?_⟩;rw[Cf7,hv];rcases e4 with e4|e4
   ·left;rw[e4];omega
   ·right;rw[e4];omega
  by_cases hio:i<o.length
  ·obtain⟨b1,b2⟩:=Ar4 ho hio;rw[dlt hio,C7 (l:=o) hio];simp only[cond_true,sb];rw[E7 (i:=o[i]) (by omega) (by omega),E7 (i:=m[i]-c-o[i]) (by omega) (by omega)];by_cases hn:m[i]-c-o[i]<0
   ·rw[dT_ hn];simp only[cond_true];rw[E7 (by omega) (by omega),Ar5 (by omega) (by omega)];exact key _ 1 o[i] (by omega) (by omega) (by omega) (by omega) (by omega) (Ah5 hio)
   ·rw[dF_ hn];simp only[cond_false];rw[Ar5 (by omega) (by omega)];exact key _ 0 o[i] (by omega) (by omega) (by omega) (by omega) (by omega) (Ah5 hio)
  ·have hv:val 1000000000 (o.drop i)=0+1000000000*val 1000000000 (o.drop (i+1)):=by rw[O4 (by omega:o.length<=i),O4 (by omega:o.length<=i+1)];rfl
   rw[dge (by omega)];simp only[cond_false];by_cases hn:m[i]-c<0
   ·rw[dT_ hn];simp only[cond_true];rw[E7 (by omega) (by omega),Ar5 (by omega) (by omega)];exact key _ 1 0 (by omega) (by omega) (by omega) (by omega) (by omega) hv
   ·rw[dF_ hn];simp only[cond_false];rw[Ar5 (by omega) (by omega)];exact key _ 0 0 (by omega) (by omega) (by omega) (by omega) (by omega) hv
theorem Cx5{fuel:Nat}{m o:List Int}(hm:dig 1000000000 m)(ho:dig 1000000000 o)(hle:o.length<=m.length)(hb:m.length<=1073741824)(hv:val 1000000000 o<=val 1000000000 m)(hf:m.length<fuel):
 ∃t,Ep6 fuel m o=some t/\dig 1000000000 t/\t.length=m.length/\val 1000000000 t=val 1000000000 m-val 1000000000 o:=by
 unfold Ep6;rw[List.length_map,Em6 (by omega) (by omega)];simp only[sb];obtain⟨t,e1,e2,e3,e4⟩:=Dv9 hm ho hle hb m.length 0 fuel 0 [] (by omega) hf (by omega) (by omega) rfl;rw[List.drop_zero,List.drop_zero]at e4;refine⟨t,e1,e2,e3,?_⟩;rcases e4 with e4|e4
 ·omega
 ·have:=Ar2 (show(0:Int)<1000000000 by decide) e2;rw[e3]at this;omega
def ln(n:Int):Nat:=(dg 1000000000 (n.natAbs:Int)).length
theorem Bx1(n:Int):dig 1000000000 (dg 1000000000 (n.natAbs:Int)):=H6 hB1 _ (by omega)
theorem Cj1(n:Int):val 1000000000 (dg 1000000000 (n.natAbs:Int))=(n.natAbs:Int):=I9 hB1 _ (by omega)
theorem Gg1{fuel:Nat}{a:Int}(h:ln a<=1073741823)(hf:ln a<fuel):Fb4 fuel (W a)=some (W (-a)):=by
 unfold Fb4;show Option.bind (Bi0 fuel (!(decide (a<0))) (dg 1000000000 (a.natAbs:Int))) _=_;rw[N8 (Bx1 a) (by unfold ln at h;omega) hf,Cj1];simp only[sb];congr 2;unfold sg;by_cases h:a<0
 ·rw[dT_ h];simp only[Bool.not_true,cond_false];omega
 ·rw[dF_ h];simp only[Bool.not_false,cond_true];omega
theorem Cp2{a:Int}:F74 (W a)=some (R5 a 0):=by
 unfold F74;show(bif (((dg 1000000000 (a.natAbs:Int)).map A5).length:Int)==0 then some 0 else bif decide (a<0) then some (-1) else some 1)=_;by_cases h:a=0
 ·subst h;rfl
 ·have:((((dg 1000000000 (a.natAbs:Int)).map A5).length:Int)==0)=false:=by
   rw[List.length_map];have:=Bi9 hB1 (show 0<(a.natAbs:Int) by omega);have:=List.length_pos_iff.2 this;simp;omega
  rw[this];simp only[cond_false];by_cases hn:a<0
  ·rw[dT_ hn,D8 hn];rfl
  ·rw[dF_ hn,D9 (by omega)];rfl
theorem Fz8{fuel:Nat}{a b:Int}(ha:ln a<=1073741820)(hb:ln b<=1073741820)(hf:ln a+ln b+2<fuel):Ep5 fuel (W a) (W b)=some (W (a+b)):=by
 unfold ln at ha hb hf;have va:=Cj1 a;have vb:=Cj1 b;have da:=Bx1 a;have db:=Bx1 b;unfold Ep5;show(bif decide (a<0)==decide (b<0) then Option.bind (Fr6 fuel (dg 1000000000 (a.natAbs:Int)) (dg 1000000000 (b.natAbs:Int))) (fun y1=>Option.bind (Bi0 fuel (decide (a<0)) y1) fun y2=>some y2) else
  Option.bind (Dk6 fuel (dg 1000000000 (a.natAbs:Int)) (dg 1000000000 (b.natAbs:Int))) fun y3=>bif decide (y3<0) then Option.bind (Ep6 fuel (dg 1000000000 (b.natAbs:Int)) (dg 1000000000 (a.natAbs:Int))) (fun y4=>Option.bind (Bi0 fuel (decide (b<0)) y4) fun y5=>some y5) else
   Option.bind (Ep6 fuel (dg 1000000000 (a.natAbs:Int)) (dg 1000000000 (b.natAbs:Int))) fun y6=>Option.bind (Bi0 fuel (decide (a<0)) y6) fun y7=>some y7)=_
 by_cases hs:decide (a<0)=decide (b<0)
 ·rw[hs];simp only[beq_self_eq_true,cond_true];obtain⟨t,e1,e2,e3,e4⟩:=Fn7 da db (by omega) (by omega) (show _<fuel by omega);rw[e1,sb,N8 e2 (by omega) (by omega),sb,e4,va,vb];congr 2;have hs:a<0↔b<0:=by simpa using hs
  unfold sg;by_cases h:b<0
  ·rw[dT_ h];simp only[cond_true];omega
  ·rw[dF_ h];simp only[cond_false];omega
 ·have:(decide (a<0)==decide (b<0))=false:=by simpa using hs
  rw[this];have hs:¬(a<0↔b<0):=by simpa using hs
  simp only[cond_false];rw[Ag3 (by omega) (by omega) (by omega) (by omega) (by omega),sb];by_cases hc:(a.natAbs:Int)<(b.natAbs:Int)
  ·rw[D8 hc];simp only[show decide ((-1:Int)<0)=true from rfl,cond_true];have hlen:(dg 1000000000 (a.natAbs:Int)).length<=(dg 1000000000 (b.natAbs:Int)).length:=by
    rcases Nat.lt_or_ge (dg 1000000000 (b.natAbs:Int)).length (dg 1000000000 (a.natAbs:Int)).length with h|h
    ·have:=K3 hB1 (show 0<=(b.natAbs:Int) by omega) (show 0<=(a.natAbs:Int) by omega) h;omega
    ·exact h
   obtain⟨t,e1,e2,e3,e4⟩:=Cx5 db da hlen (by omega) (by rw[va,vb];omega) (show _<fuel by omega);rw[e1,sb,N8 e2 (by omega) (by omega),sb,e4,va,vb];congr 2;unfold sg;by_cases h:b<0
   ·rw[dT_ h];simp only[cond_true];omega
   ·rw[dF_ h];simp only[cond_false];omega
  ·have h0:decide (R5 (a.natAbs:Int) (b.natAbs:Int)<0)=false:=by
    apply dF_;unfold R5;rw[if_neg hc];split<;>omega
   rw[h0];simp only[cond_false];have hlen:(dg 1000000000 (b.natAbs:Int)).length<=(dg 1000000000 (a.natAbs:Int)).length:=by
    rcases Nat.lt_or_ge (dg 1000000000 (a.natAbs:Int)).length (dg 1000000000 (b.natAbs:Int)).length with h|h
    ·have:=K3 hB1 (show 0<=(a.natAbs:Int) by omega) (show 0<=(b.natAbs:Int) by omega) h;omega
    ·exact h
   obtain⟨t,e1,e2,e3,e4⟩:=Cx5 da db hlen (by omega) (by rw[va,vb];omega) (show _<fuel by omega);rw[e1,sb,N8 e2 (by omega) (by omega),sb,e4,va,vb];congr 2;unfold sg;by_cases h:a<0
   ·rw[dT_ h];simp only[cond_true];omega
   ·rw[dF_ h];simp only[cond_false];omega
theorem Cp4{fuel:Nat}{a b:Int}(ha:ln a<=1073741820)(hb:ln b<=1073741820)(hf:ln a+ln b<fuel):Ed3 fuel (W a) (W b)=some (R5 a b):=by
 unfold ln at ha hb hf;unfold Ed3;simp only[Cp2,sb,Ct5,Gl9];by_cases hs:R5 a 0=R5 b 0
 ·rw[dF_ (by simpa using hs)];simp only[cond_false];show(bif (((dg 1000000000 (a.natAbs:Int)).map A5).length:Int)==0 then some (R5 (R5 a 0) (R5 b 0)) else bif decide (a<0) then Option.bind (Dk6 fuel (dg 1000000000 (b.natAbs:Int)) (dg 1000000000 (a.natAbs:Int))) (fun y4=>some y4) else Option.bind (Dk6 fuel (dg 1000000000 (a.natAbs:Int)) (dg 1000000000 (b.natAbs:Int))) fun y5=>some y5)=_;by_cases h:a=0
  ·subst h;rw[J1]at hs;have:=Es4.1 hs.symm;subst this;rfl
  ·have hl:((((dg 1000000000 (a.natAbs:Int)).map A5).length:Int)==0)=false:=by
    rw[List.length_map];have:=Bi9 hB1 (show 0<(a.natAbs:Int) by omega);have:=List.length_pos_iff.2 this;simp;omega
   rw[hl];simp only[cond_false];by_cases hn:a<0
   ·rw[dT_ hn];simp only[cond_true];have hb':b<0:=by
     rw[D8 hn]at hs;rcases Int.lt_trichotomy b 0 with h|h|h
     ·exact h
     ·rw[h,J1]at hs;omega
     ·rw[D9 h]at hs;omega
    rw[Ag3 (by omega) (by omega) (by omega) (by omega) (by omega),sb,show((b.natAbs:Nat):Int)= -b by omega,show((a.natAbs:Nat):Int)= -a by omega,Ct3]
   ·rw[dF_ hn];simp only[cond_false];have hb':0<b:=by
     rw[D9 (by omega)]at hs;rcases Int.lt_trichotomy b 0 with h|h|h
     ·rw[D8 h]at hs;omega
     ·rw[h,J1]at hs;omega
     ·exact h
    rw[Ag3 (by omega) (by omega) (by omega) (by omega) (by omega),sb,show((b.natAbs:Nat):Int)=b by omega,show((a.natAbs:Nat):Int)=a by omega]
 ·rw[dT_ hs];simp only[cond_true];rcases Int.lt_trichotomy a 0 with h|h|h<;>rcases Int.lt_trichotomy b 0 with h'|h'|h'<;>first|(rw[D8 h,D8 h']at hs;exact absurd rfl hs)|(rw[D9 h,D9 h']at hs;exact absurd rfl hs)|(subst h;subst h';exact absurd rfl hs)|skip
  ·rw[D8 h,h',J1,D8 h];rfl
  ·rw[D8 h,D9 h',D8 (show(-1:Int)<1 by omega),D8 (show a<b by omega)];rfl
  ·rw[h,J1,D8 h',D9 h'];rfl
  ·rw[h,J1,D9 h',D8 h'];rfl
  ·rw[D9 h,D8 h',D9 (show(-1:Int)<1 by omega),D9 (show b<a by omega)];rfl
  ·rw[D9 h,h',J1,D9 h];rfl
end
section
theorem Dw3{x y X Y:Int}(h0:0<=x)(h1:x<X)(h2:0<=y)(h3:y<Y):0<=x*y/\x*y<=(X-1)*(Y-1):=by
 refine⟨Int.mul_nonneg h0 h2,?_⟩;have a:=Int.mul_le_mul_of_nonneg_right (show x<=X-1 by omega) h2;have b:=Int.mul_le_mul_of_nonneg_left (show y<=Y-1 by omega) (show 0<=X-1 by omega);omega
theorem Cc4{x y:Int}(h0:0<=x)(h1:x<1000000000)(h2:0<=y)(h3:y<1000000000):0<=x*y/\x*y<=999999998000000001:=by
 have:=Dw3 h0 h1 h2 h3;omega
theorem Cz4{m:List Int}{y:Int}(hm:dig 1000000000 m)(hb:m.length<=1073741824)(y0:0<=y)(y1:y<1000000000):∀(r i k:Nat) (c:Int) (acc:List Int),i+r=m.length->r<k->0<=c->c<1000000000->acc.length=i->
 ∃t,Z8 m y k c (i:Int) acc=some (acc++t)/\dig 1000000000 t/\t.length=r+1/\val 1000000000 t=val 1000000000 (m.drop i)*y+c
 |0,i,0,_,_,_,h,_,_,_=>absurd h (by omega)
 |r+1,i,0,_,_,_,h,_,_,_=>absurd h (by omega)
 |0,i,k+1,c,acc,hi,_,h0,h1,ha=>by
  unfold Z8;rw[dge (by omega),O4 (by omega:m.length<=i)];simp only[cond_false];rw[Ar5 h0 (by omega),V1 _ _ (by simp;omega)];exact⟨[c],rfl,E3.2 ⟨⟨h0,h1⟩,J2⟩,rfl,by simp[val]⟩
 |r+1,i,k+1,c,acc,hi,hk,h0,h1,ha=>by
  unfold Z8;obtain⟨a1,a2⟩:=Ar4 hm (show i<m.length by omega);obtain⟨p1,p2⟩:=Cc4 a1 a2 y0 y1;rw[dlt (by omega),C7 (l:=m) (by omega),Ah5 (l:=m) (by omega)];simp only[cond_true,sb];rw[O1 (i:=m[i]) (by omega) (by omega),O1 (i:=y) (by omega) (by omega),O1 (i:=m[i]*y) (by omega) (by omega),O1 (i:=m[i]*y+c) (by omega) (by omega),wi i (by omega),(tdm (show 0<=m[i]*y+c by omega)).1,(tdm (show 0<=m[i]*y+c by omega)).2,Ar5 (by omega) (by omega),O1 (by omega) (by omega),V1 _ _ (by simp;omega)];simp only[sb];obtain⟨t,e1,e2,e3,e4⟩:=Cz4 hm hb y0 y1 r (i+1) k ((m[i]*y+c)/1000000000) (acc++[(m[i]*y+c)%1000000000]) (by omega) (by omega) (by omega) (by omega) (by simp;omega);refine⟨(m[i]*y+c)%1000000000::t,by rw[e1];simp,E3.2 ⟨⟨by omega,by omega⟩,e2⟩,by simp;omega,?_⟩;rw[Cf7,e4,Int.add_mul,Int.mul_assoc];omega
theorem Ce6{fuel:Nat}{m:List Int}{y:Int}(hm:dig 1000000000 m)(hb:m.length<=1073741824)(y0:0<=y)(y1:y<1000000000)(hf:m.length<fuel):
 ∃t,Fc6 fuel m y=some t/\dig 1000000000 t/\t.length=m.length+1/\val 1000000000 t=val 1000000000 m*y:=by
 unfold Fc6;rw[List.length_map,E7 (by omega) (by omega),Em6 (by omega) (by omega)];simp only[sb];obtain⟨t,e1,e2,e3,e4⟩:=Cz4 hm hb y0 y1 m.length 0 fuel 0 [] (by omega) hf (by omega) (by omega) rfl;rw[List.drop_zero]at e4;exact⟨t,e1,e2,e3,by omega⟩
theorem Cz5:∀(m:List Int) (y:Int) (k:Nat),Af9 m y k=Z8 m y k
 |m,y,0=>by funext c i acc;rfl
 |m,y,k+1=>by
  funext c i acc;unfold Af9 Z8;rw[Cz5 m y k]
theorem Dh2{fuel:Nat}{m:List Int}{y:Int}:Dl5 fuel m y=Fc6 fuel m y:=by
 unfold Dl5 Fc6;rw[Cz5]
def Bj4(m:List Int):Nat->List (Int×Int)
 |0=>[]
 |i+1=>((i:Nat),m.getD i 0)::Bj4 m i
theorem Es1{m:List Int}(hb:m.length<=2147483648):∀(i k:Nat),i<=m.length->i<k->Ak7 m k ((i:Int)-1)=some (Bj4 m i)
 |0,0,_,h=>absurd h (by omega)
 |i+1,0,_,h=>absurd h (by omega)
 |0,k+1,_,_=>by
  unfold Ak7;rfl
 |i+1,k+1,hi,hk=>by
  unfold Ak7;rw[show(((i+1:Nat):Int)-1)=(i:Int) by omega,dT_ (show(i:Int)>=0 by omega),C7 (l:=m) (by omega),wip i (by omega)];simp only[cond_true,sb];rw[Es1 hb i k (by omega) (by omega)];simp only[sb,Bj4];rw[List.getD_eq_getElem?_getD,List.getElem?_eq_getElem (show i<m.length by omega)];rfl
theorem Do4{fuel:Nat}{m:List Int}(hb:m.length<=2147483648)(hf:m.length<fuel):Fr9 fuel m=some (Bj4 m m.length):=by
 unfold Fr9;rw[List.length_map,wip _ (by omega)];exact Es1 hb m.length fuel (Nat.le_refl _) hf
theorem Gf1{m:List Int}{i:Nat}(h:i<m.length):m.getD i 0=m[i]:=by
 rw[List.getD_eq_getElem?_getD,List.getElem?_eq_getElem h];rfl
theorem Fq2{l:List Int}{i:Nat}(hi:i<l.length):val 1000000000 (l.take (i+1))=val 1000000000 (l.take i)+l[i]*1000000000^i:=S3 hi
theorem Ea5{m:List Int}{y:Int}(hm:dig 1000000000 m)(hb:m.length<=1073741824)(y0:0<y)(y1:y<1000000000):∀(i:Nat) (rest:Int) (out:List Int),i<=m.length->out.length=m.length->0<=rest->rest<y->
 ∃q r,Ad0 y (Bj4 m i) rest out=some (q++out.drop i,r)/\dig 1000000000 q/\q.length=i/\0<=r/\r<y/\rest*1000000000^i+val 1000000000 (m.take i)=y*val 1000000000 q+r
 |0,rest,out,_,ho,r0,r1=>by
  unfold Bj4 Ad0;refine⟨[],rest,by rw[Ar5 r0 (by omega)];simp,J2,rfl,r0,r1,by simp[val]⟩
 |i+1,rest,out,hi,ho,r0,r1=>by
  obtain⟨a1,a2⟩:=Ar4 hm (show i<m.length by omega);unfold Bj4 Ad0;rw[Gf1 (by omega)];have hy:u64.wrap y=y:=O1 (by omega) (by omega);have hn0:0<=rest*1000000000+m[i]:=by omega
  have hq:(rest*1000000000+m[i])/y<1000000000:=Int.ediv_lt_of_lt_mul y0 (by
   have:=Int.mul_le_mul_of_nonneg_right (show rest+1<=y by omega) (show(0:Int)<=1000000000 by decide);rw[Int.mul_comm 1000000000 y];omega)
  have hq0:0<=(rest*1000000000+m[i])/y:=Int.ediv_nonneg hn0 (by omega);have hr0:=Int.emod_nonneg (rest*1000000000+m[i]) (show y≠0 by omega);have hr1:=Int.emod_lt_of_pos (rest*1000000000+m[i]) y0;have hqr:=Int.emod_add_mul_ediv (rest*1000000000+m[i]) y;rw[hy,E1 (by simp;omega),E1 (by simp;omega)];dsimp only;rw[C7 (l:=out) (by omega),sb,O1 (i:=rest*1000000000) (by omega) (by omega),O1 (i:=m[i]) (by omega) (by omega),O1 hn0 (by omega),(tdm hn0).1,(tdm hn0).2,O1 hq0 (by omega),Ar5 hq0 (by omega),sb];rw[show 0+Int.toNat (i:Int)=i by omega];obtain⟨q,r,e1,e2,e3,e4,e5,e6⟩:=Ea5 hm hb y0 y1 i ((rest*1000000000+m[i])%y) (out.set i ((rest*1000000000+m[i])/y)) (by omega) (by simpa using ho) hr0 hr1;refine⟨q++[(rest*1000000000+m[i])/y],r,?_,Al1.2 ⟨e2,E3.2 ⟨⟨hq0,hq⟩,J2⟩⟩,by simp;omega,e4,e5,?_⟩
  ·rw[e1,List.drop_eq_getElem_cons (show i<(out.set i ((rest*1000000000+m[i])/y)).length by simp;omega),List.drop_set_of_lt (by omega)];simp
  ·rw[Am3,e3,Fq2 (by omega),Int.pow_succ];have hv1:val 1000000000 [(rest*1000000000+m[i])/y]=(rest*1000000000+m[i])/y:=by simp[val]
   rw[hv1];generalize (rest*1000000000+m[i])/y=Q at*;generalize (rest*1000000000+m[i])%y=R at*;generalize (1000000000:Int)^i=X at*;grind
theorem Cz7{fuel:Nat}{m:List Int}{y:Int}(hm:dig 1000000000 m)(hb:m.length<=1073741824)(y0:0<y)(y1:y<1000000000)(hf:m.length<fuel):
 ∃q,Fr3 fuel m y=some (q,val 1000000000 m%y)/\dig 1000000000 q/\q.length=m.length/\val 1000000000 q=val 1000000000 m/y:=by
 unfold Fr3 Fr5;rw[List.length_map,Bf2 (by omega),sb,sb,Do4 (by omega) hf,sb];obtain⟨q,r,e1,e2,e3,e4,e5,e6⟩:=Ea5 hm hb y0 y1 m.length 0 (List.replicate m.length 0) (Nat.le_refl _) (by simp) (by omega) y0;rw[List.take_length,Int.zero_mul,Int.zero_add]at e6;have h1:val 1000000000 m%y=r:=by rw[e6,Int.mul_add_emod_self_left];exact Int.emod_eq_of_lt e4 e5
 have h2:val 1000000000 m/y=val 1000000000 q:=by rw[e6,Int.mul_add_ediv_left _ _ (by omega),Int.ediv_eq_zero_of_lt e4 e5];omega
 exact⟨q,by rw[e1,h1,List.drop_of_length_le (by simp)];simp,e2,e3,h2.symm⟩
theorem Ew0{b:Int}{y:Int}{i:Nat}{rec_:Int->List Int->Option A3}(y0:0<=y)(y1:y<1000000000)(hb:ln b<=1073741820)(hi:i<=1073741820):∀(r j k:Nat) (c:Int) (out:List Int),j+r=ln b->r<k->0<=c->c<1000000000->dig 1000000000 out->(hl:i+ln b<out.length)->out[i+ln b]=0->
 ∃out',Aj1 (W b) (i:Int) y rec_ k c (j:Int) out=rec_ ((i+1:Nat):Int) out'/\dig 1000000000 out'/\out'.length=out.length/\out'.drop (i+ln b+1)=out.drop (i+ln b+1)/\val 1000000000 out'=val 1000000000 out+(y*val 1000000000 ((dg 1000000000 (b.natAbs:Int)).drop j)+c)*1000000000^(i+j)
 |0,j,0,_,_,_,h,_,_,_,_,_=>absurd h (by omega)
 |r+1,j,0,_,_,_,h,_,_,_,_,_=>absurd h (by omega)
 |0,j,k+1,c,out,hj,_,c0,c1,hd,hl,hz=>by
  unfold Aj1;have hlen:(W b).mag.length=ln b:=rfl;rw[dge (by omega)];simp only[cond_false];rw[List.length_map,hlen,E7 (i:=(i:Int)+(ln b:Int)) (by omega) (by omega),show(i:Int)+(ln b:Int)=((i+ln b:Nat):Int) by omega,C7 hl,wi i (by omega),Ar5 c0 (by omega)];simp only[sb];rw[show 0+Int.toNat ((i+ln b:Nat):Int)=i+ln b by omega];refine⟨_,rfl,Al2 hd _ ⟨c0,c1⟩,by simp,by rw[List.drop_set_of_lt (by omega)],?_⟩;rw[Am4 _ _ hl,hz,O4 (show(dg 1000000000 (b.natAbs:Int)).length<=j by show ln b<=j;omega),show i+j=i+ln b by omega];simp
 |r+1,j,k+1,c,out,hj,hk,c0,c1,hd,hl,hz=>by
  have hlen:(W b).mag.length=ln b:=rfl;have hjl:j<(dg 1000000000 (b.natAbs:Int)).length:=by show j<ln b;omega
  unfold Aj1;have hg:C6 (W b).mag (j:Int)=some (dg 1000000000 (b.natAbs:Int))[j]:=C7 hjl;rw[dlt (by omega),hg];obtain⟨a1,a2⟩:=Ar4 (Bx1 b) hjl;rw[Ah5 hjl];generalize hxx:(dg 1000000000 (b.natAbs:Int))[j]=x at*;obtain⟨p1,p2⟩:=Cc4 y0 y1 a1 a2;obtain⟨o1,o2⟩:=Ar4 hd (show i+j<out.length by omega);simp only[cond_true,sb];rw[E7 (i:=(i:Int)+(j:Int)) (by omega) (by omega),show(i:Int)+(j:Int)=((i+j:Nat):Int) by omega,C7 (l:=out) (by omega)];simp only[sb];rw[show 0+Int.toNat ((i+j:Nat):Int)=i+j by omega,O1 (i:=y) (by omega) (by omega),O1 (i:=x) (by omega) (by omega),O1 (i:=y*x) (by omega) (by omega),O1 (i:=out[i+j]) (by omega) (by omega),O1 (i:=y*x+out[i+j]) (by omega) (by omega),O1 (i:=y*x+out[i+j]+c) (by omega) (by omega),(tdm (show 0<=y*x+out[i+j]+c by omega)).1,(tdm (show 0<=y*x+out[i+j]+c by omega)).2,Ar5 (by omega) (by omega),O1 (by omega) (by omega),wi j (by omega)];obtain⟨out',e1,e2,e3,e4,e5⟩:=Ew0 (rec_:=rec_) y0 y1 hb hi r (j+1) k ((y*x+out[i+j]+c)/1000000000) (out.set (i+j) ((y*x+out[i+j]+c)%1000000000)) (by omega) (by omega) (by omega) (by omega) (Al2 hd _ ⟨by omega,by omega⟩) (by simpa using hl) (by rw[List.getElem_set_ne (by omega)];exact hz);refine⟨out',e1,e2,by simpa using e3,by rw[e4,List.drop_set_of_lt (by omega)],?_⟩;rw[e5,Am4 _ _ (by omega),show i+(j+1)=i+j+1 by omega,Int.pow_succ];have hqr:=Int.emod_add_mul_ediv (y*x+out[i+j]+c) 1000000000;generalize (y*x+out[i+j]+c)/1000000000=Q at*;generalize (y*x+out[i+j]+c)%1000000000=R at*;generalize (1000000000:Int)^(i+j)=X at*;grind
theorem Ev9{fuel:Nat}{a b:Int}(ha:ln a<=1073741820)(hb:ln b<=1073741820)(hab:ln a+ln b<=1073741820)(hf:ln a+ln b+1<fuel):∀(r i k:Nat) (out:List Int),i+r=ln a->r<k->dig 1000000000 out->out.length=ln a+ln b->out.drop (i+ln b)=List.replicate r 0->
 val 1000000000 out=val 1000000000 ((dg 1000000000 (a.natAbs:Int)).take i)*(b.natAbs:Int)->Z1 fuel (W a) (W b) k (i:Int) out=some (W (a*b))
 |0,i,0,_,_,h,_,_,_,_=>absurd h (by omega)
 |r+1,i,0,_,_,h,_,_,_,_=>absurd h (by omega)
 |0,i,k+1,out,hi,_,hd,hl,hz,hv=>by
  have hlen:(W a).mag.length=ln a:=rfl;unfold Z1;rw[dge (by omega)];simp only[cond_false];rw[List.take_of_length_le (show(dg 1000000000 (a.natAbs:Int)).length<=i by show ln a<=i;omega),Cj1]at hv;rw[N8 hd (by omega) (by omega),sb,hv];congr 2;show sg (!(decide (a<0)==decide (b<0))) _=_;have hn:(a.natAbs:Int)*(b.natAbs:Int)=((a*b).natAbs:Int):=by rw[Int.natAbs_mul];simp
  rw[hn];unfold sg;by_cases h1:a<0<;>by_cases h2:b<0
  ·have:=Int.mul_pos_of_neg_of_neg h1 h2;simp[h1,h2];omega
  ·have:=Int.mul_nonpos_of_nonpos_of_nonneg (show a<=0 by omega) (show 0<=b by omega);simp[h1,h2];omega
  ·have:=Int.mul_nonpos_of_nonneg_of_nonpos (show 0<=a by omega) (show b<=0 by omega);simp[h1,h2];omega
  ·have:=Int.mul_nonneg (show 0<=a by omega) (show 0<=b by omega);simp[h1,h2];omega
 |r+1,i,k+1,out,hi,hk,hd,hl,hz,hv=>by
  have hlen:(W a).mag.length=ln a:=rfl;have hil:i<(dg 1000000000 (a.natAbs:Int)).length:=by show i<ln a;omega
  unfold Z1;have hg:C6 (W a).mag (i:Int)=some (dg 1000000000 (a.natAbs:Int))[i]:=C7 hil;rw[dlt (by omega),hg];obtain⟨a1,a2⟩:=Ar4 (Bx1 a) hil;simp only[cond_true,sb];have hz0:out[i+ln b]'(by omega)=0:=by
   have:=congrArg (fun l=>l[0]?) hz;simp only[List.getElem?_drop,Nat.add_zero]at this;rw[List.getElem?_eq_getElem (by omega),List.getElem?_replicate,if_pos (by omega)]at this;exact Option.some.inj this
  obtain⟨out',e1,e2,e3,e4,e5⟩:=Ew0 (rec_:=Z1 fuel (W a) (W b) k) a1 a2 hb (by omega:i<=1073741820) (ln b) 0 fuel 0 out (by omega) (by omega) (by omega) (by omega) hd (by omega) hz0;rw[show((0:Nat):Int)=(0:Int) from rfl]at e1;rw[e1];refine Ev9 ha hb hab hf r (i+1) k out' (by omega) (by omega) e2 (by omega) ?_ ?_
  ·rw[show i+1+ln b=i+ln b+1 by omega,e4,<-List.drop_drop (i:=1),hz];simp
  ·rw[e5,hv,Fq2 hil,List.drop_zero,Cj1,Nat.add_zero,Int.add_zero];generalize (1000000000:Int)^i=X at*;grind
theorem Bf3{fuel:Nat}{a b:Int}(hab:ln a+ln b<=1073741820)(hf:ln a+ln b+1<fuel):Bv4 fuel (W a) (W b)=some (W (a*b)):=by
 have h1:(W a).mag.length=ln a:=rfl;have h2:(W b).mag.length=ln b:=rfl;unfold Bv4;rw[List.length_map,List.length_map,h1,h2,E7 (by omega) (by omega),show(ln a:Int)+(ln b:Int)=((ln a+ln b:Nat):Int) by omega,Bf2 (by omega),sb];exact Ev9 (by omega) (by omega) hab hf (ln a) 0 fuel _ (by omega) (by omega) (Ao1 (by decide) _) (by simp) (by rw[List.drop_replicate];congr 1;omega) (by rw[Ar3];simp[val])
end
end Go.Proofs.YtdlnalepibeibaaGreatDoor
end
