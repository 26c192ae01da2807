/- One part of the texts that lead to the theorem; it claims nothing by itself. -/
import Derived.Test.YtfgbhfphjmmiaaaGreatDoorSud
section
set_option linter.unusedVariables false
set_option maxRecDepth 100000
namespace Go.Proofs.YtfgbhfphjmmiaaaGreatDoor
open Go Go.RowKit Kx
section
theorem Hd1:B1 Tryz.prog 37:=Kx.A6 Tryz.func37 (by kernel_rfl) (by kernel_rfl)
theorem Hd5:B1 Tryz.prog 60:=Kx.A6 Tryz.func60 (by kernel_rfl) (by kernel_rfl)
theorem Gu6:B1 Tryz.prog 39:=Kx.A6 Tryz.func39 (by kernel_rfl) (by kernel_rfl)
theorem Hk7:B1 Tryz.prog 61:=Kx.A6 Tryz.func61 (by kernel_rfl) (by kernel_rfl)
theorem Ga9:B1 Tryz.prog 191:=Kx.A6 Tryz.func191 (by kernel_rfl) (by kernel_rfl)
theorem Gu5:B1 Tryz.prog 251:=Kx.A6 Tryz.func251 (by kernel_rfl) (by kernel_rfl)
theorem Fi0:B1 Tryz.prog 252:=Kx.A6 Tryz.func252 (by kernel_rfl) (by kernel_rfl)
theorem Gt4:B1 Tryz.prog 209:=Kx.A6 Tryz.func209 (by kernel_rfl) (by kernel_rfl)
theorem Ga8:B1 Tryz.prog 190:=Kx.A6 Tryz.func190 (by kernel_rfl) (by kernel_rfl)
theorem Ga4:B1 Tryz.prog 156:=Kx.A6 Tryz.func156 (by kernel_rfl) (by kernel_rfl)
theorem Gs3:B1 Tryz.prog 173:=Kx.A6 Tryz.func173 (by kernel_rfl) (by kernel_rfl)
theorem Gt6:B1 Tryz.prog 211:=Kx.A6 Tryz.func211 (by kernel_rfl) (by kernel_rfl)
theorem Gu3:B1 Tryz.prog 249:=Kx.A6 Tryz.func249 (by kernel_rfl) (by kernel_rfl)
theorem Gt5:B1 Tryz.prog 210:=Kx.A6 Tryz.func210 (by kernel_rfl) (by kernel_rfl)
theorem Gs4:B1 Tryz.prog 174:=Kx.A6 Tryz.func174 (by kernel_rfl) (by kernel_rfl)
theorem Fh6:B1 Tryz.prog 196:=Kx.A6 Tryz.func196 (by kernel_rfl) (by kernel_rfl)
theorem Gt8:B1 Tryz.prog 213:=Kx.A6 Tryz.func213 (by kernel_rfl) (by kernel_rfl)
theorem Gu4:B1 Tryz.prog 250:=Kx.A6 Tryz.func250 (by kernel_rfl) (by kernel_rfl)
theorem Gt7:B1 Tryz.prog 212:=Kx.A6 Tryz.func212 (by kernel_rfl) (by kernel_rfl)
theorem Fh9:B1 Tryz.prog 240:=Kx.A6 Tryz.func240 (by kernel_rfl) (by kernel_rfl)
theorem Gs5:B1 Tryz.prog 175:=Kx.A6 Tryz.func175 (by kernel_rfl) (by kernel_rfl)
theorem Fh7:B1 Tryz.prog 214:=Kx.A6 Tryz.func214 (by kernel_rfl) (by kernel_rfl)
theorem Gb5:B1 Tryz.prog 253:=Kx.A6 Tryz.func253 (by kernel_rfl) (by kernel_rfl)
theorem Gb0:B1 Tryz.prog 215:=Kx.A6 Tryz.func215 (by kernel_rfl) (by kernel_rfl)
theorem Gs6:B1 Tryz.prog 176:=Kx.A6 Tryz.func176 (by kernel_rfl) (by kernel_rfl)
theorem Gt9:B1 Tryz.prog 216:=Kx.A6 Tryz.func216 (by kernel_rfl) (by kernel_rfl)
theorem Gs7:B1 Tryz.prog 177:=Kx.A6 Tryz.func177 (by kernel_rfl) (by kernel_rfl)
theorem Gr4:B1 Tryz.prog 132:=Kx.A6 Tryz.func132 (by kernel_rfl) (by kernel_rfl)
def Bl1(d0:List UInt8):Nat→Int→Option Bool
 |0,_=>none
 |nL1+1,v2=>
  bif decide (v2<(d0.length:Int)) then
   (Option.bind (
    Option.bind (C4 d0 v2) fun y17=>
    bif decide ((y17.toNat:Int)<97) then
     (some true)
    else
     (Option.bind (C4 d0 v2) fun y18=>
     some (decide ((y18.toNat:Int)>122)))) fun o3=>
   bif o3 then
    (some false)
   else
    ((Bl1 d0 nL1) (IntKind.i64.wrap (v2+1))))
  else
   (some (decide ((d0.length:Int)≤8)))
def Gy2(fuel:Nat)(d0:List UInt8):Option Bool:=
 Bl1 d0 fuel 0
noncomputable abbrev Fd8:=C1 Tryz.f147
abbrev Gy9(r:Bool):=J none Tryz.prog 23 [] (H3 Tryz.prog Tryz.f147 (.b r))
theorem Gn1{fuel:Nat}{d0:List UInt8}{r:Bool}(hF:Gy2 fuel d0=some r):
 C3 Tryz.prog 147 [.s d0] (.b r):=by
 unfold Gy2 at hF
 refine cf 23 Tryz.func147 ?_
 have hL1:∀(nL1:Nat) (v2:Int),Bl1 d0 nL1 v2=some r→Gy9 r ⟨mkT [(0,.s d0),(3,.i v2)],[],[kL Fd8 [1,0,1,0,0],.inBlock 0,kC Fd8 [1,1]]⟩:=by
  clear hF;intro nL1
  induction nL1 with
  |zero=>intro v2 hF;cases hF
  |succ nL1 iL1=>
   intro v2 hF
   rw[Bl1]at hF
   refine jI 9 7 hF ?_ ?_<;>intro hF
   ·obtain⟨o3,hO,hF⟩:=bnd hF
    have hR3:Gy9 r ⟨mkT [(0,.s d0),(3,.i v2),(19,.b o3)],[],[kO Fd8 [1,0,1,0,0,1,0,0,0],kC Fd8 [1,0,1,0,0,1,0,0,1],.inBlock 1,kC Fd8 [1,0,1,0,0,1,1],kL Fd8 [1,0,1,0,0],.inBlock 0,kC Fd8 [1,1]]⟩:=by
     clear hO
     refine jI 1 19 hF ?_ ?_<;>intro hF
     ·cases hF
      exact jr 5
     ·exact ja 8 (iL1 _ hF)
    clear hF;rename _=some o3=>hF
    obtain⟨y17,e17,hF⟩:=bnd hF
    refine C2 8 (E8 (o:=(match C4 d0 v2 with|some c=>some [.int .u8 c.toNat]|none=>none)) [.int .u8 y17.toNat] (by kernel_rfl) (by rw[e17]) ?_)
    refine jI 2 14 hF ?_ ?_<;>intro hF
    ·cases hF
     exact ja 5 hR3
    ·obtain⟨y18,e18,hF⟩:=bnd hF
     refine C2 2 (E8 (o:=(match C4 d0 v2 with|some c=>some [.int .u8 c.toNat]|none=>none)) [.int .u8 y18.toNat] (by kernel_rfl) (by rw[e18]) ?_)
     cases hF
     exact ja 2 hR3
   ·cases hF
    exact jr 9
 exact ja 11 (hL1 _ _ hF)
structure B8 where
 To:Int
 P:List UInt8
 deriving DecidableEq
structure A1 where
 Act:List UInt8
 Gain:List UInt8
 Next:List B8
 deriving DecidableEq
def B5(x:B8):List Dat:=[.int .i64 x.To,.str x.P]
structure A9 where
 Owner:List Int
 Choices:List (List A1)
 deriving DecidableEq
def A8(x:A1):List Dat:=[.str x.Act,.str x.Gain,.sl 2 (x.Next.map B5)]
def A0(x:List A1):List Dat:=[.sl 3 (x.map A8)]
def Df8(v7:Int)(v8:Int)(y9:Int×Bool)(cL1:Int→Int→Option Int):Nat→Int→Option Int
 |0,_=>none
 |nL2+1,v10=>
  ass (decide (y9.1≠0))<|
  bif (Int.tmod v10 y9.1) !=0 then
   ((Df8 v7 v8 y9 cL1 nL2) (IntKind.i64.wrap (v10+v7)))
  else
   (bif decide (v10>9999) then
    (some 0)
   else
    (cL1 v10 (IntKind.i64.wrap (v8+1))))
def Ex1(fuel:Nat)(d1:List (List UInt8)):Nat→Int→Int→Option Int
 |0,_,_=>none
 |nL1+1,v7,v8=>
  Option.bind (
   bif decide (v8<((d1.map e_s).length:Int)) then
    (some (decide (v7>0)))
   else
    (some false)) fun o5=>
  bif o5 then
   (Option.bind (C4 d1 v8) fun y7=>
   Option.bind (F71 fuel y7) fun y8=>
   Option.bind (Hf3 fuel y8.2) fun y9=>
   Option.bind (
    bif !y9.2 then
     (some true)
    else
     (some (decide (y9.1>9999)))) fun o6=>
   bif o6 then
    (some 0)
   else
    (Df8 v7 v8 y9 (Ex1 fuel d1 nL1) fuel v7))
  else
   (some v7)
structure Df7 where
 a0:Int
 a1:Int
 a2:Int
 deriving DecidableEq
structure Df6 where
 a0:Int
 a1:Int
 deriving DecidableEq
structure C9 where
 State:Int
 Act:Int
 Gain:Int
 To:Df7
 Part:Df6
 deriving DecidableEq
structure B0 where
 States:Int
 Owners:Int
 Grain:Int
 Cents:Int
 Picks:List C9
 deriving DecidableEq
def B2(x:C9):List Dat:=[.int .u8 x.State,.int .u8 x.Act,.int .u8 x.Gain,.int .u8 x.To.a0,.int .u8 x.To.a1,.int .u8 x.To.a2,.int .u8 x.Part.a0,.int .u8 x.Part.a1]
def F60(d0:B0):Option Int:=
 some (IntKind.i64.wrap (1+(IntKind.i64.wrap (Int.tmod d0.States 5))))
theorem Ep0{d0:B0}{r:Int}(hF:F60 d0=some r):
 C3 Tryz.prog 60 [.agg [.y d0.States,.y d0.Owners,.y d0.Grain,.y d0.Cents,.l 8 d0.Picks B2]] (.i r):=by
 unfold F60 at hF
 refine cf 8 Tryz.func60 ?_
 cases hF
 exact jr 14
def Bh2(v2:Int)(cL1:Int→(List B8)→Option A1)(l14:List B8):Option A1:=
 cL1 (IntKind.i64.wrap (v2+1)) l14
def Ag1(fuel:Nat)(l4:List Int)(y1:Int)(y2:Int)(y9:List UInt8)(y11:List UInt8):Nat→Int→(List B8)→Option A1
 |0,_,_=>none
 |nL1+1,v2,l12=>
  bif decide (v2<y1) then
   (Option.bind (C4 l4 v2) fun y27=>
   bif decide (y27>0) then
    (Option.bind (C4 l4 v2) fun y28=>
    Option.bind (F39 fuel y28 y2) fun y29=>
    Option.bind (app l12 [(⟨v2,y29⟩:B8)]) fun l15=>
    Bh2 v2 (Ag1 fuel l4 y1 y2 y9 y11 nL1) l15)
   else
    (Bh2 v2 (Ag1 fuel l4 y1 y2 y9 y11 nL1) l12))
  else
   (some (⟨y9,y11,l12⟩:A1))
def F61(fuel:Nat)(d0:B0)(d1:C9):Option A1:=
 Option.bind (F60 d0) fun y1=>
 Option.bind (C4 [1,2,3,4,6,10,100,5] (Int.tmod d0.Grain 8)) fun y2=>
 ass (decide ((IntKind.i64.wrap (y2+1))≠0))<|
 ass (decide ((IntKind.i64.wrap ((IntKind.i64.wrap (y2-(Int.tmod (IntKind.i64.wrap d1.Part.a0) (IntKind.i64.wrap (y2+1)))))+1))≠0))<|
 Option.bind (mkL y1 y1 0) fun l1=>
 ass (decide (y1≠0))<|
 Option.bind (C4 l1 (Int.tmod (IntKind.i64.wrap d1.To.a0) y1)) fun y3=>
 Option.bind (C4 l1 (Int.tmod (IntKind.i64.wrap d1.To.a0) y1)) fun y4=>
 Option.bind (some (l1.set (0+Int.toNat (Int.tmod (IntKind.i64.wrap d1.To.a0) y1)) (IntKind.i64.wrap (y3+(Int.tmod (IntKind.i64.wrap d1.Part.a0) (IntKind.i64.wrap (y2+1))))))) fun l2=>
 ass (decide (y1≠0))<|
 Option.bind (C4 l2 (Int.tmod (IntKind.i64.wrap d1.To.a1) y1)) fun y5=>
 Option.bind (C4 l2 (Int.tmod (IntKind.i64.wrap d1.To.a1) y1)) fun y6=>
 Option.bind (some (l2.set (0+Int.toNat (Int.tmod (IntKind.i64.wrap d1.To.a1) y1)) (IntKind.i64.wrap (y5+(Int.tmod (IntKind.i64.wrap d1.Part.a1) (IntKind.i64.wrap ((IntKind.i64.wrap (y2-(Int.tmod (IntKind.i64.wrap d1.Part.a0) (IntKind.i64.wrap (y2+1)))))+1))))))) fun l3=>
 ass (decide (y1≠0))<|
 Option.bind (C4 l3 (Int.tmod (IntKind.i64.wrap d1.To.a2) y1)) fun y7=>
 Option.bind (C4 l3 (Int.tmod (IntKind.i64.wrap d1.To.a2) y1)) fun y8=>
 Option.bind (some (l3.set (0+Int.toNat (Int.tmod (IntKind.i64.wrap d1.To.a2) y1)) (IntKind.i64.wrap (y7+(IntKind.i64.wrap ((IntKind.i64.wrap (y2-(Int.tmod (IntKind.i64.wrap d1.Part.a0) (IntKind.i64.wrap (y2+1)))))-(Int.tmod (IntKind.i64.wrap d1.Part.a1) (IntKind.i64.wrap ((IntKind.i64.wrap (y2-(Int.tmod (IntKind.i64.wrap d1.Part.a0) (IntKind.i64.wrap (y2+1)))))+1))))))))) fun l4=>
 Option.bind (C4 [[],[97],[103,111],[97,98,99,100,101,102,103,104]] (Int.tmod d1.Act 4)) fun y9=>
 Option.bind (C4 [1,2,3,1] (Int.tmod d0.Cents 4)) fun y10=>
 Option.bind (F39 fuel (IntKind.i64.wrap (Int.tmod d1.Gain 20)) y10) fun y11=>
 Ag1 fuel l4 y1 y2 y9 y11 fuel 0 []
noncomputable abbrev b61:=C1 Tryz.f61
abbrev G61(r:A1):=J none Tryz.prog 117 [] (H3 Tryz.prog Tryz.f61 (.agg [.s r.Act,.s r.Gain,.l 2 r.Next B5]))
theorem Fu5{fuel:Nat}{d0:B0}{d1:C9}{r:A1}(hF:F61 fuel d0 d1=some r):
 C3 Tryz.prog 61 [.agg [.y d0.States,.y d0.Owners,.y d0.Grain,.y d0.Cents,.l 8 d0.Picks B2],.agg [.y d1.State,.y d1.Act,.y d1.Gain,.y d1.To.a0,.y d1.To.a1,.y d1.To.a2,.y d1.Part.a0,.y d1.Part.a1]] (.agg [.s r.Act,.s r.Gain,.l 2 r.Next B5]):=by
 unfold F61 at hF
 refine cf 117 Tryz.func61 ?_
 refine jB 9 hF Hd5 Ep0 fun y1 hF=> ?_
 obtain⟨y2,e2,hF⟩:=bnd hF
 refine jo1 8 (gm (f:=A7) e2) ?_
 obtain⟨hb1,hF⟩:=Q0 hF
 refine jo1 10 (ck hb1) ?_
 obtain⟨hb2,hF⟩:=Q0 hF
 refine jo1 12 (ck hb2) ?_
 obtain⟨l1,e3,hF⟩:=bnd hF
 refine jo2 5 (mm (f:=A7) e3) ?_
 obtain⟨hb3,hF⟩:=Q0 hF
 refine jo1 10 (ck hb3) ?_
 obtain⟨y3,e4,hF⟩:=bnd hF
 refine jo1 0 (gm (f:=A7) e4) ?_
 refine jo1 0 (gjm (f:=A7) (gj e4)) ?_
 obtain⟨y4,e5,hF⟩:=bnd hF
 refine jo1 2 (gm (f:=A7) e5) ?_
 obtain⟨l2,e6,hF⟩:=bnd hF
 have hst:=stm (f:=A7) (z:=IntKind.i64.wrap (y3+(Int.tmod (IntKind.i64.wrap d1.Part.a0) (IntKind.i64.wrap (y2+1))))) (k:=0) (xs:=[.int .i64 (IntKind.i64.wrap (y3+(Int.tmod (IntKind.i64.wrap d1.Part.a0) (IntKind.i64.wrap (y2+1)))))]) (gj e5) rfl
 refine C2 0 (E9 (o:=(match(l1.map A7)[0+Int.toNat (Int.tmod (IntKind.i64.wrap d1.To.a0) y1)]? with|some old=>some ((l1.map A7).set (0+Int.toNat (Int.tmod (IntKind.i64.wrap d1.To.a0) y1)) (X6 old 0 [.int .i64 (IntKind.i64.wrap (y3+(Int.tmod (IntKind.i64.wrap d1.Part.a0) (IntKind.i64.wrap (y2+1)))))]))|none=>none)) (l2.map A7) (by kernel_rfl) (by cases e6;exact hst) ?_)
 obtain⟨hb4,hF⟩:=Q0 hF
 refine jo1 9 (ck hb4) ?_
 obtain⟨y5,e7,hF⟩:=bnd hF
 refine jo1 0 (gm (f:=A7) e7) ?_
 refine jo1 0 (gjm (f:=A7) (gj e7)) ?_
 obtain⟨y6,e8,hF⟩:=bnd hF
 refine jo1 2 (gm (f:=A7) e8) ?_
 obtain⟨l3,e9,hF⟩:=bnd hF
 have hst:=stm (f:=A7) (z:=IntKind.i64.wrap (y5+(Int.tmod (IntKind.i64.wrap d1.Part.a1) (IntKind.i64.wrap ((IntKind.i64.wrap (y2-(Int.tmod (IntKind.i64.wrap d1.Part.a0) (IntKind.i64.wrap (y2+1)))))+1))))) (k:=0) (xs:=[.int .i64 (IntKind.i64.wrap (y5+(Int.tmod (IntKind.i64.wrap d1.Part.a1) (IntKind.i64.wrap ((IntKind.i64.wrap (y2-(Int.tmod (IntKind.i64.wrap d1.Part.a0) (IntKind.i64.wrap (y2+1)))))+1)))))]) (gj e8) rfl
 refine C2 0 (E9 (o:=(match(l2.map A7)[0+Int.toNat (Int.tmod (IntKind.i64.wrap d1.To.a1) y1)]? with|some old=>some ((l2.map A7).set (0+Int.toNat (Int.tmod (IntKind.i64.wrap d1.To.a1) y1)) (X6 old 0 [.int .i64 (IntKind.i64.wrap (y5+(Int.tmod (IntKind.i64.wrap d1.Part.a1) (IntKind.i64.wrap ((IntKind.i64.wrap (y2-(Int.tmod (IntKind.i64.wrap d1.Part.a0) (IntKind.i64.wrap (y2+1)))))+1)))))]))|none=>none)) (l3.map A7) (by kernel_rfl) (by cases e9;exact hst) ?_)
 obtain⟨hb5,hF⟩:=Q0 hF
 refine jo1 9 (ck hb5) ?_
 obtain⟨y7,e10,hF⟩:=bnd hF
 refine jo1 0 (gm (f:=A7) e10) ?_
 refine jo1 0 (gjm (f:=A7) (gj e10)) ?_
 obtain⟨y8,e11,hF⟩:=bnd hF
 refine jo1 6 (gm (f:=A7) e11) ?_
 obtain⟨l4,e12,hF⟩:=bnd hF
 have hst:=stm (f:=A7) (z:=IntKind.i64.wrap (y7+(IntKind.i64.wrap ((IntKind.i64.wrap (y2-(Int.tmod (IntKind.i64.wrap d1.Part.a0) (IntKind.i64.wrap (y2+1)))))-(Int.tmod (IntKind.i64.wrap d1.Part.a1) (IntKind.i64.wrap ((IntKind.i64.wrap (y2-(Int.tmod (IntKind.i64.wrap d1.Part.a0) (IntKind.i64.wrap (y2+1)))))+1))))))) (k:=0) (xs:=[.int .i64 (IntKind.i64.wrap (y7+(IntKind.i64.wrap ((IntKind.i64.wrap (y2-(Int.tmod (IntKind.i64.wrap d1.Part.a0) (IntKind.i64.wrap (y2+1)))))-(Int.tmod (IntKind.i64.wrap d1.Part.a1) (IntKind.i64.wrap ((IntKind.i64.wrap (y2-(Int.tmod (IntKind.i64.wrap d1.Part.a0) (IntKind.i64.wrap (y2+1)))))+1)))))))]) (gj e11) rfl
 refine C2 0 (E9 (o:=(match(l3.map A7)[0+Int.toNat (Int.tmod (IntKind.i64.wrap d1.To.a2) y1)]? with|some old=>some ((l3.map A7).set (0+Int.toNat (Int.tmod (IntKind.i64.wrap d1.To.a2) y1)) (X6 old 0 [.int .i64 (IntKind.i64.wrap (y7+(IntKind.i64.wrap ((IntKind.i64.wrap (y2-(Int.tmod (IntKind.i64.wrap d1.Part.a0) (IntKind.i64.wrap (y2+1)))))-(Int.tmod (IntKind.i64.wrap d1.Part.a1) (IntKind.i64.wrap ((IntKind.i64.wrap (y2-(Int.tmod (IntKind.i64.wrap d1.Part.a0) (IntKind.i64.wrap (y2+1)))))+1)))))))]))|none=>none)) (l4.map A7) (by kernel_rfl) (by cases e12;exact hst) ?_)
 refine jd 2 ?_
 obtain⟨y9,e13,hF⟩:=bnd hF
 refine do1 4 (gm (f:=e_s) e13) ?_
 obtain⟨y10,e14,hF⟩:=bnd hF
 refine do1 8 (gm (f:=A7) e14) ?_
 refine dB 0 hF Gu6 Dj4 fun y11 hF=> ?_
 refine je 3 ?_
 have hL1:∀(nL1:Nat) (v2:Int) (l12:List B8),Ag1 fuel l4 y1 y2 y9 y11 nL1 v2 l12=some r→G61 r ⟨mkT [(4,.ptr 4 0),(5,.i y1),(6,.i y2),(9,.suf 36 0 0),(10,.ptr 10 0),(11,.i v2)],[(4,.box 26 [.s [],.s [],.esl 2]),(10,.box 26 [.s y9,.s y11,.suf 114 0 0]),(36,.buf 0 3 1 (l4.map A7)),(114,.buf 0 29 2 (l12.map B5))],[kL b61 [1,1,1,1,1,1,1,1,1,1,0,1,0,0],.inBlock 0,kC b61 [1,1,1,1,1,1,1,1,1,1,1]]⟩:=by
  clear hF;intro nL1
  induction nL1 with
  |zero=>intro v2 l12 hF;cases hF
  |succ nL1 iL1=>
   intro v2 l12 hF
   rw[Ag1]at hF
   refine jI 8 95 hF ?_ ?_<;>intro hF
   ·have hA2:∀(l14:List B8),Bh2 v2 (Ag1 fuel l4 y1 y2 y9 y11 nL1) l14=some r→G61 r ⟨mkT [(4,.ptr 4 0),(5,.i y1),(6,.i y2),(9,.suf 36 0 0),(10,.ptr 10 0),(11,.i v2)],[(4,.box 26 [.s [],.s [],.esl 2]),(10,.box 26 [.s y9,.s y11,.suf 114 0 0]),(36,.buf 0 3 1 (l4.map A7)),(114,.buf 0 29 2 (l14.map B5))],[kC b61 [1,1,1,1,1,1,1,1,1,1,0,1,0,0,1,1],kL b61 [1,1,1,1,1,1,1,1,1,1,0,1,0,0],.inBlock 0,kC b61 [1,1,1,1,1,1,1,1,1,1,1]]⟩:=by
     intro l14 hF
     unfold Bh2 at hF
     exact ja 5 (iL1 _ _ hF)
    obtain⟨y27,e36,hF⟩:=bnd hF
    refine jo1 8 (gm (f:=A7) e36) ?_
    refine jo1 0 (gjm (f:=A7) (gj e36)) ?_
    refine jI 2 102 hF ?_ ?_<;>intro hF
    ·refine jd 1 ?_
     obtain⟨y28,e37,hF⟩:=bnd hF
     refine do1 5 (gm (f:=A7) e37) ?_
     refine do1 0 (gjm (f:=A7) (gj e37)) ?_
     refine dB 1 hF Gu6 Dj4 fun y29 hF=> ?_
     obtain⟨l15,e39,hF⟩:=bnd hF
     refine do2 2 (am (f:=B5) e39) ?_
     refine je 2 ?_
     exact ja 1 (hA2 _ hF)
    ·exact ja 3 (hA2 _ hF)
   ·cases hF
    exact jr 7
 refine C2 7 (Bh8 (n:=2) 10 2 114 29 2 (by kernel_rfl) (by kernel_rfl) ?_)
 exact ja 0 (hL1 _ _ _ hF)
def Bs6(v2:Int)(cL1:Int→(List Int)→Option A9)(l17:List Int):Option A9:=
 cL1 (IntKind.i64.wrap (v2+1)) l17
def Ay3(v4:Int)(cL3:Int→(List (List A1))→Option A9)(l39:List (List A1)):Option A9:=
 cL3 (IntKind.i64.wrap (v4+1)) l39
def Bs7(v6:Int)(cL5:Int→(List (List A1))→Option A9)(l57:List (List A1)):Option A9:=
 cL5 (IntKind.i64.wrap (v6+1)) l57
def Ak6(l14:List Int)(y1:Int):Nat→Int→(List (List A1))→Option A9
 |0,_,_=>none
 |nL5+1,v6,l54=>
  bif decide (v6<y1) then
   (Option.bind (C4 l54 v6) fun y60=>
   Option.bind (some (l54.set (Int.toNat v6) y60)) fun l58=>
   bif ((y60.map A8).length:Int)==0 then
    (Option.bind (C4 l58 v6) fun y61=>
    Option.bind (some (l58.set (Int.toNat v6) [(⟨[],[48],[(⟨v6,[49]⟩:B8)]⟩:A1)])) fun l59=>
    Bs7 v6 (Ak6 l14 y1 nL5) l59)
   else
    (Bs7 v6 (Ak6 l14 y1 nL5) l58))
  else
   (some (⟨l14,l54⟩:A9))
def W2(fuel:Nat)(d0:B0)(l14:List Int)(y1:Int):Nat→Int→(List (List A1))→Option A9
 |0,_,_=>none
 |nL3+1,v4,l35=>
  Option.bind (
   bif decide (v4<((d0.Picks.map B2).length:Int)) then
    (some (decide (v4<20)))
   else
    (some false)) fun o3=>
  bif o3 then
   (Option.bind (C4 d0.Picks v4) fun y45=>
   ass (decide (y1≠0))<|
   Option.bind (C4 l35 (Int.tmod (IntKind.i64.wrap y45.State) y1)) fun y46=>
   Option.bind (some (l35.set (Int.toNat (Int.tmod (IntKind.i64.wrap y45.State) y1)) y46)) fun l40=>
   bif decide (((y46.map A8).length:Int)<3) then
    (Option.bind (C4 l40 (Int.tmod (IntKind.i64.wrap y45.State) y1)) fun y47=>
    Option.bind (C4 d0.Picks v4) fun y48=>
    Option.bind (F61 fuel d0 y48) fun y49=>
    Option.bind (app y47 [y49]) fun l41=>
    Option.bind (some (l40.set (Int.toNat (Int.tmod (IntKind.i64.wrap y45.State) y1)) l41)) fun l42=>
    Ay3 v4 (W2 fuel d0 l14 y1 nL3) l42)
   else
    (Ay3 v4 (W2 fuel d0 l14 y1 nL3) l40))
  else
   (Ak6 l14 y1 fuel 0 l35)
def At4(fuel:Nat)(d0:B0)(l2:List (List A1))(y1:Int):Nat→Int→(List Int)→Option A9
 |0,_,_=>none
 |nL1+1,v2,l14=>
  bif decide (v2<y1) then
   (ass (decide (0≤v2))<|
   bif (IntKind.u8.wrap (BitVec.ofInt IntKind.u8.bits (Int.fdiv d0.Owners (2^(min (Int.toNat v2) IntKind.u8.bits)))&&&BitVec.ofInt IntKind.u8.bits 1).toNat)==1 then
    (Option.bind (C4 l14 v2) fun y13=>
    Option.bind (some (l14.set (0+Int.toNat v2) 1)) fun l19=>
    Bs6 v2 (At4 fuel d0 l2 y1 nL1) l19)
   else
    (Bs6 v2 (At4 fuel d0 l2 y1 nL1) l14))
  else
   (W2 fuel d0 l14 y1 fuel 0 l2)
def F20(fuel:Nat)(d0:B0):Option A9:=
 Option.bind (F60 d0) fun y1=>
 Option.bind (mkL y1 y1 0) fun l1=>
 Option.bind (mkL y1 y1 []) fun l2=>
 At4 fuel d0 l2 y1 fuel 0 l1
noncomputable abbrev b20:=C1 Tryz.f20
def F29(d0:Int)(d1:Int):Option Int:=
 ass (decide (0≤d0))<|
 some (IntKind.u64.wrap (BitVec.ofInt IntKind.u64.bits (IntKind.u64.wrap d1)&&&BitVec.ofInt IntKind.u64.bits (IntKind.u64.wrap ((IntKind.u64.wrap (1*2^(min (Int.toNat d0) IntKind.u64.bits)))-1))).toNat)
theorem Ft7{d0:Int}{d1:Int}{r:Int}(hF:F29 d0 d1=some r):
 C3 Tryz.prog 29 [.i d0,.d (.int .u16 d1)] (.n r):=by
 unfold F29 at hF
 refine cf 11 Tryz.func29 ?_
 obtain⟨hb1,hF⟩:=Q0 hF
 refine jo1 9 (ck hb1) ?_
 cases hF
 exact jr 4
def F36(d0:Int)(d1:Int):Option Bool:=
 ass (decide (0≤d1))<|
 some ((IntKind.u64.wrap (BitVec.ofInt IntKind.u64.bits (Int.fdiv d0 (2^(min (Int.toNat d1) IntKind.u64.bits)))&&&BitVec.ofInt IntKind.u64.bits 1).toNat)==1)
theorem Eo6{d0:Int}{d1:Int}{r:Bool}(hF:F36 d0 d1=some r):
 C3 Tryz.prog 36 [.n d0,.i d1] (.b r):=by
 unfold F36 at hF
 refine cf 10 Tryz.func36 ?_
 obtain⟨hb1,hF⟩:=Q0 hF
 refine jo1 8 (ck hb1) ?_
 cases hF
 exact jr 4
def Ai8(d0:List UInt8):Nat→Int→Int→Option Int
 |0,_,_=>none
 |nL1+1,v3,v4=>
  bif decide (v4<(d0.length:Int)) then
   (Option.bind (C4 d0 v4) fun y5=>
   (Ai8 d0 nL1) (IntKind.i64.wrap ((IntKind.i64.wrap (10*v3))+(IntKind.i64.wrap (IntKind.u8.wrap ((y5.toNat:Int)-48))))) (IntKind.i64.wrap (v4+1)))
  else
   (some v3)
def Ec3:Nat→(List UInt8)→Option Int
 |0,_=>none
 |fuel+1,d0=>
  Option.bind (C4 d0 0) fun y1=>
  bif (y1.toNat:Int)==45 then
   (ass (decide (0≤1)&&decide (1≤(d0.length:Int))&&decide ((d0.length:Int)≤d0.length))<|
   Option.bind ((Ec3 fuel) ((d0.drop (Int.toNat 1)).take (Int.toNat ((d0.length:Int)-1)))) fun y2=>
   some (IntKind.i64.wrap (0-y2)))
  else
   (Ai8 d0 fuel 0 0)
noncomputable abbrev Hb8:=C1 Tryz.f252
abbrev Hh9(r:Int):=J none Tryz.prog 27 [] (H3 Tryz.prog Tryz.f252 (.i r))
theorem Dj1:∀{fuel:Nat} {d0:List UInt8} {r:Int},Ec3 fuel d0=some r→C3 Tryz.prog 252 [.s d0] (.i r):=by
 intro fuel
 induction fuel with
 |zero=>intro _ r hF;cases hF
 |succ fuel ih=>
  intro d0 r hF
  have ih_F252:∀(d0:List UInt8) (r:Int),Ec3 fuel d0=some r→C3 Tryz.prog 252 [.s d0] (.i r):=fun d0 r h=>ih h
  rw[Ec3]at hF
  refine cf 27 Tryz.func252 ?_
  obtain⟨y1,e1,hF⟩:=bnd hF
  refine C2 8 (E8 (o:=(match C4 d0 0 with|some c=>some [.int .u8 c.toNat]|none=>none)) [.int .u8 y1.toNat] (by kernel_rfl) (by rw[e1]) ?_)
  refine jI 2 7 hF ?_ ?_<;>intro hF
  ·obtain⟨hb2,hF⟩:=Q0 hF
   refine jo1 4 (ck hb2) ?_
   obtain⟨y2,e2,hF⟩:=bnd hF
   refine jc 0 Fi0 (ih_F252 _ _ e2) ?_
   cases hF
   exact jr 3
  ·have hL1:∀(nL1:Nat) (v3:Int) (v4:Int),Ai8 d0 nL1 v3 v4=some r→Hh9 r ⟨mkT [(0,.s d0),(3,.i v3),(13,.i (d0.length:Int)),(14,.i v4)],[],[kL Hb8 [1,1,1,0,1,0,0],.inBlock 0,kC Hb8 [1,1,1,1]]⟩:=by
    clear hF;intro nL1
    induction nL1 with
    |zero=>intro v3 v4 hF;cases hF
    |succ nL1 iL1=>
     intro v3 v4 hF
     rw[Ai8]at hF
     refine jI 6 15 hF ?_ ?_<;>intro hF
     ·obtain⟨y5,e5,hF⟩:=bnd hF
      refine C2 14 (E8 (o:=(match C4 d0 v4 with|some c=>some [.int .u8 c.toNat]|none=>none)) [.int .u8 y5.toNat] (by kernel_rfl) (by rw[e5]) ?_)
      exact ja 10 (iL1 _ _ hF)
     ·cases hF
      exact jr 7
   exact ja 15 (hL1 _ _ _ hF)
def Cd6(fuel:Nat)(d0:List UInt8):Option (Int×Int×Bool):=
 Option.bind (Eo3 fuel d0) fun y1=>
 bif !y1 then
  (some (0,0,false))
 else
  (Option.bind (Gi9 fuel d0) fun y2=>
  Option.bind (Ec3 fuel y2.1) fun y3=>
  Option.bind (Ec3 fuel y2.2.1) fun y4=>
  some (y3,y4,y2.2.2==0))
theorem Cd7{fuel:Nat}{d0:List UInt8}{r:Int×Int×Bool}(hF:Cd6 fuel d0=some r):
 C3 Tryz.prog 214 [.s d0] (.tup [.i r.1,.i r.2.1,.b r.2.2]):=by
 unfold Cd6 at hF
 refine cf 23 Tryz.func214 ?_
 refine jB 10 hF Ga9 Di1 fun y1 hF=> ?_
 refine jI 2 10 hF ?_ ?_<;>intro hF
 ·cases hF
  exact jr 7
 ·refine jB 5 hF Gu5 Fb4 fun y2 hF=> ?_
  refine jB 11 hF Fi0 Dj1 fun y3 hF=> ?_
  refine jB 1 hF Fi0 Dj1 fun y4 hF=> ?_
  cases hF
  exact jr 6
def Aq3:Nat→Int→Int→Option Int
 |0,_,_=>none
 |nL1+1,v3,v4=>
  bif decide (v4>0) then
   (ass (decide (v4≠0))<|
   (Aq3 nL1) v4 (Int.tmod v3 v4))
  else
   (some v3)
def Fb5(fuel:Nat)(d0:Int)(d1:Int):Option Int:=
 Aq3 fuel d0 d1
noncomputable abbrev Hb9:=C1 Tryz.f253
abbrev Hi0(r:Int):=J none Tryz.prog 12 [] (H3 Tryz.prog Tryz.f253 (.i r))
theorem Dj2{fuel:Nat}{d0:Int}{d1:Int}{r:Int}(hF:Fb5 fuel d0 d1=some r):
 C3 Tryz.prog 253 [.i d0,.i d1] (.i r):=by
 unfold Fb5 at hF
 refine cf 12 Tryz.func253 ?_
 have hL1:∀(nL1:Nat) (v3:Int) (v4:Int),Aq3 nL1 v3 v4=some r→Hi0 r ⟨mkT [(0,.i v3),(1,.i v4)],[],[kL Hb9 [1,0,0,0],.inBlock 0,kC Hb9 [1,1]]⟩:=by
  clear hF;intro nL1
  induction nL1 with
  |zero=>intro v3 v4 hF;cases hF
  |succ nL1 iL1=>
   intro v3 v4 hF
   rw[Aq3]at hF
   refine jI 7 6 hF ?_ ?_<;>intro hF
   ·refine jd 3 ?_
    obtain⟨hb6,hF⟩:=Q0 hF
    refine do1 3 (ck hb6) ?_
    refine je 2 ?_
    exact ja 1 (iL1 _ _ hF)
   ·cases hF
    exact jr 7
 exact ja 7 (hL1 _ _ _ hF)
structure B3 where
 Model:A9
 p:Int
 gains:Int
 deriving DecidableEq
def Fs9(d0:List A1):Option Bool:=
 Option.bind (
  bif decide (((d0.map A8).length:Int)<1) then
   (some true)
  else
   (some (decide (((d0.map A8).length:Int)>4)))) fun o1=>
 some o1
noncomputable abbrev Hb1:=C1 Tryz.f209
abbrev Hh0(r:Bool):=J none Tryz.prog 11 [] (H3 Tryz.prog Tryz.f209 (.b r))
theorem Ez9{d0:List A1}{r:Bool}(hF:Fs9 d0=some r):
 C3 Tryz.prog 209 [.l 3 d0 A8] (.b r):=by
 unfold Fs9 at hF
 refine cf 11 Tryz.func209 ?_
 obtain⟨o1,hO,hF⟩:=bnd hF
 have hR1:Hh0 r ⟨mkT [(2,.b o1)],[],[kO Hb1 [1,0],kC Hb1 [1,1]]⟩:=by
  clear hO
  cases hF
  exact jr 1
 clear hF;rename _=some o1=>hF
 refine jI 10 6 hF ?_ ?_<;>intro hF
 ·cases hF
  exact ja 5 hR1
 ·cases hF
  exact ja 5 hR1
def Ab1(d0:List (List A1)):Nat→Int→Option Int
 |0,_=>none
 |nL1+1,v2=>
  bif decide (v2<((d0.map A0).length:Int)) then
   (Option.bind (C4 d0 v2) fun y5=>
   Option.bind (Fs9 y5) fun y6=>
   bif y6 then
    (some v2)
   else
    ((Ab1 d0 nL1) (IntKind.i64.wrap (v2+1))))
  else
   (some (-1))
def Gi3(fuel:Nat)(d0:List (List A1)):Option Int:=
 Ab1 d0 fuel 0
noncomputable abbrev Gj9:=C1 Tryz.f190
abbrev Hg7(r:Int):=J none Tryz.prog 19 [] (H3 Tryz.prog Tryz.f190 (.i r))
theorem Ez6{fuel:Nat}{d0:List (List A1)}{r:Int}(hF:Gi3 fuel d0=some r):
 C3 Tryz.prog 190 [.l 1 d0 A0,.d (.fnc 209)] (.i r):=by
 unfold Gi3 at hF
 refine cf 19 Tryz.func190 ?_
 have hL1:∀(nL1:Nat) (v2:Int),Ab1 d0 nL1 v2=some r→Hg7 r ⟨mkT [(0,.l 1 d0 A0),(1,.d (.fnc 209)),(7,.i ((d0.map A0).length:Int)),(8,.i v2)],[],[kL Gj9 [1,0,1,0,0],.inBlock 0,kC Gj9 [1,1]]⟩:=by
  clear hF;intro nL1
  induction nL1 with
  |zero=>intro v2 hF;cases hF
  |succ nL1 iL1=>
   intro v2 hF
   rw[Ab1]at hF
   refine jI 6 9 hF ?_ ?_<;>intro hF
   ·obtain⟨y5,e5,hF⟩:=bnd hF
    refine jo1 14 (gm (f:=A0) e5) ?_
    refine jB 1 hF Gt4 Ez9 fun y6 hF=> ?_
    refine jI 1 16 hF ?_ ?_<;>intro hF
    ·cases hF
     exact jr 6
    ·exact ja 7 (iL1 _ hF)
   ·cases hF
    exact jr 6
 exact ja 13 (hL1 _ _ hF)
def Gh7(fuel:Nat)(d0:List (List A1)):Option Bool:=
 Option.bind (Gi3 fuel d0) fun y1=>
 some (decide (y1≥0))
theorem Ey3{fuel:Nat}{d0:List (List A1)}{r:Bool}(hF:Gh7 fuel d0=some r):
 C3 Tryz.prog 156 [.l 1 d0 A0,.d (.fnc 209)] (.b r):=by
 unfold Gh7 at hF
 refine cf 9 Tryz.func156 ?_
 refine jB 8 hF Ga8 Ez6 fun y1 hF=> ?_
 cases hF
 exact jr 3
noncomputable abbrev Hi6:=C1 Tryz.f173
def Ft0(d0:Int):Option Bool:=
 Option.bind (
  bif d0 !=0 then
   (some (d0 !=1))
  else
   (some false)) fun o1=>
 some o1
noncomputable abbrev Hb2:=C1 Tryz.f211
abbrev Hh1(r:Bool):=J none Tryz.prog 9 [] (H3 Tryz.prog Tryz.f211 (.b r))
theorem Fa2{d0:Int}{r:Bool}(hF:Ft0 d0=some r):
 C3 Tryz.prog 211 [.i d0] (.b r):=by
 unfold Ft0 at hF
 refine cf 9 Tryz.func211 ?_
 obtain⟨o1,hO,hF⟩:=bnd hF
 have hR1:Hh1 r ⟨mkT [(2,.b o1)],[],[kO Hb2 [1,0],kC Hb2 [1,1]]⟩:=by
  clear hO
  cases hF
  exact jr 1
 clear hF;rename _=some o1=>hF
 refine jI 9 5 hF ?_ ?_<;>intro hF
 ·cases hF
  exact ja 4 hR1
 ·cases hF
  exact ja 4 hR1
def Ab6(d0:List Int):Nat→Int→Option Int
 |0,_=>none
 |nL1+1,v2=>
  bif decide (v2<((d0.map A7).length:Int)) then
   (Option.bind (C4 d0 v2) fun y5=>
   Option.bind (Ft0 y5) fun y6=>
   bif y6 then
    (some v2)
   else
    ((Ab6 d0 nL1) (IntKind.i64.wrap (v2+1))))
  else
   (some (-1))
def Gi7(fuel:Nat)(d0:List Int):Option Int:=
 Ab6 d0 fuel 0
noncomputable abbrev Hb6:=C1 Tryz.f249
abbrev Hh7(r:Int):=J none Tryz.prog 19 [] (H3 Tryz.prog Tryz.f249 (.i r))
theorem Fb2{fuel:Nat}{d0:List Int}{r:Int}(hF:Gi7 fuel d0=some r):
 C3 Tryz.prog 249 [.l 1 d0 A7,.d (.fnc 211)] (.i r):=by
 unfold Gi7 at hF
 refine cf 19 Tryz.func249 ?_
 have hL1:∀(nL1:Nat) (v2:Int),Ab6 d0 nL1 v2=some r→Hh7 r ⟨mkT [(0,.l 1 d0 A7),(1,.d (.fnc 211)),(7,.i ((d0.map A7).length:Int)),(8,.i v2)],[],[kL Hb6 [1,0,1,0,0],.inBlock 0,kC Hb6 [1,1]]⟩:=by
  clear hF;intro nL1
  induction nL1 with
  |zero=>intro v2 hF;cases hF
  |succ nL1 iL1=>
   intro v2 hF
   rw[Ab6]at hF
   refine jI 6 9 hF ?_ ?_<;>intro hF
   ·obtain⟨y5,e5,hF⟩:=bnd hF
    refine jo1 14 (gm (f:=A7) e5) ?_
    refine jB 1 hF Gt6 Fa2 fun y6 hF=> ?_
    refine jI 1 16 hF ?_ ?_<;>intro hF
    ·cases hF
     exact jr 6
    ·exact ja 7 (iL1 _ hF)
   ·cases hF
    exact jr 6
 exact ja 13 (hL1 _ _ hF)
def Gi6(fuel:Nat)(d0:List Int):Option Bool:=
 Option.bind (Gi7 fuel d0) fun y1=>
 some (decide (y1≥0))
theorem Fa1{fuel:Nat}{d0:List Int}{r:Bool}(hF:Gi6 fuel d0=some r):
 C3 Tryz.prog 210 [.l 1 d0 A7,.d (.fnc 211)] (.b r):=by
 unfold Gi6 at hF
 refine cf 9 Tryz.func210 ?_
 refine jB 8 hF Gu3 Fb2 fun y1 hF=> ?_
 cases hF
 exact jr 3
def Cn5(d0:A9):Option (List Int×List (List A1)):=
 some (d0.Owner,d0.Choices)
noncomputable abbrev Hi7:=C1 Tryz.f196
theorem Cd5{d0:A9}{r:List Int×List (List A1)}(hF:Cn5 d0=some r):
 K5 Tryz.prog 196 [] [.agg [.l 1 d0.Owner A7,.l 1 d0.Choices A0]] [(2000,.box 34 [.l 1 r.1 A7,.l 1 r.2 A0])] (.fn 240 [] [.ptr 2000 0]):=by
 unfold Cn5 at hF
 refine cr 4 Tryz.func196 ?_
 refine ja 10 (S0:=[(2,.fn 240 [] [.ptr 1 0])]) (O0:=[(1,.box 34 [.l 1 d0.Owner A7,.l 1 d0.Choices A0])]) (T0:=[kC Hi7 [1,1]]) ?_
 refine C2 0 (Aq8 [(1,2000)] (by kernel_rfl) (by kernel_rfl) (by kernel_rfl) (by kernel_rfl) ?_)
 have hF:=oi hF;subst hF
 exact C2 0 (Aq9 (xs:=[.fn 240 [] [.ptr 2000 0]]) [.fn 240 [] [.ptr 2000 0]] rfl (by kernel_rfl) (by kernel_rfl) (Q6.refl _) rfl)
def C8(x:Int×A1):List Kx.V:=[.d (.int .i64 x.1),.agg [.d (.str x.2.Act),.d (.str x.2.Gain),.d (.sl 2 (x.2.Next.map B5))]]
def Ai7(v6:Int)(y9:List A1)(cL1:Int→Option (List (Int×A1))):Nat→Int→Option (List (Int×A1))
 |0,_=>none
 |nL2+1,v8=>
  bif decide (v8<((y9.map A8).length:Int)) then
   (Option.bind (C4 y9 v8) fun y12=>
   Option.bind (
    (Ai7 v6 y9 cL1 nL2) (IntKind.i64.wrap (v8+1))) fun l9=>
   some ((v6,y12)::l9))
  else
   (cL1 (IntKind.i64.wrap (v6+1)))
def Y7(fuel:Nat)(d1:List (List A1)):Nat→Int→Option (List (Int×A1))
 |0,_=>none
 |nL1+1,v6=>
  bif decide (v6<((d1.map A0).length:Int)) then
   (Option.bind (C4 d1 v6) fun y9=>
   Ai7 v6 y9 (Y7 fuel d1 nL1) fuel 0)
  else
   (some [])
def Fb1(fuel:Nat)(d0:List Int)(d1:List (List A1)):Option (List (Int×A1)):=
 Y7 fuel d1 fuel 0
noncomputable abbrev Gk0:=C1 Tryz.f240
theorem Ce0{fuel:Nat}{d0:List Int}{d1:List (List A1)}{r:List (Int×A1)}(hF:Fb1 fuel d0 d1=some r):
 Dk9 Tryz.prog 240 [(2000,.frn 2000)] [.yl 2000,.rp [.sl 1 (d0.map A7),.sl 1 (d1.map A0)] 0] (r.map C8) false:=by
 unfold Fb1 at hF
 refine Cu4 (N:=28) (b:=C1 Tryz.f240) Tryz.func240 (by kernel_rfl) rfl rfl (fun yl_ Inv_ Stop_ Pan_ hR_=> ?_)
 have hL1:∀(nL1:Nat) (r:List (Int×A1)) (v6:Int),Y7 fuel d1 nL1 v6=some r→J none Tryz.prog 28 [] (Ej5 Tryz.prog Tryz.f240 yl_ Inv_ Stop_ Pan_ false (some (r.map C8))) ⟨mkT [(0,.yl 2000),(8,.l 1 d1 A0),(9,.i ((d1.map A0).length:Int)),(10,.i v6)],[(2000,.frn 2000)],[kL Gk0 [1,0,0],.inBlock 0]⟩:=by
  clear hF;intro nL1
  induction nL1 with
  |zero=>intro r v6 hF;cases hF
  |succ nL1 iL1=>
   intro r v6 hF
   rw[Y7]at hF
   refine jI 6 11 hF ?_ ?_<;>intro hF
   ·obtain⟨y9,e9,hF⟩:=bnd hF
    refine jo1 7 (gm (f:=A0) e9) ?_
    have hL2:∀(nL2:Nat) (r:List (Int×A1)) (v8:Int),Ai7 v6 y9 (Y7 fuel d1 nL1) nL2 v8=some r→J none Tryz.prog 28 [] (Ej5 Tryz.prog Tryz.f240 yl_ Inv_ Stop_ Pan_ false (some (r.map C8))) ⟨mkT [(0,.yl 2000),(3,.i v6),(8,.l 1 d1 A0),(9,.i ((d1.map A0).length:Int)),(10,.i v6),(15,.l 3 y9 A8),(16,.i ((y9.map A8).length:Int)),(17,.i v8)],[(2000,.frn 2000)],[kL Gk0 [1,0,0,1,1,0,0,1,1,0,0],.inBlock 2,.inBlock 1,kC Gk0 [1,0,0,1,1,1],kL Gk0 [1,0,0],.inBlock 0]⟩:=by
     clear hF;intro nL2
     induction nL2 with
     |zero=>intro r v8 hF;cases hF
     |succ nL2 iL2=>
      intro r v8 hF
      rw[Ai7]at hF
      refine jI 6 18 hF ?_ ?_<;>intro hF
      ·obtain⟨y12,e12,hF⟩:=bnd hF
       refine jo1 6 (gm (f:=A8) e12) ?_
       obtain⟨l9,hY_,hr_⟩:=bnd hF
       clear hF;have hr_:=Option.some.inj hr_;subst hr_;have hF:=hY_;clear hY_
       refine C2 9 (Dl5 hR_ (xs:=[.i v6,.agg [.s y12.Act,.s y12.Gain,.l 2 y12.Next B5]]) [.i v6,.agg [.s y12.Act,.s y12.Gain,.l 2 y12.Next B5]] (ys:=l9.map C8) (by kernel_rfl) (by kernel_rfl) (Q6.refl _) ?_ ?_)
       rotate_left
       ·exact C2 3 (Bl7 hR_ (.inr rfl) rfl rfl (by kernel_rfl))
       ·exact ja 9 (iL2 _ _ hF)
      ·exact ja 7 (iL1 _ _ hF)
    exact ja 12 (hL2 _ _ _ hF)
   ·have hF:=oi hF;subst hF
    exact C2 2 (Bl7 hR_ (.inl ⟨rfl,rfl⟩) rfl rfl (by kernel_rfl))
 exact ja 9 (hL1 _ _ _ hF)
def Ft2(d0:Int):Option Bool:=
 Option.bind (
  bif decide (d0<97) then
   (some true)
  else
   (some (decide (d0>122)))) fun o1=>
 some o1
noncomputable abbrev Hb3:=C1 Tryz.f213
abbrev Hh2(r:Bool):=J none Tryz.prog 9 [] (H3 Tryz.prog Tryz.f213 (.b r))
theorem Fa4{d0:Int}{r:Bool}(hF:Ft2 d0=some r):
 C3 Tryz.prog 213 [.y d0] (.b r):=by
 unfold Ft2 at hF
 refine cf 9 Tryz.func213 ?_
 obtain⟨o1,hO,hF⟩:=bnd hF
 have hR1:Hh2 r ⟨mkT [(2,.b o1)],[],[kO Hb3 [1,0],kC Hb3 [1,1]]⟩:=by
  clear hO
  cases hF
  exact jr 1
 clear hF;rename _=some o1=>hF
 refine jI 9 5 hF ?_ ?_<;>intro hF
 ·cases hF
  exact ja 4 hR1
 ·cases hF
  exact ja 4 hR1
def Ab7(d0:List Int):Nat→Int→Option Int
 |0,_=>none
 |nL1+1,v2=>
  bif decide (v2<((d0.map K4).length:Int)) then
   (Option.bind (C4 d0 v2) fun y5=>
   Option.bind (Ft2 y5) fun y6=>
   bif y6 then
    (some v2)
   else
    ((Ab7 d0 nL1) (IntKind.i64.wrap (v2+1))))
  else
   (some (-1))
def Gi8(fuel:Nat)(d0:List Int):Option Int:=
 Ab7 d0 fuel 0
noncomputable abbrev Hb7:=C1 Tryz.f250
abbrev Hh8(r:Int):=J none Tryz.prog 19 [] (H3 Tryz.prog Tryz.f250 (.i r))
theorem Fb3{fuel:Nat}{d0:List Int}{r:Int}(hF:Gi8 fuel d0=some r):
 C3 Tryz.prog 250 [.l 1 d0 K4,.d (.fnc 213)] (.i r):=by
 unfold Gi8 at hF
 refine cf 19 Tryz.func250 ?_
 have hL1:∀(nL1:Nat) (v2:Int),Ab7 d0 nL1 v2=some r→Hh8 r ⟨mkT [(0,.l 1 d0 K4),(1,.d (.fnc 213)),(7,.i ((d0.map K4).length:Int)),(8,.i v2)],[],[kL Hb7 [1,0,1,0,0],.inBlock 0,kC Hb7 [1,1]]⟩:=by
  clear hF;intro nL1
  induction nL1 with
  |zero=>intro v2 hF;cases hF
  |succ nL1 iL1=>
   intro v2 hF
   rw[Ab7]at hF
   refine jI 6 9 hF ?_ ?_<;>intro hF
   ·obtain⟨y5,e5,hF⟩:=bnd hF
    refine jo1 14 (gm (f:=K4) e5) ?_
    refine jB 1 hF Gt8 Fa4 fun y6 hF=> ?_
    refine jI 1 16 hF ?_ ?_<;>intro hF
    ·cases hF
     exact jr 6
    ·exact ja 7 (iL1 _ hF)
   ·cases hF
    exact jr 6
 exact ja 13 (hL1 _ _ hF)
def Ft1(fuel:Nat)(d0:List Int):Option Bool:=
 Option.bind (Gi8 fuel d0) fun y1=>
 some (decide (y1≥0))
theorem Fa3{fuel:Nat}{d0:List Int}{r:Bool}(hF:Ft1 fuel d0=some r):
 C3 Tryz.prog 212 [.l 1 d0 K4,.d (.fnc 213)] (.b r):=by
 unfold Ft1 at hF
 refine cf 9 Tryz.func212 ?_
 refine jB 8 hF Gu4 Fb3 fun y1 hF=> ?_
 cases hF
 exact jr 3
def Ey8:Option Bool:=
 some false
def Ey9(fuel:Nat):List (Int×A1)→Option Bool
 |[]=>
  some true
 |y6::ys_F175_L1=>
  Option.bind (
   bif decide ((y6.2.Act.length:Int)>8) then
    (some true)
   else
    (Option.bind (Ft1 fuel (y6.2.Act.map toI)) fun y9=>
    some y9)) fun o2=>
  bif o2 then
   (Ey8)
  else
   ((Ey9 fuel ys_F175_L1))
noncomputable abbrev Cf5:=C1 Tryz.f175
def Hf4(fuel:Nat)(d0:Int)(d1:List Int)(d2:List (List A1))(d3:Int)(d4:Int):Option (Bool×Int):=
 Option.bind (Fb5 fuel d4 d0) fun y1=>
 ass (decide (y1≠0))<|
 some (decide ((IntKind.i64.wrap ((IntKind.i64.wrap (Int.tdiv d4 y1))*d0))≤9999),IntKind.i64.wrap ((IntKind.i64.wrap (Int.tdiv d4 y1))*d0))
def Ez0(v5:Int):Option (Bool×Int):=
 some (false,v5)
def Ez1(fuel:Nat)(d0:List Int)(d1:List (List A1))(d2:Int):List (Int×A1)→Int→Option (Bool×Int)
 |[],v4=>
  some (true,v4)
 |y12::ys_F176_L1,v4=>
  Option.bind (Cd6 fuel y12.2.Gain) fun y13=>
  Option.bind (
   bif !y13.2.2 then
    (some (true,v4))
   else
    (bif decide (y13.1<0) then
     (some (true,v4))
    else
     (Option.bind (Hf4 fuel y13.2.1 d0 d1 d2 v4) fun y16=>
     some (!y16.1,y16.2)))) fun o3=>
  bif o3.1 then
   (Ez0 o3.2)
  else
   ((Ez1 fuel d0 d1 d2 ys_F176_L1) o3.2)
noncomputable abbrev Cf6:=C1 Tryz.f176
def Gn3(fuel:Nat)(d0:Int)(d1:List Int)(d2:List (List A1))(d3:Int)(d4:Int):Option (Bool×Int):=
 Option.bind (Fb5 fuel d3 d0) fun y1=>
 ass (decide (y1≠0))<|
 some (decide ((IntKind.i64.wrap ((IntKind.i64.wrap (Int.tdiv d3 y1))*d0))≤9999),IntKind.i64.wrap ((IntKind.i64.wrap (Int.tdiv d3 y1))*d0))
def Di5(fuel:Nat)(d0:List B8)(v8:Int):Nat→Int→Int→Option (Bool×Int)
 |0,_,_=>none
 |nL2+1,v12,v13=>
  bif decide (v13<((d0.map B5).length:Int)) then
   (Option.bind (C4 d0 v13) fun y20=>
   Option.bind (Cd6 fuel y20.P) fun y21=>
   ass (decide (y21.2.1≠0))<|
   (Di5 fuel d0 v8 nL2) (IntKind.i64.wrap (v12+(IntKind.i64.wrap (y21.1*(IntKind.i64.wrap (Int.tdiv v8 y21.2.1)))))) (IntKind.i64.wrap (v13+1)))
  else
   (some (v12==v8,v8))
def Fa5(fuel:Nat)(d0:List B8)(d1:List Int)(d2:List (List A1))(d4:Int):Nat→Int→Int→Int→Option (Bool×Int)
 |0,_,_,_=>none
 |nL1+1,v6,v7,v8=>
  bif decide (v7<((d0.map B5).length:Int)) then
   (Option.bind (C4 d0 v7) fun y11=>
   Option.bind (Cd6 fuel y11.P) fun y12=>
   Option.bind (
    bif decide (y11.To≤v6) then
     (some (true,v8))
    else
     (bif decide (y11.To≥((d1.map A7).length:Int)) then
      (some (true,v8))
     else
      (bif !y12.2.2 then
       (some (true,v8))
      else
       (bif decide (y12.1<1) then
        (some (true,v8))
       else
        (Option.bind (Gn3 fuel y12.2.1 d1 d2 v8 d4) fun y15=>
        some (!y15.1,y15.2)))))) fun o3=>
   bif o3.1 then
    (some (false,o3.2))
   else
    ((Fa5 fuel d0 d1 d2 d4 nL1) y11.To (IntKind.i64.wrap (v7+1)) o3.2))
  else
   (Di5 fuel d0 v8 fuel 0 0)
noncomputable abbrev Ef8:=C1 Tryz.f216
noncomputable abbrev Da6:=C1 Tryz.f177
def Cz2(fuel:Nat)(d0:List Int)(d1:List (List A1))(d2:Int)(d3:Int):Option Bool:=
 Option.bind (
  bif decide (((d0.map A7).length:Int)≥1) then
   (bif decide (((d0.map A7).length:Int)≤12) then
    (bif ((d1.map A0).length:Int)==((d0.map A7).length:Int) then
     (Option.bind (Gh7 fuel d1) fun y3=>
     some (!y3))
    else
     (some false))
   else
    (some false))
  else
   (some false)) fun o1=>
 some o1
abbrev Gn9(d0:List Int)(d1:List (List A1))(d2:Int)(d3:Int)(r:Bool):=J none Tryz.prog 43 [] (Dc2 Tryz.prog Tryz.f173 [(2000,.box 238 [.l 1 d0 A7,.l 1 d1 A0,.i d2,.i d3])] (.b r))
theorem Ed6{fuel:Nat}{d0:List Int}{d1:List (List A1)}{d2:Int}{d3:Int}{r:Bool}(hF:Cz2 fuel d0 d1 d2 d3=some r):
 K5 Tryz.prog 173 [(2000,.box 238 [.l 1 d0 A7,.l 1 d1 A0,.i d2,.i d3])] [.ptr 2000 0] [(2000,.box 238 [.l 1 d0 A7,.l 1 d1 A0,.i d2,.i d3])] (.b r):=by
 unfold Cz2 at hF
 refine cr 43 Tryz.func173 ?_
 obtain⟨o1,hO,hF⟩:=bnd hF
 have hR1:Gn9 d0 d1 d2 d3 r ⟨mkT [(2,.b o1)],[(2000,.box 238 [.l 1 d0 A7,.l 1 d1 A0,.i d2,.i d3])],[kC Hi6 [1,1]]⟩:=by
  clear hO
  cases hF
  exact jrr 0
 clear hF;rename _=some o1=>hF
 refine jd 5 ?_
 refine dI 8 10 hF ?_ ?_<;>intro hF
 ·refine dI 9 19 hF ?_ ?_<;>intro hF
  ·refine dI 15 34 hF ?_ ?_<;>intro hF
   ·refine dB 5 hF Ga4 Ey3 fun y3 hF=> ?_
    refine je 3 ?_
    cases hF
    exact ja 0 hR1
   ·refine je 9 ?_
    cases hF
    exact ja 0 hR1
  ·refine je 24 ?_
   cases hF
   exact ja 0 hR1
 ·refine je 33 ?_
  cases hF
  exact ja 0 hR1
def Cz3(fuel:Nat)(d0:List Int)(d1:List (List A1))(d2:Int)(d3:Int):Option Bool:=
 Option.bind (Gi6 fuel d0) fun y1=>
 some (!y1)
theorem Ed7{fuel:Nat}{d0:List Int}{d1:List (List A1)}{d2:Int}{d3:Int}{r:Bool}(hF:Cz3 fuel d0 d1 d2 d3=some r):
 K5 Tryz.prog 174 [(2000,.box 238 [.l 1 d0 A7,.l 1 d1 A0,.i d2,.i d3])] [.ptr 2000 0] [(2000,.box 238 [.l 1 d0 A7,.l 1 d1 A0,.i d2,.i d3])] (.b r):=by
 unfold Cz3 at hF
 refine cr 10 Tryz.func174 ?_
 refine jB 11 hF Gt5 Fa1 fun y1 hF=> ?_
 cases hF
 exact jrr 3
def Bl2:Option Bool:=
 some false
def Y1(fuel:Nat):List (Int×A1)→Option Bool
 |[]=>
  some true
 |y6::ys_F175a_L1=>
  Option.bind (
   bif decide ((y6.2.Act.length:Int)>8) then
    (some true)
   else
    (Option.bind (Ft1 fuel (y6.2.Act.map toI)) fun y9=>
    some y9)) fun o2=>
  bif o2 then
   (Bl2)
  else
   ((Y1 fuel ys_F175a_L1))
def Bs5(fuel:Nat)(d0:List Int)(d1:List (List A1))(d2:Int)(d3:Int):Option Bool:=
 Option.bind (Cn5 (⟨d0,d1⟩:A9)) fun y1=>
 Option.bind (Fb1 fuel y1.1 y1.2) fun ys1=>
 Y1 fuel ys1
theorem Ed8{fuel:Nat}{d0:List Int}{d1:List (List A1)}{d2:Int}{d3:Int}{r:Bool}(hF:Bs5 fuel d0 d1 d2 d3=some r):
 K5 Tryz.prog 175 [(2000,.box 238 [.l 1 d0 A7,.l 1 d1 A0,.i d2,.i d3])] [.ptr 2000 0] [(2000,.box 238 [.l 1 d0 A7,.l 1 d1 A0,.i d2,.i d3])] (.b r):=by
 unfold Bs5 at hF
 refine Bm2 (N:=22) (b:=C1 Tryz.f175) Tryz.func175 (by kernel_rfl) rfl rfl (by kernel_rfl) (fun s_ r0_ w00_ M00_ st_=> ?_)
 obtain⟨y1,e1,hF⟩:=bnd hF
 refine jcr 11 [(9,2000)] Fh6 (Cd5 e1) ?_
 refine ja 2 (S0:=[(2,.ptr 2 0),(9,.fn 240 [] [.ptr 9 0])]) (O0:=[(2,.box 4 [.b false]),(9,.box 34 [.l 1 y1.1 A7,.l 1 y1.2 A0]),(2000,.box 238 [.l 1 d0 A7,.l 1 d1 A0,.i d2,.i d3])]) (T0:=[kC Cf5 [1,0,1,0],.inBlock 0,kC Cf5 [1,1]]) ?_
 refine Aq8 [(9,9),(2000,2000),(2,2100)] (by kernel_rfl) (by kernel_rfl) (by kernel_rfl) (by kernel_rfl) ?_
 refine Dl1 (S0:=[(2,.ptr 2100 0),(9,.fn 240 [] [.ptr 9 0])]) (O0:=[(9,.box 34 [.l 1 y1.1 A7,.l 1 y1.2 A0]),(2000,.box 238 [.l 1 d0 A7,.l 1 d1 A0,.i d2,.i d3]),(2100,.box 4 [.b false])]) (T0:=[kC Cf5 [1,0,1,0],.inBlock 0,kC Cf5 [1,1]]) [2,9] [9,2000,2100] (by kernel_rfl) rfl ?_
 obtain⟨ys1,e2,hF⟩:=bnd hF
 obtain⟨G_,hG_⟩:∃G:List (List Kx.V)→List (Nat×C0)→Prop,G=(fun yv ob=>∃(yl_:List (Int×A1)),yv=yl_.map C8∧ob=[(2000,.box 238 [.l 1 d0 A7,.l 1 d1 A0,.i d2,.i d3]),(2100,.box 4 [.b false])]∧Y1 fuel yl_=some r):=⟨_,rfl⟩
 obtain⟨GX_,hGX_⟩:∃G:Code→List (Nat×C0)→Prop,G=(fun j ob=>(∃(_:Unit),j= .ret∧ob=[(2000,.box 238 [.l 1 d0 A7,.l 1 d1 A0,.i d2,.i d3]),(2100,.box 4 [.b false])]∧Bl2=some r)):=⟨_,rfl⟩
 refine Az9 (P:=Tryz.prog) (g:=(.tmp 9)) (ps:= #[10,11]) (asg:=(cAt Cf5 [1,0,1,0,0])) (bo:=(cAt Cf5 [1,0,1,0,1])) (k:=[.inBlock 0,kC Cf5 [1,1]]) (gf:=240) (first:=[]) (cap:=[.ptr 9 0]) (xs:=[.rp [.sl 1 (y1.1.map A7),.sl 1 (y1.2.map A0)] 0]) (os:=[]) (S1:=[(2,.ptr 2100 0)]) (ob0:=[(2000,.box 238 [.l 1 d0 A7,.l 1 d1 A0,.i d2,.i d3]),(2100,.box 4 [.b false])]) [] [2] [2000,2100] [.rp [.sl 1 (y1.1.map A7),.sl 1 (y1.2.map A0)] 0] (ysAll:=ys1.map C8) [2000,2100] G_ GX_ rfl (by kernel_rfl) rfl (by kernel_rfl) rfl (by kernel_rfl) (Q6.refl _) Fh9 (Ce0 e2) (by kernel_rfl) (by kernel_rfl) (by kernel_rfl) ?_ ?_ ?_ ⟨by kernel_rfl,by kernel_rfl⟩ ?_ ?_ ?_
 ·rw[hG_];exact⟨ys1,rfl,by kernel_rfl,hF⟩
 ·intro yv_ ob_ h_;rw[hG_]at h_;obtain⟨_,_,rfl,_⟩:=h_;kernel_rfl
 ·intro j_ ob_ h_;rw[hGX_]at h_;rcases h_ with⟨_,_,rfl,_⟩<;>kernel_rfl
 ·intro x_ hxa_ hxb_ hxp_ yv_ ysv_ ob_ h_;rw[hG_]at h_
  obtain⟨yl_,hy_,rfl,hF⟩:=h_
  cases yl_ with
  |nil=>cases hy_
  |cons y6 ys_F175a_L1=>
   cases hy_;rw[Y1]at hF
   refine Ds7 (by kernel_rfl) ?_
   refine Dl1 (S0:=[(2,.ptr 2100 0),(10,.i y6.1),(11,.agg [.s y6.2.Act,.s y6.2.Gain,.l 2 y6.2.Next B5])]) (O0:=[(3000,.raw x_.D (.deferred (some []))),(3001,.raw x_.L (.loop (F9 x_ .ready none))),(2000,.box 238 [.l 1 d0 A7,.l 1 d1 A0,.i d2,.i d3]),(2100,.box 4 [.b false])]) (T0:=[kC Cf5 [1,0,1,0,0],.begR x_.L,kC Cf5 [1,0,1,0,1]]) [2,10,11] [3000,3001,2000,2100] (by kernel_rfl) rfl ?_
   refine ja 4 (S0:=[(2,.ptr 2100 0),(4,.ptr 4 0),(10,.i y6.1),(11,.agg [.s y6.2.Act,.s y6.2.Gain,.l 2 y6.2.Next B5])]) (O0:=[(3000,.raw x_.D (.deferred (some []))),(3001,.raw x_.L (.loop (F9 x_ .ready none))),(4,.box 26 [.s y6.2.Act,.s y6.2.Gain,.l 2 y6.2.Next B5]),(2000,.box 238 [.l 1 d0 A7,.l 1 d1 A0,.i d2,.i d3]),(2100,.box 4 [.b false])]) (T0:=[.begR x_.L,kC Cf5 [1,0,1,0,1]]) ?_
   refine Bt1 (l:=x_.L) (q:=3001) (k:=[kC Cf5 [1,0,1,0,1]]) (rec:=F9 x_ .ready none) rfl rfl rfl ?_
   obtain⟨o2,hO,hF⟩:=bnd hF
   have hR2:J (some x_.L) Tryz.prog 22 [] (Fi3 x_ G_ GX_ (fun _=>False) (ys_F175a_L1.map C8)) ⟨mkT [(2,.ptr 2100 0),(21,.b o2)],[(3000,.raw x_.D (.deferred (some []))),(3001,.raw x_.L (.loop (F9 x_ .busy none))),(2000,.box 238 [.l 1 d0 A7,.l 1 d1 A0,.i d2,.i d3]),(2100,.box 4 [.b false])],[kO Cf5 [1,0,1,0,1,0,0],kC Cf5 [1,0,1,0,1,0,1],.inBlock 1]⟩:=by
    clear hO
    refine jI 1 21 hF ?_ ?_<;>intro hF
    ·refine ja 5 (S0:=[]) (O0:=rob x_ .busy none [(2000,.box 238 [.l 1 d0 A7,.l 1 d1 A0,.i d2,.i d3]),(2100,.box 4 [.b false])]) (T0:=[.code (.ret),.inBlock 1]) ?_
     exact Dl4 rfl [(2000,.box 238 [.l 1 d0 A7,.l 1 d1 A0,.i d2,.i d3]),(2100,.box 4 [.b false])] (k:=[.inBlock 1]) rfl rfl rfl (by kernel_rfl) (by rw[hGX_];exact⟨(),rfl,rfl,hF⟩)
    ·refine ja 3 (S0:=[]) (O0:=rob x_ .busy none [(2000,.box 238 [.l 1 d0 A7,.l 1 d1 A0,.i d2,.i d3]),(2100,.box 4 [.b false])]) (T0:=[]) ?_
     exact Bt2 rfl [(2000,.box 238 [.l 1 d0 A7,.l 1 d1 A0,.i d2,.i d3]),(2100,.box 4 [.b false])] rfl rfl (by kernel_rfl) (by rw[hG_];exact⟨ys_F175a_L1,rfl,rfl,hF⟩)
   clear hF;rename _=some o2=>hF
   refine jI 8 16 hF ?_ ?_<;>intro hF
   ·cases hF
    exact ja 5 hR2
   ·refine C2 2 (E9 (o:=some (y6.2.Act.map Al5)) ((y6.2.Act.map toI).map K4) (by kernel_rfl) (bym (f:=K4) (fun _=>rfl)) ?_)
    refine jB 0 hF Gt7 Fa3 fun y9 hF=> ?_
    cases hF
    exact ja 1 hR2
 ·intro D_ ob_ h_;rw[hG_]at h_
  obtain⟨yl_,hy_,rfl,hF⟩:=h_
  cases yl_ with
  |cons _ _=>cases hy_
  |nil=>
   clear hy_;rw[Y1]at hF
   refine Bh9 st_ [(2100,2),(2000,2000)] (by kernel_rfl) (by kernel_rfl) (by kernel_rfl) (by kernel_rfl) ?_
   refine ja 0 (S0:=[(2,.ptr 2 0)]) (O0:=[(2,.box 4 [.b false]),(2000,.box 238 [.l 1 d0 A7,.l 1 d1 A0,.i d2,.i d3])]) (T0:=[.inBlock 0,kC Cf5 [1,1]]) ?_
   have hF:=oi hF;subst hF
   exact C2 5 (Bi0 (xs:=[.b true]) st_ [.b true] rfl rfl (by kernel_rfl) (Q6.refl _) rfl (by kernel_rfl))
 ·intro D_ ob_ j_ h_;rw[hGX_]at h_
  rcases h_ with⟨_,rfl,rfl,hF⟩
  ·unfold Bl2 at hF
   refine Bh9 st_ [(2100,2),(2000,2000)] (by kernel_rfl) (by kernel_rfl) (by kernel_rfl) (by kernel_rfl) ?_
   refine ja 0 (S0:=[(2,.ptr 2 0)]) (O0:=[(2,.box 4 [.b false]),(2000,.box 238 [.l 1 d0 A7,.l 1 d1 A0,.i d2,.i d3])]) (T0:=[.code (.ret),.inBlock 0,kC Cf5 [1,1]]) ?_
   have hF:=oi hF;subst hF
   exact C2 0 (Bi0 (xs:=[.b false]) st_ [.b false] rfl rfl (by kernel_rfl) (Q6.refl _) rfl (by kernel_rfl))
def Di4(fuel:Nat)(d0:Int)(d1:List Int)(d2:List (List A1))(d3:Int)(d4:Int):Option (Bool×Int):=
 Option.bind (Fb5 fuel d4 d0) fun y1=>
 ass (decide (y1≠0))<|
 some (decide ((IntKind.i64.wrap ((IntKind.i64.wrap (Int.tdiv d4 y1))*d0))≤9999),IntKind.i64.wrap ((IntKind.i64.wrap (Int.tdiv d4 y1))*d0))
theorem Ee5{fuel:Nat}{d0:Int}{d1:List Int}{d2:List (List A1)}{d3:Int}{d4:Int}{r:Bool×Int}(hF:Di4 fuel d0 d1 d2 d3 d4=some r):
 K5 Tryz.prog 215 [(2000,.box 238 [.l 1 d1 A7,.l 1 d2 A0,.i d3,.i d4])] [.ptr 2000 3,.i d0] [(2000,.box 238 [.l 1 d1 A7,.l 1 d2 A0,.i d3,.i r.2])] (.b r.1):=by
 unfold Di4 at hF
 refine cr 22 Tryz.func215 ?_
 refine jd 5 ?_
 refine dB 8 hF Gb5 Dj2 fun y1 hF=> ?_
 obtain⟨hb1,hF⟩:=Q0 hF
 refine do1 0 (ck hb1) ?_
 refine je 4 ?_
 cases hF
 exact jrr 8
def Bl3(v5:Int):Option (Bool×Int):=
 some (false,v5)
def G6(fuel:Nat)(d0:List Int)(d1:List (List A1))(d2:Int):List (Int×A1)→Int→Option (Bool×Int)
 |[],v4=>
  some (true,v4)
 |y12::ys_F176a_L1,v4=>
  Option.bind (Cd6 fuel y12.2.Gain) fun y13=>
  Option.bind (
   bif !y13.2.2 then
    (some (true,v4))
   else
    (bif decide (y13.1<0) then
     (some (true,v4))
    else
     (Option.bind (Di4 fuel y13.2.1 d0 d1 d2 v4) fun y16=>
     some (!y16.1,y16.2)))) fun o3=>
  bif o3.1 then
   (Bl3 o3.2)
  else
   ((G6 fuel d0 d1 d2 ys_F176a_L1) o3.2)
def Cd3(fuel:Nat)(d0:List Int)(d1:List (List A1))(d2:Int)(d3:Int):Option (Bool×Int):=
 Option.bind (Cn5 (⟨d0,d1⟩:A9)) fun y1=>
 Option.bind (Fb1 fuel y1.1 y1.2) fun ys1=>
 G6 fuel d0 d1 d2 ys1 1
theorem Ed9{fuel:Nat}{d0:List Int}{d1:List (List A1)}{d2:Int}{d3:Int}{r:Bool×Int}(hF:Cd3 fuel d0 d1 d2 d3=some r):
 K5 Tryz.prog 176 [(2000,.box 238 [.l 1 d0 A7,.l 1 d1 A0,.i d2,.i d3])] [.ptr 2000 0] [(2000,.box 238 [.l 1 d0 A7,.l 1 d1 A0,.i d2,.i r.2])] (.b r.1):=by
 unfold Cd3 at hF
 refine Bm2 (N:=39) (b:=C1 Tryz.f176) Tryz.func176 (by kernel_rfl) rfl rfl (by kernel_rfl) (fun s_ r0_ w00_ M00_ st_=> ?_)
 obtain⟨y1,e1,hF⟩:=bnd hF
 refine jcr 19 [(15,2000)] Fh6 (Cd5 e1) ?_
 refine ja 2 (S0:=[(1,.ptr 1 0),(2,.ptr 2 0),(15,.fn 240 [] [.ptr 15 0])]) (O0:=[(1,.box 195 [.ptr 2000 0]),(2,.box 4 [.b false]),(15,.box 34 [.l 1 y1.1 A7,.l 1 y1.2 A0]),(2000,.box 238 [.l 1 d0 A7,.l 1 d1 A0,.i d2,.i 1])]) (T0:=[kC Cf6 [1,1,0,1,0],.inBlock 0,kC Cf6 [1,1,1]]) ?_
 refine Aq8 [(15,15),(2000,2000),(1,2100),(2,2101)] (by kernel_rfl) (by kernel_rfl) (by kernel_rfl) (by kernel_rfl) ?_
 refine Dl1 (S0:=[(1,.ptr 2100 0),(2,.ptr 2101 0),(15,.fn 240 [] [.ptr 15 0])]) (O0:=[(15,.box 34 [.l 1 y1.1 A7,.l 1 y1.2 A0]),(2000,.box 238 [.l 1 d0 A7,.l 1 d1 A0,.i d2,.i 1]),(2100,.box 195 [.ptr 2000 0]),(2101,.box 4 [.b false])]) (T0:=[kC Cf6 [1,1,0,1,0],.inBlock 0,kC Cf6 [1,1,1]]) [1,2,15] [15,2000,2100,2101] (by kernel_rfl) rfl ?_
 obtain⟨ys1,e2,hF⟩:=bnd hF
 obtain⟨G_,hG_⟩:∃G:List (List Kx.V)→List (Nat×C0)→Prop,G=(fun yv ob=>∃(yl_:List (Int×A1)) (v4:Int),yv=yl_.map C8∧ob=[(2000,.box 238 [.l 1 d0 A7,.l 1 d1 A0,.i d2,.i v4]),(2100,.box 195 [.ptr 2000 0]),(2101,.box 4 [.b false])]∧G6 fuel d0 d1 d2 yl_ v4=some r):=⟨_,rfl⟩
 obtain⟨GX_,hGX_⟩:∃G:Code→List (Nat×C0)→Prop,G=(fun j ob=>(∃(v5:Int),j= .ret∧ob=[(2000,.box 238 [.l 1 d0 A7,.l 1 d1 A0,.i d2,.i v5]),(2100,.box 195 [.ptr 2000 0]),(2101,.box 4 [.b false])]∧Bl3 v5=some r)):=⟨_,rfl⟩
 refine Az9 (P:=Tryz.prog) (g:=(.tmp 15)) (ps:= #[16,17]) (asg:=(cAt Cf6 [1,1,0,1,0,0])) (bo:=(cAt Cf6 [1,1,0,1,0,1])) (k:=[.inBlock 0,kC Cf6 [1,1,1]]) (gf:=240) (first:=[]) (cap:=[.ptr 15 0]) (xs:=[.rp [.sl 1 (y1.1.map A7),.sl 1 (y1.2.map A0)] 0]) (os:=[]) (S1:=[(1,.ptr 2100 0),(2,.ptr 2101 0)]) (ob0:=[(2000,.box 238 [.l 1 d0 A7,.l 1 d1 A0,.i d2,.i 1]),(2100,.box 195 [.ptr 2000 0]),(2101,.box 4 [.b false])]) [] [1,2] [2000,2100,2101] [.rp [.sl 1 (y1.1.map A7),.sl 1 (y1.2.map A0)] 0] (ysAll:=ys1.map C8) [2000,2100,2101] G_ GX_ rfl (by kernel_rfl) rfl (by kernel_rfl) rfl (by kernel_rfl) (Q6.refl _) Fh9 (Ce0 e2) (by kernel_rfl) (by kernel_rfl) (by kernel_rfl) ?_ ?_ ?_ ⟨by kernel_rfl,by kernel_rfl⟩ ?_ ?_ ?_
 ·rw[hG_];exact⟨ys1,1,rfl,by kernel_rfl,hF⟩
 ·intro yv_ ob_ h_;rw[hG_]at h_;obtain⟨_,_,_,rfl,_⟩:=h_;kernel_rfl
 ·intro j_ ob_ h_;rw[hGX_]at h_;rcases h_ with⟨_,_,rfl,_⟩<;>kernel_rfl
 ·intro x_ hxa_ hxb_ hxp_ yv_ ysv_ ob_ h_;rw[hG_]at h_
  obtain⟨yl_,v4,hy_,rfl,hF⟩:=h_
  cases yl_ with
  |nil=>cases hy_
  |cons y12 ys_F176a_L1=>
   cases hy_;rw[G6]at hF
   refine Ds7 (by kernel_rfl) ?_
   refine Dl1 (S0:=[(1,.ptr 2100 0),(2,.ptr 2101 0),(16,.i y12.1),(17,.agg [.s y12.2.Act,.s y12.2.Gain,.l 2 y12.2.Next B5])]) (O0:=[(3000,.raw x_.D (.deferred (some []))),(3001,.raw x_.L (.loop (F9 x_ .ready none))),(2000,.box 238 [.l 1 d0 A7,.l 1 d1 A0,.i d2,.i v4]),(2100,.box 195 [.ptr 2000 0]),(2101,.box 4 [.b false])]) (T0:=[kC Cf6 [1,1,0,1,0,0],.begR x_.L,kC Cf6 [1,1,0,1,0,1]]) [1,2,16,17] [3000,3001,2000,2100,2101] (by kernel_rfl) rfl ?_
   refine ja 4 (S0:=[(1,.ptr 2100 0),(2,.ptr 2101 0),(4,.ptr 4 0),(16,.i y12.1),(17,.agg [.s y12.2.Act,.s y12.2.Gain,.l 2 y12.2.Next B5])]) (O0:=[(3000,.raw x_.D (.deferred (some []))),(3001,.raw x_.L (.loop (F9 x_ .ready none))),(4,.box 26 [.s y12.2.Act,.s y12.2.Gain,.l 2 y12.2.Next B5]),(2000,.box 238 [.l 1 d0 A7,.l 1 d1 A0,.i d2,.i v4]),(2100,.box 195 [.ptr 2000 0]),(2101,.box 4 [.b false])]) (T0:=[.begR x_.L,kC Cf6 [1,1,0,1,0,1]]) ?_
   refine Bt1 (l:=x_.L) (q:=3001) (k:=[kC Cf6 [1,1,0,1,0,1]]) (rec:=F9 x_ .ready none) rfl rfl rfl ?_
   refine jB 5 hF Fh7 Cd7 fun y13 hF=> ?_
   obtain⟨o3,hO,hF⟩:=bnd hF
   have hR3:J (some x_.L) Tryz.prog 39 [] (Fi3 x_ G_ GX_ (fun _=>False) (ys_F176a_L1.map C8)) ⟨mkT [(2,.ptr 2101 0),(38,.b o3.1)],[(3000,.raw x_.D (.deferred (some []))),(3001,.raw x_.L (.loop (F9 x_ .busy none))),(2000,.box 238 [.l 1 d0 A7,.l 1 d1 A0,.i d2,.i o3.2]),(2100,.box 195 [.ptr 2000 0]),(2101,.box 4 [.b false])],[kO Cf6 [1,1,0,1,0,1,0,1,0],kC Cf6 [1,1,0,1,0,1,0,1,1],.inBlock 1]⟩:=by
    clear hO
    refine jI 1 38 hF ?_ ?_<;>intro hF
    ·refine ja 5 (S0:=[]) (O0:=rob x_ .busy none [(2000,.box 238 [.l 1 d0 A7,.l 1 d1 A0,.i d2,.i o3.2]),(2100,.box 195 [.ptr 2000 0]),(2101,.box 4 [.b false])]) (T0:=[.code (.ret),.inBlock 1]) ?_
     exact Dl4 rfl [(2000,.box 238 [.l 1 d0 A7,.l 1 d1 A0,.i d2,.i o3.2]),(2100,.box 195 [.ptr 2000 0]),(2101,.box 4 [.b false])] (k:=[.inBlock 1]) rfl rfl rfl (by kernel_rfl) (by rw[hGX_];exact⟨o3.2,rfl,rfl,hF⟩)
    ·refine ja 3 (S0:=[]) (O0:=rob x_ .busy none [(2000,.box 238 [.l 1 d0 A7,.l 1 d1 A0,.i d2,.i o3.2]),(2100,.box 195 [.ptr 2000 0]),(2101,.box 4 [.b false])]) (T0:=[]) ?_
     exact Bt2 rfl [(2000,.box 238 [.l 1 d0 A7,.l 1 d1 A0,.i d2,.i o3.2]),(2100,.box 195 [.ptr 2000 0]),(2101,.box 4 [.b false])] rfl rfl (by kernel_rfl) (by rw[hG_];exact⟨ys_F176a_L1,o3.2,rfl,rfl,hF⟩)
   clear hF;rename _=some o3=>hF
   refine jI 13 27 hF ?_ ?_<;>intro hF
   ·cases hF
    exact ja 11 hR3
   ·refine jI 4 31 hF ?_ ?_<;>intro hF
    ·cases hF
     exact ja 7 hR3
    ·obtain⟨y16,e14,hF⟩:=bnd hF
     refine jcr 4 [(2000,2000)] Gb0 (Ee5 e14) ?_
     cases hF
     exact ja 2 hR3
 ·intro D_ ob_ h_;rw[hG_]at h_
  obtain⟨yl_,v4,hy_,rfl,hF⟩:=h_
  cases yl_ with
  |cons _ _=>cases hy_
  |nil=>
   clear hy_;rw[G6]at hF
   refine Bh9 st_ [(2100,1),(2101,2),(2000,2000)] (by kernel_rfl) (by kernel_rfl) (by kernel_rfl) (by kernel_rfl) ?_
   refine ja 0 (S0:=[(2,.ptr 2 0)]) (O0:=[(2,.box 4 [.b false]),(2000,.box 238 [.l 1 d0 A7,.l 1 d1 A0,.i d2,.i v4])]) (T0:=[.inBlock 0,kC Cf6 [1,1,1]]) ?_
   have hF:=oi hF;subst hF
   exact C2 5 (Bi0 (xs:=[.b true]) st_ [.b true] rfl rfl (by kernel_rfl) (Q6.refl _) rfl (by kernel_rfl))
 ·intro D_ ob_ j_ h_;rw[hGX_]at h_
  rcases h_ with⟨v5,rfl,rfl,hF⟩
  ·unfold Bl3 at hF
   refine Bh9 st_ [(2100,1),(2101,2),(2000,2000)] (by kernel_rfl) (by kernel_rfl) (by kernel_rfl) (by kernel_rfl) ?_
   refine ja 0 (S0:=[(2,.ptr 2 0)]) (O0:=[(2,.box 4 [.b false]),(2000,.box 238 [.l 1 d0 A7,.l 1 d1 A0,.i d2,.i v5])]) (T0:=[.code (.ret),.inBlock 0,kC Cf6 [1,1,1]]) ?_
   have hF:=oi hF;subst hF
   exact C2 0 (Bi0 (xs:=[.b false]) st_ [.b false] rfl rfl (by kernel_rfl) (Q6.refl _) rfl (by kernel_rfl))
def Cd8(fuel:Nat)(d0:Int)(d1:List Int)(d2:List (List A1))(d3:Int)(d4:Int):Option (Bool×Int):=
 Option.bind (Fb5 fuel d3 d0) fun y1=>
 ass (decide (y1≠0))<|
 some (decide ((IntKind.i64.wrap ((IntKind.i64.wrap (Int.tdiv d3 y1))*d0))≤9999),IntKind.i64.wrap ((IntKind.i64.wrap (Int.tdiv d3 y1))*d0))
theorem Ee6{fuel:Nat}{d0:Int}{d1:List Int}{d2:List (List A1)}{d3:Int}{d4:Int}{r:Bool×Int}(hF:Cd8 fuel d0 d1 d2 d3 d4=some r):
 K5 Tryz.prog 215 [(2000,.box 238 [.l 1 d1 A7,.l 1 d2 A0,.i d3,.i d4])] [.ptr 2000 2,.i d0] [(2000,.box 238 [.l 1 d1 A7,.l 1 d2 A0,.i r.2,.i d4])] (.b r.1):=by
 unfold Cd8 at hF
 refine cr 22 Tryz.func215 ?_
 refine jd 5 ?_
 refine dB 8 hF Gb5 Dj2 fun y1 hF=> ?_
 obtain⟨hb1,hF⟩:=Q0 hF
 refine do1 0 (ck hb1) ?_
 refine je 4 ?_
 cases hF
 exact jrr 8
def U4(fuel:Nat)(d0:List B8)(v8:Int):Nat→Int→Int→Option (Bool×Int)
 |0,_,_=>none
 |nL2+1,v12,v13=>
  bif decide (v13<((d0.map B5).length:Int)) then
   (Option.bind (C4 d0 v13) fun y20=>
   Option.bind (Cd6 fuel y20.P) fun y21=>
   ass (decide (y21.2.1≠0))<|
   (U4 fuel d0 v8 nL2) (IntKind.i64.wrap (v12+(IntKind.i64.wrap (y21.1*(IntKind.i64.wrap (Int.tdiv v8 y21.2.1)))))) (IntKind.i64.wrap (v13+1)))
  else
   (some (v12==v8,v8))
def I7(fuel:Nat)(d0:List B8)(d1:List Int)(d2:List (List A1))(d4:Int):Nat→Int→Int→Int→Option (Bool×Int)
 |0,_,_,_=>none
 |nL1+1,v6,v7,v8=>
  bif decide (v7<((d0.map B5).length:Int)) then
   (Option.bind (C4 d0 v7) fun y11=>
   Option.bind (Cd6 fuel y11.P) fun y12=>
   Option.bind (
    bif decide (y11.To≤v6) then
     (some (true,v8))
    else
     (bif decide (y11.To≥((d1.map A7).length:Int)) then
      (some (true,v8))
     else
      (bif !y12.2.2 then
       (some (true,v8))
      else
       (bif decide (y12.1<1) then
        (some (true,v8))
       else
        (Option.bind (Cd8 fuel y12.2.1 d1 d2 v8 d4) fun y15=>
        some (!y15.1,y15.2)))))) fun o3=>
   bif o3.1 then
    (some (false,o3.2))
   else
    ((I7 fuel d0 d1 d2 d4 nL1) y11.To (IntKind.i64.wrap (v7+1)) o3.2))
  else
   (U4 fuel d0 v8 fuel 0 0)
def Di6(fuel:Nat)(d0:List B8)(d1:List Int)(d2:List (List A1))(d3:Int)(d4:Int):Option (Bool×Int):=
 I7 fuel d0 d1 d2 d4 fuel (-1) 0 d3
abbrev Fb9(d1:List Int)(d2:List (List A1))(d4:Int)(r:Bool×Int):=J none Tryz.prog 94 [] (Dc2 Tryz.prog Tryz.f216 [(2000,.box 238 [.l 1 d1 A7,.l 1 d2 A0,.i r.2,.i d4])] (.b r.1))
theorem Ee7{fuel:Nat}{d0:List B8}{d1:List Int}{d2:List (List A1)}{d3:Int}{d4:Int}{r:Bool×Int}(hF:Di6 fuel d0 d1 d2 d3 d4=some r):
 K5 Tryz.prog 216 [(2000,.box 238 [.l 1 d1 A7,.l 1 d2 A0,.i d3,.i d4])] [.ptr 2000 0,.l 2 d0 B5] [(2000,.box 238 [.l 1 d1 A7,.l 1 d2 A0,.i r.2,.i d4])] (.b r.1):=by
 unfold Di6 at hF
 refine cr 94 Tryz.func216 ?_
 have hL1:∀(nL1:Nat) (v6:Int) (v7:Int) (v8:Int),I7 fuel d0 d1 d2 d4 nL1 v6 v7 v8=some r→Fb9 d1 d2 d4 r ⟨mkT [(0,.ptr 2000 0),(1,.l 2 d0 B5),(5,.i v6),(17,.l 2 d0 B5),(18,.i ((d0.map B5).length:Int)),(19,.i v7)],[(2000,.box 238 [.l 1 d1 A7,.l 1 d2 A0,.i v8,.i d4])],[kL Ef8 [1,1,0,1,0,0],.inBlock 0,kC Ef8 [1,1,1]]⟩:=by
  clear hF;intro nL1
  induction nL1 with
  |zero=>intro v6 v7 v8 hF;cases hF
  |succ nL1 iL1=>
   intro v6 v7 v8 hF
   rw[I7]at hF
   refine jI 6 20 hF ?_ ?_<;>intro hF
   ·obtain⟨y11,e11,hF⟩:=bnd hF
    refine jo1 6 (gm (f:=B5) e11) ?_
    refine jB 8 hF Fh7 Cd7 fun y12 hF=> ?_
    obtain⟨o3,hO,hF⟩:=bnd hF
    have hR3:Fb9 d1 d2 d4 r ⟨mkT [(0,.ptr 2000 0),(1,.l 2 d0 B5),(7,.ptr 7 0),(17,.l 2 d0 B5),(18,.i ((d0.map B5).length:Int)),(19,.i v7),(60,.b o3.1)],[(7,.box 29 [.i y11.To,.s y11.P]),(2000,.box 238 [.l 1 d1 A7,.l 1 d2 A0,.i o3.2,.i d4])],[kC Ef8 [1,1,0,1,0,0,1,1,0,0,1,1,0,1],kC Ef8 [1,1,0,1,0,0,1,1,0,0,1,1,1],.inBlock 1,kC Ef8 [1,1,0,1,0,0,1,1,1],kL Ef8 [1,1,0,1,0,0],.inBlock 0,kC Ef8 [1,1,1]]⟩:=by
     clear hO
     refine jI 0 60 hF ?_ ?_<;>intro hF
     ·cases hF
      exact jrr 5
     ·exact ja 12 (iL1 _ _ _ hF)
    clear hF;rename _=some o3=>hF
    refine jd 10 ?_
    refine dI 5 34 hF ?_ ?_<;>intro hF
    ·refine je 26 ?_
     cases hF
     exact ja 0 hR3
    ·refine dI 11 45 hF ?_ ?_<;>intro hF
     ·refine je 15 ?_
      cases hF
      exact ja 0 hR3
     ·refine dI 4 49 hF ?_ ?_<;>intro hF
      ·refine je 11 ?_
       cases hF
       exact ja 0 hR3
      ·refine dI 4 53 hF ?_ ?_<;>intro hF
       ·refine je 7 ?_
        cases hF
        exact ja 0 hR3
       ·obtain⟨y15,e15,hF⟩:=bnd hF
        refine dcr 4 [(2000,2000)] Gb0 (Ee6 e15) ?_
        refine je 2 ?_
        cases hF
        exact ja 0 hR3
   ·have hL2:∀(nL2:Nat) (v12:Int) (v13:Int),U4 fuel d0 v8 nL2 v12 v13=some r→Fb9 d1 d2 d4 r ⟨mkT [(0,.ptr 2000 0),(11,.i v12),(64,.l 2 d0 B5),(65,.i ((d0.map B5).length:Int)),(66,.i v13)],[(2000,.box 238 [.l 1 d1 A7,.l 1 d2 A0,.i v8,.i d4])],[kL Ef8 [1,1,1,1,0,1,0,0],.inBlock 2,kC Ef8 [1,1,1,1,1]]⟩:=by
     clear hF;intro nL2
     induction nL2 with
     |zero=>intro v12 v13 hF;cases hF
     |succ nL2 iL2=>
      intro v12 v13 hF
      rw[U4]at hF
      refine jI 6 67 hF ?_ ?_<;>intro hF
      ·obtain⟨y20,e20,hF⟩:=bnd hF
       refine jo1 6 (gm (f:=B5) e20) ?_
       refine jB 8 hF Fh7 Cd7 fun y21 hF=> ?_
       obtain⟨hb48,hF⟩:=Q0 hF
       refine jo1 16 (ck hb48) ?_
       exact ja 9 (iL2 _ _ hF)
      ·cases hF
       exact jrr 12
    exact ja 15 (hL2 _ _ _ hF)
 exact ja 17 (hL1 _ _ _ _ hF)
def Bl4(v3:Int):Option (Bool×Int):=
 some (false,v3)
def J9(fuel:Nat)(d0:List Int)(d1:List (List A1))(d3:Int):List (Int×A1)→Int→Option (Bool×Int)
 |[],v2=>
  some (true,v2)
 |y6::ys_F177a_L1,v2=>
  Option.bind (Di6 fuel y6.2.Next d0 d1 v2 d3) fun y7=>
  bif !y7.1 then
   (Bl4 y7.2)
  else
   ((J9 fuel d0 d1 d3 ys_F177a_L1) y7.2)
def Cz4(fuel:Nat)(d0:List Int)(d1:List (List A1))(d2:Int)(d3:Int):Option (Bool×Int):=
 Option.bind (Cn5 (⟨d0,d1⟩:A9)) fun y1=>
 Option.bind (Fb1 fuel y1.1 y1.2) fun ys1=>
 J9 fuel d0 d1 d3 ys1 1
theorem Ee0{fuel:Nat}{d0:List Int}{d1:List (List A1)}{d2:Int}{d3:Int}{r:Bool×Int}(hF:Cz4 fuel d0 d1 d2 d3=some r):
 K5 Tryz.prog 177 [(2000,.box 238 [.l 1 d0 A7,.l 1 d1 A0,.i d2,.i d3])] [.ptr 2000 0] [(2000,.box 238 [.l 1 d0 A7,.l 1 d1 A0,.i r.2,.i d3])] (.b r.1):=by
 unfold Cz4 at hF
 refine Bm2 (N:=20) (b:=C1 Tryz.f177) Tryz.func177 (by kernel_rfl) rfl rfl (by kernel_rfl) (fun s_ r0_ w00_ M00_ st_=> ?_)
 obtain⟨y1,e1,hF⟩:=bnd hF
 refine jcr 19 [(12,2000)] Fh6 (Cd5 e1) ?_
 refine ja 2 (S0:=[(1,.ptr 1 0),(2,.ptr 2 0),(12,.fn 240 [] [.ptr 12 0])]) (O0:=[(1,.box 195 [.ptr 2000 0]),(2,.box 4 [.b false]),(12,.box 34 [.l 1 y1.1 A7,.l 1 y1.2 A0]),(2000,.box 238 [.l 1 d0 A7,.l 1 d1 A0,.i 1,.i d3])]) (T0:=[kC Da6 [1,1,0,1,0],.inBlock 0,kC Da6 [1,1,1]]) ?_
 refine Aq8 [(12,12),(2000,2000),(1,2100),(2,2101)] (by kernel_rfl) (by kernel_rfl) (by kernel_rfl) (by kernel_rfl) ?_
 refine Dl1 (S0:=[(1,.ptr 2100 0),(2,.ptr 2101 0),(12,.fn 240 [] [.ptr 12 0])]) (O0:=[(12,.box 34 [.l 1 y1.1 A7,.l 1 y1.2 A0]),(2000,.box 238 [.l 1 d0 A7,.l 1 d1 A0,.i 1,.i d3]),(2100,.box 195 [.ptr 2000 0]),(2101,.box 4 [.b false])]) (T0:=[kC Da6 [1,1,0,1,0],.inBlock 0,kC Da6 [1,1,1]]) [1,2,12] [12,2000,2100,2101] (by kernel_rfl) rfl ?_
 obtain⟨ys1,e2,hF⟩:=bnd hF
 obtain⟨G_,hG_⟩:∃G:List (List Kx.V)→List (Nat×C0)→Prop,G=(fun yv ob=>∃(yl_:List (Int×A1)) (v2:Int),yv=yl_.map C8∧ob=[(2000,.box 238 [.l 1 d0 A7,.l 1 d1 A0,.i v2,.i d3]),(2100,.box 195 [.ptr 2000 0]),(2101,.box 4 [.b false])]∧J9 fuel d0 d1 d3 yl_ v2=some r):=⟨_,rfl⟩
 obtain⟨GX_,hGX_⟩:∃G:Code→List (Nat×C0)→Prop,G=(fun j ob=>(∃(v3:Int),j= .ret∧ob=[(2000,.box 238 [.l 1 d0 A7,.l 1 d1 A0,.i v3,.i d3]),(2100,.box 195 [.ptr 2000 0]),(2101,.box 4 [.b false])]∧Bl4 v3=some r)):=⟨_,rfl⟩
 refine Az9 (P:=Tryz.prog) (g:=(.tmp 12)) (ps:= #[13,14]) (asg:=(cAt Da6 [1,1,0,1,0,0])) (bo:=(cAt Da6 [1,1,0,1,0,1])) (k:=[.inBlock 0,kC Da6 [1,1,1]]) (gf:=240) (first:=[]) (cap:=[.ptr 12 0]) (xs:=[.rp [.sl 1 (y1.1.map A7),.sl 1 (y1.2.map A0)] 0]) (os:=[]) (S1:=[(1,.ptr 2100 0),(2,.ptr 2101 0)]) (ob0:=[(2000,.box 238 [.l 1 d0 A7,.l 1 d1 A0,.i 1,.i d3]),(2100,.box 195 [.ptr 2000 0]),(2101,.box 4 [.b false])]) [] [1,2] [2000,2100,2101] [.rp [.sl 1 (y1.1.map A7),.sl 1 (y1.2.map A0)] 0] (ysAll:=ys1.map C8) [2000,2100,2101] G_ GX_ rfl (by kernel_rfl) rfl (by kernel_rfl) rfl (by kernel_rfl) (Q6.refl _) Fh9 (Ce0 e2) (by kernel_rfl) (by kernel_rfl) (by kernel_rfl) ?_ ?_ ?_ ⟨by kernel_rfl,by kernel_rfl⟩ ?_ ?_ ?_
 ·rw[hG_];exact⟨ys1,1,rfl,by kernel_rfl,hF⟩
 ·intro yv_ ob_ h_;rw[hG_]at h_;obtain⟨_,_,_,rfl,_⟩:=h_;kernel_rfl
 ·intro j_ ob_ h_;rw[hGX_]at h_;rcases h_ with⟨_,_,rfl,_⟩<;>kernel_rfl
 ·intro x_ hxa_ hxb_ hxp_ yv_ ysv_ ob_ h_;rw[hG_]at h_
  obtain⟨yl_,v2,hy_,rfl,hF⟩:=h_
  cases yl_ with
  |nil=>cases hy_
  |cons y6 ys_F177a_L1=>
   cases hy_;rw[J9]at hF
   refine Ds7 (by kernel_rfl) ?_
   refine Dl1 (S0:=[(1,.ptr 2100 0),(2,.ptr 2101 0),(13,.i y6.1),(14,.agg [.s y6.2.Act,.s y6.2.Gain,.l 2 y6.2.Next B5])]) (O0:=[(3000,.raw x_.D (.deferred (some []))),(3001,.raw x_.L (.loop (F9 x_ .ready none))),(2000,.box 238 [.l 1 d0 A7,.l 1 d1 A0,.i v2,.i d3]),(2100,.box 195 [.ptr 2000 0]),(2101,.box 4 [.b false])]) (T0:=[kC Da6 [1,1,0,1,0,0],.begR x_.L,kC Da6 [1,1,0,1,0,1]]) [1,2,13,14] [3000,3001,2000,2100,2101] (by kernel_rfl) rfl ?_
   refine ja 4 (S0:=[(1,.ptr 2100 0),(2,.ptr 2101 0),(4,.ptr 4 0),(13,.i y6.1),(14,.agg [.s y6.2.Act,.s y6.2.Gain,.l 2 y6.2.Next B5])]) (O0:=[(3000,.raw x_.D (.deferred (some []))),(3001,.raw x_.L (.loop (F9 x_ .ready none))),(4,.box 26 [.s y6.2.Act,.s y6.2.Gain,.l 2 y6.2.Next B5]),(2000,.box 238 [.l 1 d0 A7,.l 1 d1 A0,.i v2,.i d3]),(2100,.box 195 [.ptr 2000 0]),(2101,.box 4 [.b false])]) (T0:=[.begR x_.L,kC Da6 [1,1,0,1,0,1]]) ?_
   refine Bt1 (l:=x_.L) (q:=3001) (k:=[kC Da6 [1,1,0,1,0,1]]) (rec:=F9 x_ .ready none) rfl rfl rfl ?_
   obtain⟨y7,e5,hF⟩:=bnd hF
   refine jcr 6 [(2000,2000)] Gt9 (Ee7 e5) ?_
   refine jI 2 19 hF ?_ ?_<;>intro hF
   ·refine ja 5 (S0:=[]) (O0:=rob x_ .busy none [(2000,.box 238 [.l 1 d0 A7,.l 1 d1 A0,.i y7.2,.i d3]),(2100,.box 195 [.ptr 2000 0]),(2101,.box 4 [.b false])]) (T0:=[.code (.ret),.inBlock 1]) ?_
    exact Dl4 rfl [(2000,.box 238 [.l 1 d0 A7,.l 1 d1 A0,.i y7.2,.i d3]),(2100,.box 195 [.ptr 2000 0]),(2101,.box 4 [.b false])] (k:=[.inBlock 1]) rfl rfl rfl (by kernel_rfl) (by rw[hGX_];exact⟨y7.2,rfl,rfl,hF⟩)
   ·refine ja 3 (S0:=[]) (O0:=rob x_ .busy none [(2000,.box 238 [.l 1 d0 A7,.l 1 d1 A0,.i y7.2,.i d3]),(2100,.box 195 [.ptr 2000 0]),(2101,.box 4 [.b false])]) (T0:=[]) ?_
    exact Bt2 rfl [(2000,.box 238 [.l 1 d0 A7,.l 1 d1 A0,.i y7.2,.i d3]),(2100,.box 195 [.ptr 2000 0]),(2101,.box 4 [.b false])] rfl rfl (by kernel_rfl) (by rw[hG_];exact⟨ys_F177a_L1,y7.2,rfl,rfl,hF⟩)
 ·intro D_ ob_ h_;rw[hG_]at h_
  obtain⟨yl_,v2,hy_,rfl,hF⟩:=h_
  cases yl_ with
  |cons _ _=>cases hy_
  |nil=>
   clear hy_;rw[J9]at hF
   refine Bh9 st_ [(2100,1),(2101,2),(2000,2000)] (by kernel_rfl) (by kernel_rfl) (by kernel_rfl) (by kernel_rfl) ?_
   refine ja 0 (S0:=[(2,.ptr 2 0)]) (O0:=[(2,.box 4 [.b false]),(2000,.box 238 [.l 1 d0 A7,.l 1 d1 A0,.i v2,.i d3])]) (T0:=[.inBlock 0,kC Da6 [1,1,1]]) ?_
   have hF:=oi hF;subst hF
   exact C2 5 (Bi0 (xs:=[.b true]) st_ [.b true] rfl rfl (by kernel_rfl) (Q6.refl _) rfl (by kernel_rfl))
 ·intro D_ ob_ j_ h_;rw[hGX_]at h_
  rcases h_ with⟨v3,rfl,rfl,hF⟩
  ·unfold Bl4 at hF
   refine Bh9 st_ [(2100,1),(2101,2),(2000,2000)] (by kernel_rfl) (by kernel_rfl) (by kernel_rfl) (by kernel_rfl) ?_
   refine ja 0 (S0:=[(2,.ptr 2 0)]) (O0:=[(2,.box 4 [.b false]),(2000,.box 238 [.l 1 d0 A7,.l 1 d1 A0,.i v3,.i d3])]) (T0:=[.code (.ret),.inBlock 0,kC Da6 [1,1,1]]) ?_
   have hF:=oi hF;subst hF
   exact C2 0 (Bi0 (xs:=[.b false]) st_ [.b false] rfl rfl (by kernel_rfl) (Q6.refl _) rfl (by kernel_rfl))
def H4(fuel:Nat)(d0:A9):Nat→Int→Int→Int→Option (B3×Bool)
 |0,_,_,_=>none
 |nL1+1,v4,v5,v6=>
  bif decide (v4<5) then
   (bif decide (v4=0) then
    (Option.bind (Cz2 fuel d0.Owner d0.Choices v5 v6) fun y11=>
    bif !y11 then
     (some ((⟨d0,v5,v6⟩:B3),false))
    else
     ((H4 fuel d0 nL1) (IntKind.i64.wrap (v4+1)) v5 v6))
   else bif decide (v4=1) then
    (Option.bind (Cz3 fuel d0.Owner d0.Choices v5 v6) fun y12=>
    bif !y12 then
     (some ((⟨d0,v5,v6⟩:B3),false))
    else
     ((H4 fuel d0 nL1) (IntKind.i64.wrap (v4+1)) v5 v6))
   else bif decide (v4=2) then
    (Option.bind (Bs5 fuel d0.Owner d0.Choices v5 v6) fun y13=>
    bif !y13 then
     (some ((⟨d0,v5,v6⟩:B3),false))
    else
     ((H4 fuel d0 nL1) (IntKind.i64.wrap (v4+1)) v5 v6))
   else bif decide (v4=3) then
    (Option.bind (Cd3 fuel d0.Owner d0.Choices v5 v6) fun y14=>
    bif !y14.1 then
     (some ((⟨d0,v5,y14.2⟩:B3),false))
    else
     ((H4 fuel d0 nL1) (IntKind.i64.wrap (v4+1)) v5 y14.2))
   else bif decide (v4=4) then
    (Option.bind (Cz4 fuel d0.Owner d0.Choices v5 v6) fun y15=>
    bif !y15.1 then
     (some ((⟨d0,y15.2,v6⟩:B3),false))
    else
     ((H4 fuel d0 nL1) (IntKind.i64.wrap (v4+1)) y15.2 v6))
   else none)
  else
   (some ((⟨d0,v5,v6⟩:B3),true))
def Dg5(fuel:Nat)(d0:A9):Option (B3×Bool):=
 H4 fuel d0 fuel 0 0 0
noncomputable abbrev Ha5:=C1 Tryz.f132
abbrev Hg2(r:B3×Bool):=J none Tryz.prog 22 [] (H3 Tryz.prog Tryz.f132 (.tup [.d (.pt [.sl 1 (r.1.Model.Owner.map A7),.sl 1 (r.1.Model.Choices.map A0),.int .i64 r.1.p,.int .i64 r.1.gains]),.b r.2]))
theorem Ex7{fuel:Nat}{d0:A9}{r:B3×Bool}(hF:Dg5 fuel d0=some r):
 C3 Tryz.prog 132 [.agg [.l 1 d0.Owner A7,.l 1 d0.Choices A0]] (.tup [.d (.pt [.sl 1 (r.1.Model.Owner.map A7),.sl 1 (r.1.Model.Choices.map A0),.int .i64 r.1.p,.int .i64 r.1.gains]),.b r.2]):=by
 unfold Dg5 at hF
 refine cf 22 Tryz.func132 ?_
 have hL1:∀(nL1:Nat) (v4:Int) (v5:Int) (v6:Int),H4 fuel d0 nL1 v4 v5 v6=some r→Hg2 r ⟨mkT [(4,.ptr 10 0),(5,.b true),(11,.agg [.d (.fnc 173),.d (.fnc 174),.d (.fnc 175),.d (.fnc 176),.d (.fnc 177)]),(12,.i v4)],[(10,.box 238 [.l 1 d0.Owner A7,.l 1 d0.Choices A0,.i v5,.i v6])],[kL Ha5 [1,0,1,1,1,0,1,0,0],.inBlock 0,kC Ha5 [1,0,1,1,1,1],.inScope]⟩:=by
  clear hF;intro nL1
  induction nL1 with
  |zero=>intro v4 v5 v6 hF;cases hF
  |succ nL1 iL1=>
   intro v4 v5 v6 hF
   rw[H4]at hF
   refine jI 6 13 hF ?_ ?_<;>intro hF
   ·rcases Bool.eq_false_or_eq_true (decide (v4=0)) with hb23|hb23
    ·replace hF:=ift hb23 hF
     refine C2 6 (E8 (o:=C4 (L9 1 5 ([.fnc 173,.fnc 174,.fnc 175,.fnc 176,.fnc 177]:List Dat)) v4) ([.fnc 173]:List Dat) (by kernel_rfl) (by rw[of_decide_eq_true hb23];rfl) ?_)
     obtain⟨y11,e11,hF⟩:=bnd hF
     refine jcr 6 [(10,2000)] Gs3 (Ed6 e11) ?_
     refine jI 2 18 hF ?_ ?_<;>intro hF
     ·have hF:=oi hF;subst hF
      exact C2 13 (Ce6 (xs:=[.rp [.sl 1 (d0.Owner.map A7),.sl 1 (d0.Choices.map A0),.int .i64 v5,.int .i64 v6] 0,.b false]) [.d (.pt [.sl 1 ((((⟨d0,v5,v6⟩:B3).Model).Owner).map A7),.sl 1 ((((⟨d0,v5,v6⟩:B3).Model).Choices).map A0),.int .i64 ((⟨d0,v5,v6⟩:B3).p),.int .i64 ((⟨d0,v5,v6⟩:B3).gains)]),.b false] rfl rfl (by kernel_rfl) ⟨Re.pt _,⟨Re.refl _,trivial⟩⟩ rfl)
     ·exact ja 7 (iL1 _ _ _ hF)
    ·replace hF:=Fr5 hb23 hF
     rcases Bool.eq_false_or_eq_true (decide (v4=1)) with hb25|hb25
     ·replace hF:=ift hb25 hF
      refine C2 6 (E8 (o:=C4 (L9 1 5 ([.fnc 173,.fnc 174,.fnc 175,.fnc 176,.fnc 177]:List Dat)) v4) ([.fnc 174]:List Dat) (by kernel_rfl) (by rw[of_decide_eq_true hb25];rfl) ?_)
      obtain⟨y12,e12,hF⟩:=bnd hF
      refine jcr 6 [(10,2000)] Gs4 (Ed7 e12) ?_
      refine jI 2 18 hF ?_ ?_<;>intro hF
      ·have hF:=oi hF;subst hF
       exact C2 13 (Ce6 (xs:=[.rp [.sl 1 (d0.Owner.map A7),.sl 1 (d0.Choices.map A0),.int .i64 v5,.int .i64 v6] 0,.b false]) [.d (.pt [.sl 1 ((((⟨d0,v5,v6⟩:B3).Model).Owner).map A7),.sl 1 ((((⟨d0,v5,v6⟩:B3).Model).Choices).map A0),.int .i64 ((⟨d0,v5,v6⟩:B3).p),.int .i64 ((⟨d0,v5,v6⟩:B3).gains)]),.b false] rfl rfl (by kernel_rfl) ⟨Re.pt _,⟨Re.refl _,trivial⟩⟩ rfl)
      ·exact ja 7 (iL1 _ _ _ hF)
     ·replace hF:=Fr5 hb25 hF
      rcases Bool.eq_false_or_eq_true (decide (v4=2)) with hb27|hb27
      ·replace hF:=ift hb27 hF
       refine C2 6 (E8 (o:=C4 (L9 1 5 ([.fnc 173,.fnc 174,.fnc 175,.fnc 176,.fnc 177]:List Dat)) v4) ([.fnc 175]:List Dat) (by kernel_rfl) (by rw[of_decide_eq_true hb27];rfl) ?_)
       obtain⟨y13,e13,hF⟩:=bnd hF
       refine jcr 6 [(10,2000)] Gs5 (Ed8 e13) ?_
       refine jI 2 18 hF ?_ ?_<;>intro hF
       ·have hF:=oi hF;subst hF
        exact C2 13 (Ce6 (xs:=[.rp [.sl 1 (d0.Owner.map A7),.sl 1 (d0.Choices.map A0),.int .i64 v5,.int .i64 v6] 0,.b false]) [.d (.pt [.sl 1 ((((⟨d0,v5,v6⟩:B3).Model).Owner).map A7),.sl 1 ((((⟨d0,v5,v6⟩:B3).Model).Choices).map A0),.int .i64 ((⟨d0,v5,v6⟩:B3).p),.int .i64 ((⟨d0,v5,v6⟩:B3).gains)]),.b false] rfl rfl (by kernel_rfl) ⟨Re.pt _,⟨Re.refl _,trivial⟩⟩ rfl)
       ·exact ja 7 (iL1 _ _ _ hF)
      ·replace hF:=Fr5 hb27 hF
       rcases Bool.eq_false_or_eq_true (decide (v4=3)) with hb29|hb29
       ·replace hF:=ift hb29 hF
        refine C2 6 (E8 (o:=C4 (L9 1 5 ([.fnc 173,.fnc 174,.fnc 175,.fnc 176,.fnc 177]:List Dat)) v4) ([.fnc 176]:List Dat) (by kernel_rfl) (by rw[of_decide_eq_true hb29];rfl) ?_)
        obtain⟨y14,e14,hF⟩:=bnd hF
        refine jcr 6 [(10,2000)] Gs6 (Ed9 e14) ?_
        refine jI 2 18 hF ?_ ?_<;>intro hF
        ·have hF:=oi hF;subst hF
         exact C2 13 (Ce6 (xs:=[.rp [.sl 1 (d0.Owner.map A7),.sl 1 (d0.Choices.map A0),.int .i64 v5,.int .i64 y14.2] 0,.b false]) [.d (.pt [.sl 1 ((((⟨d0,v5,y14.2⟩:B3).Model).Owner).map A7),.sl 1 ((((⟨d0,v5,y14.2⟩:B3).Model).Choices).map A0),.int .i64 ((⟨d0,v5,y14.2⟩:B3).p),.int .i64 ((⟨d0,v5,y14.2⟩:B3).gains)]),.b false] rfl rfl (by kernel_rfl) ⟨Re.pt _,⟨Re.refl _,trivial⟩⟩ rfl)
        ·exact ja 7 (iL1 _ _ _ hF)
       ·replace hF:=Fr5 hb29 hF
        rcases Bool.eq_false_or_eq_true (decide (v4=4)) with hb31|hb31
        ·replace hF:=ift hb31 hF
         refine C2 6 (E8 (o:=C4 (L9 1 5 ([.fnc 173,.fnc 174,.fnc 175,.fnc 176,.fnc 177]:List Dat)) v4) ([.fnc 177]:List Dat) (by kernel_rfl) (by rw[of_decide_eq_true hb31];rfl) ?_)
         obtain⟨y15,e15,hF⟩:=bnd hF
         refine jcr 6 [(10,2000)] Gs7 (Ee0 e15) ?_
         refine jI 2 18 hF ?_ ?_<;>intro hF
         ·have hF:=oi hF;subst hF
          exact C2 13 (Ce6 (xs:=[.rp [.sl 1 (d0.Owner.map A7),.sl 1 (d0.Choices.map A0),.int .i64 y15.2,.int .i64 v6] 0,.b false]) [.d (.pt [.sl 1 ((((⟨d0,y15.2,v6⟩:B3).Model).Owner).map A7),.sl 1 ((((⟨d0,y15.2,v6⟩:B3).Model).Choices).map A0),.int .i64 ((⟨d0,y15.2,v6⟩:B3).p),.int .i64 ((⟨d0,y15.2,v6⟩:B3).gains)]),.b false] rfl rfl (by kernel_rfl) ⟨Re.pt _,⟨Re.refl _,trivial⟩⟩ rfl)
         ·exact ja 7 (iL1 _ _ _ hF)
        ·replace hF:=Fr5 hb31 hF
         cases hF
   ·have hF:=oi hF;subst hF
    exact C2 9 (Ce6 (xs:=[.rp [.sl 1 (d0.Owner.map A7),.sl 1 (d0.Choices.map A0),.int .i64 v5,.int .i64 v6] 0,.b true]) [.d (.pt [.sl 1 ((((⟨d0,v5,v6⟩:B3).Model).Owner).map A7),.sl 1 ((((⟨d0,v5,v6⟩:B3).Model).Choices).map A0),.int .i64 ((⟨d0,v5,v6⟩:B3).p),.int .i64 ((⟨d0,v5,v6⟩:B3).gains)]),.b true] rfl rfl (by kernel_rfl) ⟨Re.pt _,⟨Re.refl _,trivial⟩⟩ rfl)
 exact ja 28 (hL1 _ _ _ _ hF)
def F93(fuel:Nat)(d0:A9):Option Int:=
 Option.bind (Dg5 fuel d0) fun y1=>
 bif !y1.2 then
  (some 110)
 else
  (some 0)
theorem Co5{fuel:Nat}{d0:A9}{r:Int}(hF:F93 fuel d0=some r):
 C3 Tryz.prog 93 [.agg [.l 1 d0.Owner A7,.l 1 d0.Choices A0]] (.i r):=by
 unfold F93 at hF
 refine cf 12 Tryz.func93 ?_
 refine jB 9 hF Gr4 Ex7 fun y1 hF=> ?_
 refine jI 11 11 hF ?_ ?_<;>intro hF
 ·cases hF
  exact jr 5
 ·cases hF
  exact jr 6
end
section
theorem Gl5:B1 Tryz.prog 93:=Kx.A6 Tryz.func93 (by kernel_rfl) (by kernel_rfl)
theorem Fr3:B1 Tryz.prog 51:=Kx.A6 Tryz.func51 (by kernel_rfl) (by kernel_rfl)
theorem Gv2:B1 Tryz.prog 87:=Kx.A6 Tryz.func87 (by kernel_rfl) (by kernel_rfl)
theorem Gk9:B1 Tryz.prog 43:=Kx.A6 Tryz.func43 (by kernel_rfl) (by kernel_rfl)
theorem Gl0:B1 Tryz.prog 44:=Kx.A6 Tryz.func44 (by kernel_rfl) (by kernel_rfl)
theorem Gu7:B1 Tryz.prog 45:=Kx.A6 Tryz.func45 (by kernel_rfl) (by kernel_rfl)
theorem Hd6:B1 Tryz.prog 86:=Kx.A6 Tryz.func86 (by kernel_rfl) (by kernel_rfl)
theorem Gl2:B1 Tryz.prog 54:=Kx.A6 Tryz.func54 (by kernel_rfl) (by kernel_rfl)
theorem Hd4:B1 Tryz.prog 55:=Kx.A6 Tryz.func55 (by kernel_rfl) (by kernel_rfl)
theorem Hd7:B1 Tryz.prog 95:=Kx.A6 Tryz.func95 (by kernel_rfl) (by kernel_rfl)
theorem Gl1:B1 Tryz.prog 50:=Kx.A6 Tryz.func50 (by kernel_rfl) (by kernel_rfl)
theorem Gu9:B1 Tryz.prog 52:=Kx.A6 Tryz.func52 (by kernel_rfl) (by kernel_rfl)
theorem Gv4:B1 Tryz.prog 94:=Kx.A6 Tryz.func94 (by kernel_rfl) (by kernel_rfl)
theorem Gu8:B1 Tryz.prog 46:=Kx.A6 Tryz.func46 (by kernel_rfl) (by kernel_rfl)
theorem Hk5:B1 Tryz.prog 47:=Kx.A6 Tryz.func47 (by kernel_rfl) (by kernel_rfl)
theorem Hd2:B1 Tryz.prog 49:=Kx.A6 Tryz.func49 (by kernel_rfl) (by kernel_rfl)
theorem Hd3:B1 Tryz.prog 53:=Kx.A6 Tryz.func53 (by kernel_rfl) (by kernel_rfl)
theorem Hd0:B1 Tryz.prog 36:=Kx.A6 Tryz.func36 (by kernel_rfl) (by kernel_rfl)
theorem Es0:B1 Tryz.prog 11:=Kx.A6 Tryz.func11 (by kernel_rfl) (by kernel_rfl)
theorem Fz3:B1 Tryz.prog 10:=Kx.A6 Tryz.func10 (by kernel_rfl) (by kernel_rfl)
theorem Gk7:B1 Tryz.prog 16:=Kx.A6 Tryz.func16 (by kernel_rfl) (by kernel_rfl)
theorem Gr8:B1 Tryz.prog 15:=Kx.A6 Tryz.func15 (by kernel_rfl) (by kernel_rfl)
theorem Gr0:B1 Tryz.prog 12:=Kx.A6 Tryz.func12 (by kernel_rfl) (by kernel_rfl)
theorem Gs2:B1 Tryz.prog 17:=Kx.A6 Tryz.func17 (by kernel_rfl) (by kernel_rfl)
theorem Gl3:B1 Tryz.prog 57:=Kx.A6 Tryz.func57 (by kernel_rfl) (by kernel_rfl)
theorem Hk8:B1 Tryz.prog 69:=Kx.A6 Tryz.func69 (by kernel_rfl) (by kernel_rfl)
theorem Hc8:B1 Tryz.prog 26:=Kx.A6 Tryz.func26 (by kernel_rfl) (by kernel_rfl)
theorem Gr6:B1 Tryz.prog 14:=Kx.A6 Tryz.func14 (by kernel_rfl) (by kernel_rfl)
theorem Gv0:B1 Tryz.prog 58:=Kx.A6 Tryz.func58 (by kernel_rfl) (by kernel_rfl)
theorem Hj7:B1 Tryz.prog 13:=Kx.A6 Tryz.func13 (by kernel_rfl) (by kernel_rfl)
theorem Fi1:B1 Tryz.prog 59:=Kx.A6 Tryz.func59 (by kernel_rfl) (by kernel_rfl)
def F43(fuel:Nat)(d0:A9)(d1:Int)(d2:Int):Option Int:=
 Option.bind (F93 fuel d0) fun y1=>
 bif y1 !=0 then
  (some y1)
 else
  (Option.bind (
   ass (decide (0≤((d0.Owner.map A7).length:Int)))<|
   bif (IntKind.u64.wrap (BitVec.ofInt IntKind.u64.bits d1&&& ~~~BitVec.ofInt IntKind.u64.bits (IntKind.u64.wrap ((IntKind.u64.wrap (1*2^(min (Int.toNat ((d0.Owner.map A7).length:Int)) IntKind.u64.bits)))-1))).toNat) !=0 then
    (some true)
   else
    (bif decide (d2<0) then
     (some true)
    else
     (some (decide (d2>60))))) fun o1=>
  bif o1 then
   (some 2)
  else
   (some 0))
noncomputable abbrev b43:=C1 Tryz.f43
abbrev G43(r:Int):=J none Tryz.prog 29 [] (H3 Tryz.prog Tryz.f43 (.i r))
theorem Cn8{fuel:Nat}{d0:A9}{d1:Int}{d2:Int}{r:Int}(hF:F43 fuel d0 d1 d2=some r):
 C3 Tryz.prog 43 [.agg [.l 1 d0.Owner A7,.l 1 d0.Choices A0],.n d1,.i d2] (.i r):=by
 unfold F43 at hF
 refine cf 29 Tryz.func43 ?_
 refine jB 9 hF Gl5 Co5 fun y1 hF=> ?_
 refine jI 7 11 hF ?_ ?_<;>intro hF
 ·cases hF
  exact jr 6
 ·obtain⟨o1,hO,hF⟩:=bnd hF
  have hR1:G43 r ⟨mkT [(28,.b o1)],[],[kO b43 [1,1,0,0],kC b43 [1,1,0,1],kC b43 [1,1,1]]⟩:=by
   clear hO
   refine jI 1 28 hF ?_ ?_<;>intro hF
   ·cases hF
    exact jr 5
   ·cases hF
    exact jr 6
  clear hF;rename _=some o1=>hF
  obtain⟨hb9,hF⟩:=Q0 hF
  refine jo1 9 (ck hb9) ?_
  refine jI 4 21 hF ?_ ?_<;>intro hF
  ·cases hF
   exact ja 7 hR1
  ·refine jI 4 25 hF ?_ ?_<;>intro hF
   ·cases hF
    exact ja 3 hR1
   ·cases hF
    exact ja 3 hR1
def A4(x:A2):List Dat:=[.bool x.n_.neg,.sl 1 (x.n_.mag.map A5),.bool x.d.neg,.sl 1 (x.d.mag.map A5)]
def Az2(fuel:Nat)(d1:Int)(l1:List A2):Nat→Int→(List A2)→Option (List A2)
 |0,_,_=>none
 |nL1+1,v2,l5=>
  bif decide (v2<((l1.map A4).length:Int)) then
   (ass (decide (0≤v2))<|
   Option.bind (F51 fuel (IntKind.i64.wrap (IntKind.u64.wrap (BitVec.ofInt IntKind.u64.bits (Int.fdiv d1 (2^(min (Int.toNat v2) IntKind.u64.bits)))&&&BitVec.ofInt IntKind.u64.bits 1).toNat)) 1) fun y5=>
   Option.bind (C4 l5 v2) fun y6=>
   Option.bind (some (l5.set (0+Int.toNat v2) y5)) fun l6=>
   (Az2 fuel d1 l1 nL1) (IntKind.i64.wrap (v2+1)) l6)
  else
   (some l5)
def F44(fuel:Nat)(d0:A9)(d1:Int):Option (List A2):=
 Option.bind (mkL ((d0.Owner.map A7).length:Int) ((d0.Owner.map A7).length:Int) (⟨(⟨false,[]⟩:A3),(⟨false,[]⟩:A3)⟩:A2)) fun l1=>
 Az2 fuel d1 l1 fuel 0 l1
noncomputable abbrev b44:=C1 Tryz.f44
abbrev G44(r:List A2):=J none Tryz.prog 27 [] (H3 Tryz.prog Tryz.f44 (.l 4 r A4))
theorem Cn9{fuel:Nat}{d0:A9}{d1:Int}{r:List A2}(hF:F44 fuel d0 d1=some r):
 C3 Tryz.prog 44 [.agg [.l 1 d0.Owner A7,.l 1 d0.Choices A0],.n d1] (.l 4 r A4):=by
 unfold F44 at hF
 refine cf 27 Tryz.func44 ?_
 obtain⟨l1,e1,hF⟩:=bnd hF
 refine jo2 10 (mm (f:=A4) e1) ?_
 have hL1:∀(nL1:Nat) (v2:Int) (l5:List A2),Az2 fuel d1 l1 nL1 v2 l5=some r→G44 r ⟨mkT [(1,.n d1),(5,.suf 10 0 0),(12,.i ((l1.map A4).length:Int)),(13,.i v2)],[(10,.buf 0 100 4 (l5.map A4))],[kL b44 [1,1,0,1,0,0],.inBlock 0,kC b44 [1,1,1]]⟩:=by
  clear hF;intro nL1
  induction nL1 with
  |zero=>intro v2 l5 hF;cases hF
  |succ nL1 iL1=>
   intro v2 l5 hF
   rw[Az2]at hF
   refine jI 6 14 hF ?_ ?_<;>intro hF
   ·obtain⟨hb6,hF⟩:=Q0 hF
    refine jo1 14 (ck hb6) ?_
    refine jB 2 hF Fr3 Bh0 fun y5 hF=> ?_
    obtain⟨y6,e9,hF⟩:=bnd hF
    refine jo1 0 (gm (f:=A4) e9) ?_
    obtain⟨l6,e10,hF⟩:=bnd hF
    have hst:=stm (f:=A4) (z:=y5) (k:=0) (xs:=[.bool y5.n_.neg,.sl 1 (y5.n_.mag.map A5),.bool y5.d.neg,.sl 1 (y5.d.mag.map A5)]) (gj e9) rfl
    refine C2 0 (E9 (o:=(match(l5.map A4)[0+Int.toNat v2]? with|some old=>some ((l5.map A4).set (0+Int.toNat v2) (X6 old 0 [.bool y5.n_.neg,.sl 1 (y5.n_.mag.map A5),.bool y5.d.neg,.sl 1 (y5.d.mag.map A5)]))|none=>none)) (l6.map A4) (by kernel_rfl) (by cases e10;exact hst) ?_)
    exact ja 6 (iL1 _ _ hF)
   ·cases hF
    exact jr 7
 exact ja 11 (hL1 _ _ _ hF)
def Az3(fuel:Nat)(d0:List A2):Nat→Int→(List (List UInt8))→Option (List (List UInt8))
 |0,_,_=>none
 |nL1+1,v2,l5=>
  bif decide (v2<((d0.map A4).length:Int)) then
   (Option.bind (C4 d0 v2) fun y7=>
   Option.bind (F87 fuel y7) fun y8=>
   Option.bind (C4 l5 v2) fun y9=>
   Option.bind (some (l5.set (0+Int.toNat v2) y8)) fun l6=>
   (Az3 fuel d0 nL1) (IntKind.i64.wrap (v2+1)) l6)
  else
   (some l5)
def F46(fuel:Nat)(d0:List A2):Option (List (List UInt8)):=
 Option.bind (mkL ((d0.map A4).length:Int) ((d0.map A4).length:Int) []) fun l1=>
 Az3 fuel d0 fuel 0 l1
noncomputable abbrev b46:=C1 Tryz.f46
abbrev G46(r:List (List UInt8)):=J none Tryz.prog 23 [] (H3 Tryz.prog Tryz.f46 (.l 1 r e_s))
theorem Dj6{fuel:Nat}{d0:List A2}{r:List (List UInt8)}(hF:F46 fuel d0=some r):
 C3 Tryz.prog 46 [.l 4 d0 A4] (.l 1 r e_s):=by
 unfold F46 at hF
 refine cf 23 Tryz.func46 ?_
 obtain⟨l1,e1,hF⟩:=bnd hF
 refine jo2 8 (mm (f:=e_s) e1) ?_
 have hL1:∀(nL1:Nat) (v2:Int) (l5:List (List UInt8)),Az3 fuel d0 nL1 v2 l5=some r→G46 r ⟨mkT [(3,.suf 8 0 0),(9,.l 4 d0 A4),(10,.i ((d0.map A4).length:Int)),(11,.i v2)],[(8,.buf 0 23 1 (l5.map e_s))],[kL b46 [1,1,0,1,0,0],.inBlock 0,kC b46 [1,1,1]]⟩:=by
  clear hF;intro nL1
  induction nL1 with
  |zero=>intro v2 l5 hF;cases hF
  |succ nL1 iL1=>
   intro v2 l5 hF
   rw[Az3]at hF
   refine jI 6 12 hF ?_ ?_<;>intro hF
   ·obtain⟨y7,e10,hF⟩:=bnd hF
    refine jo1 7 (gm (f:=A4) e10) ?_
    refine jB 9 hF Gv2 Dk1 fun y8 hF=> ?_
    obtain⟨y9,e12,hF⟩:=bnd hF
    refine jo1 0 (gm (f:=e_s) e12) ?_
    obtain⟨l6,e13,hF⟩:=bnd hF
    have hst:=stm (f:=e_s) (z:=y8) (k:=0) (xs:=[.str y8]) (gj e12) rfl
    refine C2 0 (E9 (o:=(match(l5.map e_s)[0+Int.toNat v2]? with|some old=>some ((l5.map e_s).set (0+Int.toNat v2) (X6 old 0 [.str y8]))|none=>none)) (l6.map e_s) (by kernel_rfl) (by cases e13;exact hst) ?_)
    exact ja 6 (iL1 _ _ hF)
   ·cases hF
    exact jr 7
 exact ja 11 (hL1 _ _ _ hF)
def F45(d0:A9)(d1:Int):Option (List Int×List (List A1)×Int):=
 some (d0.Owner,d0.Choices,d1)
noncomputable abbrev b45:=C1 Tryz.f45
theorem Dj5{d0:A9}{d1:Int}{r:List Int×List (List A1)×Int}(hF:F45 d0 d1=some r):
 K5 Tryz.prog 45 [] [.agg [.l 1 d0.Owner A7,.l 1 d0.Choices A0],.n d1] [(2000,.box 34 [.l 1 r.1 A7,.l 1 r.2.1 A0]),(2001,.box 40 [.n r.2.2])] (.fn 94 [] [.ptr 2000 0,.ptr 2001 0]):=by
 unfold F45 at hF
 refine cr 6 Tryz.func45 ?_
 refine ja 11 (S0:=[(4,.fn 94 [] [.ptr 2 0,.ptr 3 0])]) (O0:=[(2,.box 34 [.l 1 d0.Owner A7,.l 1 d0.Choices A0]),(3,.box 40 [.n d1])]) (T0:=[kC b45 [1,1]]) ?_
 refine C2 0 (Aq8 [(2,2000),(3,2001)] (by kernel_rfl) (by kernel_rfl) (by kernel_rfl) (by kernel_rfl) ?_)
 have hF:=oi hF;subst hF
 exact C2 0 (Aq9 (xs:=[.fn 94 [] [.ptr 2000 0,.ptr 2001 0]]) [.fn 94 [] [.ptr 2000 0,.ptr 2001 0]] rfl (by kernel_rfl) (by kernel_rfl) (Q6.refl _) rfl)
def Az4(fuel:Nat)(d0:A1)(d1:List A2):Nat→Int→Bool→(List Int)→Bool→(List Int)→Option A2
 |0,_,_,_,_,_=>none
 |nL1+1,v2,t3,l3,t4,l4=>
  bif decide (v2<((d0.Next.map B5).length:Int)) then
   (Option.bind (C4 d0.Next v2) fun y12=>
   Option.bind (F48 fuel y12.P) fun y13=>
   Option.bind (C4 d1 y12.To) fun y14=>
   Option.bind (F86 fuel y13 y14) fun y15=>
   Option.bind (F54 fuel (⟨(⟨t3,l3⟩:A3),(⟨t4,l4⟩:A3)⟩:A2) y15) fun y16=>
   (Az4 fuel d0 d1 nL1) (IntKind.i64.wrap (v2+1)) y16.n_.neg y16.n_.mag y16.d.neg y16.d.mag)
  else
   (some (⟨(⟨t3,l3⟩:A3),(⟨t4,l4⟩:A3)⟩:A2))
def F55(fuel:Nat)(d0:A1)(d1:List A2):Option A2:=
 Option.bind (F51 fuel 0 1) fun y1=>
 Az4 fuel d0 d1 fuel 0 y1.n_.neg y1.n_.mag y1.d.neg y1.d.mag
noncomputable abbrev b55:=C1 Tryz.f55
abbrev G55(r:A2):=J none Tryz.prog 29 [] (H3 Tryz.prog Tryz.f55 (.agg [.b r.n_.neg,.l 1 r.n_.mag A5,.b r.d.neg,.l 1 r.d.mag A5]))
theorem Eo9{fuel:Nat}{d0:A1}{d1:List A2}{r:A2}(hF:F55 fuel d0 d1=some r):
 C3 Tryz.prog 55 [.agg [.s d0.Act,.s d0.Gain,.l 2 d0.Next B5],.l 4 d1 A4] (.agg [.b r.n_.neg,.l 1 r.n_.mag A5,.b r.d.neg,.l 1 r.d.mag A5]):=by
 unfold F55 at hF
 refine cf 29 Tryz.func55 ?_
 refine jB 7 hF Fr3 Bh0 fun y1 hF=> ?_
 have hL1:∀(nL1:Nat) (v2:Int) (t3:Bool) (l3:List Int) (t4:Bool) (l4:List Int),Az4 fuel d0 d1 nL1 v2 t3 l3 t4 l4=some r→G55 r ⟨mkT [(1,.l 4 d1 A4),(4,.ptr 4 0),(5,.ptr 5 0),(10,.l 2 d0.Next B5),(11,.i ((d0.Next.map B5).length:Int)),(12,.i v2)],[(4,.box 100 [.b false,.esl 1,.b false,.esl 1]),(5,.box 100 [.b t3,.l 1 l3 A5,.b t4,.l 1 l4 A5])],[kL b55 [1,1,0,1,0,0],.inBlock 0,kC b55 [1,1,1]]⟩:=by
  clear hF;intro nL1
  induction nL1 with
  |zero=>intro v2 t3 l3 t4 l4 hF;cases hF
  |succ nL1 iL1=>
   intro v2 t3 l3 t4 l4 hF
   rw[Az4]at hF
   refine jI 6 13 hF ?_ ?_<;>intro hF
   ·obtain⟨y12,e12,hF⟩:=bnd hF
    refine jo1 6 (gm (f:=B5) e12) ?_
    refine jd 4 ?_
    refine dB 3 hF Es1 At6 fun y13 hF=> ?_
    obtain⟨y14,e14,hF⟩:=bnd hF
    refine do1 3 (gm (f:=A4) e14) ?_
    refine dB 1 hF Hd6 Ep1 fun y15 hF=> ?_
    refine dB 0 hF Gl2 Co1 fun y16 hF=> ?_
    refine je 1 ?_
    exact ja 5 (iL1 _ _ _ _ _ hF)
   ·cases hF
    exact jr 7
 exact ja 13 (hL1 _ _ _ _ _ _ hF)
def F95(fuel:Nat)(d0:A1)(d1:List A2):Option A2:=
 Option.bind (F55 fuel d0 d1) fun y1=>
 some y1
theorem Ep2{fuel:Nat}{d0:A1}{d1:List A2}{r:A2}(hF:F95 fuel d0 d1=some r):
 C3 Tryz.prog 95 [.agg [.s d0.Act,.s d0.Gain,.l 2 d0.Next B5],.rp [.sl 4 (d1.map A4)] 0] (.agg [.b r.n_.neg,.l 1 r.n_.mag A5,.b r.d.neg,.l 1 r.d.mag A5]):=by
 unfold F95 at hF
 refine cf 7 Tryz.func95 ?_
 refine jB 9 hF Hd4 Eo9 fun y1 hF=> ?_
 cases hF
 exact jr 2
def Bh1(v6:Int)(cL1:Int→Int→Bool→(List Int)→Bool→(List Int)→Option (A2×Int))(v7:Int)(t14:Bool)(l10:List Int)(t15:Bool)(l11:List Int):Option (A2×Int):=
 cL1 v7 (IntKind.i64.wrap (v6+1)) t14 l10 t15 l11
def Ak8(fuel:Nat)(d0:Int)(d2:List A2)(l1:List A1):Nat→Int→Int→Bool→(List Int)→Bool→(List Int)→Option (A2×Int)
 |0,_,_,_,_,_,_=>none
 |nL1+1,v5,v6,t11,l8,t12,l9=>
  bif decide (v6<((l1.map A8).length:Int)) then
   (Option.bind (C4 l1 v6) fun y18=>
   Option.bind (F95 fuel y18 d2) fun y19=>
   Option.bind (F50 fuel y19 (⟨(⟨t11,l8⟩:A3),(⟨t12,l9⟩:A3)⟩:A2)) fun y20=>
   Option.bind (
    bif d0==0 then
     (bif decide (y20>0) then
      (some true)
     else
      (bif d0==1 then
       (some (decide (y20<0)))
      else
       (some false)))
    else
     (bif d0==1 then
      (some (decide (y20<0)))
     else
      (some false))) fun o6=>
   bif o6 then
    (Bh1 v6 (Ak8 fuel d0 d2 l1 nL1) (IntKind.i64.wrap (v6+1)) y19.n_.neg y19.n_.mag y19.d.neg y19.d.mag)
   else
    (Bh1 v6 (Ak8 fuel d0 d2 l1 nL1) v5 t11 l8 t12 l9))
  else
   (some ((⟨(⟨t11,l8⟩:A3),(⟨t12,l9⟩:A3)⟩:A2),v5))
def F52(fuel:Nat)(d0:Int)(d1:List A1)(d2:List A2):Option (A2×Int):=
 Option.bind (C4 d1 0) fun y1=>
 Option.bind (F95 fuel y1 d2) fun y2=>
 Option.bind (slc d1 1 (d1.length:Int)) fun l1=>
 Ak8 fuel d0 d2 l1 fuel 0 0 y2.n_.neg y2.n_.mag y2.d.neg y2.d.mag
noncomputable abbrev b52:=C1 Tryz.f52
abbrev G52(r:A2×Int):=J none Tryz.prog 53 [] (H3 Tryz.prog Tryz.f52 (.tup [.agg [.b r.1.n_.neg,.l 1 r.1.n_.mag A5,.b r.1.d.neg,.l 1 r.1.d.mag A5],.i r.2]))
theorem Fu3{fuel:Nat}{d0:Int}{d1:List A1}{d2:List A2}{r:A2×Int}(hF:F52 fuel d0 d1 d2=some r):
 C3 Tryz.prog 52 [.i d0,.l 3 d1 A8,.fn 95 [] [.rp [.sl 4 (d2.map A4)] 0]] (.tup [.agg [.b r.1.n_.neg,.l 1 r.1.n_.mag A5,.b r.1.d.neg,.l 1 r.1.d.mag A5],.i r.2]):=by
 unfold F52 at hF
 refine cf 53 Tryz.func52 ?_
 obtain⟨y1,e1,hF⟩:=bnd hF
 refine jo1 9 (gm (f:=A8) e1) ?_
 refine jB 1 hF Hd7 Ep2 fun y2 hF=> ?_
 obtain⟨l1,e3,hF⟩:=bnd hF
 refine jo2 8 (smh (f:=A8) e3) ?_
 have hL1:∀(nL1:Nat) (v5:Int) (v6:Int) (t11:Bool) (l8:List Int) (t12:Bool) (l9:List Int),Ak8 fuel d0 d2 l1 nL1 v5 v6 t11 l8 t12 l9=some r→G52 r ⟨mkT [(0,.i d0),(2,.fn 95 [] [.rp [.sl 4 (d2.map A4)] 0]),(6,.ptr 6 0),(8,.i v5),(9,.ptr 9 0),(20,.l 3 l1 A8),(21,.i ((l1.map A8).length:Int)),(22,.i v6)],[(6,.box 100 [.b false,.esl 1,.b false,.esl 1]),(9,.box 100 [.b t11,.l 1 l8 A5,.b t12,.l 1 l9 A5])],[kL b52 [1,1,0,1,0,0],.inBlock 0,kC b52 [1,1,1]]⟩:=by
  clear hF;intro nL1
  induction nL1 with
  |zero=>intro v5 v6 t11 l8 t12 l9 hF;cases hF
  |succ nL1 iL1=>
   intro v5 v6 t11 l8 t12 l9 hF
   rw[Ak8]at hF
   refine jI 6 23 hF ?_ ?_<;>intro hF
   ·have hA2:∀(v7:Int) (t14:Bool) (l10:List Int) (t15:Bool) (l11:List Int),Bh1 v6 (Ak8 fuel d0 d2 l1 nL1) v7 t14 l10 t15 l11=some r→G52 r ⟨mkT [(0,.i d0),(2,.fn 95 [] [.rp [.sl 4 (d2.map A4)] 0]),(6,.ptr 6 0),(8,.i v7),(9,.ptr 9 0),(20,.l 3 l1 A8),(21,.i ((l1.map A8).length:Int)),(22,.i v6)],[(6,.box 100 [.b false,.esl 1,.b false,.esl 1]),(9,.box 100 [.b t14,.l 1 l10 A5,.b t15,.l 1 l11 A5])],[kC b52 [1,1,0,1,0,0,1,1,1],kL b52 [1,1,0,1,0,0],.inBlock 0,kC b52 [1,1,1]]⟩:=by
     intro v7 t14 l10 t15 l11 hF
     unfold Bh1 at hF
     exact ja 4 (iL1 _ _ _ _ _ _ hF)
    obtain⟨y18,e19,hF⟩:=bnd hF
    refine jo1 7 (gm (f:=A8) e19) ?_
    refine jB 9 hF Hd7 Ep2 fun y19 hF=> ?_
    refine jB 7 hF Gl1 Co0 fun y20 hF=> ?_
    obtain⟨o6,hO,hF⟩:=bnd hF
    have hR6:G52 r ⟨mkT [(0,.i d0),(2,.fn 95 [] [.rp [.sl 4 (d2.map A4)] 0]),(6,.ptr 6 0),(8,.i v5),(9,.ptr 9 0),(10,.i v6),(12,.ptr 12 0),(20,.l 3 l1 A8),(21,.i ((l1.map A8).length:Int)),(22,.i v6),(46,.b o6)],[(6,.box 100 [.b false,.esl 1,.b false,.esl 1]),(9,.box 100 [.b t11,.l 1 l8 A5,.b t12,.l 1 l9 A5]),(12,.box 100 [.b y19.n_.neg,.l 1 y19.n_.mag A5,.b y19.d.neg,.l 1 y19.d.mag A5])],[kO b52 [1,1,0,1,0,0,1,1,0,0,1,1,1,0],kC b52 [1,1,0,1,0,0,1,1,0,0,1,1,1,1],.inBlock 1,kC b52 [1,1,0,1,0,0,1,1,1],kL b52 [1,1,0,1,0,0],.inBlock 0,kC b52 [1,1,1]]⟩:=by
     clear hO
     refine jI 1 46 hF ?_ ?_<;>intro hF
     ·refine jd 1 ?_
      refine je 5 ?_
      exact ja 1 (hA2 _ _ _ _ _ hF)
     ·exact ja 3 (hA2 _ _ _ _ _ hF)
    clear hF;rename _=some o6=>hF
    refine jI 7 35 hF ?_ ?_<;>intro hF
    ·refine jI 4 39 hF ?_ ?_<;>intro hF
     ·cases hF
      exact ja 7 hR6
     ·refine jI 3 42 hF ?_ ?_<;>intro hF
      ·cases hF
       exact ja 4 hR6
      ·cases hF
       exact ja 4 hR6
    ·refine jI 7 42 hF ?_ ?_<;>intro hF
     ·cases hF
      exact ja 4 hR6
     ·cases hF
      exact ja 4 hR6
   ·cases hF
    exact jr 9
 exact ja 5 (hL1 _ _ _ _ _ _ _ hF)
def Bh3(v2:Int)(cL1:Int→(List Int)→(List A2)→Option (List A2×List Int))(l26:List Int)(l27:List A2):Option (List A2×List Int):=
 cL1 (IntKind.i64.wrap (v2+1)) l26 l27
def Al0(fuel:Nat)(d0:List A2)(d1:List Int)(d2:List (List A1))(d3:Int):Nat→Int→(List Int)→(List A2)→Option (List A2×List Int)
 |0,_,_,_=>none
 |nL1+1,v2,l21,l22=>
  bif decide (v2<((d2.map A0).length:Int)) then
   (Option.bind (C4 d2 v2) fun y36=>
   ass (decide (0≤v2))<|
   bif (IntKind.u64.wrap (BitVec.ofInt IntKind.u64.bits (Int.fdiv d3 (2^(min (Int.toNat v2) IntKind.u64.bits)))&&&BitVec.ofInt IntKind.u64.bits 1).toNat)==1 then
    (Option.bind (F51 fuel 1 1) fun y37=>
    Option.bind (C4 l22 v2) fun y38=>
    Option.bind (some (l22.set (0+Int.toNat v2) y37)) fun l28=>
    Bh3 v2 (Al0 fuel d0 d1 d2 d3 nL1) l21 l28)
   else
    (Option.bind (C4 d1 v2) fun y39=>
    Option.bind (F52 fuel y39 y36 d0) fun y40=>
    Option.bind (C4 l22 v2) fun y41=>
    Option.bind (some (l22.set (0+Int.toNat v2) y40.1)) fun l29=>
    Option.bind (C4 l21 v2) fun y42=>
    Option.bind (some (l21.set (0+Int.toNat v2) y40.2)) fun l30=>
    Bh3 v2 (Al0 fuel d0 d1 d2 d3 nL1) l30 l29))
  else
   (some (l22,l21))
def F94(fuel:Nat)(d0:List A2)(d1:List Int)(d2:List (List A1))(d3:Int):Option (List A2×List Int):=
 Option.bind (mkL ((d0.map A4).length:Int) ((d0.map A4).length:Int) (⟨(⟨false,[]⟩:A3),(⟨false,[]⟩:A3)⟩:A2)) fun l1=>
 Option.bind (mkL ((d0.map A4).length:Int) ((d0.map A4).length:Int) 0) fun l2=>
 Al0 fuel d0 d1 d2 d3 fuel 0 l2 l1
noncomputable abbrev b94:=C1 Tryz.f94
abbrev G94(r:List A2×List Int):=J none Tryz.prog 53 [] (H3 Tryz.prog Tryz.f94 (.tup [.l 4 r.1 A4,.l 1 r.2 A7]))
theorem Dk4{fuel:Nat}{d0:List A2}{d1:List Int}{d2:List (List A1)}{d3:Int}{r:List A2×List Int}(hF:F94 fuel d0 d1 d2 d3=some r):
 C3 Tryz.prog 94 [.l 4 d0 A4,.rp [.sl 1 (d1.map A7),.sl 1 (d2.map A0)] 0,.rp [.int .u64 d3] 0] (.tup [.l 4 r.1 A4,.l 1 r.2 A7]):=by
 unfold F94 at hF
 refine cf 53 Tryz.func94 ?_
 refine jd 7 ?_
 obtain⟨l1,e1,hF⟩:=bnd hF
 refine do2 2 (mm (f:=A4) e1) ?_
 obtain⟨l2,e2,hF⟩:=bnd hF
 refine do2 2 (mm (f:=A7) e2) ?_
 refine je 2 ?_
 have hL1:∀(nL1:Nat) (v2:Int) (l21:List Int) (l22:List A2),Al0 fuel d0 d1 d2 d3 nL1 v2 l21 l22=some r→G94 r ⟨mkT [(1,.rp [.sl 1 (d1.map A7),.sl 1 (d2.map A0)] 0),(2,.rp [.int .u64 d3] 0),(3,.ptr 3 0),(6,.suf 12 0 0),(7,.suf 15 0 0),(17,.l 1 d2 A0),(18,.i ((d2.map A0).length:Int)),(19,.i v2)],[(3,.fzb [.l 4 d0 A4]),(12,.buf 0 100 4 (l22.map A4)),(15,.buf 0 3 1 (l21.map A7))],[kL b94 [1,1,0,1,0,0],.inBlock 0,kC b94 [1,1,1]]⟩:=by
  clear hF;intro nL1
  induction nL1 with
  |zero=>intro v2 l21 l22 hF;cases hF
  |succ nL1 iL1=>
   intro v2 l21 l22 hF
   rw[Al0]at hF
   refine jI 6 20 hF ?_ ?_<;>intro hF
   ·have hA2:∀(l26:List Int) (l27:List A2),Bh3 v2 (Al0 fuel d0 d1 d2 d3 nL1) l26 l27=some r→G94 r ⟨mkT [(1,.rp [.sl 1 (d1.map A7),.sl 1 (d2.map A0)] 0),(2,.rp [.int .u64 d3] 0),(3,.ptr 3 0),(6,.suf 12 0 0),(7,.suf 15 0 0),(17,.l 1 d2 A0),(18,.i ((d2.map A0).length:Int)),(19,.i v2)],[(3,.fzb [.l 4 d0 A4]),(12,.buf 0 100 4 (l27.map A4)),(15,.buf 0 3 1 (l26.map A7))],[kC b94 [1,1,0,1,0,0,1,1,1],kL b94 [1,1,0,1,0,0],.inBlock 0,kC b94 [1,1,1]]⟩:=by
     intro l26 l27 hF
     unfold Bh3 at hF
     exact ja 4 (iL1 _ _ _ hF)
    obtain⟨y36,e53,hF⟩:=bnd hF
    refine jo1 7 (gm (f:=A0) e53) ?_
    obtain⟨hb14,hF⟩:=Q0 hF
    refine jo1 9 (ck hb14) ?_
    refine jI 3 28 hF ?_ ?_<;>intro hF
    ·refine jB 5 hF Fr3 Bh0 fun y37 hF=> ?_
     obtain⟨y38,e55,hF⟩:=bnd hF
     refine jo1 0 (gm (f:=A4) e55) ?_
     obtain⟨l28,e56,hF⟩:=bnd hF
     have hst:=stm (f:=A4) (z:=y37) (k:=0) (xs:=[.bool y37.n_.neg,.sl 1 (y37.n_.mag.map A5),.bool y37.d.neg,.sl 1 (y37.d.mag.map A5)]) (gj e55) rfl
     refine C2 0 (E9 (o:=(match(l22.map A4)[0+Int.toNat v2]? with|some old=>some ((l22.map A4).set (0+Int.toNat v2) (X6 old 0 [.bool y37.n_.neg,.sl 1 (y37.n_.mag.map A5),.bool y37.d.neg,.sl 1 (y37.d.mag.map A5)]))|none=>none)) (l28.map A4) (by kernel_rfl) (by cases e56;exact hst) ?_)
     exact ja 2 (hA2 _ _ hF)
    ·obtain⟨y39,e57,hF⟩:=bnd hF
     refine jo1 10 (gm (f:=A7) e57) ?_
     refine jB 3 hF Gu9 Fu3 fun y40 hF=> ?_
     obtain⟨y41,e59,hF⟩:=bnd hF
     refine jo1 3 (gm (f:=A4) e59) ?_
     obtain⟨l29,e60,hF⟩:=bnd hF
     have hst:=stm (f:=A4) (z:=y40.1) (k:=0) (xs:=[.bool y40.1.n_.neg,.sl 1 (y40.1.n_.mag.map A5),.bool y40.1.d.neg,.sl 1 (y40.1.d.mag.map A5)]) (gj e59) rfl
     refine C2 0 (E9 (o:=(match(l22.map A4)[0+Int.toNat v2]? with|some old=>some ((l22.map A4).set (0+Int.toNat v2) (X6 old 0 [.bool y40.1.n_.neg,.sl 1 (y40.1.n_.mag.map A5),.bool y40.1.d.neg,.sl 1 (y40.1.d.mag.map A5)]))|none=>none)) (l29.map A4) (by kernel_rfl) (by cases e60;exact hst) ?_)
     obtain⟨y42,e61,hF⟩:=bnd hF
     refine jo1 0 (gm (f:=A7) e61) ?_
     obtain⟨l30,e62,hF⟩:=bnd hF
     have hst:=stm (f:=A7) (z:=y40.2) (k:=0) (xs:=[.int .i64 y40.2]) (gj e61) rfl
     refine C2 0 (E9 (o:=(match(l21.map A7)[0+Int.toNat v2]? with|some old=>some ((l21.map A7).set (0+Int.toNat v2) (X6 old 0 [.int .i64 y40.2]))|none=>none)) (l30.map A7) (by kernel_rfl) (by cases e62;exact hst) ?_)
     exact ja 2 (hA2 _ _ hF)
   ·cases hF
    exact jr 9
 refine C2 10 (Ce4 (te:=88) 3 [.l 4 d0 A4] (by kernel_rfl) (by kernel_rfl) ?_)
 exact ja 0 (hL1 _ _ _ _ hF)
def Ax7(fuel:Nat)(d2:Int)(y3:List Int×List (List A1)×Int):Nat→(List A2)→Int→Option (List (List UInt8)×Int)
 |0,_,_=>none
 |nL1+1,l2,v2=>
  bif decide (v2<d2) then
   (Option.bind (F94 fuel l2 y3.1 y3.2.1 y3.2.2) fun y6=>
   (Ax7 fuel d2 y3 nL1) y6.1 (IntKind.i64.wrap (v2+1)))
  else
   (Option.bind (F46 fuel l2) fun y7=>
   some (y7,0))
def F12(fuel:Nat)(d0:A9)(d1:Int)(d2:Int):Option (List (List UInt8)×Int):=
 Option.bind (F43 fuel d0 d1 d2) fun y1=>
 bif y1 !=0 then
  (some ([],y1))
 else
  (Option.bind (F44 fuel d0 d1) fun y2=>
  Option.bind (F45 d0 d1) fun y3=>
  Ax7 fuel d2 y3 fuel y2 0)
noncomputable abbrev b12:=C1 Tryz.f12
abbrev G12(r:List (List UInt8)×Int):=J none Tryz.prog 36 [] (H3 Tryz.prog Tryz.f12 (.tup [.l 1 r.1 e_s,.i r.2]))
theorem Dg4{fuel:Nat}{d0:A9}{d1:Int}{d2:Int}{r:List (List UInt8)×Int}(hF:F12 fuel d0 d1 d2=some r):
 C3 Tryz.prog 12 [.agg [.l 1 d0.Owner A7,.l 1 d0.Choices A0],.n d1,.i d2] (.tup [.l 1 r.1 e_s,.i r.2]):=by
 unfold F12 at hF
 refine cf 36 Tryz.func12 ?_
 refine jB 12 hF Gk9 Cn8 fun y1 hF=> ?_
 refine jI 7 16 hF ?_ ?_<;>intro hF
 ·cases hF
  exact jr 7
 ·refine jd 3 ?_
  refine dB 2 hF Gl0 Cn9 fun y2 hF=> ?_
  obtain⟨y3,e3,hF⟩:=bnd hF
  refine dcr 2 [(23,2000),(1123,2001)] Gu7 (Dj5 e3) ?_
  refine je 2 ?_
  have hL1:∀(nL1:Nat) (l2:List A2) (v2:Int),Ax7 fuel d2 y3 nL1 l2 v2=some r→G12 r ⟨mkT [(9,.l 4 l2 A4),(10,.fn 94 [] [.ptr 23 0,.ptr 1123 0]),(24,.i d2),(25,.i v2)],[(23,.fzb [.l 1 y3.1 A7,.l 1 y3.2.1 A0]),(1123,.fzb [.n y3.2.2])],[kL b12 [1,1,1,0,1,0,0],.inBlock 0,kC b12 [1,1,1,1]]⟩:=by
   clear hF;intro nL1
   induction nL1 with
   |zero=>intro l2 v2 hF;cases hF
   |succ nL1 iL1=>
    intro l2 v2 hF
    rw[Ax7]at hF
    refine jI 6 26 hF ?_ ?_<;>intro hF
    ·refine jB 7 hF Gv4 Dk4 fun y6 hF=> ?_
     exact ja 10 (iL1 _ _ hF)
    ·refine jB 5 hF Gu8 Dj6 fun y7 hF=> ?_
     cases hF
     exact jr 3
  refine C2 8 (Ce4 (te:=40) 1123 [.n y3.2.2] (by kernel_rfl) (by kernel_rfl) ?_)
  refine C2 0 (Ce4 (te:=34) 23 [.l 1 y3.1 A7,.l 1 y3.2.1 A0] (by kernel_rfl) (by kernel_rfl) ?_)
  exact ja 0 (hL1 _ _ _ hF)
def K2(x:List Int):List Dat:=[.sl 1 (x.map A7)]
def Cn0(fuel:Nat)(d2:Int)(y3:List Int×List (List A1)×Int):Nat→(List A2)→Int→(List (List Int))→Option (List (List Int)×Int)
 |0,_,_,_=>none
 |nL1+1,l6,v2,l7=>
  bif decide (v2<d2) then
   (Option.bind (F94 fuel l6 y3.1 y3.2.1 y3.2.2) fun y8=>
   Option.bind (C4 l7 (IntKind.i64.wrap ((IntKind.i64.wrap (d2-1))-v2))) fun y9=>
   Option.bind (some (l7.set (0+Int.toNat (IntKind.i64.wrap ((IntKind.i64.wrap (d2-1))-v2))) y8.2)) fun l8=>
   (Cn0 fuel d2 y3 nL1) y8.1 (IntKind.i64.wrap (v2+1)) l8)
  else
   (some (l7,0))
def F15(fuel:Nat)(d0:A9)(d1:Int)(d2:Int):Option (List (List Int)×Int):=
 Option.bind (F43 fuel d0 d1 d2) fun y1=>
 bif y1 !=0 then
  (some ([],y1))
 else
  (Option.bind (F44 fuel d0 d1) fun y2=>
  Option.bind (F45 d0 d1) fun y3=>
  Option.bind (mkL d2 d2 []) fun l1=>
  Cn0 fuel d2 y3 fuel y2 0 l1)
noncomputable abbrev b15:=C1 Tryz.f15
abbrev G15(r:List (List Int)×Int):=J none Tryz.prog 46 [] (H3 Tryz.prog Tryz.f15 (.tup [.l 1 r.1 K2,.i r.2]))
theorem Dh5{fuel:Nat}{d0:A9}{d1:Int}{d2:Int}{r:List (List Int)×Int}(hF:F15 fuel d0 d1 d2=some r):
 C3 Tryz.prog 15 [.agg [.l 1 d0.Owner A7,.l 1 d0.Choices A0],.n d1,.i d2] (.tup [.l 1 r.1 K2,.i r.2]):=by
 unfold F15 at hF
 refine cf 46 Tryz.func15 ?_
 refine jB 12 hF Gk9 Cn8 fun y1 hF=> ?_
 refine jI 7 18 hF ?_ ?_<;>intro hF
 ·cases hF
  exact jr 7
 ·refine jd 3 ?_
  refine dB 2 hF Gl0 Cn9 fun y2 hF=> ?_
  obtain⟨y3,e3,hF⟩:=bnd hF
  refine dcr 2 [(25,2000),(1125,2001)] Gu7 (Dj5 e3) ?_
  refine je 2 ?_
  obtain⟨l1,e4,hF⟩:=bnd hF
  refine jo2 3 (mm (f:=K2) e4) ?_
  refine C2 2 (Dl2 (g:=0) (sz:=1) (e:=22) (shs:=[.o 3 1 [.z]]) (es:=l1.map K2) 27 (by kernel_rfl) ?_)
  have hL1:∀(nL1:Nat) (l6:List A2) (v2:Int) (l7:List (List Int)),Cn0 fuel d2 y3 nL1 l6 v2 l7=some r→G15 r ⟨mkT [(2,.i d2),(9,.l 4 l6 A4),(10,.fn 94 [] [.ptr 25 0,.ptr 1125 0]),(11,.suf 27 0 0),(28,.i d2),(29,.i v2)],[(25,.fzb [.l 1 y3.1 A7,.l 1 y3.2.1 A0]),(27,.buf 0 22 1 (l7.map K2)),(1125,.fzb [.n y3.2.2])],[kL b15 [1,1,1,1,0,1,0,0],.inBlock 0,kC b15 [1,1,1,1,1]]⟩:=by
   clear hF;intro nL1
   induction nL1 with
   |zero=>intro l6 v2 l7 hF;cases hF
   |succ nL1 iL1=>
    intro l6 v2 l7 hF
    rw[Cn0]at hF
    refine jI 6 30 hF ?_ ?_<;>intro hF
    ·refine jB 17 hF Gv4 Dk4 fun y8 hF=> ?_
     obtain⟨y9,e12,hF⟩:=bnd hF
     refine jo1 4 (gm (f:=K2) e12) ?_
     obtain⟨l8,e13,hF⟩:=bnd hF
     have hst:=stm (f:=K2) (z:=y8.2) (k:=0) (xs:=[.sl 1 (y8.2.map A7)]) (gj e12) rfl
     refine C2 0 (E9 (o:=(match(l7.map K2)[0+Int.toNat (IntKind.i64.wrap ((IntKind.i64.wrap (d2-1))-v2))]? with|some old=>some ((l7.map K2).set (0+Int.toNat (IntKind.i64.wrap ((IntKind.i64.wrap (d2-1))-v2))) (X6 old 0 [.sl 1 (y8.2.map A7)]))|none=>none)) (l8.map K2) (by kernel_rfl) (by cases e13;exact hst) ?_)
     exact ja 6 (iL1 _ _ _ hF)
    ·cases hF
     exact jr 8
  refine C2 8 (Ce4 (te:=40) 1125 [.n y3.2.2] (by kernel_rfl) (by kernel_rfl) ?_)
  refine C2 0 (Ce4 (te:=34) 25 [.l 1 y3.1 A7,.l 1 y3.2.1 A0] (by kernel_rfl) (by kernel_rfl) ?_)
  exact ja 0 (hL1 _ _ _ _ hF)
def Cm9(fuel:Nat)(d1:Int)(y3:A2)(y11:List Int×List (List A1)×Int):Nat→(List A2)→Int→Option (Int×Int)
 |0,_,_=>none
 |nL1+1,l2,v2=>
  bif decide (v2<61) then
   (Option.bind (C4 l2 d1) fun y18=>
   Option.bind (F50 fuel y18 y3) fun y19=>
   bif decide (y19≥0) then
    (some (v2,0))
   else
    (Option.bind (F94 fuel l2 y11.1 y11.2.1 y11.2.2) fun y20=>
    (Cm9 fuel d1 y3 y11 nL1) y20.1 (IntKind.i64.wrap (v2+1))))
  else
   (some (0,4))
def F13(fuel:Nat)(d0:A9)(d1:Int)(d2:Int)(d3:List UInt8):Option (Int×Int):=
 Option.bind (F43 fuel d0 d2 0) fun y1=>
 bif y1 !=0 then
  (some (0,y1))
 else
  (Option.bind (
   bif decide (d1<0) then
    (some true)
   else
    (some (decide (d1≥((d0.Owner.map A7).length:Int))))) fun o1=>
  bif o1 then
   (some (0,2))
  else
   (Option.bind (F47 fuel d3) fun y2=>
   bif y2 !=0 then
    (some (0,5))
   else
    (Option.bind (F48 fuel d3) fun y3=>
    Option.bind (
     Option.bind (F49 y3) fun y21=>
     bif decide (y21<0) then
      (some true)
     else
      (Option.bind (F51 fuel 1 1) fun y22=>
      Option.bind (F50 fuel y3 y22) fun y23=>
      some (decide (y23>0)))) fun o2=>
    bif o2 then
     (some (0,2))
    else
     (Option.bind (F44 fuel d0 d2) fun y10=>
     Option.bind (F45 d0 d2) fun y11=>
     Cm9 fuel d1 y3 y11 fuel y10 0))))
noncomputable abbrev b13:=C1 Tryz.f13
abbrev G13(r:Int×Int):=J none Tryz.prog 68 [] (H3 Tryz.prog Tryz.f13 (.tup [.i r.1,.i r.2]))
theorem Fs3{fuel:Nat}{d0:A9}{d1:Int}{d2:Int}{d3:List UInt8}{r:Int×Int}(hF:F13 fuel d0 d1 d2 d3=some r):
 C3 Tryz.prog 13 [.agg [.l 1 d0.Owner A7,.l 1 d0.Choices A0],.i d1,.n d2,.s d3] (.tup [.i r.1,.i r.2]):=by
 unfold F13 at hF
 refine cf 68 Tryz.func13 ?_
 refine jB 11 hF Gk9 Cn8 fun y1 hF=> ?_
 refine jI 7 19 hF ?_ ?_<;>intro hF
 ·cases hF
  exact jr 7
 ·obtain⟨o1,hO,hF⟩:=bnd hF
  have hR1:G13 r ⟨mkT [(1,.i d1),(2,.n d2),(3,.s d3),(4,.ptr 4 0),(29,.b o1)],[(4,.box 34 [.l 1 d0.Owner A7,.l 1 d0.Choices A0])],[kO b13 [1,1,0,0],kC b13 [1,1,0,1],kC b13 [1,1,1]]⟩:=by
   clear hO
   refine jI 1 29 hF ?_ ?_<;>intro hF
   ·cases hF
    exact jr 6
   ·refine jB 6 hF Hk5 Fu2 fun y2 hF=> ?_
    refine jI 2 32 hF ?_ ?_<;>intro hF
    ·cases hF
     exact jr 6
    ·refine jB 5 hF Es1 At6 fun y3 hF=> ?_
     obtain⟨o2,hO,hF⟩:=bnd hF
     have hR2:G13 r ⟨mkT [(1,.i d1),(2,.n d2),(4,.ptr 4 0),(11,.ptr 11 0),(43,.b o2)],[(4,.box 34 [.l 1 d0.Owner A7,.l 1 d0.Choices A0]),(11,.box 100 [.b y3.n_.neg,.l 1 y3.n_.mag A5,.b y3.d.neg,.l 1 y3.d.mag A5])],[kC b13 [1,1,1,1,1,0,1],kC b13 [1,1,1,1,1,1]]⟩:=by
      clear hO
      refine jI 0 43 hF ?_ ?_<;>intro hF
      ·cases hF
       exact jr 6
      ·refine jd 3 ?_
       refine dB 2 hF Gl0 Cn9 fun y10 hF=> ?_
       obtain⟨y11,e11,hF⟩:=bnd hF
       refine dcr 2 [(49,2000),(1149,2001)] Gu7 (Dj5 e11) ?_
       refine je 2 ?_
       have hL1:∀(nL1:Nat) (l2:List A2) (v2:Int),Cm9 fuel d1 y3 y11 nL1 l2 v2=some r→G13 r ⟨mkT [(1,.i d1),(11,.ptr 11 0),(12,.l 4 l2 A4),(13,.fn 94 [] [.ptr 49 0,.ptr 1149 0]),(50,.i v2)],[(11,.box 100 [.b y3.n_.neg,.l 1 y3.n_.mag A5,.b y3.d.neg,.l 1 y3.d.mag A5]),(49,.fzb [.l 1 y11.1 A7,.l 1 y11.2.1 A0]),(1149,.fzb [.n y11.2.2])],[kL b13 [1,1,1,1,1,1,1,0,1,0,0],.inBlock 0,kC b13 [1,1,1,1,1,1,1,1]]⟩:=by
        clear hF;intro nL1
        induction nL1 with
        |zero=>intro l2 v2 hF;cases hF
        |succ nL1 iL1=>
         intro l2 v2 hF
         rw[Cm9]at hF
         refine jI 6 51 hF ?_ ?_<;>intro hF
         ·refine jd 11 ?_
          obtain⟨y18,e18,hF⟩:=bnd hF
          refine do1 2 (gm (f:=A4) e18) ?_
          refine dB 2 hF Gl1 Co0 fun y19 hF=> ?_
          refine je 1 ?_
          refine jI 0 59 hF ?_ ?_<;>intro hF
          ·cases hF
           exact jr 7
          ·refine jB 5 hF Gv4 Dk4 fun y20 hF=> ?_
           exact ja 10 (iL1 _ _ hF)
         ·cases hF
          exact jr 7
       refine C2 7 (Ce4 (te:=40) 1149 [.n y11.2.2] (by kernel_rfl) (by kernel_rfl) ?_)
       refine C2 0 (Ce4 (te:=34) 49 [.l 1 y11.1 A7,.l 1 y11.2.1 A0] (by kernel_rfl) (by kernel_rfl) ?_)
       exact ja 0 (hL1 _ _ _ hF)
     clear hF;rename _=some o2=>hF
     refine jd 5 ?_
     refine dB 1 hF Hd2 Eo8 fun y21 hF=> ?_
     refine dI 2 38 hF ?_ ?_<;>intro hF
     ·refine je 5 ?_
      cases hF
      exact ja 0 hR2
     ·refine dB 1 hF Fr3 Bh0 fun y22 hF=> ?_
      refine dB 0 hF Gl1 Co0 fun y23 hF=> ?_
      refine je 2 ?_
      cases hF
      exact ja 0 hR2
  clear hF;rename _=some o1=>hF
  refine jI 8 23 hF ?_ ?_<;>intro hF
  ·cases hF
   exact ja 6 hR1
  ·cases hF
   exact ja 6 hR1
def Fq0(fuel:Nat)(d0:A1)(d1:List A2):Option A2:=
 Option.bind (F48 fuel d0.Gain) fun y1=>
 Option.bind (F55 fuel d0 d1) fun y2=>
 Option.bind (F54 fuel y1 y2) fun y3=>
 some y3
theorem Dj8{fuel:Nat}{d0:A1}{d1:List A2}{r:A2}(hF:Fq0 fuel d0 d1=some r):
 K5 Tryz.prog 53 [(2000,.box 88 [.l 4 d1 A4])] [.agg [.s d0.Act,.s d0.Gain,.l 2 d0.Next B5],.ptr 2000 0] [(2000,.box 88 [.l 4 d1 A4])] (.agg [.b r.n_.neg,.l 1 r.n_.mag A5,.b r.d.neg,.l 1 r.d.mag A5]):=by
 unfold Fq0 at hF
 refine cr 11 Tryz.func53 ?_
 refine jd 6 ?_
 refine dB 2 hF Es1 At6 fun y1 hF=> ?_
 refine dB 2 hF Hd4 Eo9 fun y2 hF=> ?_
 refine dB 0 hF Gl2 Co1 fun y3 hF=> ?_
 refine je 1 ?_
 cases hF
 exact jrr 0
def Aq4(v6:Int)(cL1:Int→Int→Bool→(List Int)→Bool→(List Int)→Option (A2×Int))(v7:Int)(t14:Bool)(l10:List Int)(t15:Bool)(l11:List Int):Option (A2×Int):=
 cL1 v7 (IntKind.i64.wrap (v6+1)) t14 l10 t15 l11
def Y8(fuel:Nat)(d0:Int)(d2:List A2)(l1:List A1):Nat→Int→Int→Bool→(List Int)→Bool→(List Int)→Option (A2×Int)
 |0,_,_,_,_,_,_=>none
 |nL1+1,v5,v6,t11,l8,t12,l9=>
  bif decide (v6<((l1.map A8).length:Int)) then
   (Option.bind (C4 l1 v6) fun y18=>
   Option.bind (Fq0 fuel y18 d2) fun y19=>
   Option.bind (F50 fuel y19 (⟨(⟨t11,l8⟩:A3),(⟨t12,l9⟩:A3)⟩:A2)) fun y20=>
   Option.bind (
    bif d0==0 then
     (bif decide (y20>0) then
      (some true)
     else
      (bif d0==1 then
       (some (decide (y20<0)))
      else
       (some false)))
    else
     (bif d0==1 then
      (some (decide (y20<0)))
     else
      (some false))) fun o6=>
   bif o6 then
    (Aq4 v6 (Y8 fuel d0 d2 l1 nL1) (IntKind.i64.wrap (v6+1)) y19.n_.neg y19.n_.mag y19.d.neg y19.d.mag)
   else
    (Aq4 v6 (Y8 fuel d0 d2 l1 nL1) v5 t11 l8 t12 l9))
  else
   (some ((⟨(⟨t11,l8⟩:A3),(⟨t12,l9⟩:A3)⟩:A2),v5))
def Fb6(fuel:Nat)(d0:Int)(d1:List A1)(d2:List A2):Option (A2×Int):=
 Option.bind (C4 d1 0) fun y1=>
 Option.bind (Fq0 fuel y1 d2) fun y2=>
 Option.bind (slc d1 1 (d1.length:Int)) fun l1=>
 Y8 fuel d0 d2 l1 fuel 0 0 y2.n_.neg y2.n_.mag y2.d.neg y2.d.mag
abbrev Go3(d2:List A2)(r:A2×Int):=J none Tryz.prog 53 [] (Dc2 Tryz.prog Tryz.f52 [(2000,.box 88 [.l 4 d2 A4])] (.tup [.agg [.b r.1.n_.neg,.l 1 r.1.n_.mag A5,.b r.1.d.neg,.l 1 r.1.d.mag A5],.i r.2]))
theorem Dj7{fuel:Nat}{d0:Int}{d1:List A1}{d2:List A2}{r:A2×Int}(hF:Fb6 fuel d0 d1 d2=some r):
 K5 Tryz.prog 52 [(2000,.box 88 [.l 4 d2 A4])] [.i d0,.l 3 d1 A8,.fn 53 [] [.ptr 2000 0]] [(2000,.box 88 [.l 4 d2 A4])] (.tup [.agg [.b r.1.n_.neg,.l 1 r.1.n_.mag A5,.b r.1.d.neg,.l 1 r.1.d.mag A5],.i r.2]):=by
 unfold Fb6 at hF
 refine cr 53 Tryz.func52 ?_
 obtain⟨y1,e1,hF⟩:=bnd hF
 refine jo1 9 (gm (f:=A8) e1) ?_
 obtain⟨y2,e2,hF⟩:=bnd hF
 refine jcr 1 [(2000,2000)] Hd3 (Dj8 e2) ?_
 obtain⟨l1,e3,hF⟩:=bnd hF
 refine jo2 8 (smh (f:=A8) e3) ?_
 have hL1:∀(nL1:Nat) (v5:Int) (v6:Int) (t11:Bool) (l8:List Int) (t12:Bool) (l9:List Int),Y8 fuel d0 d2 l1 nL1 v5 v6 t11 l8 t12 l9=some r→Go3 d2 r ⟨mkT [(0,.i d0),(2,.fn 53 [] [.ptr 2000 0]),(6,.ptr 6 0),(8,.i v5),(9,.ptr 9 0),(20,.l 3 l1 A8),(21,.i ((l1.map A8).length:Int)),(22,.i v6)],[(6,.box 100 [.b false,.esl 1,.b false,.esl 1]),(9,.box 100 [.b t11,.l 1 l8 A5,.b t12,.l 1 l9 A5]),(2000,.box 88 [.l 4 d2 A4])],[kL b52 [1,1,0,1,0,0],.inBlock 0,kC b52 [1,1,1]]⟩:=by
  clear hF;intro nL1
  induction nL1 with
  |zero=>intro v5 v6 t11 l8 t12 l9 hF;cases hF
  |succ nL1 iL1=>
   intro v5 v6 t11 l8 t12 l9 hF
   rw[Y8]at hF
   refine jI 6 23 hF ?_ ?_<;>intro hF
   ·have hA2:∀(v7:Int) (t14:Bool) (l10:List Int) (t15:Bool) (l11:List Int),Aq4 v6 (Y8 fuel d0 d2 l1 nL1) v7 t14 l10 t15 l11=some r→Go3 d2 r ⟨mkT [(0,.i d0),(2,.fn 53 [] [.ptr 2000 0]),(6,.ptr 6 0),(8,.i v7),(9,.ptr 9 0),(20,.l 3 l1 A8),(21,.i ((l1.map A8).length:Int)),(22,.i v6)],[(6,.box 100 [.b false,.esl 1,.b false,.esl 1]),(9,.box 100 [.b t14,.l 1 l10 A5,.b t15,.l 1 l11 A5]),(2000,.box 88 [.l 4 d2 A4])],[kC b52 [1,1,0,1,0,0,1,1,1],kL b52 [1,1,0,1,0,0],.inBlock 0,kC b52 [1,1,1]]⟩:=by
     intro v7 t14 l10 t15 l11 hF
     unfold Aq4 at hF
     exact ja 4 (iL1 _ _ _ _ _ _ hF)
    obtain⟨y18,e19,hF⟩:=bnd hF
    refine jo1 7 (gm (f:=A8) e19) ?_
    obtain⟨y19,e20,hF⟩:=bnd hF
    refine jcr 9 [(2000,2000)] Hd3 (Dj8 e20) ?_
    refine jB 7 hF Gl1 Co0 fun y20 hF=> ?_
    obtain⟨o6,hO,hF⟩:=bnd hF
    have hR6:Go3 d2 r ⟨mkT [(0,.i d0),(2,.fn 53 [] [.ptr 2000 0]),(6,.ptr 6 0),(8,.i v5),(9,.ptr 9 0),(10,.i v6),(12,.ptr 12 0),(20,.l 3 l1 A8),(21,.i ((l1.map A8).length:Int)),(22,.i v6),(46,.b o6)],[(6,.box 100 [.b false,.esl 1,.b false,.esl 1]),(9,.box 100 [.b t11,.l 1 l8 A5,.b t12,.l 1 l9 A5]),(12,.box 100 [.b y19.n_.neg,.l 1 y19.n_.mag A5,.b y19.d.neg,.l 1 y19.d.mag A5]),(2000,.box 88 [.l 4 d2 A4])],[kO b52 [1,1,0,1,0,0,1,1,0,0,1,1,1,0],kC b52 [1,1,0,1,0,0,1,1,0,0,1,1,1,1],.inBlock 1,kC b52 [1,1,0,1,0,0,1,1,1],kL b52 [1,1,0,1,0,0],.inBlock 0,kC b52 [1,1,1]]⟩:=by
     clear hO
     refine jI 1 46 hF ?_ ?_<;>intro hF
     ·refine jd 1 ?_
      refine je 5 ?_
      exact ja 1 (hA2 _ _ _ _ _ hF)
     ·exact ja 3 (hA2 _ _ _ _ _ hF)
    clear hF;rename _=some o6=>hF
    refine jI 7 35 hF ?_ ?_<;>intro hF
    ·refine jI 4 39 hF ?_ ?_<;>intro hF
     ·cases hF
      exact ja 7 hR6
     ·refine jI 3 42 hF ?_ ?_<;>intro hF
      ·cases hF
       exact ja 4 hR6
      ·cases hF
       exact ja 4 hR6
    ·refine jI 7 42 hF ?_ ?_<;>intro hF
     ·cases hF
      exact ja 4 hR6
     ·cases hF
      exact ja 4 hR6
   ·cases hF
    exact jrr 9
 exact ja 5 (hL1 _ _ _ _ _ _ _ hF)
def Ax9(fuel:Nat)(d0:A9)(l26:List A2)(v11:Int)(cL2:Int→(List A2)→Option (List (List UInt8)×Int)):Nat→Int→(List A2)→Option (List (List UInt8)×Int)
 |0,_,_=>none
 |nL3+1,v13,l31=>
  bif decide (v13<((d0.Choices.map A0).length:Int)) then
   (Option.bind (C4 d0.Choices v13) fun y59=>
   Option.bind (C4 d0.Owner v13) fun y60=>
   Option.bind (Fb6 fuel y60 y59 l26) fun y61=>
   Option.bind (C4 l31 v13) fun y62=>
   Option.bind (some (l31.set (0+Int.toNat v13) y61.1)) fun l32=>
   (Ax9 fuel d0 l26 v11 cL2 nL3) (IntKind.i64.wrap (v13+1)) l32)
  else
   (cL2 (IntKind.i64.wrap (v11+1)) l31)
def Ag0(fuel:Nat)(d0:A9)(d1:Int):Nat→Int→(List A2)→Option (List (List UInt8)×Int)
 |0,_,_=>none
 |nL2+1,v11,l26=>
  bif decide (v11<d1) then
   (Option.bind (mkL ((l26.map A4).length:Int) ((l26.map A4).length:Int) (⟨(⟨false,[]⟩:A3),(⟨false,[]⟩:A3)⟩:A2)) fun l27=>
   Ax9 fuel d0 l26 v11 (Ag0 fuel d0 d1 nL2) fuel 0 l27)
  else
   (Option.bind (F46 fuel l26) fun y63=>
   some (y63,0))
def Ax8(fuel:Nat)(d0:A9)(d1:Int)(y2:List A2):Nat→Int→(List A2)→Option (List (List UInt8)×Int)
 |0,_,_=>none
 |nL1+1,v5,l11=>
  bif decide (v5<((d0.Choices.map A0).length:Int)) then
   (Option.bind (C4 d0.Choices v5) fun y23=>
   Option.bind (C4 d0.Owner v5) fun y24=>
   Option.bind (Fb6 fuel y24 y23 y2) fun y25=>
   Option.bind (C4 l11 v5) fun y26=>
   Option.bind (some (l11.set (0+Int.toNat v5) y25.1)) fun l12=>
   (Ax8 fuel d0 d1 y2 nL1) (IntKind.i64.wrap (v5+1)) l12)
  else
   (Ag0 fuel d0 d1 fuel (IntKind.i64.wrap (0+1)) l11)
def F14(fuel:Nat)(d0:A9)(d1:Int):Option (List (List UInt8)×Int):=
 Option.bind (F43 fuel d0 0 d1) fun y1=>
 bif y1 !=0 then
  (some ([],y1))
 else
  (Option.bind (F44 fuel d0 0) fun y2=>
  bif decide (0<d1) then
   (Option.bind (mkL ((y2.map A4).length:Int) ((y2.map A4).length:Int) (⟨(⟨false,[]⟩:A3),(⟨false,[]⟩:A3)⟩:A2)) fun l7=>
   Ax8 fuel d0 d1 y2 fuel 0 l7)
  else
   (Option.bind (F46 fuel y2) fun y64=>
   some (y64,0)))
noncomputable abbrev b14:=C1 Tryz.f14
abbrev G14(r:List (List UInt8)×Int):=J none Tryz.prog 52 [] (H3 Tryz.prog Tryz.f14 (.tup [.l 1 r.1 e_s,.i r.2]))
theorem Dh2{fuel:Nat}{d0:A9}{d1:Int}{r:List (List UInt8)×Int}(hF:F14 fuel d0 d1=some r):
 C3 Tryz.prog 14 [.agg [.l 1 d0.Owner A7,.l 1 d0.Choices A0],.i d1] (.tup [.l 1 r.1 e_s,.i r.2]):=by
 unfold F14 at hF
 refine cf 52 Tryz.func14 ?_
 refine jB 11 hF Gk9 Cn8 fun y1 hF=> ?_
 refine jI 7 15 hF ?_ ?_<;>intro hF
 ·cases hF
  exact jr 7
 ·refine jB 5 hF Gl0 Cn9 fun y2 hF=> ?_
  refine jI 17 21 hF ?_ ?_<;>intro hF
  ·obtain⟨l7,e19,hF⟩:=bnd hF
   refine jo2 8 (mm (f:=A4) e19) ?_
   have hL1:∀(nL1:Nat) (v5:Int) (l11:List A2),Ax8 fuel d0 d1 y2 nL1 v5 l11=some r→G14 r ⟨mkT [(2,.ptr 2 0),(7,.ptr 7 0),(8,.suf 24 0 0),(19,.i d1),(20,.i 0),(26,.l 1 d0.Choices A0),(27,.i ((d0.Choices.map A0).length:Int)),(28,.i v5)],[(2,.box 34 [.l 1 d0.Owner A7,.l 1 d0.Choices A0]),(7,.box 88 [.l 4 y2 A4]),(24,.buf 0 100 4 (l11.map A4))],[kL b14 [1,1,1,0,1,0,0,1,1,0,0,1,0,1,0,0],.inBlock 2,kC b14 [1,1,1,0,1,0,0,1,1,0,0,1,1],.inBlock 1,kC b14 [1,1,1,0,1,0,0,1,1,1],kL b14 [1,1,1,0,1,0,0],.inBlock 0,kC b14 [1,1,1,1]]⟩:=by
    clear hF;intro nL1
    induction nL1 with
    |zero=>intro v5 l11 hF;cases hF
    |succ nL1 iL1=>
     intro v5 l11 hF
     rw[Ax8]at hF
     refine jI 6 29 hF ?_ ?_<;>intro hF
     ·obtain⟨y23,e30,hF⟩:=bnd hF
      refine jo1 7 (gm (f:=A0) e30) ?_
      obtain⟨y24,e31,hF⟩:=bnd hF
      refine jo1 10 (gm (f:=A7) e31) ?_
      obtain⟨y25,e32,hF⟩:=bnd hF
      refine jcr 3 [(7,2000)] Gu9 (Dj7 e32) ?_
      obtain⟨y26,e33,hF⟩:=bnd hF
      refine jo1 3 (gm (f:=A4) e33) ?_
      obtain⟨l12,e34,hF⟩:=bnd hF
      have hst:=stm (f:=A4) (z:=y25.1) (k:=0) (xs:=[.bool y25.1.n_.neg,.sl 1 (y25.1.n_.mag.map A5),.bool y25.1.d.neg,.sl 1 (y25.1.d.mag.map A5)]) (gj e33) rfl
      refine C2 0 (E9 (o:=(match(l11.map A4)[0+Int.toNat v5]? with|some old=>some ((l11.map A4).set (0+Int.toNat v5) (X6 old 0 [.bool y25.1.n_.neg,.sl 1 (y25.1.n_.mag.map A5),.bool y25.1.d.neg,.sl 1 (y25.1.d.mag.map A5)]))|none=>none)) (l12.map A4) (by kernel_rfl) (by cases e34;exact hst) ?_)
      exact ja 6 (iL1 _ _ hF)
     ·have hL2:∀(nL2:Nat) (v11:Int) (l26:List A2),Ag0 fuel d0 d1 nL2 v11 l26=some r→G14 r ⟨mkT [(2,.ptr 2 0),(7,.ptr 7 0),(19,.i d1),(20,.i v11)],[(2,.box 34 [.l 1 d0.Owner A7,.l 1 d0.Choices A0]),(7,.box 88 [.suf 24 0 0]),(24,.buf 0 100 4 (l26.map A4))],[kL b14 [1,1,1,0,1,0,0],.inBlock 0,kC b14 [1,1,1,1]]⟩:=by
       clear hF;intro nL2
       induction nL2 with
       |zero=>intro v11 l26 hF;cases hF
       |succ nL2 iL2=>
        intro v11 l26 hF
        rw[Ag0]at hF
        refine jI 6 21 hF ?_ ?_<;>intro hF
        ·refine C2 5 (Fv7 (g:=0) (e:=100) (sz:=4) (es:=l26.map A4) 24 (by kernel_rfl) ?_)
         refine ja 0 (S0:=[(2,.ptr 2 0),(7,.ptr 7 0),(19,.i d1),(20,.i v11)]) (O0:=[(2,.box 34 [.l 1 d0.Owner A7,.l 1 d0.Choices A0]),(7,.box 88 [.l 4 l26 A4])]) (T0:=[kC b14 [1,1,1,0,1,0,0,1,1,0,0,0],kC b14 [1,1,1,0,1,0,0,1,1,0,0,1],.inBlock 1,kC b14 [1,1,1,0,1,0,0,1,1,1],kL b14 [1,1,1,0,1,0,0],.inBlock 0,kC b14 [1,1,1,1]]) ?_
         obtain⟨l27,e67,hF⟩:=bnd hF
         refine jo2 3 (mm (f:=A4) e67) ?_
         have hL3:∀(nL3:Nat) (v13:Int) (l31:List A2),Ax9 fuel d0 l26 v11 (Ag0 fuel d0 d1 nL2) nL3 v13 l31=some r→G14 r ⟨mkT [(2,.ptr 2 0),(7,.ptr 7 0),(8,.suf 24 0 0),(19,.i d1),(20,.i v11),(26,.l 1 d0.Choices A0),(27,.i ((d0.Choices.map A0).length:Int)),(28,.i v13)],[(2,.box 34 [.l 1 d0.Owner A7,.l 1 d0.Choices A0]),(7,.box 88 [.l 4 l26 A4]),(24,.buf 0 100 4 (l31.map A4))],[kL b14 [1,1,1,0,1,0,0,1,1,0,0,1,0,1,0,0],.inBlock 2,kC b14 [1,1,1,0,1,0,0,1,1,0,0,1,1],.inBlock 1,kC b14 [1,1,1,0,1,0,0,1,1,1],kL b14 [1,1,1,0,1,0,0],.inBlock 0,kC b14 [1,1,1,1]]⟩:=by
          clear hF;intro nL3
          induction nL3 with
          |zero=>intro v13 l31 hF;cases hF
          |succ nL3 iL3=>
           intro v13 l31 hF
           rw[Ax9]at hF
           refine jI 6 29 hF ?_ ?_<;>intro hF
           ·obtain⟨y59,e78,hF⟩:=bnd hF
            refine jo1 7 (gm (f:=A0) e78) ?_
            obtain⟨y60,e79,hF⟩:=bnd hF
            refine jo1 10 (gm (f:=A7) e79) ?_
            obtain⟨y61,e80,hF⟩:=bnd hF
            refine jcr 3 [(7,2000)] Gu9 (Dj7 e80) ?_
            obtain⟨y62,e81,hF⟩:=bnd hF
            refine jo1 3 (gm (f:=A4) e81) ?_
            obtain⟨l32,e82,hF⟩:=bnd hF
            have hst:=stm (f:=A4) (z:=y61.1) (k:=0) (xs:=[.bool y61.1.n_.neg,.sl 1 (y61.1.n_.mag.map A5),.bool y61.1.d.neg,.sl 1 (y61.1.d.mag.map A5)]) (gj e81) rfl
            refine C2 0 (E9 (o:=(match(l31.map A4)[0+Int.toNat v13]? with|some old=>some ((l31.map A4).set (0+Int.toNat v13) (X6 old 0 [.bool y61.1.n_.neg,.sl 1 (y61.1.n_.mag.map A5),.bool y61.1.d.neg,.sl 1 (y61.1.d.mag.map A5)]))|none=>none)) (l32.map A4) (by kernel_rfl) (by cases e82;exact hst) ?_)
            exact ja 6 (iL3 _ _ hF)
           ·exact ja 11 (iL2 _ _ hF)
         exact ja 12 (hL3 _ _ _ hF)
        ·refine jB 5 hF Gu8 Dj6 fun y63 hF=> ?_
         cases hF
         exact jr 3
      exact ja 11 (hL2 _ _ _ hF)
   exact ja 12 (hL1 _ _ _ hF)
  ·refine jB 5 hF Gu8 Dj6 fun y64 hF=> ?_
   cases hF
   exact jr 3
def Ay1(d0:List (List UInt8))(d1:List (List UInt8)):Nat→Int→Option Bool
 |0,_=>none
 |nL1+1,v2=>
  bif decide (v2<((d0.map e_s).length:Int)) then
   (Option.bind (C4 d0 v2) fun y5=>
   Option.bind (C4 d1 v2) fun y6=>
   bif !(y5==y6) then
    (some false)
   else
    ((Ay1 d0 d1 nL1) (IntKind.i64.wrap (v2+1))))
  else
   (some true)
def F17(fuel:Nat)(d0:List (List UInt8))(d1:List (List UInt8)):Option Bool:=
 bif ((d0.map e_s).length:Int) !=((d1.map e_s).length:Int) then
  (some false)
 else
  (Ay1 d0 d1 fuel 0)
noncomputable abbrev b17:=C1 Tryz.f17
abbrev G17(r:Bool):=J none Tryz.prog 26 [] (H3 Tryz.prog Tryz.f17 (.b r))
theorem Dh8{fuel:Nat}{d0:List (List UInt8)}{d1:List (List UInt8)}{r:Bool}(hF:F17 fuel d0 d1=some r):
 C3 Tryz.prog 17 [.l 1 d0 e_s,.l 1 d1 e_s] (.b r):=by
 unfold F17 at hF
 refine cf 26 Tryz.func17 ?_
 refine jI 13 10 hF ?_ ?_<;>intro hF
 ·cases hF
  exact jr 5
 ·have hL1:∀(nL1:Nat) (v2:Int),Ay1 d0 d1 nL1 v2=some r→G17 r ⟨mkT [(0,.l 1 d0 e_s),(1,.l 1 d1 e_s),(12,.i ((d0.map e_s).length:Int)),(13,.i v2)],[],[kL b17 [1,1,0,1,0,0],.inBlock 0,kC b17 [1,1,1]]⟩:=by
   clear hF;intro nL1
   induction nL1 with
   |zero=>intro v2 hF;cases hF
   |succ nL1 iL1=>
    intro v2 hF
    rw[Ay1]at hF
    refine jI 6 14 hF ?_ ?_<;>intro hF
    ·refine jd 10 ?_
     obtain⟨y5,e5,hF⟩:=bnd hF
     refine do1 2 (gm (f:=e_s) e5) ?_
     obtain⟨y6,e6,hF⟩:=bnd hF
     refine do1 3 (gm (f:=e_s) e6) ?_
     refine je 2 ?_
     refine jI 0 24 hF ?_ ?_<;>intro hF
     ·cases hF
      exact jr 5
     ·exact ja 7 (iL1 _ hF)
    ·cases hF
     exact jr 6
  exact ja 11 (hL1 _ _ hF)
def F11(d0:Int)(d1:List UInt8):Option B8:=
 some (⟨d0,d1⟩:B8)
theorem At3{d0:Int}{d1:List UInt8}{r:B8}(hF:F11 d0 d1=some r):
 C3 Tryz.prog 11 [.i d0,.s d1] (.agg [.i r.To,.s r.P]):=by
 unfold F11 at hF
 refine cf 8 Tryz.func11 ?_
 cases hF
 exact jr 11
def F10(d0:List UInt8)(d1:List B8):Option A1:=
 some (⟨[],d0,d1⟩:A1)
theorem Bs3{d0:List UInt8}{d1:List B8}{r:A1}(hF:F10 d0 d1=some r):
 C3 Tryz.prog 10 [.s d0,.l 2 d1 B5] (.agg [.s r.Act,.s r.Gain,.l 2 r.Next B5]):=by
 unfold F10 at hF
 refine cf 8 Tryz.func10 ?_
 cases hF
 exact jr 11
def F16:Option A9:=
 Option.bind (F11 0 [49,47,50]) fun y1=>
 Option.bind (F11 1 [49,47,50]) fun y2=>
 Option.bind (F10 [49] [y1,y2]) fun y3=>
 Option.bind (F11 1 [51,47,52]) fun y4=>
 Option.bind (F11 2 [49,47,52]) fun y5=>
 Option.bind (F10 [48] [y4,y5]) fun y6=>
 Option.bind (F11 0 [49]) fun y7=>
 Option.bind (F10 [50] [y7]) fun y8=>
 Option.bind (F11 1 [49,47,50]) fun y9=>
 Option.bind (F11 2 [49,47,50]) fun y10=>
 Option.bind (F10 [49,47,50] [y9,y10]) fun y11=>
 Option.bind (F11 2 [49]) fun y12=>
 Option.bind (F10 [48] [y12]) fun y13=>
 some (⟨[0,1,0],[[y3,y6],[y8,y11],[y13]]⟩:A9)
theorem Cn3{r:A9}(hF:F16=some r):
 C3 Tryz.prog 16 [] (.agg [.l 1 r.Owner A7,.l 1 r.Choices A0]):=by
 unfold F16 at hF
 refine cf 25 Tryz.func16 ?_
 refine jB 7 hF Es0 At3 fun y1 hF=> ?_
 refine jB 0 hF Es0 At3 fun y2 hF=> ?_
 refine jB 1 hF Fz3 Bs3 fun y3 hF=> ?_
 refine jB 0 hF Es0 At3 fun y4 hF=> ?_
 refine jB 0 hF Es0 At3 fun y5 hF=> ?_
 refine jB 1 hF Fz3 Bs3 fun y6 hF=> ?_
 refine jB 1 hF Es0 At3 fun y7 hF=> ?_
 refine jB 1 hF Fz3 Bs3 fun y8 hF=> ?_
 refine jB 0 hF Es0 At3 fun y9 hF=> ?_
 refine jB 0 hF Es0 At3 fun y10 hF=> ?_
 refine jB 1 hF Fz3 Bs3 fun y11 hF=> ?_
 refine jB 1 hF Es0 At3 fun y12 hF=> ?_
 refine jB 1 hF Fz3 Bs3 fun y13 hF=> ?_
 cases hF
 exact jr 5
def F57(fuel:Nat)(d0:Int)(d1:List (List UInt8)):Option Bool:=
 Option.bind (F16) fun y1=>
 Option.bind (F12 fuel y1 4 d0) fun y2=>
 Option.bind (
  bif y2.2==0 then
   (Option.bind (F17 fuel y2.1 d1) fun y5=>
   some y5)
  else
   (some false)) fun o1=>
 some o1
noncomputable abbrev b57:=C1 Tryz.f57
abbrev G57(r:Bool):=J none Tryz.prog 20 [] (H3 Tryz.prog Tryz.f57 (.b r))
theorem Co2{fuel:Nat}{d0:Int}{d1:List (List UInt8)}{r:Bool}(hF:F57 fuel d0 d1=some r):
 C3 Tryz.prog 57 [.i d0,.l 1 d1 e_s] (.b r):=by
 unfold F57 at hF
 refine cf 20 Tryz.func57 ?_
 refine jB 6 hF Gk7 Cn3 fun y1 hF=> ?_
 refine jB 1 hF Gr0 Dg4 fun y2 hF=> ?_
 obtain⟨o1,hO,hF⟩:=bnd hF
 have hR1:G57 r ⟨mkT [(4,.b o1)],[],[kO b57 [1,1,0],kC b57 [1,1,1]]⟩:=by
  clear hO
  cases hF
  exact jr 1
 clear hF;rename _=some o1=>hF
 refine jI 11 15 hF ?_ ?_<;>intro hF
 ·refine jB 2 hF Gs2 Dh8 fun y5 hF=> ?_
  cases hF
  exact ja 2 hR1
 ·cases hF
  exact ja 5 hR1
def Co3(d0:List Int)(d1:List Int):Nat→Int→Option Bool
 |0,_=>none
 |nL1+1,v2=>
  bif decide (v2<((d0.map A7).length:Int)) then
   (Option.bind (C4 d0 v2) fun y5=>
   Option.bind (C4 d1 v2) fun y6=>
   bif y5 !=y6 then
    (some false)
   else
    ((Co3 d0 d1 nL1) (IntKind.i64.wrap (v2+1))))
  else
   (some true)
def F69(fuel:Nat)(d0:List Int)(d1:List Int):Option Bool:=
 bif ((d0.map A7).length:Int) !=((d1.map A7).length:Int) then
  (some false)
 else
  (Co3 d0 d1 fuel 0)
noncomputable abbrev b69:=C1 Tryz.f69
abbrev G69(r:Bool):=J none Tryz.prog 26 [] (H3 Tryz.prog Tryz.f69 (.b r))
theorem Fu6{fuel:Nat}{d0:List Int}{d1:List Int}{r:Bool}(hF:F69 fuel d0 d1=some r):
 C3 Tryz.prog 69 [.l 1 d0 A7,.l 1 d1 A7] (.b r):=by
 unfold F69 at hF
 refine cf 26 Tryz.func69 ?_
 refine jI 13 10 hF ?_ ?_<;>intro hF
 ·cases hF
  exact jr 5
 ·have hL1:∀(nL1:Nat) (v2:Int),Co3 d0 d1 nL1 v2=some r→G69 r ⟨mkT [(0,.l 1 d0 A7),(1,.l 1 d1 A7),(5,.i v2)],[],[kL b69 [1,1,0,1,0,0],.inBlock 0,kC b69 [1,1,1]]⟩:=by
   clear hF;intro nL1
   induction nL1 with
   |zero=>intro v2 hF;cases hF
   |succ nL1 iL1=>
    intro v2 hF
    rw[Co3]at hF
    refine jI 9 14 hF ?_ ?_<;>intro hF
    ·refine jd 5 ?_
     obtain⟨y5,e5,hF⟩:=bnd hF
     refine do1 2 (gm (f:=A7) e5) ?_
     obtain⟨y6,e6,hF⟩:=bnd hF
     refine do1 3 (gm (f:=A7) e6) ?_
     refine je 2 ?_
     refine jI 0 25 hF ?_ ?_<;>intro hF
     ·cases hF
      exact jr 5
     ·exact ja 8 (iL1 _ hF)
    ·cases hF
     exact jr 6
  exact ja 9 (hL1 _ _ hF)
def Cn6(fuel:Nat)(d0:List (List Int))(d1:List (List Int)):Nat→Int→Option Bool
 |0,_=>none
 |nL1+1,v2=>
  bif decide (v2<((d0.map K2).length:Int)) then
   (Option.bind (C4 d0 v2) fun y7=>
   Option.bind (C4 d1 v2) fun y8=>
   Option.bind (F69 fuel y7 y8) fun y9=>
   bif !y9 then
    (some false)
   else
    ((Cn6 fuel d0 d1 nL1) (IntKind.i64.wrap (v2+1))))
  else
   (some true)
def F26(fuel:Nat)(d0:List (List Int))(d1:List (List Int)):Option Bool:=
 bif ((d0.map K2).length:Int) !=((d1.map K2).length:Int) then
  (some false)
 else
  (Cn6 fuel d0 d1 fuel 0)
noncomputable abbrev b26:=C1 Tryz.f26
abbrev G26(r:Bool):=J none Tryz.prog 27 [] (H3 Tryz.prog Tryz.f26 (.b r))
theorem Eo4{fuel:Nat}{d0:List (List Int)}{d1:List (List Int)}{r:Bool}(hF:F26 fuel d0 d1=some r):
 C3 Tryz.prog 26 [.l 1 d0 K2,.l 1 d1 K2] (.b r):=by
 unfold F26 at hF
 refine cf 27 Tryz.func26 ?_
 refine jI 13 10 hF ?_ ?_<;>intro hF
 ·cases hF
  exact jr 5
 ·have hL1:∀(nL1:Nat) (v2:Int),Cn6 fuel d0 d1 nL1 v2=some r→G26 r ⟨mkT [(0,.l 1 d0 K2),(1,.l 1 d1 K2),(5,.i v2)],[],[kL b26 [1,1,0,1,0,0],.inBlock 0,kC b26 [1,1,1]]⟩:=by
   clear hF;intro nL1
   induction nL1 with
   |zero=>intro v2 hF;cases hF
   |succ nL1 iL1=>
    intro v2 hF
    rw[Cn6]at hF
    refine jI 9 14 hF ?_ ?_<;>intro hF
    ·refine jd 5 ?_
     obtain⟨y7,e7,hF⟩:=bnd hF
     refine do1 2 (gm (f:=K2) e7) ?_
     obtain⟨y8,e8,hF⟩:=bnd hF
     refine do1 3 (gm (f:=K2) e8) ?_
     refine dB 1 hF Hk8 Fu6 fun y9 hF=> ?_
     refine je 1 ?_
     refine jI 0 26 hF ?_ ?_<;>intro hF
     ·cases hF
      exact jr 5
     ·exact ja 8 (iL1 _ hF)
    ·cases hF
     exact jr 6
  exact ja 9 (hL1 _ _ hF)
def F58(fuel:Nat)(d0:Int)(d1:List (List UInt8)):Option Bool:=
 Option.bind (F16) fun y1=>
 Option.bind (F14 fuel y1 d0) fun y2=>
 Option.bind (
  bif y2.2==0 then
   (Option.bind (F17 fuel y2.1 d1) fun y5=>
   some y5)
  else
   (some false)) fun o1=>
 some o1
noncomputable abbrev b58:=C1 Tryz.f58
abbrev G58(r:Bool):=J none Tryz.prog 20 [] (H3 Tryz.prog Tryz.f58 (.b r))
theorem Dj9{fuel:Nat}{d0:Int}{d1:List (List UInt8)}{r:Bool}(hF:F58 fuel d0 d1=some r):
 C3 Tryz.prog 58 [.i d0,.l 1 d1 e_s] (.b r):=by
 unfold F58 at hF
 refine cf 20 Tryz.func58 ?_
 refine jB 6 hF Gk7 Cn3 fun y1 hF=> ?_
 refine jB 1 hF Gr6 Dh2 fun y2 hF=> ?_
 obtain⟨o1,hO,hF⟩:=bnd hF
 have hR1:G58 r ⟨mkT [(4,.b o1)],[],[kO b58 [1,1,0],kC b58 [1,1,1]]⟩:=by
  clear hO
  cases hF
  exact jr 1
 clear hF;rename _=some o1=>hF
 refine jI 11 15 hF ?_ ?_<;>intro hF
 ·refine jB 2 hF Gs2 Dh8 fun y5 hF=> ?_
  cases hF
  exact ja 2 hR1
 ·cases hF
  exact ja 5 hR1
def F59(fuel:Nat)(d0:Int)(d1:Int)(d2:List UInt8)(d3:Int)(d4:Int):Option Bool:=
 Option.bind (F16) fun y1=>
 Option.bind (F13 fuel y1 d0 d1 d2) fun y2=>
 Option.bind (
  bif y2.1==d3 then
   (some (y2.2==d4))
  else
   (some false)) fun o1=>
 some o1
noncomputable abbrev b59:=C1 Tryz.f59
abbrev G59(r:Bool):=J none Tryz.prog 29 [] (H3 Tryz.prog Tryz.f59 (.b r))
theorem Az5{fuel:Nat}{d0:Int}{d1:Int}{d2:List UInt8}{d3:Int}{d4:Int}{r:Bool}(hF:F59 fuel d0 d1 d2 d3 d4=some r):
 C3 Tryz.prog 59 [.i d0,.n d1,.s d2,.i d3,.i d4] (.b r):=by
 unfold F59 at hF
 refine cf 29 Tryz.func59 ?_
 refine jB 6 hF Gk7 Cn3 fun y1 hF=> ?_
 refine jB 3 hF Hj7 Fs3 fun y2 hF=> ?_
 obtain⟨o1,hO,hF⟩:=bnd hF
 have hR1:G59 r ⟨mkT [(10,.b o1)],[],[kO b59 [1,1,0],kC b59 [1,1,1]]⟩:=by
  clear hO
  cases hF
  exact jr 1
 clear hF;rename _=some o1=>hF
 refine jI 12 24 hF ?_ ?_<;>intro hF
 ·cases hF
  exact ja 5 hR1
 ·cases hF
  exact ja 5 hR1
def F19(fuel:Nat):Option Bool:=
 Option.bind (F16) fun y1=>
 Option.bind (F15 fuel y1 4 2) fun y2=>
 Option.bind (F15 fuel y1 5 1) fun y3=>
 Option.bind (F15 fuel y1 4 0) fun y4=>
 Option.bind (F12 fuel y1 4 61) fun y5=>
 Option.bind (
  Option.bind (F57 fuel 0 [[48],[48],[49]]) fun y50=>
  bif y50 then
   (Option.bind (F57 fuel 1 [[49,47,52],[48],[49]]) fun y51=>
   bif y51 then
    (Option.bind (F57 fuel 2 [[49,47,52],[49,47,52],[49]]) fun y52=>
    bif y52 then
     (Option.bind (F57 fuel 3 [[55,47,49,54],[49,47,52],[49]]) fun y53=>
     bif y53 then
      (bif y2.2==0 then
       (bif y3.2==0 then
        (bif y4.2==0 then
         (bif y5.2==2 then
          (some (((y4.1.map K2).length:Int)==0))
         else
          (some false))
        else
         (some false))
       else
        (some false))
      else
       (some false))
     else
      (some false))
    else
     (some false))
   else
    (some false))
  else
   (some false)) fun o1=>
 Option.bind (
  bif o1 then
   (Option.bind (F26 fuel y2.1 [[1,0,0],[1,0,0]]) fun y45=>
   bif y45 then
    (Option.bind (F26 fuel y3.1 [[0,1,0]]) fun y46=>
    bif y46 then
     (Option.bind (F58 fuel 0 [[48],[48],[48]]) fun y47=>
     bif y47 then
      (Option.bind (F58 fuel 1 [[49],[49,47,50],[48]]) fun y48=>
      bif y48 then
       (Option.bind (F58 fuel 2 [[55,47,52],[51,47,52],[48]]) fun y49=>
       some y49)
      else
       (some false))
     else
      (some false))
    else
     (some false))
   else
    (some false))
  else
   (some false)) fun o2=>
 Option.bind (
  bif o2 then
   (Option.bind (F59 fuel 0 4 [49,47,52] 1 0) fun y38=>
   bif y38 then
    (Option.bind (F59 fuel 1 4 [49,47,52] 2 0) fun y39=>
    bif y39 then
     (Option.bind (F59 fuel 0 4 [48] 0 0) fun y40=>
     bif y40 then
      (Option.bind (F59 fuel 0 0 [49,47,50] 0 4) fun y41=>
      bif y41 then
       (Option.bind (F59 fuel 3 4 [49] 0 2) fun y42=>
       bif y42 then
        (Option.bind (F59 fuel 0 4 [53,47,52] 0 2) fun y43=>
        bif y43 then
         (Option.bind (F59 fuel 0 4 [120] 0 5) fun y44=>
         some y44)
        else
         (some false))
       else
        (some false))
      else
       (some false))
     else
      (some false))
    else
     (some false))
   else
    (some false))
  else
   (some false)) fun o3=>
 some o3
noncomputable abbrev b19:=C1 Tryz.f19
abbrev G19(r:Bool):=J none Tryz.prog 115 [] (H3 Tryz.prog Tryz.f19 (.b r))
theorem Fs8{fuel:Nat}{r:Bool}(hF:F19 fuel=some r):
 C3 Tryz.prog 19 [] (.b r):=by
 unfold F19 at hF
 refine cf 115 Tryz.func19 ?_
 refine jB 6 hF Gk7 Cn3 fun y1 hF=> ?_
 refine jB 6 hF Gr8 Dh5 fun y2 hF=> ?_
 refine jB 9 hF Gr8 Dh5 fun y3 hF=> ?_
 refine jB 9 hF Gr8 Dh5 fun y4 hF=> ?_
 refine jB 9 hF Gr0 Dg4 fun y5 hF=> ?_
 obtain⟨o1,hO,hF⟩:=bnd hF
 have hR1:G19 r ⟨mkT [(2,.l 1 y2.1 K2),(4,.l 1 y3.1 K2),(10,.b o1)],[],[kO b19 [1,1,1,1,1,1,0],kC b19 [1,1,1,1,1,1,1]]⟩:=by
  clear hO
  obtain⟨o2,hO,hF⟩:=bnd hF
  have hR2:G19 r ⟨mkT [(10,.b o2)],[],[kO b19 [1,1,1,1,1,1,1,0],kC b19 [1,1,1,1,1,1,1,1]]⟩:=by
   clear hO
   obtain⟨o3,hO,hF⟩:=bnd hF
   have hR3:G19 r ⟨mkT [(0,.b o3)],[],[kO b19 [1,1,1,1,1,1,1,1,0],kC b19 [1,1,1,1,1,1,1,1,1]]⟩:=by
    clear hO
    cases hF
    exact jr 1
   clear hF;rename _=some o3=>hF
   refine jI 5 94 hF ?_ ?_<;>intro hF
   ·refine jB 0 hF Fi1 Az5 fun y38 hF=> ?_
    refine jI 2 97 hF ?_ ?_<;>intro hF
    ·refine jB 0 hF Fi1 Az5 fun y39 hF=> ?_
     refine jI 2 100 hF ?_ ?_<;>intro hF
     ·refine jB 0 hF Fi1 Az5 fun y40 hF=> ?_
      refine jI 2 103 hF ?_ ?_<;>intro hF
      ·refine jB 0 hF Fi1 Az5 fun y41 hF=> ?_
       refine jI 2 106 hF ?_ ?_<;>intro hF
       ·refine jB 0 hF Fi1 Az5 fun y42 hF=> ?_
        refine jI 2 109 hF ?_ ?_<;>intro hF
        ·refine jB 0 hF Fi1 Az5 fun y43 hF=> ?_
         refine jI 2 112 hF ?_ ?_<;>intro hF
         ·refine jB 0 hF Fi1 Az5 fun y44 hF=> ?_
          cases hF
          exact ja 2 hR3
         ·cases hF
          exact ja 3 hR3
        ·cases hF
         exact ja 6 hR3
       ·cases hF
        exact ja 9 hR3
      ·cases hF
       exact ja 12 hR3
     ·cases hF
      exact ja 15 hR3
    ·cases hF
     exact ja 18 hR3
   ·cases hF
    exact ja 21 hR3
  clear hF;rename _=some o2=>hF
  refine jI 5 68 hF ?_ ?_<;>intro hF
  ·refine jB 4 hF Hc8 Eo4 fun y45 hF=> ?_
   refine jI 2 75 hF ?_ ?_<;>intro hF
   ·refine jB 3 hF Hc8 Eo4 fun y46 hF=> ?_
    refine jI 2 81 hF ?_ ?_<;>intro hF
    ·refine jB 1 hF Gv0 Dj9 fun y47 hF=> ?_
     refine jI 2 85 hF ?_ ?_<;>intro hF
     ·refine jB 1 hF Gv0 Dj9 fun y48 hF=> ?_
      refine jI 2 89 hF ?_ ?_<;>intro hF
      ·refine jB 1 hF Gv0 Dj9 fun y49 hF=> ?_
       cases hF
       exact ja 2 hR2
      ·cases hF
       exact ja 4 hR2
     ·cases hF
      exact ja 8 hR2
    ·cases hF
     exact ja 12 hR2
   ·cases hF
    exact ja 18 hR2
  ·cases hF
   exact ja 25 hR2
 clear hF;rename _=some o1=>hF
 refine jB 9 hF Gl3 Co2 fun y50 hF=> ?_
 refine jI 1 34 hF ?_ ?_<;>intro hF
 ·refine jB 1 hF Gl3 Co2 fun y51 hF=> ?_
  refine jI 2 38 hF ?_ ?_<;>intro hF
  ·refine jB 1 hF Gl3 Co2 fun y52 hF=> ?_
   refine jI 2 42 hF ?_ ?_<;>intro hF
   ·refine jB 1 hF Gl3 Co2 fun y53 hF=> ?_
    refine jI 2 46 hF ?_ ?_<;>intro hF
    ·refine jI 4 50 hF ?_ ?_<;>intro hF
     ·refine jI 4 54 hF ?_ ?_<;>intro hF
      ·refine jI 4 58 hF ?_ ?_<;>intro hF
       ·refine jI 4 62 hF ?_ ?_<;>intro hF
        ·cases hF
         exact ja 5 hR1
        ·cases hF
         exact ja 5 hR1
       ·cases hF
        exact ja 9 hR1
      ·cases hF
       exact ja 13 hR1
     ·cases hF
      exact ja 17 hR1
    ·cases hF
     exact ja 21 hR1
   ·cases hF
    exact ja 25 hR1
  ·cases hF
   exact ja 29 hR1
 ·cases hF
  exact ja 33 hR1
end
section
theorem Hj9:B1 Tryz.prog 19:=Kx.A6 Tryz.func19 (by kernel_rfl) (by kernel_rfl)
theorem Hc7:B1 Tryz.prog 20:=Kx.A6 Tryz.func20 (by kernel_rfl) (by kernel_rfl)
theorem Hk0:B1 Tryz.prog 29:=Kx.A6 Tryz.func29 (by kernel_rfl) (by kernel_rfl)
theorem Gq8:B1 Tryz.prog 106:=Kx.A6 Tryz.func106 (by kernel_rfl) (by kernel_rfl)
theorem Hk6:B1 Tryz.prog 56:=Kx.A6 Tryz.func56 (by kernel_rfl) (by kernel_rfl)
theorem Hj8:B1 Tryz.prog 18:=Kx.A6 Tryz.func18 (by kernel_rfl) (by kernel_rfl)
theorem Hk4:B1 Tryz.prog 38:=Kx.A6 Tryz.func38 (by kernel_rfl) (by kernel_rfl)
def Gn0(d0:Int)(d1:Int):Option (Int×Int):=
 some (IntKind.u64.wrap ((IntKind.u64.wrap ((IntKind.u64.wrap ((Int.fdiv d0 (2^(min (Int.toNat 32) IntKind.u64.bits)))*(Int.fdiv d1 (2^(min (Int.toNat 32) IntKind.u64.bits)))))+(Int.fdiv (IntKind.u64.wrap ((IntKind.u64.wrap ((Int.fdiv d0 (2^(min (Int.toNat 32) IntKind.u64.bits)))*(IntKind.u64.wrap (BitVec.ofInt IntKind.u64.bits d1&&&BitVec.ofInt IntKind.u64.bits 4294967295).toNat)))+(Int.fdiv (IntKind.u64.wrap ((IntKind.u64.wrap (BitVec.ofInt IntKind.u64.bits d0&&&BitVec.ofInt IntKind.u64.bits 4294967295).toNat)*(IntKind.u64.wrap (BitVec.ofInt IntKind.u64.bits d1&&&BitVec.ofInt IntKind.u64.bits 4294967295).toNat))) (2^(min (Int.toNat 32) IntKind.u64.bits))))) (2^(min (Int.toNat 32) IntKind.u64.bits)))))+(Int.fdiv (IntKind.u64.wrap ((IntKind.u64.wrap (BitVec.ofInt IntKind.u64.bits (IntKind.u64.wrap ((IntKind.u64.wrap ((Int.fdiv d0 (2^(min (Int.toNat 32) IntKind.u64.bits)))*(IntKind.u64.wrap (BitVec.ofInt IntKind.u64.bits d1&&&BitVec.ofInt IntKind.u64.bits 4294967295).toNat)))+(Int.fdiv (IntKind.u64.wrap ((IntKind.u64.wrap (BitVec.ofInt IntKind.u64.bits d0&&&BitVec.ofInt IntKind.u64.bits 4294967295).toNat)*(IntKind.u64.wrap (BitVec.ofInt IntKind.u64.bits d1&&&BitVec.ofInt IntKind.u64.bits 4294967295).toNat))) (2^(min (Int.toNat 32) IntKind.u64.bits)))))&&&BitVec.ofInt IntKind.u64.bits 4294967295).toNat)+(IntKind.u64.wrap ((IntKind.u64.wrap (BitVec.ofInt IntKind.u64.bits d0&&&BitVec.ofInt IntKind.u64.bits 4294967295).toNat)*(Int.fdiv d1 (2^(min (Int.toNat 32) IntKind.u64.bits))))))) (2^(min (Int.toNat 32) IntKind.u64.bits)))),IntKind.u64.wrap (d0*d1))
theorem Ex0{d0:Int}{d1:Int}{r:Int×Int}(hF:Gn0 d0 d1=some r):
 C3 Tryz.prog 106 [.n d0,.n d1] (.tup [.n r.1,.n r.2]):=by
 unfold Gn0 at hF
 refine cf 51 Tryz.func106 ?_
 cases hF
 exact jr 86
def F56(d0:Int)(d1:Int):Option (Int×Int):=
 Option.bind (Gn0 d0 d1) fun y1=>
 some (y1.1,y1.2)
theorem Fu4{d0:Int}{d1:Int}{r:Int×Int}(hF:F56 d0 d1=some r):
 C3 Tryz.prog 56 [.n d0,.n d1] (.tup [.n r.1,.n r.2]):=by
 unfold F56 at hF
 refine cf 30 Tryz.func56 ?_
 refine jB 12 hF Gq8 Ex0 fun y1 hF=> ?_
 cases hF
 exact jr 13
def Cn4:Nat→Int→(List (List UInt8))→Option (List (List UInt8))
 |0,_,_=>none
 |nL1+1,v2,l3=>
  bif decide (v2<((l3.map e_s).length:Int)) then
   (ass (decide ((0:Int)≤v2)&&decide (v2≤(((l3.map e_s).drop 0).length:Int)))<|
   ass (decide ((0:Int)≤0)&&decide (0≤v2)&&decide (v2≤(((l3.map e_s).drop 0).length:Int)))<|
   (Cn4 nL1) (IntKind.i64.wrap (v2+(Fy1 (l3.map e_s) (0+Int.toNat v2) (((l3.map e_s).drop (0+Int.toNat 0)).take (Int.toNat (v2-0)))))) (cpy l3 (0+Int.toNat v2) ((l3.drop (0+Int.toNat 0)).take (Int.toNat (v2-0)))))
  else
   (some l3)
def F18(fuel:Nat)(d0:Int)(d1:List (List UInt8)):Option (List (List UInt8)):=
 bif decide (d0<0) then
  (none)
 else
  (Option.bind (F56 (IntKind.u64.wrap ((d1.map e_s).length:Int)) (IntKind.u64.wrap d0)) fun y1=>
  Option.bind (
   bif decide (y1.1>0) then
    (some true)
   else
    (some (decide (y1.2>9223372036854775807)))) fun o1=>
  bif o1 then
   (none)
  else
   (Option.bind (mkL (IntKind.i64.wrap y1.2) (IntKind.i64.wrap y1.2) []) fun l1=>
   Cn4 fuel (Fy1 (l1.map e_s) 0 ((d1.map e_s).drop 0)) (cpy l1 0 (d1.drop 0))))
noncomputable abbrev b18:=C1 Tryz.f18
abbrev G18(d1:List (List UInt8))(r:List (List UInt8)):=J none Tryz.prog 48 [] (Dc2 Tryz.prog Tryz.f18 [(2000,.buf 0 23 1 (d1.map e_s)),(2001,.buf 0 23 1 (r.map e_s))] (.suf 2001 0 0))
theorem Fs7{fuel:Nat}{d0:Int}{d1:List (List UInt8)}{r:List (List UInt8)}(hF:F18 fuel d0 d1=some r):
 K5 Tryz.prog 18 [(2000,.buf 0 23 1 (d1.map e_s))] [.suf 2000 0 0,.i d0] [(2000,.buf 0 23 1 (d1.map e_s)),(2001,.buf 0 23 1 (r.map e_s))] (.suf 2001 0 0):=by
 unfold F18 at hF
 refine cr 48 Tryz.func18 ?_
 refine jI 10 10 hF ?_ ?_<;>intro hF
 ·cases hF
 ·refine jB 9 hF Hk6 Fu4 fun y1 hF=> ?_
  obtain⟨o1,hO,hF⟩:=bnd hF
  have hR1:G18 d1 r ⟨mkT [(0,.suf 2000 0 0),(6,.n y1.2),(26,.b o1)],[(2000,.buf 0 23 1 (d1.map e_s))],[kO b18 [1,1,1,0,0],kC b18 [1,1,1,0,1],kC b18 [1,1,1,1]]⟩:=by
   clear hO
   refine jI 1 26 hF ?_ ?_<;>intro hF
   ·cases hF
   ·obtain⟨l1,e2,hF⟩:=bnd hF
    refine jo2 6 (mm (f:=e_s) e2) ?_
    refine C2 6 (E9 (o:=Fe8 (l1.map e_s) 0 ((d1.map e_s).drop 0)) ((cpy l1 0 (d1.drop 0)).map e_s) (by kernel_rfl) Hj2 ?_)
    have hL1:∀(nL1:Nat) (v2:Int) (l3:List (List UInt8)),Cn4 nL1 v2 l3=some r→G18 d1 r ⟨mkT [(7,.suf 30 0 0),(8,.i v2)],[(30,.buf 0 23 1 (l3.map e_s)),(2000,.buf 0 23 1 (d1.map e_s))],[kL b18 [1,1,1,1,1,1,0,0,0],.inBlock 0,kC b18 [1,1,1,1,1,1,1]]⟩:=by
     clear hF;intro nL1
     induction nL1 with
     |zero=>intro v2 l3 hF;cases hF
     |succ nL1 iL1=>
      intro v2 l3 hF
      rw[Cn4]at hF
      refine jI 9 37 hF ?_ ?_<;>intro hF
      ·refine jd 3 ?_
       obtain⟨hb12,hF⟩:=Q0 hF
       refine do1 3 (ck hb12) ?_
       obtain⟨hb13,hF⟩:=Q0 hF
       refine do1 2 (ck hb13) ?_
       refine P5 0 (Aq7 (o:=Fe8 (l3.map e_s) (0+Int.toNat v2) (((l3.map e_s).drop (0+Int.toNat 0)).take (Int.toNat (v2-0)))) ((cpy l3 (0+Int.toNat v2) ((l3.drop (0+Int.toNat 0)).take (Int.toNat (v2-0)))).map e_s) (by kernel_rfl) (by kernel_rfl) Hj3 ?_)
       refine je 2 ?_
       exact ja 1 (iL1 _ _ hF)
      ·refine ja 7 (S0:=[(4,.suf 30 0 0)]) (O0:=[(30,.buf 0 23 1 (l3.map e_s)),(2000,.buf 0 23 1 (d1.map e_s))]) (T0:=[kC b18 [1,1,1,1,1,1,1,1]]) ?_
       refine C2 0 (Aq8 [(2000,2000),(30,2001)] (by kernel_rfl) (by kernel_rfl) (by kernel_rfl) (by kernel_rfl) ?_)
       have hF:=oi hF;subst hF
       exact C2 0 (Aq9 (xs:=[.suf 2001 0 0]) [.suf 2001 0 0] rfl (by kernel_rfl) (by kernel_rfl) (Q6.refl _) rfl)
    exact ja 5 (hL1 _ _ _ hF)
  clear hF;rename _=some o1=>hF
  refine jI 12 23 hF ?_ ?_<;>intro hF
  ·cases hF
   exact ja 3 hR1
  ·cases hF
   exact ja 3 hR1
noncomputable abbrev b7:=C1 Tryz.f7
end
section
theorem Hk1:B1 Tryz.prog 31:=Kx.A6 Tryz.func31 (by kernel_rfl) (by kernel_rfl)
theorem Gk8:B1 Tryz.prog 32:=Kx.A6 Tryz.func32 (by kernel_rfl) (by kernel_rfl)
theorem Hl1:B1 Tryz.prog 83:=Kx.A6 Tryz.func83 (by kernel_rfl) (by kernel_rfl)
theorem Hk2:B1 Tryz.prog 33:=Kx.A6 Tryz.func33 (by kernel_rfl) (by kernel_rfl)
theorem Hk3:B1 Tryz.prog 34:=Kx.A6 Tryz.func34 (by kernel_rfl) (by kernel_rfl)
theorem Gr9:B1 Tryz.prog 157:=Kx.A6 Tryz.func157 (by kernel_rfl) (by kernel_rfl)
theorem Gr1:B1 Tryz.prog 124:=Kx.A6 Tryz.func124 (by kernel_rfl) (by kernel_rfl)
theorem Gt3:B1 Tryz.prog 193:=Kx.A6 Tryz.func193 (by kernel_rfl) (by kernel_rfl)
theorem Gt2:B1 Tryz.prog 192:=Kx.A6 Tryz.func192 (by kernel_rfl) (by kernel_rfl)
theorem Gs0:B1 Tryz.prog 158:=Kx.A6 Tryz.func158 (by kernel_rfl) (by kernel_rfl)
theorem Gr2:B1 Tryz.prog 125:=Kx.A6 Tryz.func125 (by kernel_rfl) (by kernel_rfl)
theorem Hl2:B1 Tryz.prog 84:=Kx.A6 Tryz.func84 (by kernel_rfl) (by kernel_rfl)
theorem Hl3:B1 Tryz.prog 85:=Kx.A6 Tryz.func85 (by kernel_rfl) (by kernel_rfl)
theorem Hc9:B1 Tryz.prog 35:=Kx.A6 Tryz.func35 (by kernel_rfl) (by kernel_rfl)
def Ay4(v2:Int)(cL1:Int→(List Int)→Option (List Int×List (List A1)))(l17:List Int):Option (List Int×List (List A1)):=
 cL1 (IntKind.i64.wrap (v2+1)) l17
def Ay5(v4:Int)(cL3:Int→(List (List A1))→Option (List Int×List (List A1)))(l39:List (List A1)):Option (List Int×List (List A1)):=
 cL3 (IntKind.i64.wrap (v4+1)) l39
def Ay6(v6:Int)(cL5:Int→(List (List A1))→Option (List Int×List (List A1)))(l57:List (List A1)):Option (List Int×List (List A1)):=
 cL5 (IntKind.i64.wrap (v6+1)) l57
def Ab4(l14:List Int)(y1:Int):Nat→Int→(List (List A1))→Option (List Int×List (List A1))
 |0,_,_=>none
 |nL5+1,v6,l54=>
  bif decide (v6<y1) then
   (Option.bind (C4 l54 v6) fun y60=>
   Option.bind (some (l54.set (Int.toNat v6) y60)) fun l58=>
   bif ((y60.map A8).length:Int)==0 then
    (Option.bind (C4 l58 v6) fun y61=>
    Option.bind (some (l58.set (Int.toNat v6) [(⟨[],[48],[(⟨v6,[49]⟩:B8)]⟩:A1)])) fun l59=>
    Ay6 v6 (Ab4 l14 y1 nL5) l59)
   else
    (Ay6 v6 (Ab4 l14 y1 nL5) l58))
  else
   (some (l14,l54))
def Ab3(fuel:Nat)(d0:B0)(l14:List Int)(y1:Int):Nat→Int→(List (List A1))→Option (List Int×List (List A1))
 |0,_,_=>none
 |nL3+1,v4,l35=>
  Option.bind (
   bif decide (v4<((d0.Picks.map B2).length:Int)) then
    (some (decide (v4<20)))
   else
    (some false)) fun o3=>
  bif o3 then
   (Option.bind (C4 d0.Picks v4) fun y45=>
   ass (decide (y1≠0))<|
   Option.bind (C4 l35 (Int.tmod (IntKind.i64.wrap y45.State) y1)) fun y46=>
   Option.bind (some (l35.set (Int.toNat (Int.tmod (IntKind.i64.wrap y45.State) y1)) y46)) fun l40=>
   bif decide (((y46.map A8).length:Int)<3) then
    (Option.bind (C4 l40 (Int.tmod (IntKind.i64.wrap y45.State) y1)) fun y47=>
    Option.bind (C4 d0.Picks v4) fun y48=>
    Option.bind (F61 fuel d0 y48) fun y49=>
    Option.bind (app y47 [y49]) fun l41=>
    Option.bind (some (l40.set (Int.toNat (Int.tmod (IntKind.i64.wrap y45.State) y1)) l41)) fun l42=>
    Ay5 v4 (Ab3 fuel d0 l14 y1 nL3) l42)
   else
    (Ay5 v4 (Ab3 fuel d0 l14 y1 nL3) l40))
  else
   (Ab4 l14 y1 fuel 0 l35)
def Ab2(fuel:Nat)(d0:B0)(l2:List (List A1))(y1:Int):Nat→Int→(List Int)→Option (List Int×List (List A1))
 |0,_,_=>none
 |nL1+1,v2,l14=>
  bif decide (v2<y1) then
   (ass (decide (0≤v2))<|
   bif (IntKind.u8.wrap (BitVec.ofInt IntKind.u8.bits (Int.fdiv d0.Owners (2^(min (Int.toNat v2) IntKind.u8.bits)))&&&BitVec.ofInt IntKind.u8.bits 1).toNat)==1 then
    (Option.bind (C4 l14 v2) fun y13=>
    Option.bind (some (l14.set (0+Int.toNat v2) 1)) fun l19=>
    Ay4 v2 (Ab2 fuel d0 l2 y1 nL1) l19)
   else
    (Ay4 v2 (Ab2 fuel d0 l2 y1 nL1) l14))
  else
   (Ab3 fuel d0 l14 y1 fuel 0 l2)
def Fa0(fuel:Nat)(d0:B0):Option (List Int×List (List A1)):=
 Option.bind (F60 d0) fun y1=>
 Option.bind (mkL y1 y1 0) fun l1=>
 Option.bind (mkL y1 y1 []) fun l2=>
 Ab2 fuel d0 l2 y1 fuel 0 l1
abbrev Fb8(r:List Int×List (List A1)):=J none Tryz.prog 98 [] (Dc2 Tryz.prog Tryz.f20 [(2000,.box 34 [.suf 2001 0 0,.suf 2002 0 0]),(2001,.buf 0 3 1 (r.1.map A7)),(2002,.tree 0 31 1 [.o 26 3 [.z,.z,.z]] (r.2.map A0) none)] (.agg [.suf 2001 0 0,.suf 2002 0 0]))
theorem Di3{fuel:Nat}{d0:B0}{r:List Int×List (List A1)}(hF:Fa0 fuel d0=some r):
 K5 Tryz.prog 20 [] [.agg [.y d0.States,.y d0.Owners,.y d0.Grain,.y d0.Cents,.l 8 d0.Picks B2]] [(2000,.box 34 [.suf 2001 0 0,.suf 2002 0 0]),(2001,.buf 0 3 1 (r.1.map A7)),(2002,.tree 0 31 1 [.o 26 3 [.z,.z,.z]] (r.2.map A0) none)] (.agg [.suf 2001 0 0,.suf 2002 0 0]):=by
 unfold Fa0 at hF
 refine cr 98 Tryz.func20 ?_
 refine jB 8 hF Hd5 Ep0 fun y1 hF=> ?_
 refine jd 3 ?_
 obtain⟨l1,e2,hF⟩:=bnd hF
 refine do2 1 (mm (f:=A7) e2) ?_
 obtain⟨l2,e3,hF⟩:=bnd hF
 refine do2 1 (mm (f:=A0) e3) ?_
 refine je 3 ?_
 have hL1:∀(nL1:Nat) (v2:Int) (l14:List Int),Ab2 fuel d0 l2 y1 nL1 v2 l14=some r→Fb8 r ⟨mkT [(1,.ptr 1 0),(2,.ptr 2 0),(3,.i y1),(4,.ptr 4 0),(5,.i v2)],[(1,.box 53 [.y d0.States,.y d0.Owners,.y d0.Grain,.y d0.Cents,.l 8 d0.Picks B2]),(2,.box 34 [.esl 1,.esl 1]),(4,.box 34 [.suf 12 0 0,.suf 14 0 0]),(12,.buf 0 3 1 (l14.map A7)),(14,.tree 0 31 1 [.o 26 3 [.z,.z,.z]] (l2.map A0) none)],[kL b20 [1,1,1,0,1,0,0],.inBlock 0,kC b20 [1,1,1,1]]⟩:=by
  clear hF;intro nL1
  induction nL1 with
  |zero=>intro v2 l14 hF;cases hF
  |succ nL1 iL1=>
   intro v2 l14 hF
   rw[Ab2]at hF
   refine jI 8 18 hF ?_ ?_<;>intro hF
   ·have hA2:∀(l17:List Int),Ay4 v2 (Ab2 fuel d0 l2 y1 nL1) l17=some r→Fb8 r ⟨mkT [(1,.ptr 1 0),(2,.ptr 2 0),(3,.i y1),(4,.ptr 4 0),(5,.i v2)],[(1,.box 53 [.y d0.States,.y d0.Owners,.y d0.Grain,.y d0.Cents,.l 8 d0.Picks B2]),(2,.box 34 [.esl 1,.esl 1]),(4,.box 34 [.suf 12 0 0,.suf 14 0 0]),(12,.buf 0 3 1 (l17.map A7)),(14,.tree 0 31 1 [.o 26 3 [.z,.z,.z]] (l2.map A0) none)],[kC b20 [1,1,1,0,1,0,0,1,1],kL b20 [1,1,1,0,1,0,0],.inBlock 0,kC b20 [1,1,1,1]]⟩:=by
     intro l17 hF
     unfold Ay4 at hF
     exact ja 5 (iL1 _ _ hF)
    obtain⟨hb20,hF⟩:=Q0 hF
    refine jo1 9 (ck hb20) ?_
    refine jI 3 26 hF ?_ ?_<;>intro hF
    ·obtain⟨y13,e26,hF⟩:=bnd hF
     refine jo1 5 (gm (f:=A7) e26) ?_
     obtain⟨l19,e27,hF⟩:=bnd hF
     have hst:=stm (f:=A7) (z:=1) (k:=0) (xs:=[.int .i64 1]) (gj e26) rfl
     refine C2 0 (E9 (o:=(match(l14.map A7)[0+Int.toNat v2]? with|some old=>some ((l14.map A7).set (0+Int.toNat v2) (X6 old 0 [.int .i64 1]))|none=>none)) (l19.map A7) (by kernel_rfl) (by cases e27;exact hst) ?_)
     exact ja 2 (hA2 _ hF)
    ·exact ja 3 (hA2 _ hF)
   ·have hL3:∀(nL3:Nat) (v4:Int) (l35:List (List A1)),Ab3 fuel d0 l14 y1 nL3 v4 l35=some r→Fb8 r ⟨mkT [(1,.ptr 1 0),(2,.ptr 2 0),(3,.i y1),(4,.ptr 4 0),(6,.i v4)],[(1,.box 53 [.y d0.States,.y d0.Owners,.y d0.Grain,.y d0.Cents,.l 8 d0.Picks B2]),(2,.box 34 [.esl 1,.esl 1]),(4,.box 34 [.suf 12 0 0,.suf 14 0 0]),(12,.buf 0 3 1 (l14.map A7)),(14,.tree 0 31 1 [.o 26 3 [.z,.z,.z]] (l35.map A0) none)],[kL b20 [1,1,1,1,0,1,0,0],.inBlock 2,kC b20 [1,1,1,1,1]]⟩:=by
     clear hF;intro nL3
     induction nL3 with
     |zero=>intro v4 l35 hF;cases hF
     |succ nL3 iL3=>
      intro v4 l35 hF
      rw[Ab3]at hF
      obtain⟨o3,hO,hF⟩:=bnd hF
      have hR3:Fb8 r ⟨mkT [(1,.ptr 1 0),(2,.ptr 2 0),(3,.i y1),(4,.ptr 4 0),(6,.i v4),(39,.b o3)],[(1,.box 53 [.y d0.States,.y d0.Owners,.y d0.Grain,.y d0.Cents,.l 8 d0.Picks B2]),(2,.box 34 [.esl 1,.esl 1]),(4,.box 34 [.suf 12 0 0,.suf 14 0 0]),(12,.buf 0 3 1 (l14.map A7)),(14,.tree 0 31 1 [.o 26 3 [.z,.z,.z]] (l35.map A0) none)],[kO b20 [1,1,1,1,0,1,0,0,0,0],kC b20 [1,1,1,1,0,1,0,0,0,1],kC b20 [1,1,1,1,0,1,0,0,1],kL b20 [1,1,1,1,0,1,0,0],.inBlock 2,kC b20 [1,1,1,1,1]]⟩:=by
       clear hO
       refine jI 1 39 hF ?_ ?_<;>intro hF
       ·have hA4:∀(l39:List (List A1)),Ay5 v4 (Ab3 fuel d0 l14 y1 nL3) l39=some r→Fb8 r ⟨mkT [(1,.ptr 1 0),(2,.ptr 2 0),(3,.i y1),(4,.ptr 4 0),(6,.i v4)],[(1,.box 53 [.y d0.States,.y d0.Owners,.y d0.Grain,.y d0.Cents,.l 8 d0.Picks B2]),(2,.box 34 [.esl 1,.esl 1]),(4,.box 34 [.suf 12 0 0,.suf 14 0 0]),(12,.buf 0 3 1 (l14.map A7)),(14,.tree 0 31 1 [.o 26 3 [.z,.z,.z]] (l39.map A0) none)],[kC b20 [1,1,1,1,0,1,0,0,1,1],kL b20 [1,1,1,1,0,1,0,0],.inBlock 2,kC b20 [1,1,1,1,1]]⟩:=by
         intro l39 hF
         unfold Ay5 at hF
         exact ja 5 (iL3 _ _ hF)
        obtain⟨y45,e74,hF⟩:=bnd hF
        refine jo1 9 (gm (f:=B2) e74) ?_
        obtain⟨hb52,hF⟩:=Q0 hF
        refine jo1 4 (ck hb52) ?_
        obtain⟨y46,e75,hF⟩:=bnd hF
        refine C2 3 (Bh7 (g:=0) (e:=31) (e2:=26) (n:=3) (es:=l35.map A0) 14 1200 (Int.toNat (Int.tmod (IntKind.i64.wrap y45.State) y1)) (y46.map A8) (by kernel_rfl) (by kernel_rfl) (by kernel_rfl) (gjo (f:=A0) e75) ?_)
        refine C2 4 (E8 (o:=chk (decide (0≤(Int.tmod (IntKind.i64.wrap y45.State) y1))&&(decide (0+Int.toNat (Int.tmod (IntKind.i64.wrap y45.State) y1)=Int.toNat (Int.tmod (IntKind.i64.wrap y45.State) y1))&&decide (Int.toNat (Int.tmod (IntKind.i64.wrap y45.State) y1)<(l35.map A0).length)))) [] (by kernel_rfl) (ckI e75) ?_)
        refine C2 0 (E8 (o:=chk (decide ((Int.toNat (Int.tmod (IntKind.i64.wrap y45.State) y1))=(Int.toNat (Int.tmod (IntKind.i64.wrap y45.State) y1)))&&decide ((Int.toNat (Int.tmod (IntKind.i64.wrap y45.State) y1))<(l35.map A0).length))) [] (by kernel_rfl) (ckE e75) ?_)
        obtain⟨l40,e76,hF⟩:=bnd hF
        refine C2 3 (Ar0 (g:=0) (gd:=0) (e:=31) (e2:=26) (n:=3) (es:=l35.map A0) (ds:=y46.map A8) 14 1200 (Int.toNat (Int.tmod (IntKind.i64.wrap y45.State) y1)) (l40.map A0) (by kernel_rfl) (by kernel_rfl) (by kernel_rfl) (by kernel_rfl) (glt (f:=A0) e75) (by cases e76;exact shm (f:=A0) (z:=y46)) ?_)
        refine ja 0 (S0:=[(1,.ptr 1 0),(2,.ptr 2 0),(3,.i y1),(4,.ptr 4 0),(6,.i v4),(7,.i (Int.tmod (IntKind.i64.wrap y45.State) y1)),(57,.b (decide (((y46.map A8).length:Int)<3)))]) (O0:=[(1,.box 53 [.y d0.States,.y d0.Owners,.y d0.Grain,.y d0.Cents,.l 8 d0.Picks B2]),(2,.box 34 [.esl 1,.esl 1]),(4,.box 34 [.suf 12 0 0,.suf 14 0 0]),(12,.buf 0 3 1 (l14.map A7)),(14,.tree 0 31 1 [.o 26 3 [.z,.z,.z]] (l40.map A0) none)]) (T0:=[kC b20 [1,1,1,1,0,1,0,0,1,0,0,1,1],.inBlock 3,kC b20 [1,1,1,1,0,1,0,0,1,1],kL b20 [1,1,1,1,0,1,0,0],.inBlock 2,kC b20 [1,1,1,1,1]]) ?_
        refine jI 0 57 hF ?_ ?_<;>intro hF
        ·obtain⟨y47,e77,hF⟩:=bnd hF
         refine C2 1 (Bh7 (g:=0) (e:=31) (e2:=26) (n:=3) (es:=l40.map A0) 14 1200 (Int.toNat (Int.tmod (IntKind.i64.wrap y45.State) y1)) (y47.map A8) (by kernel_rfl) (by kernel_rfl) (by kernel_rfl) (gjo (f:=A0) e77) ?_)
         refine jd 0 ?_
         refine P5 6 (Aq6 (o:=chk (decide (0≤(Int.tmod (IntKind.i64.wrap y45.State) y1))&&(decide (0+Int.toNat (Int.tmod (IntKind.i64.wrap y45.State) y1)=Int.toNat (Int.tmod (IntKind.i64.wrap y45.State) y1))&&decide (Int.toNat (Int.tmod (IntKind.i64.wrap y45.State) y1)<(l40.map A0).length)))) [] (by kernel_rfl) (by kernel_rfl) (ckI e77) ?_)
         refine P5 0 (Aq6 (o:=chk (decide ((Int.toNat (Int.tmod (IntKind.i64.wrap y45.State) y1))=(Int.toNat (Int.tmod (IntKind.i64.wrap y45.State) y1)))&&decide ((Int.toNat (Int.tmod (IntKind.i64.wrap y45.State) y1))<(l40.map A0).length))) [] (by kernel_rfl) (by kernel_rfl) (ckE e77) ?_)
         obtain⟨y48,e78,hF⟩:=bnd hF
         refine do1 4 (gm (f:=B2) e78) ?_
         refine dB 1 hF Hk7 Fu5 fun y49 hF=> ?_
         obtain⟨l41,e80,hF⟩:=bnd hF
         refine do2 1 (am (f:=A8) e80) ?_
         refine P5 0 (Aq6 (o:=chk (decide (0≤(Int.tmod (IntKind.i64.wrap y45.State) y1))&&(decide (0+Int.toNat (Int.tmod (IntKind.i64.wrap y45.State) y1)=Int.toNat (Int.tmod (IntKind.i64.wrap y45.State) y1))&&decide (Int.toNat (Int.tmod (IntKind.i64.wrap y45.State) y1)<(l40.map A0).length)))) [] (by kernel_rfl) (by kernel_rfl) (ckI e77) ?_)
         refine P5 0 (Aq6 (o:=chk (decide ((Int.toNat (Int.tmod (IntKind.i64.wrap y45.State) y1))=(Int.toNat (Int.tmod (IntKind.i64.wrap y45.State) y1)))&&decide ((Int.toNat (Int.tmod (IntKind.i64.wrap y45.State) y1))<(l40.map A0).length))) [] (by kernel_rfl) (by kernel_rfl) (ckE e77) ?_)
         refine je 0 ?_
         obtain⟨l42,e81,hF⟩:=bnd hF
         refine C2 0 (Ar0 (g:=0) (gd:=1) (e:=31) (e2:=26) (n:=3) (es:=l40.map A0) (ds:=l41.map A8) 14 1200 (Int.toNat (Int.tmod (IntKind.i64.wrap y45.State) y1)) (l42.map A0) (by kernel_rfl) (by kernel_rfl) (by kernel_rfl) (by kernel_rfl) (glt (f:=A0) e77) (by cases e81;exact shm (f:=A0) (z:=l41)) ?_)
         refine ja 0 (S0:=[(1,.ptr 1 0),(2,.ptr 2 0),(3,.i y1),(4,.ptr 4 0),(6,.i v4)]) (O0:=[(1,.box 53 [.y d0.States,.y d0.Owners,.y d0.Grain,.y d0.Cents,.l 8 d0.Picks B2]),(2,.box 34 [.esl 1,.esl 1]),(4,.box 34 [.suf 12 0 0,.suf 14 0 0]),(12,.buf 0 3 1 (l14.map A7)),(14,.tree 0 31 1 [.o 26 3 [.z,.z,.z]] (l42.map A0) none)]) (T0:=[.inBlock 3,kC b20 [1,1,1,1,0,1,0,0,1,1],kL b20 [1,1,1,1,0,1,0,0],.inBlock 2,kC b20 [1,1,1,1,1]]) ?_
         exact ja 1 (hA4 _ hF)
        ·exact ja 3 (hA4 _ hF)
       ·have hL5:∀(nL5:Nat) (v6:Int) (l54:List (List A1)),Ab4 l14 y1 nL5 v6 l54=some r→Fb8 r ⟨mkT [(2,.ptr 2 0),(3,.i y1),(4,.ptr 4 0),(8,.i v6)],[(2,.box 34 [.esl 1,.esl 1]),(4,.box 34 [.suf 12 0 0,.suf 14 0 0]),(12,.buf 0 3 1 (l14.map A7)),(14,.tree 0 31 1 [.o 26 3 [.z,.z,.z]] (l54.map A0) none)],[kL b20 [1,1,1,1,1,0,1,0,0],.inBlock 4,kC b20 [1,1,1,1,1,1]]⟩:=by
         clear hF;intro nL5
         induction nL5 with
         |zero=>intro v6 l54 hF;cases hF
         |succ nL5 iL5=>
          intro v6 l54 hF
          rw[Ab4]at hF
          refine jI 8 78 hF ?_ ?_<;>intro hF
          ·have hA6:∀(l57:List (List A1)),Ay6 v6 (Ab4 l14 y1 nL5) l57=some r→Fb8 r ⟨mkT [(2,.ptr 2 0),(3,.i y1),(4,.ptr 4 0),(8,.i v6)],[(2,.box 34 [.esl 1,.esl 1]),(4,.box 34 [.suf 12 0 0,.suf 14 0 0]),(12,.buf 0 3 1 (l14.map A7)),(14,.tree 0 31 1 [.o 26 3 [.z,.z,.z]] (l57.map A0) none)],[kC b20 [1,1,1,1,1,0,1,0,0,1,1],kL b20 [1,1,1,1,1,0,1,0,0],.inBlock 4,kC b20 [1,1,1,1,1,1]]⟩:=by
            intro l57 hF
            unfold Ay6 at hF
            exact ja 5 (iL5 _ _ hF)
           obtain⟨y60,e102,hF⟩:=bnd hF
           refine C2 5 (Bh7 (g:=0) (e:=31) (e2:=26) (n:=3) (es:=l54.map A0) 14 1200 (Int.toNat v6) (y60.map A8) (by kernel_rfl) (by kernel_rfl) (by kernel_rfl) (gjo (f:=A0) e102) ?_)
           refine C2 4 (E8 (o:=chk (decide (0≤v6)&&(decide (0+Int.toNat v6=Int.toNat v6)&&decide (Int.toNat v6<(l54.map A0).length)))) [] (by kernel_rfl) (ckI e102) ?_)
           refine C2 0 (E8 (o:=chk (decide ((Int.toNat v6)=(Int.toNat v6))&&decide ((Int.toNat v6)<(l54.map A0).length))) [] (by kernel_rfl) (ckE e102) ?_)
           obtain⟨l58,e103,hF⟩:=bnd hF
           refine C2 3 (Ar0 (g:=0) (gd:=0) (e:=31) (e2:=26) (n:=3) (es:=l54.map A0) (ds:=y60.map A8) 14 1200 (Int.toNat v6) (l58.map A0) (by kernel_rfl) (by kernel_rfl) (by kernel_rfl) (by kernel_rfl) (glt (f:=A0) e102) (by cases e103;exact shm (f:=A0) (z:=y60)) ?_)
           refine ja 0 (S0:=[(2,.ptr 2 0),(3,.i y1),(4,.ptr 4 0),(8,.i v6),(87,.b (((y60.map A8).length:Int)==0))]) (O0:=[(2,.box 34 [.esl 1,.esl 1]),(4,.box 34 [.suf 12 0 0,.suf 14 0 0]),(12,.buf 0 3 1 (l14.map A7)),(14,.tree 0 31 1 [.o 26 3 [.z,.z,.z]] (l58.map A0) none)]) (T0:=[kC b20 [1,1,1,1,1,0,1,0,0,1,0,0,1],.inBlock 5,kC b20 [1,1,1,1,1,0,1,0,0,1,1],kL b20 [1,1,1,1,1,0,1,0,0],.inBlock 4,kC b20 [1,1,1,1,1,1]]) ?_
           refine jI 0 87 hF ?_ ?_<;>intro hF
           ·obtain⟨y61,e104,hF⟩:=bnd hF
            refine C2 1 (Bh7 (g:=0) (e:=31) (e2:=26) (n:=3) (es:=l58.map A0) 14 1200 (Int.toNat v6) (y61.map A8) (by kernel_rfl) (by kernel_rfl) (by kernel_rfl) (gjo (f:=A0) e104) ?_)
            refine C2 9 (E8 (o:=chk (decide (0≤v6)&&(decide (0+Int.toNat v6=Int.toNat v6)&&decide (Int.toNat v6<(l58.map A0).length)))) [] (by kernel_rfl) (ckI e104) ?_)
            refine C2 0 (E8 (o:=chk (decide ((Int.toNat v6)=(Int.toNat v6))&&decide ((Int.toNat v6)<(l58.map A0).length))) [] (by kernel_rfl) (ckE e104) ?_)
            obtain⟨l59,e105,hF⟩:=bnd hF
            refine C2 1 (Ar0 (g:=0) (gd:=0) (e:=31) (e2:=26) (n:=3) (es:=l58.map A0) (ds:=[(⟨[],[48],[(⟨v6,[49]⟩:B8)]⟩:A1)].map A8) 14 95 (Int.toNat v6) (l59.map A0) (by kernel_rfl) (by kernel_rfl) (by kernel_rfl) (by kernel_rfl) (glt (f:=A0) e104) (by cases e105;exact shm (f:=A0) (z:=[(⟨[],[48],[(⟨v6,[49]⟩:B8)]⟩:A1)])) ?_)
            refine ja 0 (S0:=[(2,.ptr 2 0),(3,.i y1),(4,.ptr 4 0),(8,.i v6)]) (O0:=[(2,.box 34 [.esl 1,.esl 1]),(4,.box 34 [.suf 12 0 0,.suf 14 0 0]),(12,.buf 0 3 1 (l14.map A7)),(14,.tree 0 31 1 [.o 26 3 [.z,.z,.z]] (l59.map A0) none)]) (T0:=[.inBlock 5,kC b20 [1,1,1,1,1,0,1,0,0,1,1],kL b20 [1,1,1,1,1,0,1,0,0],.inBlock 4,kC b20 [1,1,1,1,1,1]]) ?_
            exact ja 1 (hA6 _ hF)
           ·exact ja 3 (hA6 _ hF)
          ·refine ja 7 (S0:=[(2,.ptr 2 0)]) (O0:=[(2,.box 34 [.suf 12 0 0,.suf 14 0 0]),(12,.buf 0 3 1 (l14.map A7)),(14,.tree 0 31 1 [.o 26 3 [.z,.z,.z]] (l54.map A0) none)]) (T0:=[kC b20 [1,1,1,1,1,1,1]]) ?_
           refine C2 0 (Aq8 [(2,2000),(12,2001),(14,2002)] (by kernel_rfl) (by kernel_rfl) (by kernel_rfl) (by kernel_rfl) ?_)
           have hF:=oi hF;subst hF
           exact C2 0 (Aq9 (xs:=[.agg [.suf 2001 0 0,.suf 2002 0 0]]) [.agg [.suf 2001 0 0,.suf 2002 0 0]] rfl (by kernel_rfl) (by kernel_rfl) (Q6.refl _) rfl)
        exact ja 9 (hL5 _ _ _ hF)
      clear hF;rename _=some o3=>hF
      refine jI 10 36 hF ?_ ?_<;>intro hF
      ·cases hF
       exact ja 3 hR3
      ·cases hF
       exact ja 3 hR3
    exact ja 9 (hL3 _ _ _ hF)
 exact ja 7 (hL1 _ _ _ hF)
def Ay7(y1:List Int×List (List A1)):Nat→Int→(List (List A1))→Option A9
 |0,_,_=>none
 |nL1+1,v2,l6=>
  bif decide (v2<((l6.map A0).length:Int)) then
   (Option.bind (C4 l6 v2) fun y6=>
   Option.bind (Em6 y6 1 1) fun l7=>
   Option.bind (C4 l6 v2) fun y7=>
   Option.bind (some (l6.set (0+Int.toNat v2) l7)) fun l8=>
   (Ay7 y1 nL1) (IntKind.i64.wrap (v2+1)) l8)
  else
   (some (⟨y1.1,l6⟩:A9))
def F31(fuel:Nat)(d0:B0):Option A9:=
 Option.bind (Fa0 fuel d0) fun y1=>
 Ay7 y1 fuel 0 y1.2
noncomputable abbrev b31:=C1 Tryz.f31
abbrev G31(r:A9):=J none Tryz.prog 25 [] (H3 Tryz.prog Tryz.f31 (.agg [.l 1 r.Owner A7,.l 1 r.Choices A0]))
theorem Ft8{fuel:Nat}{d0:B0}{r:A9}(hF:F31 fuel d0=some r):
 C3 Tryz.prog 31 [.agg [.y d0.States,.y d0.Owners,.y d0.Grain,.y d0.Cents,.l 8 d0.Picks B2]] (.agg [.l 1 r.Owner A7,.l 1 r.Choices A0]):=by
 unfold F31 at hF
 refine cf 25 Tryz.func31 ?_
 obtain⟨y1,e1,hF⟩:=bnd hF
 refine jcr 8 [(6,2000),(1100,2001),(1101,2002)] Hc7 (Di3 e1) ?_
 refine C2 3 (Dl2 (g:=0) (sz:=1) (e:=31) (shs:=[.o 26 3 [.z,.z,.z]]) (es:=y1.2.map A0) 1101 (by kernel_rfl) ?_)
 have hL1:∀(nL1:Nat) (v2:Int) (l6:List (List A1)),Ay7 y1 nL1 v2 l6=some r→G31 r ⟨mkT [(2,.ptr 2 0),(3,.ptr 3 0),(4,.i v2)],[(2,.box 34 [.esl 1,.esl 1]),(3,.box 34 [.suf 1100 0 0,.suf 1101 0 0]),(1100,.buf 0 3 1 (y1.1.map A7)),(1101,.buf 0 31 1 (l6.map A0))],[kL b31 [1,1,0,1,0,0],.inBlock 0,kC b31 [1,1,1]]⟩:=by
  clear hF;intro nL1
  induction nL1 with
  |zero=>intro v2 l6 hF;cases hF
  |succ nL1 iL1=>
   intro v2 l6 hF
   rw[Ay7]at hF
   refine jI 10 11 hF ?_ ?_<;>intro hF
   ·refine jd 4 ?_
    obtain⟨y6,e10,hF⟩:=bnd hF
    refine do1 6 (gm (f:=A0) e10) ?_
    refine do1 0 (gjm (f:=A0) (gj e10)) ?_
    obtain⟨l7,e11,hF⟩:=bnd hF
    refine P5 0 (Aq7 (o:=Em6 (y6.map A8) 1 1) (l7.map A8) (by kernel_rfl) (by kernel_rfl) (sm3 e11) ?_)
    obtain⟨y7,e12,hF⟩:=bnd hF
    refine do1 0 (gm (f:=A0) e12) ?_
    obtain⟨l8,e13,hF⟩:=bnd hF
    have hst:=stm (f:=A0) (z:=l7) (k:=0) (xs:=[.sl 3 (l7.map A8)]) (gj e12) rfl
    refine P5 0 (Aq7 (o:=(match(l6.map A0)[0+Int.toNat v2]? with|some old=>some ((l6.map A0).set (0+Int.toNat v2) (X6 old 0 [.sl 3 (l7.map A8)]))|none=>none)) (l8.map A0) (by kernel_rfl) (by kernel_rfl) (by cases e13;exact hst) ?_)
    refine je 0 ?_
    exact ja 6 (iL1 _ _ hF)
   ·cases hF
    exact jr 7
 exact ja 7 (hL1 _ _ _ hF)
def Ay8(fuel:Nat)(d0:List (List UInt8))(d1:Int):Nat→Int→Option Bool
 |0,_=>none
 |nL1+1,v2=>
  bif decide (v2<((d0.map e_s).length:Int)) then
   (Option.bind (C4 d0 v2) fun y5=>
   Option.bind (F82 fuel y5) fun y6=>
   bif !y6 then
    (some false)
   else
    ((Ay8 fuel d0 d1 nL1) (IntKind.i64.wrap (v2+1))))
  else
   (some (((d0.map e_s).length:Int)==d1))
def F32(fuel:Nat)(d0:List (List UInt8))(d1:Int):Option Bool:=
 Ay8 fuel d0 d1 fuel 0
noncomputable abbrev b32:=C1 Tryz.f32
abbrev G32(r:Bool):=J none Tryz.prog 22 [] (H3 Tryz.prog Tryz.f32 (.b r))
theorem Cn7{fuel:Nat}{d0:List (List UInt8)}{d1:Int}{r:Bool}(hF:F32 fuel d0 d1=some r):
 C3 Tryz.prog 32 [.l 1 d0 e_s,.i d1] (.b r):=by
 unfold F32 at hF
 refine cf 22 Tryz.func32 ?_
 have hL1:∀(nL1:Nat) (v2:Int),Ay8 fuel d0 d1 nL1 v2=some r→G32 r ⟨mkT [(0,.l 1 d0 e_s),(1,.i d1),(5,.i v2)],[],[kL b32 [1,0,1,0,0],.inBlock 0,kC b32 [1,1]]⟩:=by
  clear hF;intro nL1
  induction nL1 with
  |zero=>intro v2 hF;cases hF
  |succ nL1 iL1=>
   intro v2 hF
   rw[Ay8]at hF
   refine jI 9 9 hF ?_ ?_<;>intro hF
   ·obtain⟨y5,e5,hF⟩:=bnd hF
    refine jo1 8 (gm (f:=e_s) e5) ?_
    refine jB 1 hF Hl0 Fu8 fun y6 hF=> ?_
    refine jI 2 17 hF ?_ ?_<;>intro hF
    ·cases hF
     exact jr 5
    ·exact ja 8 (iL1 _ hF)
   ·cases hF
    exact jr 10
 exact ja 11 (hL1 _ _ hF)
def Az6(d0:A9)(d1:Int):Nat→Int→(List Int)→Option A9
 |0,_,_=>none
 |nL1+1,v2,l4=>
  bif decide (v2<((d0.Owner.map A7).length:Int)) then
   (Option.bind (app l4 [d1]) fun l5=>
   (Az6 d0 d1 nL1) (IntKind.i64.wrap (v2+1)) l5)
  else
   (some (⟨l4,d0.Choices⟩:A9))
def F83(fuel:Nat)(d0:A9)(d1:Int):Option A9:=
 Az6 d0 d1 fuel 0 []
noncomputable abbrev b83:=C1 Tryz.f83
abbrev G83(r:A9):=J none Tryz.prog 22 [] (H3 Tryz.prog Tryz.f83 (.agg [.l 1 r.Owner A7,.l 1 r.Choices A0]))
theorem Fu9{fuel:Nat}{d0:A9}{d1:Int}{r:A9}(hF:F83 fuel d0 d1=some r):
 C3 Tryz.prog 83 [.agg [.l 1 d0.Owner A7,.l 1 d0.Choices A0],.i d1] (.agg [.l 1 r.Owner A7,.l 1 r.Choices A0]):=by
 unfold F83 at hF
 refine cf 22 Tryz.func83 ?_
 have hL1:∀(nL1:Nat) (v2:Int) (l4:List Int),Az6 d0 d1 nL1 v2 l4=some r→G83 r ⟨mkT [(1,.i d1),(2,.ptr 2 0),(4,.ptr 4 0),(5,.suf 17 0 0),(6,.i v2)],[(2,.box 34 [.l 1 d0.Owner A7,.l 1 d0.Choices A0]),(4,.box 34 [.esl 1,.esl 1]),(17,.buf 0 3 1 (l4.map A7))],[kL b83 [1,1,0,1,0,0],.inBlock 0,kC b83 [1,1,1]]⟩:=by
  clear hF;intro nL1
  induction nL1 with
  |zero=>intro v2 l4 hF;cases hF
  |succ nL1 iL1=>
   intro v2 l4 hF
   rw[Az6]at hF
   refine jI 10 11 hF ?_ ?_<;>intro hF
   ·obtain⟨l5,e3,hF⟩:=bnd hF
    refine jo2 8 (am (f:=A7) e3) ?_
    exact ja 8 (iL1 _ _ hF)
   ·cases hF
    exact jr 10
 refine C2 16 (Ce5 (n:=1) 5 17 3 1 (by kernel_rfl) (by kernel_rfl) ?_)
 exact ja 0 (hL1 _ _ _ hF)
def At5(d0:A9)(d1:Int)(y1:A9):Nat→Int→(List (List A1))→Option A9
 |0,_,_=>none
 |nL1+1,v2,l6=>
  bif decide (v2<((d0.Owner.map A7).length:Int)) then
   (Option.bind (C4 d0.Choices v2) fun y8=>
   Option.bind (C4 y8 0) fun y9=>
   Option.bind (F36 d1 v2) fun y10=>
   bif y10 then
    (Option.bind (app l6 [[(⟨y9.Act,y9.Gain,[(⟨v2,[49]⟩:B8)]⟩:A1)]]) fun l7=>
    (At5 d0 d1 y1 nL1) (IntKind.i64.wrap (v2+1)) l7)
   else
    (Option.bind (app l6 [[y9]]) fun l8=>
    (At5 d0 d1 y1 nL1) (IntKind.i64.wrap (v2+1)) l8))
  else
   (some (⟨y1.Owner,l6⟩:A9))
def F33(fuel:Nat)(d0:A9)(d1:Int):Option A9:=
 Option.bind (F83 fuel d0 0) fun y1=>
 At5 d0 d1 y1 fuel 0 []
noncomputable abbrev b33:=C1 Tryz.f33
abbrev G33(r:A9):=J none Tryz.prog 41 [] (H3 Tryz.prog Tryz.f33 (.agg [.l 1 r.Owner A7,.l 1 r.Choices A0]))
theorem Ft9{fuel:Nat}{d0:A9}{d1:Int}{r:A9}(hF:F33 fuel d0 d1=some r):
 C3 Tryz.prog 33 [.agg [.l 1 d0.Owner A7,.l 1 d0.Choices A0],.n d1] (.agg [.l 1 r.Owner A7,.l 1 r.Choices A0]):=by
 unfold F33 at hF
 refine cf 41 Tryz.func33 ?_
 refine jB 8 hF Hl1 Fu9 fun y1 hF=> ?_
 have hL1:∀(nL1:Nat) (v2:Int) (l6:List (List A1)),At5 d0 d1 y1 nL1 v2 l6=some r→G33 r ⟨mkT [(1,.n d1),(2,.ptr 2 0),(4,.ptr 4 0),(5,.ptr 5 0),(6,.i v2)],[(2,.box 34 [.l 1 d0.Owner A7,.l 1 d0.Choices A0]),(4,.box 34 [.esl 1,.esl 1]),(5,.box 34 [.l 1 y1.Owner A7,.suf 38 0 0]),(38,.buf 0 31 1 (l6.map A0))],[kL b33 [1,1,0,1,0,0],.inBlock 0,kC b33 [1,1,1]]⟩:=by
  clear hF;intro nL1
  induction nL1 with
  |zero=>intro v2 l6 hF;cases hF
  |succ nL1 iL1=>
   intro v2 l6 hF
   rw[At5]at hF
   refine jI 10 16 hF ?_ ?_<;>intro hF
   ·obtain⟨y8,e12,hF⟩:=bnd hF
    refine jo1 9 (gm (f:=A0) e12) ?_
    obtain⟨y9,e13,hF⟩:=bnd hF
    refine jo1 1 (gm (f:=A8) e13) ?_
    refine jB 9 hF Hd0 Eo6 fun y10 hF=> ?_
    refine jI 1 28 hF ?_ ?_<;>intro hF
    ·obtain⟨l7,e15,hF⟩:=bnd hF
     refine jo2 14 (am (f:=A0) e15) ?_
     exact ja 9 (iL1 _ _ hF)
    ·obtain⟨l8,e16,hF⟩:=bnd hF
     refine jo2 8 (am (f:=A0) e16) ?_
     exact ja 9 (iL1 _ _ hF)
   ·cases hF
    exact jr 7
 refine C2 12 (Bh8 (n:=1) 5 1 38 31 1 (by kernel_rfl) (by kernel_rfl) ?_)
 exact ja 0 (hL1 _ _ _ hF)
def Bg9(v2:Int)(cL1:Int→(List (List UInt8))→Option (List (List UInt8)))(l15:List (List UInt8)):Option (List (List UInt8)):=
 cL1 (IntKind.i64.wrap (v2+1)) l15
def Ak7(d0:Int)(d1:Int):Nat→Int→(List (List UInt8))→Option (List (List UInt8))
 |0,_,_=>none
 |nL1+1,v2,l12=>
  bif decide (v2<d0) then
   (bif v2==d1 then
    (Option.bind (app l12 [[49]]) fun l16=>
    Bg9 v2 (Ak7 d0 d1 nL1) l16)
   else
    (Option.bind (app l12 [[48]]) fun l17=>
    Bg9 v2 (Ak7 d0 d1 nL1) l17))
  else
   (some l12)
def F34(fuel:Nat)(d0:Int)(d1:Int):Option (List (List UInt8)):=
 Ak7 d0 d1 fuel 0 []
noncomputable abbrev b34:=C1 Tryz.f34
abbrev G34(r:List (List UInt8)):=J none Tryz.prog 22 [] (H3 Tryz.prog Tryz.f34 (.l 1 r e_s))
theorem Fu0{fuel:Nat}{d0:Int}{d1:Int}{r:List (List UInt8)}(hF:F34 fuel d0 d1=some r):
 C3 Tryz.prog 34 [.i d0,.i d1] (.l 1 r e_s):=by
 unfold F34 at hF
 refine cf 22 Tryz.func34 ?_
 have hL1:∀(nL1:Nat) (v2:Int) (l12:List (List UInt8)),Ak7 d0 d1 nL1 v2 l12=some r→G34 r ⟨mkT [(0,.i d0),(1,.i d1),(5,.suf 17 0 0),(6,.i v2)],[(17,.buf 0 23 1 (l12.map e_s))],[kL b34 [1,1,0,1,0,0],.inBlock 0,kC b34 [1,1,1]]⟩:=by
  clear hF;intro nL1
  induction nL1 with
  |zero=>intro v2 l12 hF;cases hF
  |succ nL1 iL1=>
   intro v2 l12 hF
   rw[Ak7]at hF
   refine jI 8 9 hF ?_ ?_<;>intro hF
   ·have hA2:∀(l15:List (List UInt8)),Bg9 v2 (Ak7 d0 d1 nL1) l15=some r→G34 r ⟨mkT [(0,.i d0),(1,.i d1),(5,.suf 17 0 0),(6,.i v2)],[(17,.buf 0 23 1 (l15.map e_s))],[kC b34 [1,1,0,1,0,0,1,1],kL b34 [1,1,0,1,0,0],.inBlock 0,kC b34 [1,1,1]]⟩:=by
     intro l15 hF
     unfold Bg9 at hF
     exact ja 5 (iL1 _ _ hF)
    refine jI 10 14 hF ?_ ?_<;>intro hF
    ·obtain⟨l16,e11,hF⟩:=bnd hF
     refine jo2 4 (am (f:=e_s) e11) ?_
     exact ja 3 (hA2 _ hF)
    ·obtain⟨l17,e12,hF⟩:=bnd hF
     refine jo2 4 (am (f:=e_s) e12) ?_
     exact ja 3 (hA2 _ hF)
   ·cases hF
    exact jr 7
 refine C2 15 (Ce5 (n:=1) 5 17 23 1 (by kernel_rfl) (by kernel_rfl) ?_)
 exact ja 0 (hL1 _ _ _ hF)
def Gh8(d0:List A1):Option Bool:=
 some (((d0.map A8).length:Int) !=1)
theorem Ey4{d0:List A1}{r:Bool}(hF:Gh8 d0=some r):
 C3 Tryz.prog 157 [.l 3 d0 A8] (.b r):=by
 unfold Gh8 at hF
 refine cf 6 Tryz.func157 ?_
 cases hF
 exact jr 11
def Y4(d0:List (List A1)):Nat→Int→Option Int
 |0,_=>none
 |nL1+1,v2=>
  bif decide (v2<((d0.map A0).length:Int)) then
   (Option.bind (C4 d0 v2) fun y5=>
   Option.bind (Gh8 y5) fun y6=>
   bif y6 then
    (some v2)
   else
    ((Y4 d0 nL1) (IntKind.i64.wrap (v2+1))))
  else
   (some (-1))
def Ee1(fuel:Nat)(d0:List (List A1)):Option Int:=
 Y4 d0 fuel 0
abbrev Go1(r:Int):=J none Tryz.prog 19 [] (H3 Tryz.prog Tryz.f190 (.i r))
theorem Ee2{fuel:Nat}{d0:List (List A1)}{r:Int}(hF:Ee1 fuel d0=some r):
 C3 Tryz.prog 190 [.l 1 d0 A0,.d (.fnc 157)] (.i r):=by
 unfold Ee1 at hF
 refine cf 19 Tryz.func190 ?_
 have hL1:∀(nL1:Nat) (v2:Int),Y4 d0 nL1 v2=some r→Go1 r ⟨mkT [(0,.l 1 d0 A0),(1,.d (.fnc 157)),(7,.i ((d0.map A0).length:Int)),(8,.i v2)],[],[kL Gj9 [1,0,1,0,0],.inBlock 0,kC Gj9 [1,1]]⟩:=by
  clear hF;intro nL1
  induction nL1 with
  |zero=>intro v2 hF;cases hF
  |succ nL1 iL1=>
   intro v2 hF
   rw[Y4]at hF
   refine jI 6 9 hF ?_ ?_<;>intro hF
   ·obtain⟨y5,e5,hF⟩:=bnd hF
    refine jo1 14 (gm (f:=A0) e5) ?_
    refine jB 1 hF Gr9 Ey4 fun y6 hF=> ?_
    refine jI 1 16 hF ?_ ?_<;>intro hF
    ·cases hF
     exact jr 6
    ·exact ja 7 (iL1 _ hF)
   ·cases hF
    exact jr 6
 exact ja 13 (hL1 _ _ hF)
def Ed4(fuel:Nat)(d0:List (List A1)):Option Bool:=
 Option.bind (Ee1 fuel d0) fun y1=>
 some (decide (y1≥0))
theorem Ed5{fuel:Nat}{d0:List (List A1)}{r:Bool}(hF:Ed4 fuel d0=some r):
 C3 Tryz.prog 156 [.l 1 d0 A0,.d (.fnc 157)] (.b r):=by
 unfold Ed4 at hF
 refine cf 9 Tryz.func156 ?_
 refine jB 8 hF Ga8 Ee2 fun y1 hF=> ?_
 cases hF
 exact jr 3
def Fs0(fuel:Nat)(d0:A9):Option Bool:=
 Option.bind (
  Option.bind (F93 fuel d0) fun y5=>
  bif y5==0 then
   (Option.bind (Ed4 fuel d0.Choices) fun y6=>
   some (!y6))
  else
   (some false)) fun o1=>
 some o1
noncomputable abbrev Ha3:=C1 Tryz.f124
abbrev Hg0(r:Bool):=J none Tryz.prog 12 [] (H3 Tryz.prog Tryz.f124 (.b r))
theorem Ex4{fuel:Nat}{d0:A9}{r:Bool}(hF:Fs0 fuel d0=some r):
 C3 Tryz.prog 124 [.agg [.l 1 d0.Owner A7,.l 1 d0.Choices A0]] (.b r):=by
 unfold Fs0 at hF
 refine cf 12 Tryz.func124 ?_
 obtain⟨o1,hO,hF⟩:=bnd hF
 have hR1:Hg0 r ⟨mkT [(2,.b o1)],[],[kO Ha3 [1,0],kC Ha3 [1,1]]⟩:=by
  clear hO
  cases hF
  exact jr 1
 clear hF;rename _=some o1=>hF
 refine jB 8 hF Gl5 Co5 fun y5 hF=> ?_
 refine jI 2 6 hF ?_ ?_<;>intro hF
 ·refine jB 2 hF Ga4 Ed5 fun y6 hF=> ?_
  cases hF
  exact ja 3 hR1
 ·cases hF
  exact ja 6 hR1
def Gi5(fuel:Nat)(d0:Int)(d1:List UInt8):Option A2:=
 Option.bind (F48 fuel d1) fun y1=>
 some y1
theorem Ez8{fuel:Nat}{d0:Int}{d1:List UInt8}{r:A2}(hF:Gi5 fuel d0 d1=some r):
 C3 Tryz.prog 193 [.i d0,.s d1] (.agg [.b r.n_.neg,.l 1 r.n_.mag A5,.b r.d.neg,.l 1 r.d.mag A5]):=by
 unfold Gi5 at hF
 refine cf 7 Tryz.func193 ?_
 refine jB 7 hF Es1 At6 fun y1 hF=> ?_
 cases hF
 exact jr 2
def Ai6(fuel:Nat)(d0:List (List UInt8)):Nat→Int→Bool→(List Int)→Bool→(List Int)→Option A2
 |0,_,_,_,_,_=>none
 |nL1+1,v2,t3,l3,t4,l4=>
  bif decide (v2<((d0.map e_s).length:Int)) then
   (Option.bind (C4 d0 v2) fun y8=>
   Option.bind (Gi5 fuel v2 y8) fun y9=>
   Option.bind (F54 fuel (⟨(⟨t3,l3⟩:A3),(⟨t4,l4⟩:A3)⟩:A2) y9) fun y10=>
   (Ai6 fuel d0 nL1) (IntKind.i64.wrap (v2+1)) y10.n_.neg y10.n_.mag y10.d.neg y10.d.mag)
  else
   (some (⟨(⟨t3,l3⟩:A3),(⟨t4,l4⟩:A3)⟩:A2))
def Gi4(fuel:Nat)(d0:List (List UInt8)):Option A2:=
 Option.bind (F51 fuel 0 1) fun y1=>
 Ai6 fuel d0 fuel 0 y1.n_.neg y1.n_.mag y1.d.neg y1.d.mag
noncomputable abbrev Hb0:=C1 Tryz.f192
abbrev Hg9(r:A2):=J none Tryz.prog 24 [] (H3 Tryz.prog Tryz.f192 (.agg [.b r.n_.neg,.l 1 r.n_.mag A5,.b r.d.neg,.l 1 r.d.mag A5]))
theorem Ez7{fuel:Nat}{d0:List (List UInt8)}{r:A2}(hF:Gi4 fuel d0=some r):
 C3 Tryz.prog 192 [.l 1 d0 e_s,.d (.fnc 193)] (.agg [.b r.n_.neg,.l 1 r.n_.mag A5,.b r.d.neg,.l 1 r.d.mag A5]):=by
 unfold Gi4 at hF
 refine cf 24 Tryz.func192 ?_
 refine jB 6 hF Fr3 Bh0 fun y1 hF=> ?_
 have hL1:∀(nL1:Nat) (v2:Int) (t3:Bool) (l3:List Int) (t4:Bool) (l4:List Int),Ai6 fuel d0 nL1 v2 t3 l3 t4 l4=some r→Hg9 r ⟨mkT [(1,.d (.fnc 193)),(4,.ptr 4 0),(5,.ptr 5 0),(9,.l 1 d0 e_s),(10,.i ((d0.map e_s).length:Int)),(11,.i v2)],[(4,.box 100 [.b false,.esl 1,.b false,.esl 1]),(5,.box 100 [.b t3,.l 1 l3 A5,.b t4,.l 1 l4 A5])],[kL Hb0 [1,1,0,1,0,0],.inBlock 0,kC Hb0 [1,1,1]]⟩:=by
  clear hF;intro nL1
  induction nL1 with
  |zero=>intro v2 t3 l3 t4 l4 hF;cases hF
  |succ nL1 iL1=>
   intro v2 t3 l3 t4 l4 hF
   rw[Ai6]at hF
   refine jI 6 12 hF ?_ ?_<;>intro hF
   ·obtain⟨y8,e8,hF⟩:=bnd hF
    refine jo1 7 (gm (f:=e_s) e8) ?_
    refine jd 4 ?_
    refine dB 4 hF Gt3 Ez8 fun y9 hF=> ?_
    refine dB 0 hF Gl2 Co1 fun y10 hF=> ?_
    refine je 1 ?_
    exact ja 5 (iL1 _ _ _ _ _ hF)
   ·cases hF
    exact jr 7
 exact ja 12 (hL1 _ _ _ _ _ _ hF)
def Ai5(fuel:Nat)(d1:List (List UInt8)):Nat→Int→Option Bool
 |0,_=>none
 |nL1+1,v2=>
  bif decide (v2<((d1.map e_s).length:Int)) then
   (Option.bind (C4 d1 v2) fun y15=>
   Option.bind (
    Option.bind (Eo3 fuel y15) fun y20=>
    bif !y20 then
     (some true)
    else
     (Option.bind (C4 y15 0) fun y21=>
     some ((y21.toNat:Int)==45))) fun o3=>
   bif o3 then
    (some false)
   else
    ((Ai5 fuel d1 nL1) (IntKind.i64.wrap (v2+1))))
  else
   (Option.bind (Gi4 fuel d1) fun y22=>
   Option.bind (F87 fuel y22) fun y23=>
   some (y23==[49]))
def Gh9(fuel:Nat)(d0:Int)(d1:List (List UInt8)):Option Bool:=
 bif ((d1.map e_s).length:Int) !=d0 then
  (some false)
 else
  (Ai5 fuel d1 fuel 0)
noncomputable abbrev Fe0:=C1 Tryz.f158
abbrev Gz1(r:Bool):=J none Tryz.prog 30 [] (H3 Tryz.prog Tryz.f158 (.b r))
theorem Ey5{fuel:Nat}{d0:Int}{d1:List (List UInt8)}{r:Bool}(hF:Gh9 fuel d0 d1=some r):
 C3 Tryz.prog 158 [.i d0,.l 1 d1 e_s] (.b r):=by
 unfold Gh9 at hF
 refine cf 30 Tryz.func158 ?_
 refine jI 12 10 hF ?_ ?_<;>intro hF
 ·cases hF
  exact jr 5
 ·have hL1:∀(nL1:Nat) (v2:Int),Ai5 fuel d1 nL1 v2=some r→Gz1 r ⟨mkT [(1,.l 1 d1 e_s),(11,.l 1 d1 e_s),(12,.i ((d1.map e_s).length:Int)),(13,.i v2)],[],[kL Fe0 [1,1,0,1,0,0],.inBlock 0,kC Fe0 [1,1,1]]⟩:=by
   clear hF;intro nL1
   induction nL1 with
   |zero=>intro v2 hF;cases hF
   |succ nL1 iL1=>
    intro v2 hF
    rw[Ai5]at hF
    refine jI 6 14 hF ?_ ?_<;>intro hF
    ·obtain⟨y15,e15,hF⟩:=bnd hF
     refine jo1 6 (gm (f:=e_s) e15) ?_
     obtain⟨o3,hO,hF⟩:=bnd hF
     have hR3:Gz1 r ⟨mkT [(1,.l 1 d1 e_s),(11,.l 1 d1 e_s),(12,.i ((d1.map e_s).length:Int)),(13,.i v2),(24,.b o3)],[],[kO Fe0 [1,1,0,1,0,0,1,1,0,0,1,0],kC Fe0 [1,1,0,1,0,0,1,1,0,0,1,1],.inBlock 1,kC Fe0 [1,1,0,1,0,0,1,1,1],kL Fe0 [1,1,0,1,0,0],.inBlock 0,kC Fe0 [1,1,1]]⟩:=by
      clear hO
      refine jI 1 24 hF ?_ ?_<;>intro hF
      ·cases hF
       exact jr 5
      ·exact ja 7 (iL1 _ hF)
     clear hF;rename _=some o3=>hF
     refine jB 6 hF Ga9 Di1 fun y20 hF=> ?_
     refine jI 2 20 hF ?_ ?_<;>intro hF
     ·cases hF
      exact ja 4 hR3
     ·obtain⟨y21,e21,hF⟩:=bnd hF
      refine C2 1 (E8 (o:=(match C4 y15 0 with|some c=>some [.int .u8 c.toNat]|none=>none)) [.int .u8 y21.toNat] (by kernel_rfl) (by rw[e21]) ?_)
      cases hF
      exact ja 2 hR3
    ·refine jB 5 hF Gt2 Ez7 fun y22 hF=> ?_
     refine jB 0 hF Gv2 Dk1 fun y23 hF=> ?_
     cases hF
     exact jr 3
  exact ja 11 (hL1 _ _ hF)
def Gh5(fuel:Nat)(d0:A9)(d1:List (List UInt8)):Option Int:=
 Option.bind (F93 fuel d0) fun y1=>
 bif y1 !=0 then
  (some y1)
 else
  (Option.bind (Gh9 fuel ((d0.Owner.map A7).length:Int) d1) fun y2=>
  bif !y2 then
   (some 120)
  else
   (some 0))
theorem Ex5{fuel:Nat}{d0:A9}{d1:List (List UInt8)}{r:Int}(hF:Gh5 fuel d0 d1=some r):
 C3 Tryz.prog 125 [.agg [.l 1 d0.Owner A7,.l 1 d0.Choices A0],.l 1 d1 e_s] (.i r):=by
 unfold Gh5 at hF
 refine cf 17 Tryz.func125 ?_
 refine jB 9 hF Gl5 Co5 fun y1 hF=> ?_
 refine jI 7 9 hF ?_ ?_<;>intro hF
 ·cases hF
  exact jr 6
 ·refine jB 9 hF Gs0 Ey5 fun y2 hF=> ?_
  refine jI 2 16 hF ?_ ?_<;>intro hF
  ·cases hF
   exact jr 5
  ·cases hF
   exact jr 6
def F84(fuel:Nat)(d0:A9)(d1:List (List UInt8)):Option Int:=
 Option.bind (F93 fuel d0) fun y1=>
 bif y1 !=0 then
  (some y1)
 else
  (Option.bind (Fs0 fuel d0) fun y2=>
  bif !y2 then
   (some 111)
  else
   (Option.bind (Gh5 fuel d0 d1) fun y3=>
   some y3))
theorem Fv0{fuel:Nat}{d0:A9}{d1:List (List UInt8)}{r:Int}(hF:F84 fuel d0 d1=some r):
 C3 Tryz.prog 84 [.agg [.l 1 d0.Owner A7,.l 1 d0.Choices A0],.l 1 d1 e_s] (.i r):=by
 unfold F84 at hF
 refine cf 17 Tryz.func84 ?_
 refine jB 9 hF Gl5 Co5 fun y1 hF=> ?_
 refine jI 7 9 hF ?_ ?_<;>intro hF
 ·cases hF
  exact jr 6
 ·refine jB 6 hF Gr1 Ex4 fun y2 hF=> ?_
  refine jI 2 13 hF ?_ ?_<;>intro hF
  ·cases hF
   exact jr 5
  ·refine jB 6 hF Gr2 Ex5 fun y3 hF=> ?_
   cases hF
   exact jr 2
def Az7(fuel:Nat)(d0:List (List UInt8)):Nat→Int→(List A2)→Option (List A2)
 |0,_,_=>none
 |nL1+1,v2,l5=>
  bif decide (v2<((d0.map e_s).length:Int)) then
   (Option.bind (C4 d0 v2) fun y5=>
   Option.bind (F48 fuel y5) fun y6=>
   Option.bind (app l5 [y6]) fun l6=>
   (Az7 fuel d0 nL1) (IntKind.i64.wrap (v2+1)) l6)
  else
   (some l5)
def F85(fuel:Nat)(d0:List (List UInt8)):Option (List A2):=
 Option.bind (mkL 0 ((d0.map e_s).length:Int) (⟨(⟨false,[]⟩:A3),(⟨false,[]⟩:A3)⟩:A2)) fun l1=>
 Az7 fuel d0 fuel 0 l1
noncomputable abbrev b85:=C1 Tryz.f85
abbrev G85(r:List A2):=J none Tryz.prog 22 [] (H3 Tryz.prog Tryz.f85 (.l 4 r A4))
theorem Fv1{fuel:Nat}{d0:List (List UInt8)}{r:List A2}(hF:F85 fuel d0=some r):
 C3 Tryz.prog 85 [.l 1 d0 e_s] (.l 4 r A4):=by
 unfold F85 at hF
 refine cf 22 Tryz.func85 ?_
 obtain⟨l1,e1,hF⟩:=bnd hF
 refine jo2 8 (mm (f:=A4) e1) ?_
 have hL1:∀(nL1:Nat) (v2:Int) (l5:List A2),Az7 fuel d0 nL1 v2 l5=some r→G85 r ⟨mkT [(3,.suf 8 0 0),(9,.l 1 d0 e_s),(10,.i ((d0.map e_s).length:Int)),(11,.i v2)],[(8,.buf 0 100 4 (l5.map A4))],[kL b85 [1,1,0,1,0,0],.inBlock 0,kC b85 [1,1,1]]⟩:=by
  clear hF;intro nL1
  induction nL1 with
  |zero=>intro v2 l5 hF;cases hF
  |succ nL1 iL1=>
   intro v2 l5 hF
   rw[Az7]at hF
   refine jI 6 12 hF ?_ ?_<;>intro hF
   ·obtain⟨y5,e8,hF⟩:=bnd hF
    refine jo1 6 (gm (f:=e_s) e8) ?_
    refine jB 6 hF Es1 At6 fun y6 hF=> ?_
    obtain⟨l6,e10,hF⟩:=bnd hF
    refine jo2 1 (am (f:=A4) e10) ?_
    exact ja 7 (iL1 _ _ hF)
   ·cases hF
    exact jr 7
 exact ja 11 (hL1 _ _ _ hF)
def Bs8(v46:Int)(cL3:Int→(List A2)→Option (List (List UInt8)×Int))(l120:List A2):Option (List (List UInt8)×Int):=
 cL3 (IntKind.i64.wrap (v46+1)) l120
def Az0(fuel:Nat)(l84:List A2)(v46:Int)(y449:A1)(cL3:Int→(List A2)→Option (List (List UInt8)×Int)):Nat→Int→(List A2)→Option (List (List UInt8)×Int)
 |0,_,_=>none
 |nL5+1,v50,l124=>
  bif decide (v50<((y449.Next.map B5).length:Int)) then
   (Option.bind (C4 y449.Next v50) fun y464=>
   Option.bind (C4 l124 y464.To) fun y465=>
   Option.bind (C4 l84 v46) fun y466=>
   Option.bind (F48 fuel y464.P) fun y467=>
   Option.bind (F86 fuel y466 y467) fun y468=>
   Option.bind (F54 fuel y465 y468) fun y469=>
   Option.bind (C4 l124 y464.To) fun y470=>
   Option.bind (some (l124.set (0+Int.toNat y464.To) y469)) fun l125=>
   (Az0 fuel l84 v46 y449 cL3 nL5) (IntKind.i64.wrap (v50+1)) l125)
  else
   (Bs8 v46 cL3 l124)
def Ab8(fuel:Nat)(d0:A9)(l84:List A2)(v34:Int)(cL1:(List A2)→Int→Option (List (List UInt8)×Int)):Nat→Int→(List A2)→Option (List (List UInt8)×Int)
 |0,_,_=>none
 |nL3+1,v46,l114=>
  bif decide (v46<((d0.Choices.map A0).length:Int)) then
   (Option.bind (C4 d0.Choices v46) fun y446=>
   Option.bind (C4 l84 v46) fun y447=>
   Option.bind (F49 y447) fun y448=>
   bif y448==0 then
    (Bs8 v46 (Ab8 fuel d0 l84 v34 cL1 nL3) l114)
   else
    (Option.bind (C4 y446 0) fun y449=>
    Az0 fuel l84 v46 y449 (Ab8 fuel d0 l84 v34 cL1 nL3) fuel 0 l114))
  else
   (cL1 l114 (IntKind.i64.wrap (v34+1)))
def Ay9(fuel:Nat)(d0:A9)(l84:List A2)(l85:List A2)(v34:Int)(cL1:(List A2)→Int→Option (List (List UInt8)×Int)):Nat→Int→(List A2)→Option (List (List UInt8)×Int)
 |0,_,_=>none
 |nL2+1,v36,l89=>
  bif decide (v36<((l85.map A4).length:Int)) then
   (Option.bind (F51 fuel 0 1) fun y319=>
   Option.bind (C4 l89 v36) fun y320=>
   Option.bind (some (l89.set (0+Int.toNat v36) y319)) fun l90=>
   (Ay9 fuel d0 l84 l85 v34 cL1 nL2) (IntKind.i64.wrap (v36+1)) l90)
  else
   (Ab8 fuel d0 l84 v34 cL1 fuel 0 l89)
def Az1(fuel:Nat)(l84:List A2):Nat→Int→(List (List UInt8))→Option (List (List UInt8)×Int)
 |0,_,_=>none
 |nL6+1,v52,l130=>
  bif decide (v52<((l84.map A4).length:Int)) then
   (Option.bind (C4 l84 v52) fun y477=>
   Option.bind (F87 fuel y477) fun y478=>
   Option.bind (C4 l130 v52) fun y479=>
   Option.bind (some (l130.set (0+Int.toNat v52) y478)) fun l131=>
   (Az1 fuel l84 nL6) (IntKind.i64.wrap (v52+1)) l131)
  else
   (some (l130,0))
def W3(fuel:Nat)(d0:A9)(d2:Int):Nat→(List A2)→Int→Option (List (List UInt8)×Int)
 |0,_,_=>none
 |nL1+1,l84,v34=>
  bif decide (v34<d2) then
   (Option.bind (mkL ((l84.map A4).length:Int) ((l84.map A4).length:Int) (⟨(⟨false,[]⟩:A3),(⟨false,[]⟩:A3)⟩:A2)) fun l85=>
   Ay9 fuel d0 l84 l85 v34 (W3 fuel d0 d2 nL1) fuel 0 l85)
  else
   (Option.bind (mkL ((l84.map A4).length:Int) ((l84.map A4).length:Int) []) fun l126=>
   Az1 fuel l84 fuel 0 l126)
def F35(fuel:Nat)(d0:A9)(d1:List (List UInt8))(d2:Int):Option (List (List UInt8)×Int):=
 Option.bind (F84 fuel d0 d1) fun y1=>
 bif y1 !=0 then
  (some ([],y1))
 else
  (Option.bind (
   bif decide (d2<0) then
    (some true)
   else
    (some (decide (d2>60)))) fun o1=>
  bif o1 then
   (some ([],2))
  else
   (Option.bind (F85 fuel d1) fun y2=>
   W3 fuel d0 d2 fuel y2 0))
noncomputable abbrev b35:=C1 Tryz.f35
abbrev G35(r:List (List UInt8)×Int):=J none Tryz.prog 111 [] (H3 Tryz.prog Tryz.f35 (.tup [.l 1 r.1 e_s,.i r.2]))
theorem Eo5{fuel:Nat}{d0:A9}{d1:List (List UInt8)}{d2:Int}{r:List (List UInt8)×Int}(hF:F35 fuel d0 d1 d2=some r):
 C3 Tryz.prog 35 [.agg [.l 1 d0.Owner A7,.l 1 d0.Choices A0],.l 1 d1 e_s,.i d2] (.tup [.l 1 r.1 e_s,.i r.2]):=by
 unfold F35 at hF
 refine cf 111 Tryz.func35 ?_
 refine jB 11 hF Hl2 Fv0 fun y1 hF=> ?_
 refine jI 7 23 hF ?_ ?_<;>intro hF
 ·cases hF
  exact jr 7
 ·obtain⟨o1,hO,hF⟩:=bnd hF
  have hR1:G35 r ⟨mkT [(1,.l 1 d1 e_s),(2,.i d2),(3,.ptr 3 0),(30,.b o1)],[(3,.box 34 [.l 1 d0.Owner A7,.l 1 d0.Choices A0])],[kO b35 [1,1,0,0],kC b35 [1,1,0,1],kC b35 [1,1,1]]⟩:=by
   clear hO
   refine jI 1 30 hF ?_ ?_<;>intro hF
   ·cases hF
    exact jr 6
   ·refine jB 5 hF Hl3 Fv1 fun y2 hF=> ?_
    have hL1:∀(nL1:Nat) (l84:List A2) (v34:Int),W3 fuel d0 d2 nL1 l84 v34=some r→G35 r ⟨mkT [(3,.ptr 3 0),(9,.l 4 l84 A4),(33,.i d2),(34,.i v34)],[(3,.box 34 [.l 1 d0.Owner A7,.l 1 d0.Choices A0])],[kL b35 [1,1,1,1,0,1,0,0],.inBlock 0,kC b35 [1,1,1,1,1]]⟩:=by
     clear hF;intro nL1
     induction nL1 with
     |zero=>intro l84 v34 hF;cases hF
     |succ nL1 iL1=>
      intro l84 v34 hF
      rw[W3]at hF
      refine jI 6 35 hF ?_ ?_<;>intro hF
      ·obtain⟨l85,e359,hF⟩:=bnd hF
       refine jo2 8 (mm (f:=A4) e359) ?_
       have hL2:∀(nL2:Nat) (v36:Int) (l89:List A2),Ay9 fuel d0 l84 l85 v34 (W3 fuel d0 d2 nL1) nL2 v36 l89=some r→G35 r ⟨mkT [(3,.ptr 3 0),(9,.l 4 l84 A4),(10,.suf 38 0 0),(33,.i d2),(34,.i v34),(40,.i ((l85.map A4).length:Int)),(41,.i v36)],[(3,.box 34 [.l 1 d0.Owner A7,.l 1 d0.Choices A0]),(38,.buf 0 100 4 (l89.map A4))],[kL b35 [1,1,1,1,0,1,0,0,1,1,0,0,1,0,1,0,0],.inBlock 2,kC b35 [1,1,1,1,0,1,0,0,1,1,0,0,1,1],.inBlock 1,kC b35 [1,1,1,1,0,1,0,0,1,1,1],kL b35 [1,1,1,1,0,1,0,0],.inBlock 0,kC b35 [1,1,1,1,1]]⟩:=by
        clear hF;intro nL2
        induction nL2 with
        |zero=>intro v36 l89 hF;cases hF
        |succ nL2 iL2=>
         intro v36 l89 hF
         rw[Ay9]at hF
         refine jI 6 42 hF ?_ ?_<;>intro hF
         ·refine jB 12 hF Fr3 Bh0 fun y319 hF=> ?_
          obtain⟨y320,e367,hF⟩:=bnd hF
          refine jo1 0 (gm (f:=A4) e367) ?_
          obtain⟨l90,e368,hF⟩:=bnd hF
          have hst:=stm (f:=A4) (z:=y319) (k:=0) (xs:=[.bool y319.n_.neg,.sl 1 (y319.n_.mag.map A5),.bool y319.d.neg,.sl 1 (y319.d.mag.map A5)]) (gj e367) rfl
          refine C2 0 (E9 (o:=(match(l89.map A4)[0+Int.toNat v36]? with|some old=>some ((l89.map A4).set (0+Int.toNat v36) (X6 old 0 [.bool y319.n_.neg,.sl 1 (y319.n_.mag.map A5),.bool y319.d.neg,.sl 1 (y319.d.mag.map A5)]))|none=>none)) (l90.map A4) (by kernel_rfl) (by cases e368;exact hst) ?_)
          exact ja 6 (iL2 _ _ hF)
         ·have hL3:∀(nL3:Nat) (v46:Int) (l114:List A2),Ab8 fuel d0 l84 v34 (W3 fuel d0 d2 nL1) nL3 v46 l114=some r→G35 r ⟨mkT [(3,.ptr 3 0),(9,.l 4 l84 A4),(10,.suf 38 0 0),(33,.i d2),(34,.i v34),(50,.l 1 d0.Choices A0),(51,.i ((d0.Choices.map A0).length:Int)),(52,.i v46)],[(3,.box 34 [.l 1 d0.Owner A7,.l 1 d0.Choices A0]),(38,.buf 0 100 4 (l114.map A4))],[kL b35 [1,1,1,1,0,1,0,0,1,1,0,0,1,1,0,1,0,0],.inBlock 4,kC b35 [1,1,1,1,0,1,0,0,1,1,0,0,1,1,1],.inBlock 1,kC b35 [1,1,1,1,0,1,0,0,1,1,1],kL b35 [1,1,1,1,0,1,0,0],.inBlock 0,kC b35 [1,1,1,1,1]]⟩:=by
           clear hF;intro nL3
           induction nL3 with
           |zero=>intro v46 l114 hF;cases hF
           |succ nL3 iL3=>
            intro v46 l114 hF
            rw[Ab8]at hF
            refine jI 6 53 hF ?_ ?_<;>intro hF
            ·have hA4:∀(l120:List A2),Bs8 v46 (Ab8 fuel d0 l84 v34 (W3 fuel d0 d2 nL1) nL3) l120=some r→G35 r ⟨mkT [(3,.ptr 3 0),(9,.l 4 l84 A4),(10,.suf 38 0 0),(33,.i d2),(34,.i v34),(50,.l 1 d0.Choices A0),(51,.i ((d0.Choices.map A0).length:Int)),(52,.i v46)],[(3,.box 34 [.l 1 d0.Owner A7,.l 1 d0.Choices A0]),(38,.buf 0 100 4 (l120.map A4))],[kC b35 [1,1,1,1,0,1,0,0,1,1,0,0,1,1,0,1,0,0,1,1,1],kL b35 [1,1,1,1,0,1,0,0,1,1,0,0,1,1,0,1,0,0],.inBlock 4,kC b35 [1,1,1,1,0,1,0,0,1,1,0,0,1,1,1],.inBlock 1,kC b35 [1,1,1,1,0,1,0,0,1,1,1],kL b35 [1,1,1,1,0,1,0,0],.inBlock 0,kC b35 [1,1,1,1,1]]⟩:=by
              intro l120 hF
              unfold Bs8 at hF
              exact ja 4 (iL3 _ _ hF)
             obtain⟨y446,e509,hF⟩:=bnd hF
             refine jo1 7 (gm (f:=A0) e509) ?_
             obtain⟨y447,e510,hF⟩:=bnd hF
             refine jo1 9 (gm (f:=A4) e510) ?_
             refine jB 1 hF Hd2 Eo8 fun y448 hF=> ?_
             refine jI 2 62 hF ?_ ?_<;>intro hF
             ·exact ja 2 (hA4 _ hF)
             ·obtain⟨y449,e512,hF⟩:=bnd hF
              refine jo1 5 (gm (f:=A8) e512) ?_
              have hL5:∀(nL5:Nat) (v50:Int) (l124:List A2),Az0 fuel l84 v46 y449 (Ab8 fuel d0 l84 v34 (W3 fuel d0 d2 nL1) nL3) nL5 v50 l124=some r→G35 r ⟨mkT [(3,.ptr 3 0),(9,.l 4 l84 A4),(10,.suf 38 0 0),(12,.i v46),(33,.i d2),(34,.i v34),(50,.l 1 d0.Choices A0),(51,.i ((d0.Choices.map A0).length:Int)),(52,.i v46),(66,.l 2 y449.Next B5),(67,.i ((y449.Next.map B5).length:Int)),(68,.i v50)],[(3,.box 34 [.l 1 d0.Owner A7,.l 1 d0.Choices A0]),(38,.buf 0 100 4 (l124.map A4))],[kL b35 [1,1,1,1,0,1,0,0,1,1,0,0,1,1,0,1,0,0,1,1,0,0,1,1,1,0,0],.inBlock 6,.inBlock 5,kC b35 [1,1,1,1,0,1,0,0,1,1,0,0,1,1,0,1,0,0,1,1,1],kL b35 [1,1,1,1,0,1,0,0,1,1,0,0,1,1,0,1,0,0],.inBlock 4,kC b35 [1,1,1,1,0,1,0,0,1,1,0,0,1,1,1],.inBlock 1,kC b35 [1,1,1,1,0,1,0,0,1,1,1],kL b35 [1,1,1,1,0,1,0,0],.inBlock 0,kC b35 [1,1,1,1,1]]⟩:=by
               clear hF;intro nL5
               induction nL5 with
               |zero=>intro v50 l124 hF;cases hF
               |succ nL5 iL5=>
                intro v50 l124 hF
                rw[Az0]at hF
                refine jI 6 69 hF ?_ ?_<;>intro hF
                ·obtain⟨y464,e529,hF⟩:=bnd hF
                 refine jo1 6 (gm (f:=B5) e529) ?_
                 refine jd 4 ?_
                 obtain⟨y465,e530,hF⟩:=bnd hF
                 refine do1 6 (gm (f:=A4) e530) ?_
                 refine do1 0 (gjm (f:=A4) (gj e530)) ?_
                 obtain⟨y466,e531,hF⟩:=bnd hF
                 refine do1 2 (gm (f:=A4) e531) ?_
                 refine dB 3 hF Es1 At6 fun y467 hF=> ?_
                 refine dB 0 hF Hd6 Ep1 fun y468 hF=> ?_
                 refine dB 0 hF Gl2 Co1 fun y469 hF=> ?_
                 obtain⟨y470,e535,hF⟩:=bnd hF
                 refine do1 0 (gm (f:=A4) e535) ?_
                 obtain⟨l125,e536,hF⟩:=bnd hF
                 have hst:=stm (f:=A4) (z:=y469) (k:=0) (xs:=[.bool y469.n_.neg,.sl 1 (y469.n_.mag.map A5),.bool y469.d.neg,.sl 1 (y469.d.mag.map A5)]) (gj e535) rfl
                 refine P5 0 (Aq7 (o:=(match(l124.map A4)[0+Int.toNat y464.To]? with|some old=>some ((l124.map A4).set (0+Int.toNat y464.To) (X6 old 0 [.bool y469.n_.neg,.sl 1 (y469.n_.mag.map A5),.bool y469.d.neg,.sl 1 (y469.d.mag.map A5)]))|none=>none)) (l125.map A4) (by kernel_rfl) (by kernel_rfl) (by cases e536;exact hst) ?_)
                 refine je 0 ?_
                 exact ja 5 (iL5 _ _ hF)
                ·exact ja 3 (hA4 _ hF)
              exact ja 7 (hL5 _ _ _ hF)
            ·refine C2 11 (Dl3 9 (by kernel_rfl) (by kernel_rfl) ?_)
             exact ja 0 (iL1 _ _ hF)
          exact ja 12 (hL3 _ _ _ hF)
       exact ja 11 (hL2 _ _ _ hF)
      ·obtain⟨l126,e537,hF⟩:=bnd hF
       refine jo2 6 (mm (f:=e_s) e537) ?_
       have hL6:∀(nL6:Nat) (v52:Int) (l130:List (List UInt8)),Az1 fuel l84 nL6 v52 l130=some r→G35 r ⟨mkT [(16,.suf 96 0 0),(97,.l 4 l84 A4),(98,.i ((l84.map A4).length:Int)),(99,.i v52)],[(96,.buf 0 23 1 (l130.map e_s))],[kL b35 [1,1,1,1,1,1,0,1,0,0],.inBlock 8,kC b35 [1,1,1,1,1,1,1]]⟩:=by
        clear hF;intro nL6
        induction nL6 with
        |zero=>intro v52 l130 hF;cases hF
        |succ nL6 iL6=>
         intro v52 l130 hF
         rw[Az1]at hF
         refine jI 6 100 hF ?_ ?_<;>intro hF
         ·obtain⟨y477,e546,hF⟩:=bnd hF
          refine jo1 7 (gm (f:=A4) e546) ?_
          refine jB 9 hF Gv2 Dk1 fun y478 hF=> ?_
          obtain⟨y479,e548,hF⟩:=bnd hF
          refine jo1 0 (gm (f:=e_s) e548) ?_
          obtain⟨l131,e549,hF⟩:=bnd hF
          have hst:=stm (f:=e_s) (z:=y478) (k:=0) (xs:=[.str y478]) (gj e548) rfl
          refine C2 0 (E9 (o:=(match(l130.map e_s)[0+Int.toNat v52]? with|some old=>some ((l130.map e_s).set (0+Int.toNat v52) (X6 old 0 [.str y478]))|none=>none)) (l131.map e_s) (by kernel_rfl) (by cases e549;exact hst) ?_)
          exact ja 6 (iL6 _ _ hF)
         ·cases hF
          exact jr 8
       exact ja 11 (hL6 _ _ _ hF)
    exact ja 10 (hL1 _ _ _ hF)
  clear hF;rename _=some o1=>hF
  refine jI 8 27 hF ?_ ?_<;>intro hF
  ·cases hF
   exact ja 3 hR1
  ·cases hF
   exact ja 3 hR1
def Dk3(v24:Int)(cL2:(List UInt8)→Int→Option Bool)(x31:List UInt8):Option Bool:=
 cL2 x31 (IntKind.i64.wrap (v24+1))
def Ce1(fuel:Nat)(v30:Int)(y2:A9)(y4:List (List UInt8)×Int)(y243:List (List UInt8)×Int)(cL4:(List UInt8)→Int→Option Bool):Nat→(List UInt8)→Int→Option Bool
 |0,_,_=>none
 |nL5+1,x39,v32=>
  bif decide (v32<((y4.1.map e_s).length:Int)) then
   (Option.bind (C4 y243.1 v32) fun y256=>
   Option.bind (C4 y2.Choices v32) fun y257=>
   Option.bind (C4 y257 0) fun y258=>
   Option.bind (F38 fuel y256 y258.Gain) fun y259=>
   Option.bind (F37 fuel x39 y259) fun y260=>
   (Ce1 fuel v30 y2 y4 y243 cL4 nL5) y260 (IntKind.i64.wrap (v32+1)))
  else
   (cL4 x39 (IntKind.i64.wrap (v30+1)))
def Bf6(fuel:Nat)(d2:Int)(v22:Int)(x30:List UInt8)(y2:A9)(y4:List (List UInt8)×Int)(y5:List (List UInt8)×Int)(y183:List (List UInt8))(cL1:Int→Option Bool):Nat→(List UInt8)→Int→Option Bool
 |0,_,_=>none
 |nL4+1,x37,v30=>
  bif decide (v30<(IntKind.i64.wrap (Int.tmod d2 6))) then
   (Option.bind (F35 fuel y2 y183 v30) fun y243=>
   Option.bind (
    bif y243.2 !=0 then
     (some true)
    else
     (Option.bind (F32 fuel y243.1 ((y4.1.map e_s).length:Int)) fun y261=>
     some (!y261))) fun o15=>
   bif o15 then
    (some false)
   else
    (Ce1 fuel v30 y2 y4 y243 (Bf6 fuel d2 v22 x30 y2 y4 y5 y183 cL1 nL4) fuel x37 0))
  else
   (Option.bind (
    Option.bind (C4 y4.1 v22) fun y266=>
    bif !(x30==y266) then
     (some true)
    else
     (Option.bind (C4 y5.1 v22) fun y267=>
     some (!(x37==y267)))) fun o16=>
   bif o16 then
    (some false)
   else
    (cL1 (IntKind.i64.wrap (v22+1))))
def Bl5(fuel:Nat)(d2:Int)(v22:Int)(y2:A9)(y3:Int)(y4:List (List UInt8)×Int)(y5:List (List UInt8)×Int)(y183:List (List UInt8))(y184:List (List UInt8)×Int)(cL1:Int→Option Bool):Nat→(List UInt8)→Int→Option Bool
 |0,_,_=>none
 |nL2+1,x30,v24=>
  bif decide (v24<((y4.1.map e_s).length:Int)) then
   (Option.bind (F36 y3 v24) fun y202=>
   bif y202 then
    (Option.bind (C4 y184.1 v24) fun y203=>
    Option.bind (F37 fuel x30 y203) fun y204=>
    Dk3 v24 (Bl5 fuel d2 v22 y2 y3 y4 y5 y183 y184 cL1 nL2) y204)
   else
    (Dk3 v24 (Bl5 fuel d2 v22 y2 y3 y4 y5 y183 y184 cL1 nL2) x30))
  else
   (Bf6 fuel d2 v22 x30 y2 y4 y5 y183 cL1 fuel [48] 0)
def Ce2(v38:Int)(y284:List A1)(cL6:Int→(List (List A1))→Option Bool):Nat→Int→(List (List A1))→Option Bool
 |0,_,_=>none
 |nL7+1,v40,l27=>
  bif decide (v40<((y284.map A8).length:Int)) then
   (Option.bind (C4 l27 v38) fun y289=>
   Option.bind (C4 y289 v40) fun y290=>
   Option.bind (some (y289.set (0+Int.toNat v40) (⟨y290.Act,[49],y290.Next⟩:A1))) fun l28=>
   Option.bind (some (l27.set (Int.toNat v38) l28)) fun l29=>
   (Ce2 v38 y284 cL6 nL7) (IntKind.i64.wrap (v40+1)) l29)
  else
   (cL6 (IntKind.i64.wrap (v38+1)) l27)
def Bf7(fuel:Nat)(d2:Int)(y269:List Int×List (List A1)):Nat→Int→(List (List A1))→Option Bool
 |0,_,_=>none
 |nL6+1,v38,l20=>
  bif decide (v38<((y269.2.map A0).length:Int)) then
   (Option.bind (C4 l20 v38) fun y284=>
   Option.bind (some (l20.set (Int.toNat v38) y284)) fun l21=>
   Ce2 v38 y284 (Bf7 fuel d2 y269 nL6) fuel 0 l21)
  else
   (Option.bind (F14 fuel (⟨y269.1,l20⟩:A9) (IntKind.i64.wrap (Int.tmod d2 61))) fun y292=>
   Option.bind (
    bif y292.2==0 then
     (Option.bind (F39 fuel (IntKind.i64.wrap (Int.tmod d2 61)) 1) fun y299=>
     Option.bind (F18 fuel ((y269.1.map A7).length:Int) [y299]) fun y300=>
     Option.bind (F17 fuel y292.1 y300) fun y301=>
     some y301)
    else
     (some false)) fun o17=>
   some o17)
def Aq5(fuel:Nat)(d0:B0)(d2:Int)(y2:A9)(y3:Int)(y4:List (List UInt8)×Int)(y5:List (List UInt8)×Int)(y10:A9):Nat→Int→Option Bool
 |0,_=>none
 |nL1+1,v22=>
  bif decide (v22<((y4.1.map e_s).length:Int)) then
   (Option.bind (F34 fuel ((y4.1.map e_s).length:Int) v22) fun y183=>
   Option.bind (F35 fuel y10 y183 (IntKind.i64.wrap (Int.tmod d2 6))) fun y184=>
   Option.bind (
    bif y184.2 !=0 then
     (some true)
    else
     (Option.bind (F32 fuel y184.1 ((y4.1.map e_s).length:Int)) fun y268=>
     some (!y268))) fun o12=>
   bif o12 then
    (some false)
   else
    (Bl5 fuel d2 v22 y2 y3 y4 y5 y183 y184 (Aq5 fuel d0 d2 y2 y3 y4 y5 y10 nL1) fuel [48] 0))
  else
   (Option.bind (Fa0 fuel d0) fun y269=>
   Bf7 fuel d2 y269 fuel 0 y269.2)
def F8(fuel:Nat)(d0:B0)(d1:Int)(d2:Int):Option Bool:=
 Option.bind (F19 fuel) fun y1=>
 bif !y1 then
  (some false)
 else
  (Option.bind (F31 fuel d0) fun y2=>
  Option.bind (F29 ((y2.Owner.map A7).length:Int) d1) fun y3=>
  Option.bind (F12 fuel y2 y3 (IntKind.i64.wrap (Int.tmod d2 6))) fun y4=>
  Option.bind (F14 fuel y2 (IntKind.i64.wrap (Int.tmod d2 6))) fun y5=>
  Option.bind (
   bif y4.2 !=0 then
    (some true)
   else
    (bif y5.2 !=0 then
     (some true)
    else
     (Option.bind (F32 fuel y4.1 ((y2.Owner.map A7).length:Int)) fun y302=>
     bif !y302 then
      (some true)
     else
      (Option.bind (F32 fuel y5.1 ((y2.Owner.map A7).length:Int)) fun y303=>
      some (!y303))))) fun o1=>
  bif o1 then
   (some false)
  else
   (Option.bind (F33 fuel y2 y3) fun y10=>
   Aq5 fuel d0 d2 y2 y3 y4 y5 y10 fuel 0))
noncomputable abbrev b8:=C1 Tryz.f8
abbrev G8(r:Bool):=J none Tryz.prog 228 [] (H3 Tryz.prog Tryz.f8 (.b r))
theorem Gn4{fuel:Nat}{d0:B0}{d1:Int}{d2:Int}{r:Bool}(hF:F8 fuel d0 d1 d2=some r):
 C3 Tryz.prog 8 [.agg [.y d0.States,.y d0.Owners,.y d0.Grain,.y d0.Cents,.l 8 d0.Picks B2],.d (.int .u16 d1),.y d2] (.b r):=by
 unfold F8 at hF
 refine cf 228 Tryz.func8 ?_
 refine jB 8 hF Hj9 Fs8 fun y1 hF=> ?_
 refine jI 2 32 hF ?_ ?_<;>intro hF
 ·cases hF
  exact jr 5
 ·obtain⟨y2,e2,hF⟩:=bnd hF
  refine jc 5 Hk1 (Ft8 e2) ?_
  refine jB 9 hF Hk0 Ft7 fun y3 hF=> ?_
  refine jB 11 hF Gr0 Dg4 fun y4 hF=> ?_
  refine jB 10 hF Gr6 Dh2 fun y5 hF=> ?_
  obtain⟨o1,hO,hF⟩:=bnd hF
  have hR1:G8 r ⟨mkT [(2,.y d2),(3,.ptr 3 0),(7,.ptr 7 0),(8,.n y3),(9,.i (IntKind.i64.wrap (Int.tmod d2 6))),(10,.l 1 y4.1 e_s),(12,.l 1 y5.1 e_s),(77,.b o1)],[(3,.box 53 [.y d0.States,.y d0.Owners,.y d0.Grain,.y d0.Cents,.l 8 d0.Picks B2]),(7,.box 34 [.l 1 y2.Owner A7,.l 1 y2.Choices A0])],[kO b8 [1,1,1,1,1,1,0,0],kC b8 [1,1,1,1,1,1,0,1],kC b8 [1,1,1,1,1,1,1]]⟩:=by
   clear hO
   refine jI 1 77 hF ?_ ?_<;>intro hF
   ·cases hF
    exact jr 5
   ·refine jB 6 hF Hk2 Ft9 fun y10 hF=> ?_
    have hL1:∀(nL1:Nat) (v22:Int),Aq5 fuel d0 d2 y2 y3 y4 y5 y10 nL1 v22=some r→G8 r ⟨mkT [(2,.y d2),(3,.ptr 3 0),(7,.ptr 7 0),(8,.n y3),(9,.i (IntKind.i64.wrap (Int.tmod d2 6))),(10,.l 1 y4.1 e_s),(12,.l 1 y5.1 e_s),(14,.ptr 14 0),(82,.i ((y4.1.map e_s).length:Int)),(83,.i v22)],[(3,.box 53 [.y d0.States,.y d0.Owners,.y d0.Grain,.y d0.Cents,.l 8 d0.Picks B2]),(7,.box 34 [.l 1 y2.Owner A7,.l 1 y2.Choices A0]),(14,.box 34 [.l 1 y10.Owner A7,.l 1 y10.Choices A0])],[kL b8 [1,1,1,1,1,1,1,1,0,1,0,0],.inBlock 0,kC b8 [1,1,1,1,1,1,1,1,1]]⟩:=by
     clear hF;intro nL1
     induction nL1 with
     |zero=>intro v22 hF;cases hF
     |succ nL1 iL1=>
      intro v22 hF
      rw[Aq5]at hF
      refine jI 6 84 hF ?_ ?_<;>intro hF
      ·refine jB 14 hF Hk3 Fu0 fun y183 hF=> ?_
       refine jB 7 hF Hc9 Eo5 fun y184 hF=> ?_
       obtain⟨o12,hO,hF⟩:=bnd hF
       have hR12:G8 r ⟨mkT [(2,.y d2),(3,.ptr 3 0),(7,.ptr 7 0),(8,.n y3),(9,.i (IntKind.i64.wrap (Int.tmod d2 6))),(10,.l 1 y4.1 e_s),(12,.l 1 y5.1 e_s),(14,.ptr 14 0),(15,.i v22),(16,.l 1 y183 e_s),(17,.l 1 y184.1 e_s),(82,.i ((y4.1.map e_s).length:Int)),(83,.i v22),(105,.b o12)],[(3,.box 53 [.y d0.States,.y d0.Owners,.y d0.Grain,.y d0.Cents,.l 8 d0.Picks B2]),(7,.box 34 [.l 1 y2.Owner A7,.l 1 y2.Choices A0]),(14,.box 34 [.l 1 y10.Owner A7,.l 1 y10.Choices A0])],[kO b8 [1,1,1,1,1,1,1,1,0,1,0,0,1,1,0,0,1,1,1,0,0],kC b8 [1,1,1,1,1,1,1,1,0,1,0,0,1,1,0,0,1,1,1,0,1],kC b8 [1,1,1,1,1,1,1,1,0,1,0,0,1,1,0,0,1,1,1,1],.inBlock 1,kC b8 [1,1,1,1,1,1,1,1,0,1,0,0,1,1,1],kL b8 [1,1,1,1,1,1,1,1,0,1,0,0],.inBlock 0,kC b8 [1,1,1,1,1,1,1,1,1]]⟩:=by
        clear hO
        refine jI 1 105 hF ?_ ?_<;>intro hF
        ·cases hF
         exact jr 5
        ·have hL2:∀(nL2:Nat) (x30:List UInt8) (v24:Int),Bl5 fuel d2 v22 y2 y3 y4 y5 y183 y184 (Aq5 fuel d0 d2 y2 y3 y4 y5 y10 nL1) nL2 x30 v24=some r→G8 r ⟨mkT [(2,.y d2),(3,.ptr 3 0),(7,.ptr 7 0),(8,.n y3),(9,.i (IntKind.i64.wrap (Int.tmod d2 6))),(10,.l 1 y4.1 e_s),(12,.l 1 y5.1 e_s),(14,.ptr 14 0),(15,.i v22),(16,.l 1 y183 e_s),(17,.l 1 y184.1 e_s),(19,.s x30),(20,.s [48]),(82,.i ((y4.1.map e_s).length:Int)),(83,.i v22),(107,.i ((y4.1.map e_s).length:Int)),(108,.i v24)],[(3,.box 53 [.y d0.States,.y d0.Owners,.y d0.Grain,.y d0.Cents,.l 8 d0.Picks B2]),(7,.box 34 [.l 1 y2.Owner A7,.l 1 y2.Choices A0]),(14,.box 34 [.l 1 y10.Owner A7,.l 1 y10.Choices A0])],[kL b8 [1,1,1,1,1,1,1,1,0,1,0,0,1,1,0,0,1,1,1,1,1,0,1,0,0],.inBlock 2,kC b8 [1,1,1,1,1,1,1,1,0,1,0,0,1,1,0,0,1,1,1,1,1,1],.inBlock 1,kC b8 [1,1,1,1,1,1,1,1,0,1,0,0,1,1,1],kL b8 [1,1,1,1,1,1,1,1,0,1,0,0],.inBlock 0,kC b8 [1,1,1,1,1,1,1,1,1]]⟩:=by
          clear hF;intro nL2
          induction nL2 with
          |zero=>intro x30 v24 hF;cases hF
          |succ nL2 iL2=>
           intro x30 v24 hF
           rw[Bl5]at hF
           refine jI 6 109 hF ?_ ?_<;>intro hF
           ·have hA3:∀(x31:List UInt8),Dk3 v24 (Bl5 fuel d2 v22 y2 y3 y4 y5 y183 y184 (Aq5 fuel d0 d2 y2 y3 y4 y5 y10 nL1) nL2) x31=some r→G8 r ⟨mkT [(2,.y d2),(3,.ptr 3 0),(7,.ptr 7 0),(8,.n y3),(9,.i (IntKind.i64.wrap (Int.tmod d2 6))),(10,.l 1 y4.1 e_s),(12,.l 1 y5.1 e_s),(14,.ptr 14 0),(15,.i v22),(16,.l 1 y183 e_s),(17,.l 1 y184.1 e_s),(19,.s x31),(20,.s [48]),(82,.i ((y4.1.map e_s).length:Int)),(83,.i v22),(107,.i ((y4.1.map e_s).length:Int)),(108,.i v24)],[(3,.box 53 [.y d0.States,.y d0.Owners,.y d0.Grain,.y d0.Cents,.l 8 d0.Picks B2]),(7,.box 34 [.l 1 y2.Owner A7,.l 1 y2.Choices A0]),(14,.box 34 [.l 1 y10.Owner A7,.l 1 y10.Choices A0])],[kC b8 [1,1,1,1,1,1,1,1,0,1,0,0,1,1,0,0,1,1,1,1,1,0,1,0,0,1,1,1],kL b8 [1,1,1,1,1,1,1,1,0,1,0,0,1,1,0,0,1,1,1,1,1,0,1,0,0],.inBlock 2,kC b8 [1,1,1,1,1,1,1,1,0,1,0,0,1,1,0,0,1,1,1,1,1,1],.inBlock 1,kC b8 [1,1,1,1,1,1,1,1,0,1,0,0,1,1,1],kL b8 [1,1,1,1,1,1,1,1,0,1,0,0],.inBlock 0,kC b8 [1,1,1,1,1,1,1,1,1]]⟩:=by
             intro x31 hF
             unfold Dk3 at hF
             exact ja 4 (iL2 _ _ hF)
            refine jB 13 hF Hd0 Eo6 fun y202 hF=> ?_
            refine jI 1 113 hF ?_ ?_<;>intro hF
            ·obtain⟨y203,e203,hF⟩:=bnd hF
             refine jo1 5 (gm (f:=e_s) e203) ?_
             refine jB 1 hF Hd1 Eo7 fun y204 hF=> ?_
             exact ja 3 (hA3 _ hF)
            ·exact ja 3 (hA3 _ hF)
           ·have hL4:∀(nL4:Nat) (x37:List UInt8) (v30:Int),Bf6 fuel d2 v22 x30 y2 y4 y5 y183 (Aq5 fuel d0 d2 y2 y3 y4 y5 y10 nL1) nL4 x37 v30=some r→G8 r ⟨mkT [(2,.y d2),(3,.ptr 3 0),(7,.ptr 7 0),(8,.n y3),(9,.i (IntKind.i64.wrap (Int.tmod d2 6))),(10,.l 1 y4.1 e_s),(12,.l 1 y5.1 e_s),(14,.ptr 14 0),(15,.i v22),(16,.l 1 y183 e_s),(19,.s x30),(20,.s x37),(82,.i ((y4.1.map e_s).length:Int)),(83,.i v22),(121,.i (IntKind.i64.wrap (Int.tmod d2 6))),(122,.i v30)],[(3,.box 53 [.y d0.States,.y d0.Owners,.y d0.Grain,.y d0.Cents,.l 8 d0.Picks B2]),(7,.box 34 [.l 1 y2.Owner A7,.l 1 y2.Choices A0]),(14,.box 34 [.l 1 y10.Owner A7,.l 1 y10.Choices A0])],[kL b8 [1,1,1,1,1,1,1,1,0,1,0,0,1,1,0,0,1,1,1,1,1,1,0,1,0,0],.inBlock 4,kC b8 [1,1,1,1,1,1,1,1,0,1,0,0,1,1,0,0,1,1,1,1,1,1,1],.inBlock 1,kC b8 [1,1,1,1,1,1,1,1,0,1,0,0,1,1,1],kL b8 [1,1,1,1,1,1,1,1,0,1,0,0],.inBlock 0,kC b8 [1,1,1,1,1,1,1,1,1]]⟩:=by
             clear hF;intro nL4
             induction nL4 with
             |zero=>intro x37 v30 hF;cases hF
             |succ nL4 iL4=>
              intro x37 v30 hF
              rw[Bf6]at hF
              refine jI 6 123 hF ?_ ?_<;>intro hF
              ·refine jB 14 hF Hc9 Eo5 fun y243 hF=> ?_
               obtain⟨o15,hO,hF⟩:=bnd hF
               have hR15:G8 r ⟨mkT [(2,.y d2),(3,.ptr 3 0),(7,.ptr 7 0),(8,.n y3),(9,.i (IntKind.i64.wrap (Int.tmod d2 6))),(10,.l 1 y4.1 e_s),(12,.l 1 y5.1 e_s),(14,.ptr 14 0),(15,.i v22),(16,.l 1 y183 e_s),(19,.s x30),(20,.s x37),(23,.l 1 y243.1 e_s),(82,.i ((y4.1.map e_s).length:Int)),(83,.i v22),(121,.i (IntKind.i64.wrap (Int.tmod d2 6))),(122,.i v30),(140,.b o15)],[(3,.box 53 [.y d0.States,.y d0.Owners,.y d0.Grain,.y d0.Cents,.l 8 d0.Picks B2]),(7,.box 34 [.l 1 y2.Owner A7,.l 1 y2.Choices A0]),(14,.box 34 [.l 1 y10.Owner A7,.l 1 y10.Choices A0])],[kO b8 [1,1,1,1,1,1,1,1,0,1,0,0,1,1,0,0,1,1,1,1,1,1,0,1,0,0,1,1,0,0,1,1,0,0],kC b8 [1,1,1,1,1,1,1,1,0,1,0,0,1,1,0,0,1,1,1,1,1,1,0,1,0,0,1,1,0,0,1,1,0,1],kC b8 [1,1,1,1,1,1,1,1,0,1,0,0,1,1,0,0,1,1,1,1,1,1,0,1,0,0,1,1,0,0,1,1,1],.inBlock 5,kC b8 [1,1,1,1,1,1,1,1,0,1,0,0,1,1,0,0,1,1,1,1,1,1,0,1,0,0,1,1,1],kL b8 [1,1,1,1,1,1,1,1,0,1,0,0,1,1,0,0,1,1,1,1,1,1,0,1,0,0],.inBlock 4,kC b8 [1,1,1,1,1,1,1,1,0,1,0,0,1,1,0,0,1,1,1,1,1,1,1],.inBlock 1,kC b8 [1,1,1,1,1,1,1,1,0,1,0,0,1,1,1],kL b8 [1,1,1,1,1,1,1,1,0,1,0,0],.inBlock 0,kC b8 [1,1,1,1,1,1,1,1,1]]⟩:=by
                clear hO
                refine jI 1 140 hF ?_ ?_<;>intro hF
                ·cases hF
                 exact jr 5
                ·have hL5:∀(nL5:Nat) (x39:List UInt8) (v32:Int),Ce1 fuel v30 y2 y4 y243 (Bf6 fuel d2 v22 x30 y2 y4 y5 y183 (Aq5 fuel d0 d2 y2 y3 y4 y5 y10 nL1) nL4) nL5 x39 v32=some r→G8 r ⟨mkT [(2,.y d2),(3,.ptr 3 0),(7,.ptr 7 0),(8,.n y3),(9,.i (IntKind.i64.wrap (Int.tmod d2 6))),(10,.l 1 y4.1 e_s),(12,.l 1 y5.1 e_s),(14,.ptr 14 0),(15,.i v22),(16,.l 1 y183 e_s),(19,.s x30),(20,.s x39),(23,.l 1 y243.1 e_s),(82,.i ((y4.1.map e_s).length:Int)),(83,.i v22),(121,.i (IntKind.i64.wrap (Int.tmod d2 6))),(122,.i v30),(142,.i ((y4.1.map e_s).length:Int)),(143,.i v32)],[(3,.box 53 [.y d0.States,.y d0.Owners,.y d0.Grain,.y d0.Cents,.l 8 d0.Picks B2]),(7,.box 34 [.l 1 y2.Owner A7,.l 1 y2.Choices A0]),(14,.box 34 [.l 1 y10.Owner A7,.l 1 y10.Choices A0])],[kL b8 [1,1,1,1,1,1,1,1,0,1,0,0,1,1,0,0,1,1,1,1,1,1,0,1,0,0,1,1,0,0,1,1,1,1,0,0],.inBlock 6,.inBlock 5,kC b8 [1,1,1,1,1,1,1,1,0,1,0,0,1,1,0,0,1,1,1,1,1,1,0,1,0,0,1,1,1],kL b8 [1,1,1,1,1,1,1,1,0,1,0,0,1,1,0,0,1,1,1,1,1,1,0,1,0,0],.inBlock 4,kC b8 [1,1,1,1,1,1,1,1,0,1,0,0,1,1,0,0,1,1,1,1,1,1,1],.inBlock 1,kC b8 [1,1,1,1,1,1,1,1,0,1,0,0,1,1,1],kL b8 [1,1,1,1,1,1,1,1,0,1,0,0],.inBlock 0,kC b8 [1,1,1,1,1,1,1,1,1]]⟩:=by
                  clear hF;intro nL5
                  induction nL5 with
                  |zero=>intro x39 v32 hF;cases hF
                  |succ nL5 iL5=>
                   intro x39 v32 hF
                   rw[Ce1]at hF
                   refine jI 6 144 hF ?_ ?_<;>intro hF
                   ·refine jd 9 ?_
                    obtain⟨y256,e256,hF⟩:=bnd hF
                    refine do1 3 (gm (f:=e_s) e256) ?_
                    obtain⟨y257,e257,hF⟩:=bnd hF
                    refine do1 4 (gm (f:=A0) e257) ?_
                    obtain⟨y258,e258,hF⟩:=bnd hF
                    refine do1 1 (gm (f:=A8) e258) ?_
                    refine dB 2 hF Hk4 Fu1 fun y259 hF=> ?_
                    refine dB 0 hF Hd1 Eo7 fun y260 hF=> ?_
                    refine je 1 ?_
                    exact ja 5 (iL5 _ _ hF)
                   ·exact ja 7 (iL4 _ _ hF)
                 exact ja 10 (hL5 _ _ _ hF)
               clear hF;rename _=some o15=>hF
               refine jI 12 134 hF ?_ ?_<;>intro hF
               ·cases hF
                exact ja 6 hR15
               ·refine jB 3 hF Gk8 Cn7 fun y261 hF=> ?_
                cases hF
                exact ja 2 hR15
              ·obtain⟨o16,hO,hF⟩:=bnd hF
               have hR16:G8 r ⟨mkT [(2,.y d2),(3,.ptr 3 0),(7,.ptr 7 0),(8,.n y3),(9,.i (IntKind.i64.wrap (Int.tmod d2 6))),(10,.l 1 y4.1 e_s),(12,.l 1 y5.1 e_s),(14,.ptr 14 0),(82,.i ((y4.1.map e_s).length:Int)),(83,.i v22),(176,.b o16)],[(3,.box 53 [.y d0.States,.y d0.Owners,.y d0.Grain,.y d0.Cents,.l 8 d0.Picks B2]),(7,.box 34 [.l 1 y2.Owner A7,.l 1 y2.Choices A0]),(14,.box 34 [.l 1 y10.Owner A7,.l 1 y10.Choices A0])],[kO b8 [1,1,1,1,1,1,1,1,0,1,0,0,1,1,0,0,1,1,1,1,1,1,1,0],kC b8 [1,1,1,1,1,1,1,1,0,1,0,0,1,1,0,0,1,1,1,1,1,1,1,1],.inBlock 1,kC b8 [1,1,1,1,1,1,1,1,0,1,0,0,1,1,1],kL b8 [1,1,1,1,1,1,1,1,0,1,0,0],.inBlock 0,kC b8 [1,1,1,1,1,1,1,1,1]]⟩:=by
                clear hO
                refine jI 1 176 hF ?_ ?_<;>intro hF
                ·cases hF
                 exact jr 5
                ·exact ja 7 (iL1 _ hF)
               clear hF;rename _=some o16=>hF
               obtain⟨y266,e266,hF⟩:=bnd hF
               refine jo1 7 (gm (f:=e_s) e266) ?_
               refine jI 3 169 hF ?_ ?_<;>intro hF
               ·cases hF
                exact ja 7 hR16
               ·obtain⟨y267,e267,hF⟩:=bnd hF
                refine jo1 3 (gm (f:=e_s) e267) ?_
                cases hF
                exact ja 3 hR16
            exact ja 10 (hL4 _ _ _ hF)
         exact ja 16 (hL2 _ _ _ hF)
       clear hF;rename _=some o12=>hF
       refine jI 12 99 hF ?_ ?_<;>intro hF
       ·cases hF
        exact ja 6 hR12
       ·refine jB 3 hF Gk8 Cn7 fun y268 hF=> ?_
        cases hF
        exact ja 2 hR12
      ·obtain⟨y269,e269,hF⟩:=bnd hF
       refine jcr 5 [(179,2000),(1100,2001),(1101,2002)] Hc7 (Di3 e269) ?_
       have hL6:∀(nL6:Nat) (v38:Int) (l20:List (List A1)),Bf7 fuel d2 y269 nL6 v38 l20=some r→G8 r ⟨mkT [(2,.y d2),(26,.ptr 26 0),(182,.i ((y269.2.map A0).length:Int)),(183,.i v38)],[(26,.box 34 [.suf 1100 0 0,.suf 1101 0 0]),(1100,.buf 0 3 1 (y269.1.map A7)),(1101,.tree 0 31 1 [.o 26 3 [.z,.z,.z]] (l20.map A0) none)],[kL b8 [1,1,1,1,1,1,1,1,1,1,0,1,0,0],.inBlock 8,kC b8 [1,1,1,1,1,1,1,1,1,1,1]]⟩:=by
        clear hF;intro nL6
        induction nL6 with
        |zero=>intro v38 l20 hF;cases hF
        |succ nL6 iL6=>
         intro v38 l20 hF
         rw[Bf7]at hF
         refine jI 6 184 hF ?_ ?_<;>intro hF
         ·obtain⟨y284,e298,hF⟩:=bnd hF
          refine C2 10 (Bh7 (g:=0) (e:=31) (e2:=26) (n:=3) (es:=l20.map A0) 1101 1200 (Int.toNat v38) (y284.map A8) (by kernel_rfl) (by kernel_rfl) (by kernel_rfl) (gjo (f:=A0) e298) ?_)
          refine C2 4 (E8 (o:=chk (decide (0≤v38)&&(decide (0+Int.toNat v38=Int.toNat v38)&&decide (Int.toNat v38<(l20.map A0).length)))) [] (by kernel_rfl) (ckI e298) ?_)
          refine C2 0 (E8 (o:=chk (decide ((Int.toNat v38)=(Int.toNat v38))&&decide ((Int.toNat v38)<(l20.map A0).length))) [] (by kernel_rfl) (ckE e298) ?_)
          obtain⟨l21,e299,hF⟩:=bnd hF
          refine C2 3 (Ar0 (g:=0) (gd:=0) (e:=31) (e2:=26) (n:=3) (es:=l20.map A0) (ds:=y284.map A8) 1101 1200 (Int.toNat v38) (l21.map A0) (by kernel_rfl) (by kernel_rfl) (by kernel_rfl) (by kernel_rfl) (glt (f:=A0) e298) (by cases e299;exact shm (f:=A0) (z:=y284)) ?_)
          refine ja 0 (S0:=[(2,.y d2),(26,.ptr 26 0),(27,.i v38),(182,.i ((y269.2.map A0).length:Int)),(183,.i v38),(191,.i ((y284.map A8).length:Int)),(192,.i 0)]) (O0:=[(26,.box 34 [.suf 1100 0 0,.suf 1101 0 0]),(1100,.buf 0 3 1 (y269.1.map A7)),(1101,.tree 0 31 1 [.o 26 3 [.z,.z,.z]] (l21.map A0) none)]) (T0:=[kC b8 [1,1,1,1,1,1,1,1,1,1,0,1,0,0,1,1,0,0,1,1],.inBlock 9,kC b8 [1,1,1,1,1,1,1,1,1,1,0,1,0,0,1,1,1],kL b8 [1,1,1,1,1,1,1,1,1,1,0,1,0,0],.inBlock 8,kC b8 [1,1,1,1,1,1,1,1,1,1,1]]) ?_
          have hL7:∀(nL7:Nat) (v40:Int) (l27:List (List A1)),Ce2 v38 y284 (Bf7 fuel d2 y269 nL6) nL7 v40 l27=some r→G8 r ⟨mkT [(2,.y d2),(26,.ptr 26 0),(27,.i v38),(182,.i ((y269.2.map A0).length:Int)),(183,.i v38),(191,.i ((y284.map A8).length:Int)),(192,.i v40)],[(26,.box 34 [.suf 1100 0 0,.suf 1101 0 0]),(1100,.buf 0 3 1 (y269.1.map A7)),(1101,.tree 0 31 1 [.o 26 3 [.z,.z,.z]] (l27.map A0) none)],[kL b8 [1,1,1,1,1,1,1,1,1,1,0,1,0,0,1,1,0,0,1,1,0,0],.inBlock 10,.inBlock 9,kC b8 [1,1,1,1,1,1,1,1,1,1,0,1,0,0,1,1,1],kL b8 [1,1,1,1,1,1,1,1,1,1,0,1,0,0],.inBlock 8,kC b8 [1,1,1,1,1,1,1,1,1,1,1]]⟩:=by
           clear hF;intro nL7
           induction nL7 with
           |zero=>intro v40 l27 hF;cases hF
           |succ nL7 iL7=>
            intro v40 l27 hF
            rw[Ce2]at hF
            refine jI 6 193 hF ?_ ?_<;>intro hF
            ·obtain⟨y289,e308,hF⟩:=bnd hF
             refine C2 9 (Bh7 (g:=0) (e:=31) (e2:=26) (n:=3) (es:=l27.map A0) 1101 1200 (Int.toNat v38) (y289.map A8) (by kernel_rfl) (by kernel_rfl) (by kernel_rfl) (gjo (f:=A0) e308) ?_)
             refine C2 4 (E8 (o:=chk (decide (0≤v38)&&(decide (0+Int.toNat v38=Int.toNat v38)&&decide (Int.toNat v38<(l27.map A0).length)))) [] (by kernel_rfl) (ckI e308) ?_)
             refine C2 0 (E8 (o:=chk (decide ((Int.toNat v38)=(Int.toNat v38))&&decide ((Int.toNat v38)<(l27.map A0).length))) [] (by kernel_rfl) (ckE e308) ?_)
             obtain⟨y290,e309,hF⟩:=bnd hF
             refine jo1 1 (gm (f:=A8) e309) ?_
             obtain⟨l28,e310,hF⟩:=bnd hF
             have hst:=stm (f:=A8) (z:=(⟨y290.Act,[49],y290.Next⟩:A1)) (k:=1) (xs:=[.str [49]]) (gj e309) rfl
             refine C2 1 (E9 (o:=(match(y289.map A8)[0+Int.toNat v40]? with|some old=>some ((y289.map A8).set (0+Int.toNat v40) (X6 old 1 [.str [49]]))|none=>none)) (l28.map A8) (by kernel_rfl) (by cases e310;exact hst) ?_)
             obtain⟨l29,e311,hF⟩:=bnd hF
             refine C2 1 (Ar0 (g:=0) (gd:=0) (e:=31) (e2:=26) (n:=3) (es:=l27.map A0) (ds:=l28.map A8) 1101 1200 (Int.toNat v38) (l29.map A0) (by kernel_rfl) (by kernel_rfl) (by kernel_rfl) (by kernel_rfl) (glt (f:=A0) e308) (by cases e311;exact shm (f:=A0) (z:=l28)) ?_)
             refine ja 0 (S0:=[(2,.y d2),(26,.ptr 26 0),(27,.i v38),(182,.i ((y269.2.map A0).length:Int)),(183,.i v38),(191,.i ((y284.map A8).length:Int)),(192,.i v40)]) (O0:=[(26,.box 34 [.suf 1100 0 0,.suf 1101 0 0]),(1100,.buf 0 3 1 (y269.1.map A7)),(1101,.tree 0 31 1 [.o 26 3 [.z,.z,.z]] (l29.map A0) none)]) (T0:=[.inBlock 11,kC b8 [1,1,1,1,1,1,1,1,1,1,0,1,0,0,1,1,0,0,1,1,0,0,1,1,1],kL b8 [1,1,1,1,1,1,1,1,1,1,0,1,0,0,1,1,0,0,1,1,0,0],.inBlock 10,.inBlock 9,kC b8 [1,1,1,1,1,1,1,1,1,1,0,1,0,0,1,1,1],kL b8 [1,1,1,1,1,1,1,1,1,1,0,1,0,0],.inBlock 8,kC b8 [1,1,1,1,1,1,1,1,1,1,1]]) ?_
             exact ja 5 (iL7 _ _ hF)
            ·exact ja 7 (iL6 _ _ hF)
          exact ja 2 (hL7 _ _ _ hF)
         ·refine C2 8 (Dl2 (g:=0) (sz:=1) (e:=31) (shs:=[.o 26 3 [.z,.z,.z]]) (es:=l20.map A0) 1101 (by kernel_rfl) ?_)
          refine jB 0 hF Gr6 Dh2 fun y292 hF=> ?_
          obtain⟨o17,hO,hF⟩:=bnd hF
          have hR17:G8 r ⟨mkT [(6,.b o17)],[],[kC b8 [1,1,1,1,1,1,1,1,1,1,1,1,1]]⟩:=by
           clear hO
           cases hF
           exact jr 0
          clear hF;rename _=some o17=>hF
          refine jd 7 ?_
          refine dI 3 215 hF ?_ ?_<;>intro hF
          ·refine dB 4 hF Gu6 Dj4 fun y299 hF=> ?_
           obtain⟨y300,e321,hF⟩:=bnd hF
           refine dcr 4 [(221,2000),(225,2001)] Hj8 (Fs7 e321) ?_
           refine dB 0 hF Gs2 Dh8 fun y301 hF=> ?_
           refine je 2 ?_
           cases hF
           exact ja 0 hR17
          ·refine je 13 ?_
           cases hF
           exact ja 0 hR17
       exact ja 13 (hL6 _ _ _ hF)
    exact ja 12 (hL1 _ _ hF)
  clear hF;rename _=some o1=>hF
  refine jI 12 58 hF ?_ ?_<;>intro hF
  ·cases hF
   exact ja 19 hR1
  ·refine jI 4 62 hF ?_ ?_<;>intro hF
   ·cases hF
    exact ja 15 hR1
   ·refine jB 4 hF Gk8 Cn7 fun y302 hF=> ?_
    refine jI 3 70 hF ?_ ?_<;>intro hF
    ·cases hF
     exact ja 7 hR1
    ·refine jB 4 hF Gk8 Cn7 fun y303 hF=> ?_
     cases hF
     exact ja 2 hR1
end
end Go.Proofs.YtfgbhfphjmmiaaaGreatDoor
end
section
namespace Go.Proofs.YtfgbhfphjmmiaaaGreatDoor
open Go Go.RowKit Kx
set_option maxRecDepth 100000
section
def val(B:Int):List Int→Int
 |[]=>0
 |x::l=>x+B*val B l
def dig(B:Int)(l:List Int):Prop:=∀x∈l,0≤x∧x<B
theorem I5{B:Int}:dig B []:=fun _ h=>by cases h
theorem D9{B x:Int}{l:List Int}:dig B (x::l)↔(0≤x∧x<B)∧dig B l:=by
 unfold dig;simp
theorem Aj3{B:Int}{l m:List Int}:dig B (l++m)↔dig B l∧dig B m:=by
 unfold dig
 simp only[List.mem_append]
 exact⟨fun h=>⟨fun x hx=>h x (Or.inl hx),fun x hx=>h x (Or.inr hx)⟩,fun h x hx=>hx.elim (h.1 x) (h.2 x)⟩
theorem F1{B:Int}{l:List Int}(h:dig B l)(i:Nat):dig B (l.take i):=fun x hx=>h x (List.mem_of_mem_take hx)
theorem K8{B:Int}{l:List Int}(h:dig B l)(i:Nat):dig B (l.drop i):=fun x hx=>h x (List.mem_of_mem_drop hx)
theorem Do9{B:Int}{l:List Int}(h:dig B l){i:Nat}(hi:i<l.length):0≤l[i]∧l[i]<B:=h _ (List.getElem_mem hi)
theorem Aj4{B:Int}{l:List Int}(h:dig B l)(i:Nat){y:Int}(hy:0≤y∧y<B):dig B (l.set i y):=fun x hx=>by
 rcases List.mem_or_eq_of_mem_set hx with h1|h1
 ·exact h x h1
 ·subst h1;exact hy
theorem Al6{B:Int}(hB:0<B)(n:Nat):dig B (List.replicate n 0):=fun x hx=>by
 rw[(List.mem_replicate.mp hx).2];omega
theorem Ak2{B:Int}:∀(l m:List Int),val B (l++m)=val B l+B^l.length*val B m
 |[],m=>by simp[val]
 |x::l,m=>by
  rw[List.cons_append,val,val,Ak2 l m,List.length_cons,Int.pow_succ']
  grind
theorem L4{B:Int}(hB:0<B):∀{l:List Int},dig B l→0≤val B l
 |[],_=>Int.le_refl _
 |x::l,h=>by
  have h:=D9.mp h
  have:=L4 hB h.2
  rw[val]
  have:=Int.mul_nonneg (Int.le_of_lt hB) this
  omega
theorem Q9{B:Int}(hB:0<B)(n:Nat):0<B^n:=Int.pow_pos hB
theorem Ap0{B:Int}(hB:0<B):∀{l:List Int},dig B l→val B l<B^l.length
 |[],_=>by simp[val]
 |x::l,h=>by
  have h:=D9.mp h
  have h1:=Ap0 hB h.2
  rw[val,List.length_cons,Int.pow_succ']
  have h2:val B l+1≤B^l.length:=h1
  have h3:=Int.mul_le_mul_of_nonneg_left h2 (Int.le_of_lt hB)
  rw[Int.mul_add]at h3
  omega
theorem U0{B:Int}(l:List Int)(i:Nat)(hi:i≤l.length):val B l=val B (l.take i)+B^i*val B (l.drop i):=by
 have:=Ak2 (B:=B) (l.take i) (l.drop i)
 rwa [List.take_append_drop,List.length_take,Nat.min_eq_left hi]at this
theorem Ak3{B:Int}:∀(l:List Int) (i:Nat) (hi:i<l.length) (y:Int),val B (l.set i y)=val B l+(y-l[i])*B^i
 |x::l,0,_,y=>by simp[val];omega
 |x::l,i+1,hi,y=>by
  have ih:=Ak3 (B:=B) l i (by simpa using hi) y
  rw[List.set_cons_succ,val,val,ih,List.getElem_cons_succ,Int.pow_succ']
  grind
theorem Ap1{B:Int}:∀(n:Nat),val B (List.replicate n 0)=0
 |0=>rfl
 |n+1=>by rw[List.replicate_succ,val,Ap1 n];simp
theorem R1{B:Int}{l:List Int}{i:Nat}(hi:i<l.length):val B (l.take (i+1))=val B (l.take i)+l[i]*B^i:=by
 rw[List.take_succ_eq_append_getElem hi,Ak2,List.length_take,Nat.min_eq_left (by omega)]
 simp[val];grind
theorem Ax2{B:Int}{l:List Int}{i:Nat}(hi:i<l.length):val B (l.drop i)=l[i]+B*val B (l.drop (i+1)):=by
 rw[List.drop_eq_getElem_cons hi,val]
def dgF(B:Int):Nat→Int→List Int
 |0,_=>[]
 |k+1,n=>if n≤0 then[] else n%B::dgF B k (n/B)
def dg(B:Int)(n:Int):List Int:=dgF B n.toNat n
theorem Cg9{B n:Int}(hB:1<B)(hn:0<n):n/B<n:=by
 have h1:=Int.emod_add_mul_ediv n B
 have h2:=Int.emod_nonneg n (show B≠0 by omega)
 have h3:=Int.ediv_nonneg (Int.le_of_lt hn) (show(0:Int)≤B by omega)
 by_cases h:n/B=0
 ·omega
 ·have h4:=Int.mul_le_mul_of_nonneg_right (show(2:Int)≤B by omega) h3
  omega
theorem Cr7{B:Int}(hB:1<B):∀(k j:Nat) (n:Int),n.toNat≤k→n.toNat≤j→dgF B k n=dgF B j n
 |0,0,_,_,_=>rfl
 |0,j+1,n,h,_=>by rw[dgF,dgF,if_pos (by omega)]
 |k+1,0,n,_,h=>by rw[dgF,dgF,if_pos (by omega)]
 |k+1,j+1,n,h,h'=>by
  rw[dgF,dgF]
  split
  ·rfl
  ·have:=Cg9 hB (n:=n) (by omega)
   rw[Cr7 hB k j (n/B) (by omega) (by omega)]
theorem E3{B n:Int}(hn:n≤0):dg B n=[]:=by
 unfold dg;rw[show n.toNat=0 by omega];rfl
theorem M3{B n:Int}(hB:1<B)(hn:0<n):dg B n=n%B::dg B (n/B):=by
 unfold dg
 obtain⟨k,hk⟩:∃k,n.toNat=k+1:=⟨n.toNat-1,by omega⟩
 have:=Cg9 hB hn
 rw[hk,dgF,if_neg (by omega),Cr7 hB k (n/B).toNat (n/B) (by omega) (Nat.le_refl _)]
theorem Bv2{B:Int}(hB:1<B){P:Int→Prop}(h0:P 0)(h1:∀n,0<n→P (n/B)→P n):∀(n:Int),0≤n→P n:=by
 have:∀(k:Nat) (n:Int),0≤n→n.toNat≤k→P n:=by
  intro k
  induction k with
  |zero=>intro n hn hk;rw[show n=0 by omega];exact h0
  |succ k ih=>
   intro n hn hk
   by_cases h:n=0
   ·rw[h];exact h0
   ·have:=Cg9 hB (n:=n) (by omega)
    exact h1 n (by omega) (ih (n/B) (Int.ediv_nonneg hn (by omega)) (by omega))
 exact fun n hn=>this n.toNat n hn (Nat.le_refl _)
theorem I1{B:Int}(hB:1<B):∀n,0≤n→val B (dg B n)=n:=
 Bv2 hB (by rw[E3 (Int.le_refl _)];rfl) fun n hn ih=>by
  rw[M3 hB hn,val,ih]
  exact Int.emod_add_mul_ediv n B
theorem G7{B:Int}(hB:1<B):∀n,0≤n→dig B (dg B n):=
 Bv2 hB (by rw[E3 (Int.le_refl _)];exact I5) fun n hn ih=>by
  rw[M3 hB hn]
  exact D9.mpr ⟨⟨Int.emod_nonneg _ (by omega),Int.emod_lt_of_pos _ (by omega)⟩,ih⟩
theorem Cg6{B x v:Int}(hB:1<B)(hx:0≤x∧x<B)(hv:0≤v)(h:0<x+B*v):dg B (x+B*v)=x::dg B v:=by
 rw[M3 hB h]
 have e1:(x+B*v)%B=x:=by
  rw[Int.add_mul_emod_self_left];exact Int.emod_eq_of_lt hx.1 hx.2
 have e2:(x+B*v)/B=v:=by
  rw[Int.add_mul_ediv_left _ _ (by omega),Int.ediv_eq_zero_of_lt hx.1 hx.2];omega
 rw[e1,e2]
def Be7:List Int→List Int
 |[]=>[]
 |x::l=>match Be7 l with
  |[]=>if x=0 then[] else[x]
  |y::m=>x::y::m
theorem Be8{B:Int}(hB:1<B):∀{l:List Int},dig B l→Be7 l=dg B (val B l)
 |[],_=>by rw[val,E3 (Int.le_refl _)];rfl
 |x::l,h=>by
  have h:=D9.mp h
  have ih:=Be8 hB h.2
  have hn:=L4 (show 0<B by omega) h.2
  rw[Be7,val]
  by_cases hv:val B l=0
  ·rw[hv,E3 (Int.le_refl _)]at ih
   rw[ih,hv]
   dsimp only
   by_cases hx:x=0
   ·rw[if_pos hx,hx,E3 (by omega)]
   ·rw[if_neg hx,Cg6 hB h.1 (Int.le_refl _) (by omega),E3 (Int.le_refl _)]
  ·have hp:0<B*val B l:=Int.mul_pos (by omega) (by omega)
   rw[Cg6 hB h.1 hn (by omega),←ih]
   have:Be7 l≠[]:=by
    rw[ih,M3 hB (by omega)];simp
   cases ht:Be7 l with
   |nil=>exact absurd ht this
   |cons y m=>rfl
theorem At1:∀(l:List Int),Be7 (l++[0])=Be7 l
 |[]=>rfl
 |x::l=>by rw[List.cons_append,Be7,At1 l,Be7]
theorem Ao5{y:Int}(hy:y≠0):∀(l:List Int),Be7 (l++[y])=l++[y]
 |[]=>by simp[Be7,hy]
 |x::l=>by
  rw[List.cons_append,Be7,Ao5 hy l]
  cases l<;>rfl
theorem G4{B:Int}(hB:1<B):∀{L:Nat} {n:Int},n<B^L→(dg B n).length≤L
 |0,n,h=>by rw[E3 (by simp at h;omega)];simp
 |L+1,n,h=>by
  by_cases hn:n≤0
  ·rw[E3 hn];simp
  ·rw[M3 hB (by omega),List.length_cons]
   have:n/B<B^L:=Int.ediv_lt_of_lt_mul (by omega) (by rw[Int.pow_succ]at h;exact h)
   have:=G4 hB this
   omega
theorem Aj2{B:Int}(hB:1<B){n:Int}(hn:0≤n):n<B^(dg B n).length:=by
 have:=Ap0 (show 0<B by omega) (G7 hB n hn)
 rwa [I1 hB n hn]at this
theorem Eg8{B:Int}(hB:1<B){n:Int}(hn:0<n):B^((dg B n).length-1)≤n:=by
 have key:∀n,0≤n→0<n→B^((dg B n).length-1)≤n:=by
  refine Bv2 hB (fun h=>absurd h (by omega)) fun n hn ih h=> ?_
  rw[M3 hB hn,List.length_cons,Nat.add_sub_cancel]
  have h0:=Int.ediv_nonneg (Int.le_of_lt hn) (show(0:Int)≤B by omega)
  by_cases hq:n/B=0
  ·rw[hq,E3 (Int.le_refl _)];simp;omega
  ·have ih:=ih (by omega)
   have hl:(dg B (n/B)).length=((dg B (n/B)).length-1)+1:=by
    have:0<(dg B (n/B)).length:=by rw[M3 hB (by omega)];simp
    omega
   rw[hl,Int.pow_succ']
   have h1:=Int.mul_le_mul_of_nonneg_left ih (show(0:Int)≤B by omega)
   have h2:=Int.emod_add_mul_ediv n B
   have h3:=Int.emod_nonneg n (show B≠0 by omega)
   omega
 exact key n (Int.le_of_lt hn) hn
theorem F4{B:Int}(hB:1<B){i j:Nat}(h:i≤j):B^i≤B^j:=by
 obtain⟨d,rfl⟩:=Nat.le.dest h
 rw[Int.pow_add]
 have h1:=Q9 (show 0<B by omega) i
 have h2:=Q9 (show 0<B by omega) d
 have:=Int.mul_le_mul_of_nonneg_left (show 1≤B^d by omega) (Int.le_of_lt h1)
 rw[Int.mul_one]at this
 exact this
theorem J4{B:Int}(hB:1<B){a b:Int}(ha:0≤a)(hb:0≤b)(h:(dg B a).length<(dg B b).length):a<b:=by
 have h1:=Aj2 hB ha
 have hb':0<b:=by
  by_cases h0:b=0
  ·rw[h0,E3 (Int.le_refl _)]at h;simp at h
  ·omega
 have h2:=Eg8 hB hb'
 have h3:=F4 hB (show(dg B a).length≤(dg B b).length-1 by omega)
 omega
theorem Ar7{B:Int}(hB:1<B){n:Int}(hn:0<n):∃l y,dg B n=l++[y]∧0<y∧y<B:=by
 have key:∀n,0≤n→0<n→∃l y,dg B n=l++[y]∧0<y∧y<B:=by
  refine Bv2 hB (fun h=>absurd h (by omega)) fun n hn ih h=> ?_
  rw[M3 hB hn]
  have h0:=Int.ediv_nonneg (Int.le_of_lt hn) (show(0:Int)≤B by omega)
  have h2:=Int.emod_add_mul_ediv n B
  have h3:=Int.emod_nonneg n (show B≠0 by omega)
  have h4:=Int.emod_lt_of_pos n (show 0<B by omega)
  by_cases hq:n/B=0
  ·rw[hq]at h2
   exact⟨[],n%B,by rw[hq,E3 (Int.le_refl _)];rfl,by omega,h4⟩
  ·obtain⟨l,y,e,hy⟩:=ih (by omega)
   exact⟨n%B::l,y,by rw[e];rfl,hy⟩
 exact key n (Int.le_of_lt hn) hn
theorem Bg2{B:Int}(hB:1<B){n:Int}(hn:0<n):dg B n≠[]:=by rw[M3 hB hn];simp
theorem Db0{B:Int}(hB:1<B){n:Int}(hn:0≤n):dg B n=[]↔n=0:=by
 constructor
 ·intro h
  by_cases h0:n=0
  ·exact h0
  ·exact absurd h (Bg2 hB (by omega))
 ·intro h;rw[h];exact E3 (Int.le_refl _)
theorem Er0{B:Int}(hB:1<B){l:List Int}{y:Int}(hd:dig B (l++[y]))(hy:y≠0):dg B (val B (l++[y]))=l++[y]:=by
 rw[←Be8 hB hd,Ao5 hy]
theorem Br5{B:Int}(hB:0<B){m o:List Int}(hm:dig B m)(ho:dig B o){i:Nat}(h1:i<m.length)(h2:i<o.length)(he:m.drop (i+1)=o.drop (i+1))(hl:m[i]<o[i]):val B m<val B o:=by
 rw[U0 m i (by omega),U0 o i (by omega),Ax2 h1,Ax2 h2,he]
 have a:=Ap0 hB (F1 hm i)
 rw[List.length_take,Nat.min_eq_left (by omega)]at a
 have b:=L4 hB (F1 ho i)
 have p:=Q9 hB i
 have c:=Int.mul_le_mul_of_nonneg_left (show m[i]+1≤o[i] from hl) (Int.le_of_lt p)
 rw[Int.mul_add]at c
 rw[Int.mul_add,Int.mul_add]
 omega
end
section
def Ev(p:Nat→Prop):Prop:=∃k,∀n,k≤n→p n
theorem Ev.of{p:Nat→Prop}(h:∀n,p n):Ev p:=⟨0,fun n _=>h n⟩
theorem Ev.from_{p:Nat→Prop}(k:Nat)(h:∀n,k≤n→p n):Ev p:=⟨k,h⟩
theorem Ev.mono{p q:Nat→Prop}(hp:Ev p)(h:∀n,p n→q n):Ev q:=hp.imp fun _ hk n hn=>h n (hk n hn)
theorem Ev.and{p q:Nat→Prop}(hp:Ev p)(hq:Ev q):Ev fun n=>p n∧q n:=by
 obtain⟨a,ha⟩:=hp;obtain⟨b,hb⟩:=hq
 exact⟨a+b,fun n hn=>⟨ha n (by omega),hb n (by omega)⟩⟩
theorem Ev.ex{p:Nat→Prop}(hp:Ev p):∃n,p n:=by obtain⟨k,h⟩:=hp;exact⟨k,h k (Nat.le_refl _)⟩
theorem sb{α β:Type}(x:α)(f:α→Option β):Option.bind (some x) f=f x:=rfl
theorem E1{i:Int}(h0: -9223372036854775808≤i)(h1:i<9223372036854775808):IntKind.i64.wrap i=i:=by
 have e64:(2^IntKind.i64.bits:Int)=18446744073709551616:=rfl
 have e63:(2^(IntKind.i64.bits-1):Int)=9223372036854775808:=rfl
 unfold IntKind.wrap
 simp only[e64,e63,show IntKind.i64.signed=true from rfl,Bool.true_and,decide_eq_true_eq]
 split<;>omega
theorem N1{i:Int}(h0:0≤i)(h1:i<18446744073709551616):IntKind.u64.wrap i=i:=by
 have e64:(2^IntKind.u64.bits:Int)=18446744073709551616:=rfl
 unfold IntKind.wrap
 simp only[e64,show IntKind.u64.signed=false from rfl,Bool.false_and]
 rw[if_neg (by decide)]
 exact Int.emod_eq_of_lt h0 h1
theorem Ap3{i:Int}(h0:0≤i)(h1:i<4294967296):IntKind.u32.wrap i=i:=by
 have e64:(2^IntKind.u32.bits:Int)=4294967296:=rfl
 unfold IntKind.wrap
 simp only[e64,show IntKind.u32.signed=false from rfl,Bool.false_and]
 rw[if_neg (by decide)]
 exact Int.emod_eq_of_lt h0 h1
theorem Gy0{i:Int}(h0: -9223372036854775808≤i)(h1:i<0):IntKind.u64.wrap (0-IntKind.u64.wrap i)= -i:=by
 have e64:(2^IntKind.u64.bits:Int)=18446744073709551616:=rfl
 unfold IntKind.wrap
 simp only[e64,show IntKind.u64.signed=false from rfl,Bool.false_and]
 rw[if_neg (by decide),if_neg (by decide)]
 omega
theorem tdm{a b:Int}(ha:0≤a):Int.tdiv a b=a/b∧Int.tmod a b=a%b:=⟨Int.tdiv_eq_ediv_of_nonneg ha,Int.tmod_eq_emod_of_nonneg ha⟩
theorem M4{α:Type}(l:List α)(k:Nat):C4 l (k:Int)=l[k]? :=by simp[C4]
theorem C6{α:Type}{l:List α}{k:Nat}(h:k<l.length):C4 l (k:Int)=some l[k]:=by rw[M4,List.getElem?_eq_getElem h]
theorem Et5{α:Type}{l:List α}{v:Int}(h0:0≤v)(h:v.toNat<l.length):C4 l v=some l[v.toNat]:=by
 obtain⟨k,rfl⟩:∃k:Nat,v=(k:Int):=⟨v.toNat,by omega⟩
 exact C6 (by simpa using h)
theorem G2{α:Type}{b:Bool}{x:Option α}(h:b=true):ass b x=x:=by subst h;rfl
theorem N3{α:Type}(l m:List α)(h:l.length+m.length≤2147483648):app l m=some (l++m):=by
 unfold app;rw[show decide (l.length+m.length≤2147483648)=true from decide_eq_true h];rfl
theorem dlt{α β:Type}{l:List α}{f:α→β}{i:Nat}(h:i<l.length):decide ((i:Int)<((l.map f).length:Int))=true:=decide_eq_true (by rw[List.length_map];omega)
theorem dge{α β:Type}{l:List α}{f:α→β}{i:Nat}(h:l.length≤i):decide ((i:Int)<((l.map f).length:Int))=false:=decide_eq_false (by rw[List.length_map];omega)
theorem wi(i:Nat)(h:i<4000000000000000000):IntKind.i64.wrap ((i:Int)+1)=((i+1:Nat):Int):=by
 rw[E1 (i:=(i:Int)+1) (by omega) (by omega)];omega
theorem wip(i:Nat)(h:i<4000000000000000000):IntKind.i64.wrap ((i:Int)-1)=(i:Int)-1:=E1 (by omega) (by omega)
theorem Ek9{α:Type}{c:Int}(h0:0≤c)(h:c≤2147483648)(x:α):mkL 0 c x=some []:=by
 unfold mkL
 rw[show(decide ((0:Int)≤0)&&decide ((0:Int)≤c)&&decide (c≤2147483648))=true by simp;omega]
 rfl
theorem Af8{α:Type}{n:Nat}(h:n≤2147483648)(x:α):mkL (n:Int) (n:Int) x=some (List.replicate n x):=by
 unfold mkL
 rw[show(decide ((0:Int)≤(n:Int))&&decide ((n:Int)≤(n:Int))&&decide ((n:Int)≤2147483648))=true by simp;omega]
 simp
def Q8(a b:Int):Int:=if a<b then-1 else if a>b then 1 else 0
theorem I4{a:Int}:Q8 a a=0:=by simp[Q8]
theorem D5{a b:Int}(h:a<b):Q8 a b= -1:=by simp[Q8,h]
theorem D7{a b:Int}(h:b<a):Q8 a b=1:=by unfold Q8;rw[if_neg (by omega),if_pos h]
theorem Eq6{a b:Int}:Q8 a b=0↔a=b:=by
 unfold Q8;split
 ·constructor<;>intro h<;>omega
 ·split<;>constructor<;>intro h<;>omega
theorem Cr2{a b:Int}:Q8 (-a) (-b)=Q8 b a:=by
 unfold Q8;split<;>split<;>first|rfl|(split<;>first|rfl|omega)|omega
theorem Cr4(a b:Int):Fp0 a b=some (Q8 a b):=by
 unfold Fp0 Fs5 Q8
 simp only[sb,bne_self_eq_false,cond_false]
 by_cases h:a<b
 ·simp[h]
 ·by_cases h':a>b<;>simp[h,h']
theorem Eg6(a b:Int):Fs6 a b=some (Q8 a b):=by
 unfold Fs6 Ft6 Q8
 simp only[sb,bne_self_eq_false,cond_false]
 by_cases h:a<b
 ·simp[h]
 ·by_cases h':a>b<;>simp[h,h']
theorem Gk1{a b:Int}:(Q8 a b !=0)=decide (a≠b):=by
 by_cases h:a=b
 ·subst h;simp[I4]
 ·have:Q8 a b≠0:=fun e=>h (Eq6.1 e)
  simp[h,this]
def sg(neg:Bool)(v:Int):Int:=bif neg then-v else v
def W(n:Int):A3:=⟨decide (n<0),dg 1000000000 (n.natAbs:Int)⟩
theorem hB1:(1:Int)<1000000000:=by decide
theorem Go8{neg:Bool}{v:Int}(hv:0≤v):W (sg neg v)=⟨neg&&decide (v≠0),dg 1000000000 v⟩:=by
 unfold W sg
 cases neg
 ·simp only[cond_false,Bool.false_and]
  rw[show((v.natAbs:Nat):Int)=v by omega,decide_eq_false (by omega)]
 ·simp only[cond_true,Bool.true_and]
  rw[show(((-v).natAbs:Nat):Int)=v by omega]
  congr 1
  rw[decide_eq_decide];omega
def sz(L:Nat)(n:Int):Prop:=(n.natAbs:Int)<1000000000^L
theorem Eb4{d0:Bool}:∀(k:Nat) (l:List Int),l.length<k→l.length≤2147483648→Ap9 d0 k l=some ⟨d0&&decide (Be7 l≠[]),Be7 l⟩
 |0,l,h,_=>absurd h (by omega)
 |k+1,l,h,hl=>by
  unfold Ap9
  rcases List.eq_nil_or_concat l with rfl|⟨m,y,rfl⟩
  ·simp[Be7]
  ·rw[List.concat_eq_append]at*
   simp only[List.length_append,List.length_cons,List.length_nil]at h hl
   have hw:IntKind.i64.wrap ((((m++[y]).map A5).length:Int)-1)=((m.length:Nat):Int):=by
    rw[List.length_map,List.length_append]
    simp only[List.length_cons,List.length_nil]
    rw[E1 (by omega) (by omega)];omega
   have hg:C4 (m++[y]) ((m.length:Nat):Int)=some y:=by rw[M4];simp
   have hp:decide ((((m++[y]).map A5).length:Int)>0)=true:=decide_eq_true (by rw[List.length_map,List.length_append];simp)
   rw[hp,hw,hg]
   simp only[cond_true,sb]
   by_cases hy:y=0
   ·subst hy
    have hs:slc (m++[0]) 0 ((m.length:Nat):Int)=some m:=by
     unfold slc
     have:((m.length:Nat):Int)≤(((m++[(0:Int)]).length:Nat):Int):=by simp;omega
     simp only[decide_eq_true this,Int.le_refl,decide_true,Bool.and_true,Bool.true_and,decide_eq_true (Int.natCast_nonneg m.length),cond_true]
     simp
    simp only[beq_self_eq_true,cond_true,hs,sb]
    rw[Eb4 k m (by omega) (by omega),At1]
   ·have:(y==0)=false:=by simpa using hy
    simp only[this,cond_false]
    rw[Ao5 hy]
    cases d0<;>simp
theorem P4{fuel:Nat}{neg:Bool}{l:List Int}(hd:dig 1000000000 l)(hl:l.length≤2147483648)(hf:l.length<fuel):Bf5 fuel neg l=some (W (sg neg (val 1000000000 l))):=by
 have hv:=L4 (show(0:Int)<1000000000 by decide) hd
 unfold Bf5
 rw[Eb4 fuel l hf hl,Go8 hv,Be8 hB1 hd]
 congr 2
 rw[decide_eq_decide.2 (show dg 1000000000 (val 1000000000 l)≠[]↔val 1000000000 l≠0 from not_congr (Db0 hB1 hv))]
theorem Bq9{d0:Int}:∀(v:Int),0≤v→v<18446744073709551616→∀(k:Nat) (acc:List Int),(dg 1000000000 v).length<k→acc.length+(dg 1000000000 v).length≤2147483648→U5 d0 k v acc=some ⟨decide (d0<0),acc++dg 1000000000 v⟩:=by
 intro v hv
 refine Bv2 hB1 (P:=fun v=>v<18446744073709551616→∀(k:Nat) (acc:List Int),(dg 1000000000 v).length<k→acc.length+(dg 1000000000 v).length≤2147483648→U5 d0 k v acc=some ⟨decide (d0<0),acc++dg 1000000000 v⟩) ?_ ?_ v hv
 ·intro _ k acc hk _
  cases k with
  |zero=>omega
  |succ k=>
   unfold U5
   simp[E3]
 ·intro n hn ih h64 k acc hk hl
  rw[M3 hB1 hn,List.length_cons]at hk hl
  cases k with
  |zero=>omega
  |succ k=>
   unfold U5
   have h1:=Int.emod_nonneg n (show(1000000000:Int)≠0 by decide)
   have h2:=Int.emod_lt_of_pos n (show(0:Int)<1000000000 by decide)
   have h3:n/1000000000≤n:=Int.ediv_le_self _ (by omega)
   have h4:0≤n/1000000000:=Int.ediv_nonneg (by omega) (by decide)
   rw[decide_eq_true (show n>0 from hn),(tdm (by omega:0≤n)).1,(tdm (by omega:0≤n)).2,Ap3 h1 (by omega),N1 h4 (by omega),N3 _ _ (by simp;omega)]
   simp only[cond_true,sb]
   rw[ih (by omega) k _ (by omega) (by simp;omega),M3 hB1 hn]
   simp
theorem Cx3{d0:Int}:∀(k:Nat) (v:Int) (acc:List Int),Az8 d0 k v acc=U5 d0 k v acc
 |0,_,_=>rfl
 |k+1,v,acc=>by
  unfold Az8 U5
  have:Az8 d0 k=U5 d0 k:=by funext v acc;exact Cx3 k v acc
  rw[this]
theorem Ao3{fuel:Nat}{n:Int}(h0: -9223372036854775808≤n)(h1:n<9223372036854775808)(hf:10≤fuel):F99 fuel n=some (W n):=by
 have hl:∀v:Int,0≤v→v<18446744073709551616→(dg 1000000000 v).length≤3:=fun v _ h=>G4 hB1 (by
  have:(1000000000:Int)^3=1000000000000000000000000000:=by decide
  omega)
 unfold F99 W
 by_cases h:n<0
 ·rw[decide_eq_true h]
  simp only[cond_true]
  have:=hl (-n) (by omega) (by omega)
  rw[Gy0 h0 h,Bq9 _ (by omega) (by omega) _ _ (by omega) (by simp;omega),decide_eq_true h,show((n.natAbs:Nat):Int)= -n by omega]
  rfl
 ·rw[decide_eq_false h]
  simp only[cond_false]
  have:=hl n (by omega) (by omega)
  rw[N1 (by omega) (by omega),Cx3,Bq9 _ (by omega) (by omega) _ _ (by omega) (by simp;omega),decide_eq_false h,show((n.natAbs:Nat):Int)=n by omega]
  rfl
theorem Bu8{m o:List Int}(hm:dig 1000000000 m)(ho:dig 1000000000 o)(he:m.length=o.length)(hl:m.length≤2147483648):∀(i k:Nat),i≤m.length→i<k→m.drop i=o.drop i→Ai2 m o k ((i:Int)-1)=some (Q8 (val 1000000000 m) (val 1000000000 o))
 |0,0,_,h,_=>absurd h (by omega)
 |0,k+1,_,_,hd=>by
  unfold Ai2
  rw[List.drop_zero,List.drop_zero]at hd
  subst hd
  simp[I4]
 |i+1,0,_,h,_=>absurd h (by omega)
 |i+1,k+1,hi,hk,hd=>by
  unfold Ai2
  rw[show(((i+1:Nat):Int)-1)=((i:Nat):Int) by omega,decide_eq_true (show((i:Nat):Int)≥0 by omega),C6 (l:=m) (by omega),C6 (l:=o) (by omega)]
  simp only[cond_true,sb,Eg6,Gk1]
  by_cases h:m[i]=o[i]
  ·rw[decide_eq_false (by simpa using h)]
   simp only[cond_false]
   rw[wip i (by omega)]
   exact Bu8 hm ho he hl i k (by omega) (by omega) (by rw[List.drop_eq_getElem_cons (show i<m.length by omega),List.drop_eq_getElem_cons (show i<o.length by omega),h,hd])
  ·rw[decide_eq_true h]
   simp only[cond_true]
   rcases Int.lt_or_gt_of_ne h with h'|h'
   ·rw[D5 h',D5 (Br5 (by decide) hm ho (by omega) (by omega) hd h')]
   ·rw[D7 h',D7 (Br5 (by decide) ho hm (by omega) (by omega) hd.symm h')]
theorem Ae6{fuel:Nat}{a b:Int}(ha:0≤a)(hb:0≤b)(hl:(dg 1000000000 a).length≤2147483648)(hl2:(dg 1000000000 b).length≤2147483648)(hf:(dg 1000000000 a).length<fuel):Dg8 fuel (dg 1000000000 a) (dg 1000000000 b)=some (Q8 a b):=by
 unfold Dg8
 rw[Cr4,sb,Gk1,List.length_map,List.length_map]
 by_cases h:(dg 1000000000 a).length=(dg 1000000000 b).length
 ·rw[decide_eq_false (by omega)]
  simp only[cond_false]
  rw[wip _ (by omega),Bu8 (G7 hB1 a ha) (G7 hB1 b hb) h hl _ fuel (Nat.le_refl _) hf (by rw[List.drop_of_length_le (Nat.le_refl _),List.drop_of_length_le (by omega)]),I1 hB1 a ha,I1 hB1 b hb]
 ·rw[decide_eq_true (by omega)]
  simp only[cond_true]
  rcases Nat.lt_or_gt_of_ne h with h'|h'
  ·rw[D5 (by omega),D5 (J4 hB1 ha hb h')]
  ·rw[D7 (by omega),D7 (J4 hB1 hb ha h')]
end
section
theorem Ap2{l:List Int}(h:dig 1000000000 l){i:Nat}(hi:i<l.length):0≤l[i]∧l[i]<1000000000:=Do9 h hi
theorem Af9{l:List Int}{i:Nat}(hi:i<l.length):val 1000000000 (l.drop i)=l[i]+1000000000*val 1000000000 (l.drop (i+1)):=Ax2 hi
theorem N5{l:List Int}{i:Nat}(hi:l.length≤i):val 1000000000 (l.drop i)=0:=by rw[List.drop_of_length_le hi];rfl
theorem Cb7(x:Int)(l:List Int):val 1000000000 (x::l)=x+1000000000*val 1000000000 l:=rfl
theorem Cv8{m o:List Int}(hm:dig 1000000000 m)(ho:dig 1000000000 o)(hle:o.length≤m.length)(hb:m.length≤1073741824):∀(r i k:Nat) (c:Int) (acc:List Int),i+r=m.length→r<k→0≤c→c≤1→acc.length=i→
 ∃t,V4 m o k c (i:Int) acc=some (acc++t)∧dig 1000000000 t∧t.length≤r+1∧val 1000000000 t=val 1000000000 (m.drop i)+val 1000000000 (o.drop i)+c
 |0,i,0,_,_,_,h,_,_,_=>absurd h (by omega)
 |r+1,i,0,_,_,_,h,_,_,_=>absurd h (by omega)
 |0,i,k+1,c,acc,hi,_,h0,h1,ha=>by
  unfold V4
  rw[dge (by omega),N5 (by omega:m.length≤i),N5 (by omega:o.length≤i)]
  simp only[cond_false]
  by_cases hc:c>0
  ·rw[decide_eq_true hc,N3 _ _ (by simp;omega)]
   refine⟨[c],rfl,D9.2 ⟨⟨h0,by omega⟩,I5⟩,by simp,by simp[val]⟩
  ·rw[decide_eq_false hc]
   refine⟨[],by simp,I5,by simp,by simp[val];omega⟩
 |r+1,i,k+1,c,acc,hi,hk,h0,h1,ha=>by
  unfold V4
  obtain⟨a1,a2⟩:=Ap2 hm (show i<m.length by omega)
  rw[dlt (by omega),C6 (l:=m) (by omega),Af9 (l:=m) (by omega)]
  simp only[cond_true,sb]
  rw[Ap3 (i:=m[i]+c) (by omega) (by omega),wi i (by omega)]
  by_cases hio:i<o.length
  ·obtain⟨b1,b2⟩:=Ap2 ho hio
   rw[dlt hio,C6 (l:=o) hio,Af9 (l:=o) hio]
   simp only[cond_true,sb]
   rw[Ap3 (i:=m[i]+c+o[i]) (by omega) (by omega),(tdm (show 0≤m[i]+c+o[i] by omega)).1,(tdm (show 0≤m[i]+c+o[i] by omega)).2,Ap3 (by omega) (by omega),N3 _ _ (by simp;omega)]
   simp only[sb]
   obtain⟨t,e1,e2,e3,e4⟩:=Cv8 hm ho hle hb r (i+1) k ((m[i]+c+o[i])/1000000000) (acc++[(m[i]+c+o[i])%1000000000]) (by omega) (by omega) (by omega) (by omega) (by simp;omega)
   refine⟨(m[i]+c+o[i])%1000000000::t,by rw[e1];simp,D9.2 ⟨⟨by omega,by omega⟩,e2⟩,by simp;omega,?_⟩
   rw[Cb7,e4]
   omega
  ·rw[dge (by omega),N5 (by omega:o.length≤i)]
   simp only[cond_false]
   rw[(tdm (show 0≤m[i]+c by omega)).1,(tdm (show 0≤m[i]+c by omega)).2,Ap3 (by omega) (by omega),N3 _ _ (by simp;omega)]
   simp only[sb]
   obtain⟨t,e1,e2,e3,e4⟩:=Cv8 hm ho hle hb r (i+1) k ((m[i]+c)/1000000000) (acc++[(m[i]+c)%1000000000]) (by omega) (by omega) (by omega) (by omega) (by simp;omega)
   refine⟨(m[i]+c)%1000000000::t,by rw[e1];simp,D9.2 ⟨⟨by omega,by omega⟩,e2⟩,by simp;omega,?_⟩
   rw[Cb7,e4,N5 (by omega:o.length≤i+1)]
   omega
theorem Dw7{m o:List Int}:∀(k:Nat),Ai3 m o k=V4 o m k
 |0=>by funext c i acc;rfl
 |k+1=>by
  funext c i acc
  unfold Ai3 V4
  rw[Dw7 k]
theorem Fl3{fuel:Nat}{m o:List Int}(hm:dig 1000000000 m)(ho:dig 1000000000 o)(h1:m.length≤1073741823)(h2:o.length≤1073741823)(hf:m.length+o.length<fuel):
 ∃t,Fp1 fuel m o=some t∧dig 1000000000 t∧t.length≤m.length+o.length+1∧val 1000000000 t=val 1000000000 m+val 1000000000 o:=by
 unfold Fp1
 rw[List.length_map,List.length_map]
 by_cases h:m.length<o.length
 ·rw[decide_eq_true (by omega)]
  simp only[cond_true]
  rw[E1 (by omega) (by omega),Ek9 (by omega) (by omega)]
  simp only[sb]
  rw[Dw7]
  obtain⟨t,e1,e2,e3,e4⟩:=Cv8 ho hm (by omega) (by omega) o.length 0 fuel 0 [] (by omega) (by omega) (by omega) (by omega) rfl
  refine⟨t,e1,e2,by omega,?_⟩
  rw[e4,List.drop_zero,List.drop_zero];omega
 ·rw[decide_eq_false (by omega)]
  simp only[cond_false]
  rw[E1 (by omega) (by omega),Ek9 (by omega) (by omega)]
  simp only[sb]
  obtain⟨t,e1,e2,e3,e4⟩:=Cv8 hm ho (by omega) (by omega) m.length 0 fuel 0 [] (by omega) (by omega) (by omega) (by omega) rfl
  refine⟨t,e1,e2,by omega,?_⟩
  rw[e4,List.drop_zero,List.drop_zero];omega
theorem Du5{m o:List Int}(hm:dig 1000000000 m)(ho:dig 1000000000 o)(hle:o.length≤m.length)(hb:m.length≤1073741824):∀(r i k:Nat) (c:Int) (acc:List Int),i+r=m.length→r<k→0≤c→c≤1→acc.length=i→
 ∃t,R5 m o k c (i:Int) acc=some (acc++t)∧dig 1000000000 t∧t.length=r∧(val 1000000000 t=val 1000000000 (m.drop i)-val 1000000000 (o.drop i)-c∨val 1000000000 t=val 1000000000 (m.drop i)-val 1000000000 (o.drop i)-c+1000000000^r)
 |0,i,0,_,_,_,h,_,_,_=>absurd h (by omega)
 |r+1,i,0,_,_,_,h,_,_,_=>absurd h (by omega)
 |0,i,k+1,c,acc,hi,_,h0,h1,ha=>by
  unfold R5
  rw[dge (by omega),N5 (by omega:m.length≤i),N5 (by omega:o.length≤i)]
  refine⟨[],by simp,I5,rfl,?_⟩
  simp only[val,Int.pow_zero]
  omega
 |r+1,i,k+1,c,acc,hi,hk,h0,h1,ha=>by
  unfold R5
  obtain⟨a1,a2⟩:=Ap2 hm (show i<m.length by omega)
  have hp:(1000000000:Int)^(r+1)=1000000000*1000000000^r:=Int.pow_succ' ..
  rw[dlt (by omega),C6 (l:=m) (by omega),Af9 (l:=m) (by omega),hp]
  simp only[cond_true,sb]
  rw[E1 (i:=m[i]) (by omega) (by omega),E1 (i:=m[i]-c) (by omega) (by omega),wi i (by omega)]
  have key:∀(d c' y:Int),0≤d→d<1000000000→0≤c'→c'≤1→d=m[i]-c-y+1000000000*c'→val 1000000000 (o.drop i)=y+1000000000*val 1000000000 (o.drop (i+1))→
   ∃t,Option.bind (app acc [d]) (fun l=>R5 m o k c' ((i+1:Nat):Int) l)=some (acc++t)∧dig 1000000000 t∧t.length=r+1∧(val 1000000000 t=m[i]+1000000000*val 1000000000 (m.drop (i+1))-val 1000000000 (o.drop i)-c∨val 1000000000 t=m[i]+1000000000*val 1000000000 (m.drop (i+1))-val 1000000000 (o.drop i)-c+1000000000*1000000000^r):=by
   intro d c' y d0 d1 c0 c1 hd hv
   rw[N3 _ _ (by simp;omega)]
   simp only[sb]
   obtain⟨t,e1,e2,e3,e4⟩:=Du5 hm ho hle hb r (i+1) k c' (acc++[d]) (by omega) (by omega) c0 c1 (by simp;omega)
   refine⟨d::t,by rw[e1];simp,D9.2 ⟨⟨d0,d1⟩,e2⟩,by simp;omega,?_⟩
   rw[Cb7,hv]
   rcases e4 with e4|e4
   ·left;rw[e4];omega
   ·right;rw[e4];omega
  by_cases hio:i<o.length
  ·obtain⟨b1,b2⟩:=Ap2 ho hio
   rw[dlt hio,C6 (l:=o) hio]
   simp only[cond_true,sb]
   rw[E1 (i:=o[i]) (by omega) (by omega),E1 (i:=m[i]-c-o[i]) (by omega) (by omega)]
   by_cases hn:m[i]-c-o[i]<0
   ·rw[decide_eq_true hn]
    simp only[cond_true]
    rw[E1 (by omega) (by omega),Ap3 (by omega) (by omega)]
    exact key _ 1 o[i] (by omega) (by omega) (by omega) (by omega) (by omega) (Af9 hio)
   ·rw[decide_eq_false hn]
    simp only[cond_false]
    rw[Ap3 (by omega) (by omega)]
    exact key _ 0 o[i] (by omega) (by omega) (by omega) (by omega) (by omega) (Af9 hio)
  ·have hv:val 1000000000 (o.drop i)=0+1000000000*val 1000000000 (o.drop (i+1)):=by rw[N5 (by omega:o.length≤i),N5 (by omega:o.length≤i+1)];rfl
   rw[dge (by omega)]
   simp only[cond_false]
   by_cases hn:m[i]-c<0
   ·rw[decide_eq_true hn]
    simp only[cond_true]
    rw[E1 (by omega) (by omega),Ap3 (by omega) (by omega)]
    exact key _ 1 0 (by omega) (by omega) (by omega) (by omega) (by omega) hv
   ·rw[decide_eq_false hn]
    simp only[cond_false]
    rw[Ap3 (by omega) (by omega)]
    exact key _ 0 0 (by omega) (by omega) (by omega) (by omega) (by omega) hv
theorem Cv0{fuel:Nat}{m o:List Int}(hm:dig 1000000000 m)(ho:dig 1000000000 o)(hle:o.length≤m.length)(hb:m.length≤1073741824)(hv:val 1000000000 o≤val 1000000000 m)(hf:m.length<fuel):
 ∃t,Eo1 fuel m o=some t∧dig 1000000000 t∧t.length=m.length∧val 1000000000 t=val 1000000000 m-val 1000000000 o:=by
 unfold Eo1
 rw[List.length_map,Ek9 (by omega) (by omega)]
 simp only[sb]
 obtain⟨t,e1,e2,e3,e4⟩:=Du5 hm ho hle hb m.length 0 fuel 0 [] (by omega) hf (by omega) (by omega) rfl
 rw[List.drop_zero,List.drop_zero]at e4
 refine⟨t,e1,e2,e3,?_⟩
 rcases e4 with e4|e4
 ·omega
 ·have:=Ap0 (show(0:Int)<1000000000 by decide) e2
  rw[e3]at this
  omega
def ln(n:Int):Nat:=(dg 1000000000 (n.natAbs:Int)).length
theorem Ce8(n:Int):dig 1000000000 (dg 1000000000 (n.natAbs:Int)):=G7 hB1 _ (by omega)
theorem Cz7(n:Int):val 1000000000 (dg 1000000000 (n.natAbs:Int))=(n.natAbs:Int):=I1 hB1 _ (by omega)
theorem Cl9{a:Int}:Ec9 (W a)=some (Q8 a 0):=by
 unfold Ec9
 show(bif (((dg 1000000000 (a.natAbs:Int)).map A5).length:Int)==0 then some 0 else bif decide (a<0) then some (-1) else some 1)=_
 by_cases h:a=0
 ·subst h;rfl
 ·have:((((dg 1000000000 (a.natAbs:Int)).map A5).length:Int)==0)=false:=by
   rw[List.length_map]
   have:=Bg2 hB1 (show 0<(a.natAbs:Int) by omega)
   have:=List.length_pos_iff.2 this
   simp;omega
  rw[this]
  simp only[cond_false]
  by_cases hn:a<0
  ·rw[decide_eq_true hn,D5 hn];rfl
  ·rw[decide_eq_false hn,D7 (by omega)];rfl
theorem Fw8{fuel:Nat}{a b:Int}(ha:ln a≤1073741820)(hb:ln b≤1073741820)(hf:ln a+ln b+2<fuel):En3 fuel (W a) (W b)=some (W (a+b)):=by
 unfold ln at ha hb hf
 have va:=Cz7 a;have vb:=Cz7 b
 have da:=Ce8 a;have db:=Ce8 b
 unfold En3
 show(bif decide (a<0)==decide (b<0) then Option.bind (Fp1 fuel (dg 1000000000 (a.natAbs:Int)) (dg 1000000000 (b.natAbs:Int))) (fun y1=>Option.bind (Bf5 fuel (decide (a<0)) y1) fun y2=>some y2) else
  Option.bind (Dg8 fuel (dg 1000000000 (a.natAbs:Int)) (dg 1000000000 (b.natAbs:Int))) fun y3=>bif decide (y3<0) then Option.bind (Eo1 fuel (dg 1000000000 (b.natAbs:Int)) (dg 1000000000 (a.natAbs:Int))) (fun y4=>Option.bind (Bf5 fuel (decide (b<0)) y4) fun y5=>some y5) else
   Option.bind (Eo1 fuel (dg 1000000000 (a.natAbs:Int)) (dg 1000000000 (b.natAbs:Int))) fun y6=>Option.bind (Bf5 fuel (decide (a<0)) y6) fun y7=>some y7)=_
 by_cases hs:decide (a<0)=decide (b<0)
 ·rw[hs]
  simp only[beq_self_eq_true,cond_true]
  obtain⟨t,e1,e2,e3,e4⟩:=Fl3 da db (by omega) (by omega) (show _<fuel by omega)
  rw[e1,sb,P4 e2 (by omega) (by omega),sb,e4,va,vb]
  congr 2
  have hs:a<0↔b<0:=by simpa using hs
  unfold sg
  by_cases h:b<0
  ·rw[decide_eq_true h];simp only[cond_true];omega
  ·rw[decide_eq_false h];simp only[cond_false];omega
 ·have:(decide (a<0)==decide (b<0))=false:=by simpa using hs
  rw[this]
  have hs:¬(a<0↔b<0):=by simpa using hs
  simp only[cond_false]
  rw[Ae6 (by omega) (by omega) (by omega) (by omega) (by omega),sb]
  by_cases hc:(a.natAbs:Int)<(b.natAbs:Int)
  ·rw[D5 hc]
   simp only[show decide ((-1:Int)<0)=true from rfl,cond_true]
   have hlen:(dg 1000000000 (a.natAbs:Int)).length≤(dg 1000000000 (b.natAbs:Int)).length:=by
    rcases Nat.lt_or_ge (dg 1000000000 (b.natAbs:Int)).length (dg 1000000000 (a.natAbs:Int)).length with h|h
    ·have:=J4 hB1 (show 0≤(b.natAbs:Int) by omega) (show 0≤(a.natAbs:Int) by omega) h;omega
    ·exact h
   obtain⟨t,e1,e2,e3,e4⟩:=Cv0 db da hlen (by omega) (by rw[va,vb];omega) (show _<fuel by omega)
   rw[e1,sb,P4 e2 (by omega) (by omega),sb,e4,va,vb]
   congr 2
   unfold sg
   by_cases h:b<0
   ·rw[decide_eq_true h];simp only[cond_true];omega
   ·rw[decide_eq_false h];simp only[cond_false];omega
  ·have h0:decide (Q8 (a.natAbs:Int) (b.natAbs:Int)<0)=false:=by
    apply decide_eq_false
    unfold Q8
    rw[if_neg hc]
    split<;>omega
   rw[h0]
   simp only[cond_false]
   have hlen:(dg 1000000000 (b.natAbs:Int)).length≤(dg 1000000000 (a.natAbs:Int)).length:=by
    rcases Nat.lt_or_ge (dg 1000000000 (a.natAbs:Int)).length (dg 1000000000 (b.natAbs:Int)).length with h|h
    ·have:=J4 hB1 (show 0≤(a.natAbs:Int) by omega) (show 0≤(b.natAbs:Int) by omega) h;omega
    ·exact h
   obtain⟨t,e1,e2,e3,e4⟩:=Cv0 da db hlen (by omega) (by rw[va,vb];omega) (show _<fuel by omega)
   rw[e1,sb,P4 e2 (by omega) (by omega),sb,e4,va,vb]
   congr 2
   unfold sg
   by_cases h:a<0
   ·rw[decide_eq_true h];simp only[cond_true];omega
   ·rw[decide_eq_false h];simp only[cond_false];omega
theorem Cm3{fuel:Nat}{a b:Int}(ha:ln a≤1073741820)(hb:ln b≤1073741820)(hf:ln a+ln b<fuel):Ec1 fuel (W a) (W b)=some (Q8 a b):=by
 unfold ln at ha hb hf
 unfold Ec1
 simp only[Cl9,sb,Cr4,Gk1]
 by_cases hs:Q8 a 0=Q8 b 0
 ·rw[decide_eq_false (by simpa using hs)]
  simp only[cond_false]
  show(bif (((dg 1000000000 (a.natAbs:Int)).map A5).length:Int)==0 then some (Q8 (Q8 a 0) (Q8 b 0)) else bif decide (a<0) then Option.bind (Dg8 fuel (dg 1000000000 (b.natAbs:Int)) (dg 1000000000 (a.natAbs:Int))) (fun y4=>some y4) else Option.bind (Dg8 fuel (dg 1000000000 (a.natAbs:Int)) (dg 1000000000 (b.natAbs:Int))) fun y5=>some y5)=_
  by_cases h:a=0
  ·subst h
   rw[I4]at hs
   have:=Eq6.1 hs.symm
   subst this;rfl
  ·have hl:((((dg 1000000000 (a.natAbs:Int)).map A5).length:Int)==0)=false:=by
    rw[List.length_map]
    have:=Bg2 hB1 (show 0<(a.natAbs:Int) by omega)
    have:=List.length_pos_iff.2 this
    simp;omega
   rw[hl]
   simp only[cond_false]
   by_cases hn:a<0
   ·rw[decide_eq_true hn]
    simp only[cond_true]
    have hb':b<0:=by
     rw[D5 hn]at hs
     rcases Int.lt_trichotomy b 0 with h|h|h
     ·exact h
     ·rw[h,I4]at hs;omega
     ·rw[D7 h]at hs;omega
    rw[Ae6 (by omega) (by omega) (by omega) (by omega) (by omega),sb,show((b.natAbs:Nat):Int)= -b by omega,show((a.natAbs:Nat):Int)= -a by omega,Cr2]
   ·rw[decide_eq_false hn]
    simp only[cond_false]
    have hb':0<b:=by
     rw[D7 (by omega)]at hs
     rcases Int.lt_trichotomy b 0 with h|h|h
     ·rw[D5 h]at hs;omega
     ·rw[h,I4]at hs;omega
     ·exact h
    rw[Ae6 (by omega) (by omega) (by omega) (by omega) (by omega),sb,show((b.natAbs:Nat):Int)=b by omega,show((a.natAbs:Nat):Int)=a by omega]
 ·rw[decide_eq_true hs]
  simp only[cond_true]
  rcases Int.lt_trichotomy a 0 with h|h|h<;>rcases Int.lt_trichotomy b 0 with h'|h'|h'<;>first|(rw[D5 h,D5 h']at hs;exact absurd rfl hs)|(rw[D7 h,D7 h']at hs;exact absurd rfl hs)|(subst h;subst h';exact absurd rfl hs)|skip
  ·rw[D5 h,h',I4,D5 h];rfl
  ·rw[D5 h,D7 h',D5 (show(-1:Int)<1 by omega),D5 (show a<b by omega)];rfl
  ·rw[h,I4,D5 h',D7 h'];rfl
  ·rw[h,I4,D7 h',D5 h'];rfl
  ·rw[D7 h,D5 h',D7 (show(-1:Int)<1 by omega),D7 (show b<a by omega)];rfl
  ·rw[D7 h,h',I4,D7 h];rfl
end
section
theorem Du9{x y X Y:Int}(h0:0≤x)(h1:x<X)(h2:0≤y)(h3:y<Y):0≤x*y∧x*y≤(X-1)*(Y-1):=by
 refine⟨Int.mul_nonneg h0 h2,?_⟩
 have a:=Int.mul_le_mul_of_nonneg_right (show x≤X-1 by omega) h2
 have b:=Int.mul_le_mul_of_nonneg_left (show y≤Y-1 by omega) (show 0≤X-1 by omega)
 omega
theorem By8{x y:Int}(h0:0≤x)(h1:x<1000000000)(h2:0≤y)(h3:y<1000000000):0≤x*y∧x*y≤999999998000000001:=by
 have:=Du9 h0 h1 h2 h3;omega
theorem Cw7{m:List Int}{y:Int}(hm:dig 1000000000 m)(hb:m.length≤1073741824)(y0:0≤y)(y1:y<1000000000):∀(r i k:Nat) (c:Int) (acc:List Int),i+r=m.length→r<k→0≤c→c<1000000000→acc.length=i→
 ∃t,Y5 m y k c (i:Int) acc=some (acc++t)∧dig 1000000000 t∧t.length=r+1∧val 1000000000 t=val 1000000000 (m.drop i)*y+c
 |0,i,0,_,_,_,h,_,_,_=>absurd h (by omega)
 |r+1,i,0,_,_,_,h,_,_,_=>absurd h (by omega)
 |0,i,k+1,c,acc,hi,_,h0,h1,ha=>by
  unfold Y5
  rw[dge (by omega),N5 (by omega:m.length≤i)]
  simp only[cond_false]
  rw[Ap3 h0 (by omega),N3 _ _ (by simp;omega)]
  exact⟨[c],rfl,D9.2 ⟨⟨h0,h1⟩,I5⟩,rfl,by simp[val]⟩
 |r+1,i,k+1,c,acc,hi,hk,h0,h1,ha=>by
  unfold Y5
  obtain⟨a1,a2⟩:=Ap2 hm (show i<m.length by omega)
  obtain⟨p1,p2⟩:=By8 a1 a2 y0 y1
  rw[dlt (by omega),C6 (l:=m) (by omega),Af9 (l:=m) (by omega)]
  simp only[cond_true,sb]
  rw[N1 (i:=m[i]) (by omega) (by omega),N1 (i:=y) (by omega) (by omega),N1 (i:=m[i]*y) (by omega) (by omega),N1 (i:=m[i]*y+c) (by omega) (by omega),wi i (by omega),(tdm (show 0≤m[i]*y+c by omega)).1,(tdm (show 0≤m[i]*y+c by omega)).2,Ap3 (by omega) (by omega),N1 (by omega) (by omega),N3 _ _ (by simp;omega)]
  simp only[sb]
  obtain⟨t,e1,e2,e3,e4⟩:=Cw7 hm hb y0 y1 r (i+1) k ((m[i]*y+c)/1000000000) (acc++[(m[i]*y+c)%1000000000]) (by omega) (by omega) (by omega) (by omega) (by simp;omega)
  refine⟨(m[i]*y+c)%1000000000::t,by rw[e1];simp,D9.2 ⟨⟨by omega,by omega⟩,e2⟩,by simp;omega,?_⟩
  rw[Cb7,e4,Int.add_mul,Int.mul_assoc]
  omega
theorem Ca6{fuel:Nat}{m:List Int}{y:Int}(hm:dig 1000000000 m)(hb:m.length≤1073741824)(y0:0≤y)(y1:y<1000000000)(hf:m.length<fuel):
 ∃t,Fa6 fuel m y=some t∧dig 1000000000 t∧t.length=m.length+1∧val 1000000000 t=val 1000000000 m*y:=by
 unfold Fa6
 rw[List.length_map,E1 (by omega) (by omega),Ek9 (by omega) (by omega)]
 simp only[sb]
 obtain⟨t,e1,e2,e3,e4⟩:=Cw7 hm hb y0 y1 m.length 0 fuel 0 [] (by omega) hf (by omega) (by omega) rfl
 rw[List.drop_zero]at e4
 exact⟨t,e1,e2,e3,by omega⟩
theorem Cw8:∀(m:List Int) (y:Int) (k:Nat),Ae3 m y k=Y5 m y k
 |m,y,0=>by funext c i acc;rfl
 |m,y,k+1=>by
  funext c i acc
  unfold Ae3 Y5
  rw[Cw8 m y k]
theorem De3{fuel:Nat}{m:List Int}{y:Int}:Di8 fuel m y=Fa6 fuel m y:=by
 unfold Di8 Fa6
 rw[Cw8]
def Bg6(m:List Int):Nat→List (Int×Int)
 |0=>[]
 |i+1=>((i:Nat),m.getD i 0)::Bg6 m i
theorem Eq3{m:List Int}(hb:m.length≤2147483648):∀(i k:Nat),i≤m.length→i<k→Ai9 m k ((i:Int)-1)=some (Bg6 m i)
 |0,0,_,h=>absurd h (by omega)
 |i+1,0,_,h=>absurd h (by omega)
 |0,k+1,_,_=>by
  unfold Ai9
  rfl
 |i+1,k+1,hi,hk=>by
  unfold Ai9
  rw[show(((i+1:Nat):Int)-1)=(i:Int) by omega,decide_eq_true (show(i:Int)≥0 by omega),C6 (l:=m) (by omega),wip i (by omega)]
  simp only[cond_true,sb]
  rw[Eq3 hb i k (by omega) (by omega)]
  simp only[sb,Bg6]
  rw[List.getD_eq_getElem?_getD,List.getElem?_eq_getElem (show i<m.length by omega)];rfl
theorem Dm9{fuel:Nat}{m:List Int}(hb:m.length≤2147483648)(hf:m.length<fuel):Fp9 fuel m=some (Bg6 m m.length):=by
 unfold Fp9
 rw[List.length_map,wip _ (by omega)]
 exact Eq3 hb m.length fuel (Nat.le_refl _) hf
theorem Gc6{m:List Int}{i:Nat}(h:i<m.length):m.getD i 0=m[i]:=by
 rw[List.getD_eq_getElem?_getD,List.getElem?_eq_getElem h];rfl
theorem Fo2{l:List Int}{i:Nat}(hi:i<l.length):val 1000000000 (l.take (i+1))=val 1000000000 (l.take i)+l[i]*1000000000^i:=R1 hi
theorem Dy7{m:List Int}{y:Int}(hm:dig 1000000000 m)(hb:m.length≤1073741824)(y0:0<y)(y1:y<1000000000):∀(i:Nat) (rest:Int) (out:List Int),i≤m.length→out.length=m.length→0≤rest→rest<y→
 ∃q r,Ab5 y (Bg6 m i) rest out=some (q++out.drop i,r)∧dig 1000000000 q∧q.length=i∧0≤r∧r<y∧rest*1000000000^i+val 1000000000 (m.take i)=y*val 1000000000 q+r
 |0,rest,out,_,ho,r0,r1=>by
  unfold Bg6 Ab5
  refine⟨[],rest,by rw[Ap3 r0 (by omega)];simp,I5,rfl,r0,r1,by simp[val]⟩
 |i+1,rest,out,hi,ho,r0,r1=>by
  obtain⟨a1,a2⟩:=Ap2 hm (show i<m.length by omega)
  unfold Bg6 Ab5
  rw[Gc6 (by omega)]
  have hy:IntKind.u64.wrap y=y:=N1 (by omega) (by omega)
  have hn0:0≤rest*1000000000+m[i]:=by omega
  have hq:(rest*1000000000+m[i])/y<1000000000:=Int.ediv_lt_of_lt_mul y0 (by
   have:=Int.mul_le_mul_of_nonneg_right (show rest+1≤y by omega) (show(0:Int)≤1000000000 by decide)
   rw[Int.mul_comm 1000000000 y];omega)
  have hq0:0≤(rest*1000000000+m[i])/y:=Int.ediv_nonneg hn0 (by omega)
  have hr0:=Int.emod_nonneg (rest*1000000000+m[i]) (show y≠0 by omega)
  have hr1:=Int.emod_lt_of_pos (rest*1000000000+m[i]) y0
  have hqr:=Int.emod_add_mul_ediv (rest*1000000000+m[i]) y
  rw[hy,G2 (by simp;omega),G2 (by simp;omega)]
  dsimp only
  rw[C6 (l:=out) (by omega),sb,N1 (i:=rest*1000000000) (by omega) (by omega),N1 (i:=m[i]) (by omega) (by omega),N1 hn0 (by omega),(tdm hn0).1,(tdm hn0).2,N1 hq0 (by omega),Ap3 hq0 (by omega),sb]
  rw[show 0+Int.toNat (i:Int)=i by omega]
  obtain⟨q,r,e1,e2,e3,e4,e5,e6⟩:=Dy7 hm hb y0 y1 i ((rest*1000000000+m[i])%y) (out.set i ((rest*1000000000+m[i])/y)) (by omega) (by simpa using ho) hr0 hr1
  refine⟨q++[(rest*1000000000+m[i])/y],r,?_,Aj3.2 ⟨e2,D9.2 ⟨⟨hq0,hq⟩,I5⟩⟩,by simp;omega,e4,e5,?_⟩
  ·rw[e1,List.drop_eq_getElem_cons (show i<(out.set i ((rest*1000000000+m[i])/y)).length by simp;omega),List.drop_set_of_lt (by omega)]
   simp
  ·rw[Ak2,e3,Fo2 (by omega),Int.pow_succ]
   have hv1:val 1000000000 [(rest*1000000000+m[i])/y]=(rest*1000000000+m[i])/y:=by simp[val]
   rw[hv1]
   generalize (rest*1000000000+m[i])/y=Q at*
   generalize (rest*1000000000+m[i])%y=R at*
   generalize (1000000000:Int)^i=X at*
   grind
theorem Cw9{fuel:Nat}{m:List Int}{y:Int}(hm:dig 1000000000 m)(hb:m.length≤1073741824)(y0:0<y)(y1:y<1000000000)(hf:m.length<fuel):
 ∃q,Fp6 fuel m y=some (q,val 1000000000 m%y)∧dig 1000000000 q∧q.length=m.length∧val 1000000000 q=val 1000000000 m/y:=by
 unfold Fp6 Fp8
 rw[List.length_map,Af8 (by omega),sb,sb,Dm9 (by omega) hf,sb]
 obtain⟨q,r,e1,e2,e3,e4,e5,e6⟩:=Dy7 hm hb y0 y1 m.length 0 (List.replicate m.length 0) (Nat.le_refl _) (by simp) (by omega) y0
 rw[List.take_length,Int.zero_mul,Int.zero_add]at e6
 have h1:val 1000000000 m%y=r:=by rw[e6,Int.mul_add_emod_self_left];exact Int.emod_eq_of_lt e4 e5
 have h2:val 1000000000 m/y=val 1000000000 q:=by rw[e6,Int.mul_add_ediv_left _ _ (by omega),Int.ediv_eq_zero_of_lt e4 e5];omega
 exact⟨q,by rw[e1,h1,List.drop_of_length_le (by simp)];simp,e2,e3,h2.symm⟩
theorem Eu8{b:Int}{y:Int}{i:Nat}{rec_:Int→List Int→Option A3}(y0:0≤y)(y1:y<1000000000)(hb:ln b≤1073741820)(hi:i≤1073741820):∀(r j k:Nat) (c:Int) (out:List Int),j+r=ln b→r<k→0≤c→c<1000000000→dig 1000000000 out→(hl:i+ln b<out.length)→out[i+ln b]=0→
 ∃out',Ah0 (W b) (i:Int) y rec_ k c (j:Int) out=rec_ ((i+1:Nat):Int) out'∧dig 1000000000 out'∧out'.length=out.length∧out'.drop (i+ln b+1)=out.drop (i+ln b+1)∧val 1000000000 out'=val 1000000000 out+(y*val 1000000000 ((dg 1000000000 (b.natAbs:Int)).drop j)+c)*1000000000^(i+j)
 |0,j,0,_,_,_,h,_,_,_,_,_=>absurd h (by omega)
 |r+1,j,0,_,_,_,h,_,_,_,_,_=>absurd h (by omega)
 |0,j,k+1,c,out,hj,_,c0,c1,hd,hl,hz=>by
  unfold Ah0
  have hlen:(W b).mag.length=ln b:=rfl
  rw[dge (by omega)]
  simp only[cond_false]
  rw[List.length_map,hlen,E1 (i:=(i:Int)+(ln b:Int)) (by omega) (by omega),show(i:Int)+(ln b:Int)=((i+ln b:Nat):Int) by omega,C6 hl,wi i (by omega),Ap3 c0 (by omega)]
  simp only[sb]
  rw[show 0+Int.toNat ((i+ln b:Nat):Int)=i+ln b by omega]
  refine⟨_,rfl,Aj4 hd _ ⟨c0,c1⟩,by simp,by rw[List.drop_set_of_lt (by omega)],?_⟩
  rw[Ak3 _ _ hl,hz,N5 (show(dg 1000000000 (b.natAbs:Int)).length≤j by show ln b≤j;omega),show i+j=i+ln b by omega]
  simp
 |r+1,j,k+1,c,out,hj,hk,c0,c1,hd,hl,hz=>by
  have hlen:(W b).mag.length=ln b:=rfl
  have hjl:j<(dg 1000000000 (b.natAbs:Int)).length:=by show j<ln b;omega
  unfold Ah0
  have hg:C4 (W b).mag (j:Int)=some (dg 1000000000 (b.natAbs:Int))[j]:=C6 hjl
  rw[dlt (by omega),hg]
  obtain⟨a1,a2⟩:=Ap2 (Ce8 b) hjl
  rw[Af9 hjl]
  generalize hxx:(dg 1000000000 (b.natAbs:Int))[j]=x at*
  obtain⟨p1,p2⟩:=By8 y0 y1 a1 a2
  obtain⟨o1,o2⟩:=Ap2 hd (show i+j<out.length by omega)
  simp only[cond_true,sb]
  rw[E1 (i:=(i:Int)+(j:Int)) (by omega) (by omega),show(i:Int)+(j:Int)=((i+j:Nat):Int) by omega,C6 (l:=out) (by omega)]
  simp only[sb]
  rw[show 0+Int.toNat ((i+j:Nat):Int)=i+j by omega,N1 (i:=y) (by omega) (by omega),N1 (i:=x) (by omega) (by omega),N1 (i:=y*x) (by omega) (by omega),N1 (i:=out[i+j]) (by omega) (by omega),N1 (i:=y*x+out[i+j]) (by omega) (by omega),N1 (i:=y*x+out[i+j]+c) (by omega) (by omega),(tdm (show 0≤y*x+out[i+j]+c by omega)).1,(tdm (show 0≤y*x+out[i+j]+c by omega)).2,Ap3 (by omega) (by omega),N1 (by omega) (by omega),wi j (by omega)]
  obtain⟨out',e1,e2,e3,e4,e5⟩:=Eu8 (rec_:=rec_) y0 y1 hb hi r (j+1) k ((y*x+out[i+j]+c)/1000000000) (out.set (i+j) ((y*x+out[i+j]+c)%1000000000)) (by omega) (by omega) (by omega) (by omega) (Aj4 hd _ ⟨by omega,by omega⟩) (by simpa using hl) (by rw[List.getElem_set_ne (by omega)];exact hz)
  refine⟨out',e1,e2,by simpa using e3,by rw[e4,List.drop_set_of_lt (by omega)],?_⟩
  rw[e5,Ak3 _ _ (by omega),show i+(j+1)=i+j+1 by omega,Int.pow_succ]
  have hqr:=Int.emod_add_mul_ediv (y*x+out[i+j]+c) 1000000000
  generalize (y*x+out[i+j]+c)/1000000000=Q at*
  generalize (y*x+out[i+j]+c)%1000000000=R at*
  generalize (1000000000:Int)^(i+j)=X at*
  grind
theorem Eu7{fuel:Nat}{a b:Int}(ha:ln a≤1073741820)(hb:ln b≤1073741820)(hab:ln a+ln b≤1073741820)(hf:ln a+ln b+1<fuel):∀(r i k:Nat) (out:List Int),i+r=ln a→r<k→dig 1000000000 out→out.length=ln a+ln b→out.drop (i+ln b)=List.replicate r 0→
 val 1000000000 out=val 1000000000 ((dg 1000000000 (a.natAbs:Int)).take i)*(b.natAbs:Int)→X7 fuel (W a) (W b) k (i:Int) out=some (W (a*b))
 |0,i,0,_,_,h,_,_,_,_=>absurd h (by omega)
 |r+1,i,0,_,_,h,_,_,_,_=>absurd h (by omega)
 |0,i,k+1,out,hi,_,hd,hl,hz,hv=>by
  have hlen:(W a).mag.length=ln a:=rfl
  unfold X7
  rw[dge (by omega)]
  simp only[cond_false]
  rw[List.take_of_length_le (show(dg 1000000000 (a.natAbs:Int)).length≤i by show ln a≤i;omega),Cz7]at hv
  rw[P4 hd (by omega) (by omega),sb,hv]
  congr 2
  show sg (!(decide (a<0)==decide (b<0))) _=_
  have hn:(a.natAbs:Int)*(b.natAbs:Int)=((a*b).natAbs:Int):=by rw[Int.natAbs_mul];simp
  rw[hn]
  unfold sg
  by_cases h1:a<0<;>by_cases h2:b<0
  ·have:=Int.mul_pos_of_neg_of_neg h1 h2
   simp[h1,h2];omega
  ·have:=Int.mul_nonpos_of_nonpos_of_nonneg (show a≤0 by omega) (show 0≤b by omega)
   simp[h1,h2];omega
  ·have:=Int.mul_nonpos_of_nonneg_of_nonpos (show 0≤a by omega) (show b≤0 by omega)
   simp[h1,h2];omega
  ·have:=Int.mul_nonneg (show 0≤a by omega) (show 0≤b by omega)
   simp[h1,h2];omega
 |r+1,i,k+1,out,hi,hk,hd,hl,hz,hv=>by
  have hlen:(W a).mag.length=ln a:=rfl
  have hil:i<(dg 1000000000 (a.natAbs:Int)).length:=by show i<ln a;omega
  unfold X7
  have hg:C4 (W a).mag (i:Int)=some (dg 1000000000 (a.natAbs:Int))[i]:=C6 hil
  rw[dlt (by omega),hg]
  obtain⟨a1,a2⟩:=Ap2 (Ce8 a) hil
  simp only[cond_true,sb]
  have hz0:out[i+ln b]'(by omega)=0:=by
   have:=congrArg (fun l=>l[0]?) hz
   simp only[List.getElem?_drop,Nat.add_zero]at this
   rw[List.getElem?_eq_getElem (by omega),List.getElem?_replicate,if_pos (by omega)]at this
   exact Option.some.inj this
  obtain⟨out',e1,e2,e3,e4,e5⟩:=Eu8 (rec_:=X7 fuel (W a) (W b) k) a1 a2 hb (by omega:i≤1073741820) (ln b) 0 fuel 0 out (by omega) (by omega) (by omega) (by omega) hd (by omega) hz0
  rw[show((0:Nat):Int)=(0:Int) from rfl]at e1
  rw[e1]
  refine Eu7 ha hb hab hf r (i+1) k out' (by omega) (by omega) e2 (by omega) ?_ ?_
  ·rw[show i+1+ln b=i+ln b+1 by omega,e4,←List.drop_drop (i:=1),hz]
   simp
  ·rw[e5,hv,Fo2 hil,List.drop_zero,Cz7,Nat.add_zero,Int.add_zero]
   generalize (1000000000:Int)^i=X at*
   grind
theorem Bc9{fuel:Nat}{a b:Int}(hab:ln a+ln b≤1073741820)(hf:ln a+ln b+1<fuel):Br6 fuel (W a) (W b)=some (W (a*b)):=by
 have h1:(W a).mag.length=ln a:=rfl
 have h2:(W b).mag.length=ln b:=rfl
 unfold Br6
 rw[List.length_map,List.length_map,h1,h2,E1 (by omega) (by omega),show(ln a:Int)+(ln b:Int)=((ln a+ln b:Nat):Int) by omega,Af8 (by omega),sb]
 exact Eu7 (by omega) (by omega) hab hf (ln a) 0 fuel _ (by omega) (by omega) (Al6 (by decide) _) (by simp) (by rw[List.drop_replicate];congr 1;omega) (by rw[Ap1];simp[val])
end
section
theorem Bx3{l:List Int}{p i:Nat}(h:p+i<l.length):C4 (l.drop p) (i:Int)=some l[p+i]:=by
 rw[M4,List.getElem?_drop,List.getElem?_eq_getElem h]
theorem Eu5{p:Nat}{o:List Int}{t:Int}(ho:dig 1000000000 o)(t0:0≤t)(t1:t<1000000000)(hb:o.length≤1073741824):∀(r i k:Nat) (c bo:Int) (l:List Int),i+r=o.length+1→r<k→0≤c→c<1000000000→(r=0→c=0)→(bo=0∨bo=1)→dig 1000000000 l→p+o.length<l.length→
 ∃l' bo',N9 p o t k c bo (i:Int) l=some (decide (bo'>0),l')∧dig 1000000000 l'∧l'.length=l.length∧l'.take p=l.take p∧l'.drop (p+o.length+1)=l.drop (p+o.length+1)∧(bo'=0∨bo'=1)∧val 1000000000 l'=val 1000000000 l-(t*val 1000000000 (o.drop i)+c+bo)*1000000000^(p+i)+bo'*1000000000^(p+o.length+1)
 |0,i,0,_,_,_,_,h,_,_,_,_,_,_=>absurd h (by omega)
 |r+1,i,0,_,_,_,_,h,_,_,_,_,_,_=>absurd h (by omega)
 |0,i,k+1,c,bo,l,hi,_,c0,c1,hc,hbo,hd,hl=>by
  unfold N9
  rw[List.length_map,E1 (i:=(o.length:Int)+1) (by omega) (by omega),decide_eq_false (by omega)]
  simp only[cond_false]
  refine⟨l,bo,rfl,hd,rfl,rfl,rfl,hbo,?_⟩
  rw[N5 (by omega:o.length≤i),hc rfl,show p+i=p+o.length+1 by omega]
  simp
 |r+1,i,k+1,c,bo,l,hi,hk,c0,c1,hc,hbo,hd,hl=>by
  have hb0:0≤bo∧bo≤1:=by omega
  obtain⟨x0,x1⟩:=Ap2 hd (show p+i<l.length by omega)
  have hset:∀z:Int,(l.set (0+p+i) z)=l.set (p+i) z:=fun z=>by rw[Nat.zero_add]
  --one step:the Gm0 y of the product,the next carry
  have step:∀(N Y c':Int),0≤N→N/1000000000<1000000000→(r=0→N/1000000000=0)→c'=N/1000000000→t*val 1000000000 (o.drop i)+c=N+1000000000*(t*val 1000000000 (o.drop (i+1)))→Y=N%1000000000→
   ∃l' bo',(bif decide (l[p+i]-Y-bo<0) then Option.bind (some (l.set (p+i) (l[p+i]-Y-bo+1000000000))) (fun l11=>N9 p o t k c' 1 ((i+1:Nat):Int) l11) else Option.bind (some (l.set (p+i) (l[p+i]-Y-bo))) (fun l12=>N9 p o t k c' 0 ((i+1:Nat):Int) l12))=some (decide (bo'>0),l')∧dig 1000000000 l'∧l'.length=l.length∧l'.take p=l.take p∧l'.drop (p+o.length+1)=l.drop (p+o.length+1)∧(bo'=0∨bo'=1)∧val 1000000000 l'=val 1000000000 l-(t*val 1000000000 (o.drop i)+c+bo)*1000000000^(p+i)+bo'*1000000000^(p+o.length+1):=by
   intro N Y c' hN hN1 hN2 hc' hv hY
   have hq:=Int.emod_add_mul_ediv N 1000000000
   have hY0:0≤Y:=by omega
   have hY1:Y<1000000000:=by omega
   have fin:∀(z b1:Int),0≤z→z<1000000000→(b1=0∨b1=1)→z=l[p+i]-Y-bo+1000000000*b1→∃l' bo',Option.bind (some (l.set (p+i) z)) (fun l11=>N9 p o t k c' b1 ((i+1:Nat):Int) l11)=some (decide (bo'>0),l')∧dig 1000000000 l'∧l'.length=l.length∧l'.take p=l.take p∧l'.drop (p+o.length+1)=l.drop (p+o.length+1)∧(bo'=0∨bo'=1)∧val 1000000000 l'=val 1000000000 l-(t*val 1000000000 (o.drop i)+c+bo)*1000000000^(p+i)+bo'*1000000000^(p+o.length+1):=by
    intro z b1 z0 z1 hb1 hz
    obtain⟨l',bo',e1,e2,e3,e4,e5,e6,e7⟩:=Eu5 ho t0 t1 hb r (i+1) k c' b1 (l.set (p+i) z) (by omega) (by omega) (by omega) (by omega) (fun h=>by rw[hc'];exact hN2 h) hb1 (Aj4 hd _ ⟨z0,z1⟩) (by simpa using hl)
    refine⟨l',bo',e1,e2,by simpa using e3,by rw[e4,List.take_set_of_le (by omega)],by rw[e5,List.drop_set_of_lt (by omega)],e6,?_⟩
    rw[e7,Ak3 _ _ (by omega),show p+(i+1)=p+i+1 by omega,Int.pow_succ,hv,hz,hc',hY]
    generalize N/1000000000=Q at*
    generalize N%1000000000=R at*
    generalize (1000000000:Int)^(p+i)=X at*
    generalize bo'*1000000000^(p+o.length+1)=Z at*
    grind
   by_cases hn:l[p+i]-Y-bo<0
   ·rw[decide_eq_true hn]
    exact fin _ 1 (by omega) (by omega) (.inr rfl) (by omega)
   ·rw[decide_eq_false hn]
    exact fin _ 0 (by omega) (by omega) (.inl rfl) (by omega)
  unfold N9
  rw[List.length_map,E1 (i:=(o.length:Int)+1) (by omega) (by omega),decide_eq_true (by omega)]
  simp only[cond_true]
  rw[Bx3 (by omega),wi i (by omega)]
  simp only[sb]
  rw[show p+Int.toNat (i:Int)=p+i by omega,E1 (i:=l[p+i]) (by omega) (by omega)]
  by_cases hio:i<o.length
  ·obtain⟨y0,y1⟩:=Ap2 ho hio
   obtain⟨p1,p2⟩:=By8 t0 t1 y0 y1
   rw[decide_eq_true (by omega),C6 hio]
   simp only[cond_true,sb]
   rw[N1 (i:=o[i]) (by omega) (by omega),N1 (i:=t*o[i]) (by omega) (by omega),N1 (i:=c+t*o[i]) (by omega) (by omega),(tdm (show 0≤c+t*o[i] by omega)).1,(tdm (show 0≤c+t*o[i] by omega)).2,N1 (i:=(c+t*o[i])/1000000000) (by omega) (by omega),E1 (i:=(c+t*o[i])%1000000000) (by omega) (by omega),E1 (i:=l[p+i]-(c+t*o[i])%1000000000) (by omega) (by omega),E1 (i:=l[p+i]-(c+t*o[i])%1000000000-bo) (by omega) (by omega)]
   have hx:∀z:Int,-9223372036854775808≤z→z<9223372036854775808→IntKind.i64.wrap z=z:=fun z h h'=>E1 h h'
   have hstep:=step (c+t*o[i]) _ _ (by omega) (by omega) (fun h=>by omega) rfl (by rw[Af9 hio,Int.mul_add];grind) rfl
   by_cases hn:l[p+i]-(c+t*o[i])%1000000000-bo<0
   ·rw[decide_eq_true hn]at hstep⊢
    simp only[cond_true]at hstep⊢
    rw[E1 (by omega) (by omega),Ap3 (by omega) (by omega)]
    exact hstep
   ·rw[decide_eq_false hn]at hstep⊢
    simp only[cond_false]at hstep⊢
    rw[Ap3 (by omega) (by omega)]
    exact hstep
  ·rw[decide_eq_false (by omega)]
   simp only[cond_false]
   rw[(tdm c0).1,(tdm c0).2,N1 (i:=c/1000000000) (by omega) (by omega),E1 (i:=c%1000000000) (by omega) (by omega),E1 (i:=l[p+i]-c%1000000000) (by omega) (by omega),E1 (i:=l[p+i]-c%1000000000-bo) (by omega) (by omega)]
   have hstep:=step c _ _ (by omega) (by omega) (fun h=>by omega) rfl (by rw[N5 (by omega:o.length≤i),N5 (by omega:o.length≤i+1)];omega) rfl
   by_cases hn:l[p+i]-c%1000000000-bo<0
   ·rw[decide_eq_true hn]at hstep⊢
    simp only[cond_true]at hstep⊢
    rw[E1 (by omega) (by omega),Ap3 (by omega) (by omega)]
    exact hstep
   ·rw[decide_eq_false hn]at hstep⊢
    simp only[cond_false]at hstep⊢
    rw[Ap3 (by omega) (by omega)]
    exact hstep
theorem Et0{p:Nat}{o:List Int}(ho:dig 1000000000 o)(hb:o.length≤1073741824):∀(r i k:Nat) (c:Int) (l:List Int),i+r=o.length+1→r<k→(c=0∨c=1)→dig 1000000000 l→p+o.length<l.length→
 ∃l' c',Y6 p o k c (i:Int) l=some l'∧dig 1000000000 l'∧l'.length=l.length∧l'.take p=l.take p∧l'.drop (p+o.length+1)=l.drop (p+o.length+1)∧(c'=0∨c'=1)∧val 1000000000 l'=val 1000000000 l+(val 1000000000 (o.drop i)+c)*1000000000^(p+i)-c'*1000000000^(p+o.length+1)
 |0,i,0,_,_,_,h,_,_,_=>absurd h (by omega)
 |r+1,i,0,_,_,_,h,_,_,_=>absurd h (by omega)
 |0,i,k+1,c,l,hi,_,hc,hd,hl=>by
  unfold Y6
  rw[List.length_map,E1 (i:=(o.length:Int)+1) (by omega) (by omega),decide_eq_false (by omega)]
  simp only[cond_false]
  refine⟨l,c,rfl,hd,rfl,rfl,rfl,hc,?_⟩
  rw[N5 (by omega:o.length≤i),show p+i=p+o.length+1 by omega,Int.zero_add]
  omega
 |r+1,i,k+1,c,l,hi,hk,hc,hd,hl=>by
  obtain⟨x0,x1⟩:=Ap2 hd (show p+i<l.length by omega)
  have step:∀(y:Int),0≤y→y<1000000000→val 1000000000 (o.drop i)=y+1000000000*val 1000000000 (o.drop (i+1))→
   ∃l' c',Y6 p o k ((l[p+i]+c+y)/1000000000) ((i+1:Nat):Int) (l.set (p+i) ((l[p+i]+c+y)%1000000000))=some l'∧dig 1000000000 l'∧l'.length=l.length∧l'.take p=l.take p∧l'.drop (p+o.length+1)=l.drop (p+o.length+1)∧(c'=0∨c'=1)∧val 1000000000 l'=val 1000000000 l+(val 1000000000 (o.drop i)+c)*1000000000^(p+i)-c'*1000000000^(p+o.length+1):=by
   intro y y0 y1 hv
   obtain⟨l',c',e1,e2,e3,e4,e5,e6,e7⟩:=Et0 ho hb r (i+1) k ((l[p+i]+c+y)/1000000000) (l.set (p+i) ((l[p+i]+c+y)%1000000000)) (by omega) (by omega) (by omega) (Aj4 hd _ ⟨by omega,by omega⟩) (by simpa using hl)
   refine⟨l',c',e1,e2,by simpa using e3,by rw[e4,List.take_set_of_le (by omega)],by rw[e5,List.drop_set_of_lt (by omega)],e6,?_⟩
   have hq:=Int.emod_add_mul_ediv (l[p+i]+c+y) 1000000000
   rw[e7,Ak3 _ _ (by omega),show p+(i+1)=p+i+1 by omega,Int.pow_succ,hv]
   generalize (l[p+i]+c+y)/1000000000=Q at*
   generalize (l[p+i]+c+y)%1000000000=R at*
   generalize (1000000000:Int)^(p+i)=X at*
   generalize c'*1000000000^(p+o.length+1)=Z at*
   grind
  unfold Y6
  rw[List.length_map,E1 (i:=(o.length:Int)+1) (by omega) (by omega),decide_eq_true (by omega)]
  simp only[cond_true]
  rw[Bx3 (by omega),wi i (by omega)]
  simp only[sb]
  rw[show p+Int.toNat (i:Int)=p+i by omega,Ap3 (i:=l[p+i]+c) (by omega) (by omega)]
  by_cases hio:i<o.length
  ·obtain⟨y0,y1⟩:=Ap2 ho hio
   rw[decide_eq_true (by omega),C6 hio]
   simp only[cond_true,sb]
   rw[Ap3 (i:=l[p+i]+c+o[i]) (by omega) (by omega),(tdm (show 0≤l[p+i]+c+o[i] by omega)).1,(tdm (show 0≤l[p+i]+c+o[i] by omega)).2,Ap3 (by omega) (by omega)]
   exact step _ y0 y1 (Af9 hio)
  ·rw[decide_eq_false (by omega)]
   simp only[cond_false]
   rw[(tdm (show 0≤l[p+i]+c by omega)).1,(tdm (show 0≤l[p+i]+c by omega)).2,Ap3 (by omega) (by omega)]
   have:=step 0 (by omega) (by omega) (by rw[N5 (by omega:o.length≤i),N5 (by omega:o.length≤i+1)];rfl)
   rw[Int.add_zero]at this
   exact this
theorem Fj7{fuel p:Nat}{o l:List Int}{t:Int}(ho:dig 1000000000 o)(t0:0≤t)(t1:t<1000000000)(hb:o.length≤1073741824)(hd:dig 1000000000 l)(hl:p+o.length<l.length)(hf:o.length+1<fuel):
 ∃l' bo',Fp7 fuel p o t l=some (decide (bo'>0),l')∧dig 1000000000 l'∧l'.length=l.length∧l'.take p=l.take p∧l'.drop (p+o.length+1)=l.drop (p+o.length+1)∧(bo'=0∨bo'=1)∧val 1000000000 l'=val 1000000000 l-t*val 1000000000 o*1000000000^p+bo'*1000000000^(p+o.length+1):=by
 have:=Eu5 ho t0 t1 hb (o.length+1) 0 fuel 0 0 l (by omega) hf (by omega) (by omega) (fun _=>rfl) (.inl rfl) hd hl
 rw[List.drop_zero]at this
 unfold Fp7
 simpa using this
theorem Fi7{fuel p:Nat}{o l:List Int}(ho:dig 1000000000 o)(hb:o.length≤1073741824)(hd:dig 1000000000 l)(hl:p+o.length<l.length)(hf:o.length+1<fuel):
 ∃l' c',Ft3 fuel p o l=some l'∧dig 1000000000 l'∧l'.length=l.length∧l'.take p=l.take p∧l'.drop (p+o.length+1)=l.drop (p+o.length+1)∧(c'=0∨c'=1)∧val 1000000000 l'=val 1000000000 l+val 1000000000 o*1000000000^p-c'*1000000000^(p+o.length+1):=by
 have:=Et0 ho hb (o.length+1) 0 fuel 0 l (by omega) hf (.inl rfl) hd hl
 rw[List.drop_zero]at this
 unfold Ft3
 simpa using this
end
end Go.Proofs.YtfgbhfphjmmiaaaGreatDoor
end
