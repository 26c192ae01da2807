/- One part of the texts that lead to the theorem; it claims nothing by itself. -/
import Derived.Test.YtfgbhfphjmmiaaaGreatDoorFod
section
set_option linter.unusedVariables false
set_option maxRecDepth 100000
namespace Go.Proofs.YtfgbhfphjmmiaaaGreatDoor
open Go Go.RowKit Kx
theorem en37:entersT Tryz.prog 37:=Kx.enters_of Tryz.func37 (by kernel_rfl) (by kernel_rfl)
theorem en60:entersT Tryz.prog 60:=Kx.enters_of Tryz.func60 (by kernel_rfl) (by kernel_rfl)
theorem en39:entersT Tryz.prog 39:=Kx.enters_of Tryz.func39 (by kernel_rfl) (by kernel_rfl)
theorem en61:entersT Tryz.prog 61:=Kx.enters_of Tryz.func61 (by kernel_rfl) (by kernel_rfl)
theorem en191:entersT Tryz.prog 191:=Kx.enters_of Tryz.func191 (by kernel_rfl) (by kernel_rfl)
theorem en251:entersT Tryz.prog 251:=Kx.enters_of Tryz.func251 (by kernel_rfl) (by kernel_rfl)
theorem en252:entersT Tryz.prog 252:=Kx.enters_of Tryz.func252 (by kernel_rfl) (by kernel_rfl)
theorem en209:entersT Tryz.prog 209:=Kx.enters_of Tryz.func209 (by kernel_rfl) (by kernel_rfl)
theorem en190:entersT Tryz.prog 190:=Kx.enters_of Tryz.func190 (by kernel_rfl) (by kernel_rfl)
theorem en156:entersT Tryz.prog 156:=Kx.enters_of Tryz.func156 (by kernel_rfl) (by kernel_rfl)
theorem en173:entersT Tryz.prog 173:=Kx.enters_of Tryz.func173 (by kernel_rfl) (by kernel_rfl)
theorem en211:entersT Tryz.prog 211:=Kx.enters_of Tryz.func211 (by kernel_rfl) (by kernel_rfl)
theorem en249:entersT Tryz.prog 249:=Kx.enters_of Tryz.func249 (by kernel_rfl) (by kernel_rfl)
theorem en210:entersT Tryz.prog 210:=Kx.enters_of Tryz.func210 (by kernel_rfl) (by kernel_rfl)
theorem en174:entersT Tryz.prog 174:=Kx.enters_of Tryz.func174 (by kernel_rfl) (by kernel_rfl)
theorem en196:entersT Tryz.prog 196:=Kx.enters_of Tryz.func196 (by kernel_rfl) (by kernel_rfl)
theorem en213:entersT Tryz.prog 213:=Kx.enters_of Tryz.func213 (by kernel_rfl) (by kernel_rfl)
theorem en250:entersT Tryz.prog 250:=Kx.enters_of Tryz.func250 (by kernel_rfl) (by kernel_rfl)
theorem en212:entersT Tryz.prog 212:=Kx.enters_of Tryz.func212 (by kernel_rfl) (by kernel_rfl)
theorem en240:entersT Tryz.prog 240:=Kx.enters_of Tryz.func240 (by kernel_rfl) (by kernel_rfl)
theorem en175:entersT Tryz.prog 175:=Kx.enters_of Tryz.func175 (by kernel_rfl) (by kernel_rfl)
theorem en214:entersT Tryz.prog 214:=Kx.enters_of Tryz.func214 (by kernel_rfl) (by kernel_rfl)
theorem en253:entersT Tryz.prog 253:=Kx.enters_of Tryz.func253 (by kernel_rfl) (by kernel_rfl)
theorem en215:entersT Tryz.prog 215:=Kx.enters_of Tryz.func215 (by kernel_rfl) (by kernel_rfl)
theorem en176:entersT Tryz.prog 176:=Kx.enters_of Tryz.func176 (by kernel_rfl) (by kernel_rfl)
theorem en216:entersT Tryz.prog 216:=Kx.enters_of Tryz.func216 (by kernel_rfl) (by kernel_rfl)
theorem en177:entersT Tryz.prog 177:=Kx.enters_of Tryz.func177 (by kernel_rfl) (by kernel_rfl)
theorem en132:entersT Tryz.prog 132:=Kx.enters_of Tryz.func132 (by kernel_rfl) (by kernel_rfl)
def F147_L1(d0:List UInt8):Nat→Int→Option Bool
 |0,_=>none
 |n_F147_L1+1,v2=>
  bif decide (v2<(d0.length:Int)) then
   (Option.bind (
    Option.bind (geti d0 v2) fun y17=>
    bif decide ((y17.toNat:Int)<97) then
     (some true)
    else
     (Option.bind (geti d0 v2) fun y18=>
     some (decide ((y18.toNat:Int)>122)))) fun o3=>
   bif o3 then
    (some false)
   else
    ((F147_L1 d0 n_F147_L1) (IntKind.i64.wrap (v2+1))))
  else
   (some (decide ((d0.length:Int)≤8)))
def F147(fuel:Nat)(d0:List UInt8):Option Bool:=
 F147_L1 d0 fuel 0
noncomputable abbrev b147:=bodyOf Tryz.f147
abbrev G147(r:Bool):=J none Tryz.prog 23 [] (finF Tryz.prog Tryz.f147 (.b r))
theorem F147_ok{fuel:Nat}{d0:List UInt8}{r:Bool}(hF:F147 fuel d0=some r):
 CallF Tryz.prog 147 [.s d0] (.b r):=by
 unfold F147 at hF
 refine cf 23 Tryz.func147 ?_
 have hF147_L1:∀(n_F147_L1:Nat) (v2:Int),F147_L1 d0 n_F147_L1 v2=some r→G147 r ⟨mkT [(0,.s d0),(3,.i v2)],[],[kL b147 [1,0,1,0,0],.inBlock 0,kC b147 [1,1]]⟩:=by
  clear hF;intro n_F147_L1
  induction n_F147_L1 with
  |zero=>intro v2 hF;cases hF
  |succ n_F147_L1 ih_F147_L1=>
   intro v2 hF
   rw[F147_L1]at hF
   refine ji 9 7 hF (fun hb11 hF=> ?_) (fun hb11 hF=> ?_)
   ·
    obtain⟨o3,hO,hF⟩:=bnd hF
    have hR3:G147 r ⟨mkT [(0,.s d0),(3,.i v2),(19,.b o3)],[],[kO b147 [1,0,1,0,0,1,0,0,0],kC b147 [1,0,1,0,0,1,0,0,1],.inBlock 1,kC b147 [1,0,1,0,0,1,1],kL b147 [1,0,1,0,0],.inBlock 0,kC b147 [1,1]]⟩:=by
     clear hO
     refine ji 1 19 hF (fun hb14 hF=> ?_) (fun hb14 hF=> ?_)
     ·
      have hF:=oi hF;subst hF
      exact jr 5
     ·
      exact ja 8 (ih_F147_L1 _ hF)
    clear hF;rename _=some o3=>hF
    obtain⟨y17,e17,hF⟩:=bnd hF
    refine J_adv 8 (J_opt1 (o:=(match geti d0 v2 with|some c=>some [.int .u8 c.toNat]|none=>none)) [.int .u8 y17.toNat] (by kernel_rfl) (by rw[e17]) ?_)
    refine ji 2 14 hF (fun hb15 hF=> ?_) (fun hb15 hF=> ?_)
    ·
     have hF:=oi hF;subst hF
     exact ja 5 hR3
    ·
     obtain⟨y18,e18,hF⟩:=bnd hF
     refine J_adv 2 (J_opt1 (o:=(match geti d0 v2 with|some c=>some [.int .u8 c.toNat]|none=>none)) [.int .u8 y18.toNat] (by kernel_rfl) (by rw[e18]) ?_)
     have hF:=oi hF;subst hF
     exact ja 2 hR3
   ·
    have hF:=oi hF;subst hF
    exact jr 9
 exact ja 11 (hF147_L1 _ _ hF)
structure T_api_Branch where
 To:Int
 P:List UInt8
 deriving DecidableEq
structure T_api_Choice where
 Act:List UInt8
 Gain:List UInt8
 Next:List T_api_Branch
 deriving DecidableEq
def e_T_api_Branch(x:T_api_Branch):List Dat:=[.int .i64 x.To,.str x.P]
structure T_api_Model where
 Owner:List Int
 Choices:List (List T_api_Choice)
 deriving DecidableEq
def e_T_api_Choice(x:T_api_Choice):List Dat:=[.str x.Act,.str x.Gain,.sl 2 (x.Next.map e_T_api_Branch)]
def e_lT_api_Choice(x:List T_api_Choice):List Dat:=[.sl 3 (x.map e_T_api_Choice)]
def F109_L2(v7:Int)(v8:Int)(y9:Int×Bool)(rec_F109_L1:Int→Int→Option Int):Nat→Int→Option Int
 |0,_=>none
 |n_F109_L2+1,v10=>
  ass (decide (y9.1≠0))<|
  bif (Int.tmod v10 y9.1) !=0 then
   ((F109_L2 v7 v8 y9 rec_F109_L1 n_F109_L2) (IntKind.i64.wrap (v10+v7)))
  else
   (bif decide (v10>9999) then
    (some 0)
   else
    (rec_F109_L1 v10 (IntKind.i64.wrap (v8+1))))
def F109_L1(fuel:Nat)(d1:List (List UInt8)):Nat→Int→Int→Option Int
 |0,_,_=>none
 |n_F109_L1+1,v7,v8=>
  Option.bind (
   bif decide (v8<((d1.map e_s).length:Int)) then
    (some (decide (v7>0)))
   else
    (some false)) fun o5=>
  bif o5 then
   (Option.bind (geti d1 v8) fun y7=>
   Option.bind (F71 fuel y7) fun y8=>
   Option.bind (F149 fuel y8.2) fun y9=>
   Option.bind (
    bif !y9.2 then
     (some true)
    else
     (some (decide (y9.1>9999)))) fun o6=>
   bif o6 then
    (some 0)
   else
    (F109_L2 v7 v8 y9 (F109_L1 fuel d1 n_F109_L1) fuel v7))
  else
   (some v7)
structure A_a3u8 where
 a0:Int
 a1:Int
 a2:Int
 deriving DecidableEq
structure A_a2u8 where
 a0:Int
 a1:Int
 deriving DecidableEq
structure T_croupierref11_Pick where
 State:Int
 Act:Int
 Gain:Int
 To:A_a3u8
 Part:A_a2u8
 deriving DecidableEq
structure T_croupierref11_Draft where
 States:Int
 Owners:Int
 Grain:Int
 Cents:Int
 Picks:List T_croupierref11_Pick
 deriving DecidableEq
def e_T_croupierref11_Pick(x:T_croupierref11_Pick):List Dat:=[.int .u8 x.State,.int .u8 x.Act,.int .u8 x.Gain,.int .u8 x.To.a0,.int .u8 x.To.a1,.int .u8 x.To.a2,.int .u8 x.Part.a0,.int .u8 x.Part.a1]
def F60(d0:T_croupierref11_Draft):Option Int:=
 some (IntKind.i64.wrap (1+(IntKind.i64.wrap (Int.tmod d0.States 5))))
theorem F60_ok{d0:T_croupierref11_Draft}{r:Int}(hF:F60 d0=some r):
 CallF Tryz.prog 60 [.agg [.y d0.States,.y d0.Owners,.y d0.Grain,.y d0.Cents,.l 8 d0.Picks e_T_croupierref11_Pick]] (.i r):=by
 unfold F60 at hF
 refine cf 8 Tryz.func60 ?_
 have hF:=oi hF;subst hF
 exact jr 14
def F61_A2(v2:Int)(rec_F61_L1:Int→(List T_api_Branch)→Option T_api_Choice)(l14:List T_api_Branch):Option T_api_Choice:=
 rec_F61_L1 (IntKind.i64.wrap (v2+1)) l14
def F61_L1(fuel:Nat)(l4:List Int)(y1:Int)(y2:Int)(y9:List UInt8)(y11:List UInt8):Nat→Int→(List T_api_Branch)→Option T_api_Choice
 |0,_,_=>none
 |n_F61_L1+1,v2,l12=>
  bif decide (v2<y1) then
   (Option.bind (geti l4 v2) fun y27=>
   bif decide (y27>0) then
    (Option.bind (geti l4 v2) fun y28=>
    Option.bind (F39 fuel y28 y2) fun y29=>
    Option.bind (app l12 [(⟨v2,y29⟩:T_api_Branch)]) fun l15=>
    F61_A2 v2 (F61_L1 fuel l4 y1 y2 y9 y11 n_F61_L1) l15)
   else
    (F61_A2 v2 (F61_L1 fuel l4 y1 y2 y9 y11 n_F61_L1) l12))
  else
   (some (⟨y9,y11,l12⟩:T_api_Choice))
def F61(fuel:Nat)(d0:T_croupierref11_Draft)(d1:T_croupierref11_Pick):Option T_api_Choice:=
 Option.bind (F60 d0) fun y1=>
 Option.bind (geti [1,2,3,4,6,10,100,5] (Int.tmod d0.Grain 8)) fun y2=>
 ass (decide ((IntKind.i64.wrap (y2+1))≠0))<|
 ass (decide ((IntKind.i64.wrap ((IntKind.i64.wrap (y2-(Int.tmod (IntKind.i64.wrap d1.Part.a0) (IntKind.i64.wrap (y2+1)))))+1))≠0))<|
 Option.bind (mkL y1 y1 0) fun l1=>
 ass (decide (y1≠0))<|
 Option.bind (geti l1 (Int.tmod (IntKind.i64.wrap d1.To.a0) y1)) fun y3=>
 Option.bind (geti l1 (Int.tmod (IntKind.i64.wrap d1.To.a0) y1)) fun y4=>
 Option.bind (some (l1.set (0+Int.toNat (Int.tmod (IntKind.i64.wrap d1.To.a0) y1)) (IntKind.i64.wrap (y3+(Int.tmod (IntKind.i64.wrap d1.Part.a0) (IntKind.i64.wrap (y2+1))))))) fun l2=>
 ass (decide (y1≠0))<|
 Option.bind (geti l2 (Int.tmod (IntKind.i64.wrap d1.To.a1) y1)) fun y5=>
 Option.bind (geti l2 (Int.tmod (IntKind.i64.wrap d1.To.a1) y1)) fun y6=>
 Option.bind (some (l2.set (0+Int.toNat (Int.tmod (IntKind.i64.wrap d1.To.a1) y1)) (IntKind.i64.wrap (y5+(Int.tmod (IntKind.i64.wrap d1.Part.a1) (IntKind.i64.wrap ((IntKind.i64.wrap (y2-(Int.tmod (IntKind.i64.wrap d1.Part.a0) (IntKind.i64.wrap (y2+1)))))+1))))))) fun l3=>
 ass (decide (y1≠0))<|
 Option.bind (geti l3 (Int.tmod (IntKind.i64.wrap d1.To.a2) y1)) fun y7=>
 Option.bind (geti l3 (Int.tmod (IntKind.i64.wrap d1.To.a2) y1)) fun y8=>
 Option.bind (some (l3.set (0+Int.toNat (Int.tmod (IntKind.i64.wrap d1.To.a2) y1)) (IntKind.i64.wrap (y7+(IntKind.i64.wrap ((IntKind.i64.wrap (y2-(Int.tmod (IntKind.i64.wrap d1.Part.a0) (IntKind.i64.wrap (y2+1)))))-(Int.tmod (IntKind.i64.wrap d1.Part.a1) (IntKind.i64.wrap ((IntKind.i64.wrap (y2-(Int.tmod (IntKind.i64.wrap d1.Part.a0) (IntKind.i64.wrap (y2+1)))))+1))))))))) fun l4=>
 Option.bind (geti [[],[97],[103,111],[97,98,99,100,101,102,103,104]] (Int.tmod d1.Act 4)) fun y9=>
 Option.bind (geti [1,2,3,1] (Int.tmod d0.Cents 4)) fun y10=>
 Option.bind (F39 fuel (IntKind.i64.wrap (Int.tmod d1.Gain 20)) y10) fun y11=>
 F61_L1 fuel l4 y1 y2 y9 y11 fuel 0 []
noncomputable abbrev b61:=bodyOf Tryz.f61
abbrev G61(r:T_api_Choice):=J none Tryz.prog 117 [] (finF Tryz.prog Tryz.f61 (.agg [.s r.Act,.s r.Gain,.l 2 r.Next e_T_api_Branch]))
theorem F61_ok{fuel:Nat}{d0:T_croupierref11_Draft}{d1:T_croupierref11_Pick}{r:T_api_Choice}(hF:F61 fuel d0 d1=some r):
 CallF Tryz.prog 61 [.agg [.y d0.States,.y d0.Owners,.y d0.Grain,.y d0.Cents,.l 8 d0.Picks e_T_croupierref11_Pick],.agg [.y d1.State,.y d1.Act,.y d1.Gain,.y d1.To.a0,.y d1.To.a1,.y d1.To.a2,.y d1.Part.a0,.y d1.Part.a1]] (.agg [.s r.Act,.s r.Gain,.l 2 r.Next e_T_api_Branch]):=by
 unfold F61 at hF
 refine cf 117 Tryz.func61 ?_
 obtain⟨y1,e1,hF⟩:=bnd hF
 refine jc 9 en60 (F60_ok e1) ?_
 obtain⟨y2,e2,hF⟩:=bnd hF
 refine jo1 8 (gm (f:=e_i64) e2) ?_
 obtain⟨hb1,hF⟩:=assd hF
 refine jo1 10 (ck hb1) ?_
 obtain⟨hb2,hF⟩:=assd hF
 refine jo1 12 (ck hb2) ?_
 obtain⟨l1,e3,hF⟩:=bnd hF
 refine jo2 5 (mm (f:=e_i64) e3) ?_
 obtain⟨hb3,hF⟩:=assd hF
 refine jo1 10 (ck hb3) ?_
 obtain⟨y3,e4,hF⟩:=bnd hF
 refine jo1 0 (gm (f:=e_i64) e4) ?_
 refine jo1 0 (gjm (f:=e_i64) (gj e4)) ?_
 obtain⟨y4,e5,hF⟩:=bnd hF
 refine jo1 2 (gm (f:=e_i64) e5) ?_
 obtain⟨l2,e6,hF⟩:=bnd hF
 have hst:=stm (f:=e_i64) (z:=IntKind.i64.wrap (y3+(Int.tmod (IntKind.i64.wrap d1.Part.a0) (IntKind.i64.wrap (y2+1))))) (k:=0) (xs:=[.int .i64 (IntKind.i64.wrap (y3+(Int.tmod (IntKind.i64.wrap d1.Part.a0) (IntKind.i64.wrap (y2+1)))))]) (gj e5) rfl
 refine J_adv 0 (J_opt2 (o:=(match(l1.map e_i64)[0+Int.toNat (Int.tmod (IntKind.i64.wrap d1.To.a0) y1)]? with|some old=>some ((l1.map e_i64).set (0+Int.toNat (Int.tmod (IntKind.i64.wrap d1.To.a0) y1)) (setD old 0 [.int .i64 (IntKind.i64.wrap (y3+(Int.tmod (IntKind.i64.wrap d1.Part.a0) (IntKind.i64.wrap (y2+1)))))]))|none=>none)) (l2.map e_i64) (by kernel_rfl) (by cases e6;exact hst) ?_)
 obtain⟨hb4,hF⟩:=assd hF
 refine jo1 9 (ck hb4) ?_
 obtain⟨y5,e7,hF⟩:=bnd hF
 refine jo1 0 (gm (f:=e_i64) e7) ?_
 refine jo1 0 (gjm (f:=e_i64) (gj e7)) ?_
 obtain⟨y6,e8,hF⟩:=bnd hF
 refine jo1 2 (gm (f:=e_i64) e8) ?_
 obtain⟨l3,e9,hF⟩:=bnd hF
 have hst:=stm (f:=e_i64) (z:=IntKind.i64.wrap (y5+(Int.tmod (IntKind.i64.wrap d1.Part.a1) (IntKind.i64.wrap ((IntKind.i64.wrap (y2-(Int.tmod (IntKind.i64.wrap d1.Part.a0) (IntKind.i64.wrap (y2+1)))))+1))))) (k:=0) (xs:=[.int .i64 (IntKind.i64.wrap (y5+(Int.tmod (IntKind.i64.wrap d1.Part.a1) (IntKind.i64.wrap ((IntKind.i64.wrap (y2-(Int.tmod (IntKind.i64.wrap d1.Part.a0) (IntKind.i64.wrap (y2+1)))))+1)))))]) (gj e8) rfl
 refine J_adv 0 (J_opt2 (o:=(match(l2.map e_i64)[0+Int.toNat (Int.tmod (IntKind.i64.wrap d1.To.a1) y1)]? with|some old=>some ((l2.map e_i64).set (0+Int.toNat (Int.tmod (IntKind.i64.wrap d1.To.a1) y1)) (setD old 0 [.int .i64 (IntKind.i64.wrap (y5+(Int.tmod (IntKind.i64.wrap d1.Part.a1) (IntKind.i64.wrap ((IntKind.i64.wrap (y2-(Int.tmod (IntKind.i64.wrap d1.Part.a0) (IntKind.i64.wrap (y2+1)))))+1)))))]))|none=>none)) (l3.map e_i64) (by kernel_rfl) (by cases e9;exact hst) ?_)
 obtain⟨hb5,hF⟩:=assd hF
 refine jo1 9 (ck hb5) ?_
 obtain⟨y7,e10,hF⟩:=bnd hF
 refine jo1 0 (gm (f:=e_i64) e10) ?_
 refine jo1 0 (gjm (f:=e_i64) (gj e10)) ?_
 obtain⟨y8,e11,hF⟩:=bnd hF
 refine jo1 6 (gm (f:=e_i64) e11) ?_
 obtain⟨l4,e12,hF⟩:=bnd hF
 have hst:=stm (f:=e_i64) (z:=IntKind.i64.wrap (y7+(IntKind.i64.wrap ((IntKind.i64.wrap (y2-(Int.tmod (IntKind.i64.wrap d1.Part.a0) (IntKind.i64.wrap (y2+1)))))-(Int.tmod (IntKind.i64.wrap d1.Part.a1) (IntKind.i64.wrap ((IntKind.i64.wrap (y2-(Int.tmod (IntKind.i64.wrap d1.Part.a0) (IntKind.i64.wrap (y2+1)))))+1))))))) (k:=0) (xs:=[.int .i64 (IntKind.i64.wrap (y7+(IntKind.i64.wrap ((IntKind.i64.wrap (y2-(Int.tmod (IntKind.i64.wrap d1.Part.a0) (IntKind.i64.wrap (y2+1)))))-(Int.tmod (IntKind.i64.wrap d1.Part.a1) (IntKind.i64.wrap ((IntKind.i64.wrap (y2-(Int.tmod (IntKind.i64.wrap d1.Part.a0) (IntKind.i64.wrap (y2+1)))))+1)))))))]) (gj e11) rfl
 refine J_adv 0 (J_opt2 (o:=(match(l3.map e_i64)[0+Int.toNat (Int.tmod (IntKind.i64.wrap d1.To.a2) y1)]? with|some old=>some ((l3.map e_i64).set (0+Int.toNat (Int.tmod (IntKind.i64.wrap d1.To.a2) y1)) (setD old 0 [.int .i64 (IntKind.i64.wrap (y7+(IntKind.i64.wrap ((IntKind.i64.wrap (y2-(Int.tmod (IntKind.i64.wrap d1.Part.a0) (IntKind.i64.wrap (y2+1)))))-(Int.tmod (IntKind.i64.wrap d1.Part.a1) (IntKind.i64.wrap ((IntKind.i64.wrap (y2-(Int.tmod (IntKind.i64.wrap d1.Part.a0) (IntKind.i64.wrap (y2+1)))))+1)))))))]))|none=>none)) (l4.map e_i64) (by kernel_rfl) (by cases e12;exact hst) ?_)
 refine jd 2 ?_
 obtain⟨y9,e13,hF⟩:=bnd hF
 refine do1 4 (gm (f:=e_s) e13) ?_
 obtain⟨y10,e14,hF⟩:=bnd hF
 refine do1 8 (gm (f:=e_i64) e14) ?_
 obtain⟨y11,e15,hF⟩:=bnd hF
 refine dc 0 en39 (F39_ok e15) ?_
 refine je 3 ?_
 have hF61_L1:∀(n_F61_L1:Nat) (v2:Int) (l12:List T_api_Branch),F61_L1 fuel l4 y1 y2 y9 y11 n_F61_L1 v2 l12=some r→G61 r ⟨mkT [(4,.ptr 4 0),(5,.i y1),(6,.i y2),(9,.suf 36 0 0),(10,.ptr 10 0),(11,.i v2)],[(4,.box 26 [.s [],.s [],.esl 2]),(10,.box 26 [.s y9,.s y11,.suf 114 0 0]),(36,.buf 0 3 1 (l4.map e_i64)),(114,.buf 0 29 2 (l12.map e_T_api_Branch))],[kL b61 [1,1,1,1,1,1,1,1,1,1,0,1,0,0],.inBlock 0,kC b61 [1,1,1,1,1,1,1,1,1,1,1]]⟩:=by
  clear hF;intro n_F61_L1
  induction n_F61_L1 with
  |zero=>intro v2 l12 hF;cases hF
  |succ n_F61_L1 ih_F61_L1=>
   intro v2 l12 hF
   rw[F61_L1]at hF
   refine ji 8 95 hF (fun hb12 hF=> ?_) (fun hb12 hF=> ?_)
   ·
    have hF61_A2:∀(l14:List T_api_Branch),F61_A2 v2 (F61_L1 fuel l4 y1 y2 y9 y11 n_F61_L1) l14=some r→G61 r ⟨mkT [(4,.ptr 4 0),(5,.i y1),(6,.i y2),(9,.suf 36 0 0),(10,.ptr 10 0),(11,.i v2)],[(4,.box 26 [.s [],.s [],.esl 2]),(10,.box 26 [.s y9,.s y11,.suf 114 0 0]),(36,.buf 0 3 1 (l4.map e_i64)),(114,.buf 0 29 2 (l14.map e_T_api_Branch))],[kC b61 [1,1,1,1,1,1,1,1,1,1,0,1,0,0,1,1],kL b61 [1,1,1,1,1,1,1,1,1,1,0,1,0,0],.inBlock 0,kC b61 [1,1,1,1,1,1,1,1,1,1,1]]⟩:=by
     intro l14 hF
     unfold F61_A2 at hF
     exact ja 5 (ih_F61_L1 _ _ hF)
    obtain⟨y27,e36,hF⟩:=bnd hF
    refine jo1 8 (gm (f:=e_i64) e36) ?_
    refine jo1 0 (gjm (f:=e_i64) (gj e36)) ?_
    refine ji 2 102 hF (fun hb14 hF=> ?_) (fun hb14 hF=> ?_)
    ·
     refine jd 1 ?_
     obtain⟨y28,e37,hF⟩:=bnd hF
     refine do1 5 (gm (f:=e_i64) e37) ?_
     refine do1 0 (gjm (f:=e_i64) (gj e37)) ?_
     obtain⟨y29,e38,hF⟩:=bnd hF
     refine dc 1 en39 (F39_ok e38) ?_
     obtain⟨l15,e39,hF⟩:=bnd hF
     refine do2 2 (am (f:=e_T_api_Branch) e39) ?_
     refine je 2 ?_
     exact ja 1 (hF61_A2 _ hF)
    ·
     exact ja 3 (hF61_A2 _ hF)
   ·
    have hF:=oi hF;subst hF
    exact jr 7
 refine J_adv 7 (J_ownc (n:=2) 10 2 114 29 2 (by kernel_rfl) (by kernel_rfl) ?_)
 exact ja 0 (hF61_L1 _ _ _ hF)
def F20_A2(v2:Int)(rec_F20_L1:Int→(List Int)→Option T_api_Model)(l17:List Int):Option T_api_Model:=
 rec_F20_L1 (IntKind.i64.wrap (v2+1)) l17
def F20_A4(v4:Int)(rec_F20_L3:Int→(List (List T_api_Choice))→Option T_api_Model)(l39:List (List T_api_Choice)):Option T_api_Model:=
 rec_F20_L3 (IntKind.i64.wrap (v4+1)) l39
def F20_A6(v6:Int)(rec_F20_L5:Int→(List (List T_api_Choice))→Option T_api_Model)(l57:List (List T_api_Choice)):Option T_api_Model:=
 rec_F20_L5 (IntKind.i64.wrap (v6+1)) l57
def F20_L5(l14:List Int)(y1:Int):Nat→Int→(List (List T_api_Choice))→Option T_api_Model
 |0,_,_=>none
 |n_F20_L5+1,v6,l54=>
  bif decide (v6<y1) then
   (Option.bind (geti l54 v6) fun y60=>
   Option.bind (some (l54.set (Int.toNat v6) y60)) fun l58=>
   bif ((y60.map e_T_api_Choice).length:Int)==0 then
    (Option.bind (geti l58 v6) fun y61=>
    Option.bind (some (l58.set (Int.toNat v6) [(⟨[],[48],[(⟨v6,[49]⟩:T_api_Branch)]⟩:T_api_Choice)])) fun l59=>
    F20_A6 v6 (F20_L5 l14 y1 n_F20_L5) l59)
   else
    (F20_A6 v6 (F20_L5 l14 y1 n_F20_L5) l58))
  else
   (some (⟨l14,l54⟩:T_api_Model))
def F20_L3(fuel:Nat)(d0:T_croupierref11_Draft)(l14:List Int)(y1:Int):Nat→Int→(List (List T_api_Choice))→Option T_api_Model
 |0,_,_=>none
 |n_F20_L3+1,v4,l35=>
  Option.bind (
   bif decide (v4<((d0.Picks.map e_T_croupierref11_Pick).length:Int)) then
    (some (decide (v4<20)))
   else
    (some false)) fun o3=>
  bif o3 then
   (Option.bind (geti d0.Picks v4) fun y45=>
   ass (decide (y1≠0))<|
   Option.bind (geti l35 (Int.tmod (IntKind.i64.wrap y45.State) y1)) fun y46=>
   Option.bind (some (l35.set (Int.toNat (Int.tmod (IntKind.i64.wrap y45.State) y1)) y46)) fun l40=>
   bif decide (((y46.map e_T_api_Choice).length:Int)<3) then
    (Option.bind (geti l40 (Int.tmod (IntKind.i64.wrap y45.State) y1)) fun y47=>
    Option.bind (geti d0.Picks v4) fun y48=>
    Option.bind (F61 fuel d0 y48) fun y49=>
    Option.bind (app y47 [y49]) fun l41=>
    Option.bind (some (l40.set (Int.toNat (Int.tmod (IntKind.i64.wrap y45.State) y1)) l41)) fun l42=>
    F20_A4 v4 (F20_L3 fuel d0 l14 y1 n_F20_L3) l42)
   else
    (F20_A4 v4 (F20_L3 fuel d0 l14 y1 n_F20_L3) l40))
  else
   (F20_L5 l14 y1 fuel 0 l35)
def F20_L1(fuel:Nat)(d0:T_croupierref11_Draft)(l2:List (List T_api_Choice))(y1:Int):Nat→Int→(List Int)→Option T_api_Model
 |0,_,_=>none
 |n_F20_L1+1,v2,l14=>
  bif decide (v2<y1) then
   (ass (decide (0≤v2))<|
   bif (IntKind.u8.wrap (BitVec.ofInt IntKind.u8.bits (Int.fdiv d0.Owners (2^(min (Int.toNat v2) IntKind.u8.bits)))&&&BitVec.ofInt IntKind.u8.bits 1).toNat)==1 then
    (Option.bind (geti l14 v2) fun y13=>
    Option.bind (some (l14.set (0+Int.toNat v2) 1)) fun l19=>
    F20_A2 v2 (F20_L1 fuel d0 l2 y1 n_F20_L1) l19)
   else
    (F20_A2 v2 (F20_L1 fuel d0 l2 y1 n_F20_L1) l14))
  else
   (F20_L3 fuel d0 l14 y1 fuel 0 l2)
def F20(fuel:Nat)(d0:T_croupierref11_Draft):Option T_api_Model:=
 Option.bind (F60 d0) fun y1=>
 Option.bind (mkL y1 y1 0) fun l1=>
 Option.bind (mkL y1 y1 []) fun l2=>
 F20_L1 fuel d0 l2 y1 fuel 0 l1
noncomputable abbrev b20:=bodyOf Tryz.f20
abbrev G20(r:T_api_Model):=J none Tryz.prog 98 [] (finF Tryz.prog Tryz.f20 (.agg [.l 1 r.Owner e_i64,.l 1 r.Choices e_lT_api_Choice]))
theorem F20_ok{fuel:Nat}{d0:T_croupierref11_Draft}{r:T_api_Model}(hF:F20 fuel d0=some r):
 CallF Tryz.prog 20 [.agg [.y d0.States,.y d0.Owners,.y d0.Grain,.y d0.Cents,.l 8 d0.Picks e_T_croupierref11_Pick]] (.agg [.l 1 r.Owner e_i64,.l 1 r.Choices e_lT_api_Choice]):=by
 unfold F20 at hF
 refine cf 98 Tryz.func20 ?_
 obtain⟨y1,e1,hF⟩:=bnd hF
 refine jc 8 en60 (F60_ok e1) ?_
 refine jd 3 ?_
 obtain⟨l1,e2,hF⟩:=bnd hF
 refine do2 1 (mm (f:=e_i64) e2) ?_
 obtain⟨l2,e3,hF⟩:=bnd hF
 refine do2 1 (mm (f:=e_lT_api_Choice) e3) ?_
 refine je 3 ?_
 have hF20_L1:∀(n_F20_L1:Nat) (v2:Int) (l14:List Int),F20_L1 fuel d0 l2 y1 n_F20_L1 v2 l14=some r→G20 r ⟨mkT [(1,.ptr 1 0),(2,.ptr 2 0),(3,.i y1),(4,.ptr 4 0),(5,.i v2)],[(1,.box 53 [.y d0.States,.y d0.Owners,.y d0.Grain,.y d0.Cents,.l 8 d0.Picks e_T_croupierref11_Pick]),(2,.box 34 [.esl 1,.esl 1]),(4,.box 34 [.suf 12 0 0,.suf 14 0 0]),(12,.buf 0 3 1 (l14.map e_i64)),(14,.tree 0 31 1 [.o 26 3 [.z,.z,.z]] (l2.map e_lT_api_Choice) none)],[kL b20 [1,1,1,0,1,0,0],.inBlock 0,kC b20 [1,1,1,1]]⟩:=by
  clear hF;intro n_F20_L1
  induction n_F20_L1 with
  |zero=>intro v2 l14 hF;cases hF
  |succ n_F20_L1 ih_F20_L1=>
   intro v2 l14 hF
   rw[F20_L1]at hF
   refine ji 8 18 hF (fun hb15 hF=> ?_) (fun hb15 hF=> ?_)
   ·
    have hF20_A2:∀(l17:List Int),F20_A2 v2 (F20_L1 fuel d0 l2 y1 n_F20_L1) l17=some r→G20 r ⟨mkT [(1,.ptr 1 0),(2,.ptr 2 0),(3,.i y1),(4,.ptr 4 0),(5,.i v2)],[(1,.box 53 [.y d0.States,.y d0.Owners,.y d0.Grain,.y d0.Cents,.l 8 d0.Picks e_T_croupierref11_Pick]),(2,.box 34 [.esl 1,.esl 1]),(4,.box 34 [.suf 12 0 0,.suf 14 0 0]),(12,.buf 0 3 1 (l17.map e_i64)),(14,.tree 0 31 1 [.o 26 3 [.z,.z,.z]] (l2.map e_lT_api_Choice) none)],[kC b20 [1,1,1,0,1,0,0,1,1],kL b20 [1,1,1,0,1,0,0],.inBlock 0,kC b20 [1,1,1,1]]⟩:=by
     intro l17 hF
     unfold F20_A2 at hF
     exact ja 5 (ih_F20_L1 _ _ hF)
    obtain⟨hb20,hF⟩:=assd hF
    refine jo1 9 (ck hb20) ?_
    refine ji 3 26 hF (fun hb21 hF=> ?_) (fun hb21 hF=> ?_)
    ·
     obtain⟨y13,e26,hF⟩:=bnd hF
     refine jo1 5 (gm (f:=e_i64) e26) ?_
     obtain⟨l19,e27,hF⟩:=bnd hF
     have hst:=stm (f:=e_i64) (z:=1) (k:=0) (xs:=[.int .i64 1]) (gj e26) rfl
     refine J_adv 0 (J_opt2 (o:=(match(l14.map e_i64)[0+Int.toNat v2]? with|some old=>some ((l14.map e_i64).set (0+Int.toNat v2) (setD old 0 [.int .i64 1]))|none=>none)) (l19.map e_i64) (by kernel_rfl) (by cases e27;exact hst) ?_)
     exact ja 2 (hF20_A2 _ hF)
    ·
     exact ja 3 (hF20_A2 _ hF)
   ·
    have hF20_L3:∀(n_F20_L3:Nat) (v4:Int) (l35:List (List T_api_Choice)),F20_L3 fuel d0 l14 y1 n_F20_L3 v4 l35=some r→G20 r ⟨mkT [(1,.ptr 1 0),(2,.ptr 2 0),(3,.i y1),(4,.ptr 4 0),(6,.i v4)],[(1,.box 53 [.y d0.States,.y d0.Owners,.y d0.Grain,.y d0.Cents,.l 8 d0.Picks e_T_croupierref11_Pick]),(2,.box 34 [.esl 1,.esl 1]),(4,.box 34 [.suf 12 0 0,.suf 14 0 0]),(12,.buf 0 3 1 (l14.map e_i64)),(14,.tree 0 31 1 [.o 26 3 [.z,.z,.z]] (l35.map e_lT_api_Choice) none)],[kL b20 [1,1,1,1,0,1,0,0],.inBlock 2,kC b20 [1,1,1,1,1]]⟩:=by
     clear hF;intro n_F20_L3
     induction n_F20_L3 with
     |zero=>intro v4 l35 hF;cases hF
     |succ n_F20_L3 ih_F20_L3=>
      intro v4 l35 hF
      rw[F20_L3]at hF
      obtain⟨o3,hO,hF⟩:=bnd hF
      have hR3:G20 r ⟨mkT [(1,.ptr 1 0),(2,.ptr 2 0),(3,.i y1),(4,.ptr 4 0),(6,.i v4),(39,.b o3)],[(1,.box 53 [.y d0.States,.y d0.Owners,.y d0.Grain,.y d0.Cents,.l 8 d0.Picks e_T_croupierref11_Pick]),(2,.box 34 [.esl 1,.esl 1]),(4,.box 34 [.suf 12 0 0,.suf 14 0 0]),(12,.buf 0 3 1 (l14.map e_i64)),(14,.tree 0 31 1 [.o 26 3 [.z,.z,.z]] (l35.map e_lT_api_Choice) none)],[kO b20 [1,1,1,1,0,1,0,0,0,0],kC b20 [1,1,1,1,0,1,0,0,0,1],kC b20 [1,1,1,1,0,1,0,0,1],kL b20 [1,1,1,1,0,1,0,0],.inBlock 2,kC b20 [1,1,1,1,1]]⟩:=by
       clear hO
       refine ji 1 39 hF (fun hb47 hF=> ?_) (fun hb47 hF=> ?_)
       ·
        have hF20_A4:∀(l39:List (List T_api_Choice)),F20_A4 v4 (F20_L3 fuel d0 l14 y1 n_F20_L3) l39=some r→G20 r ⟨mkT [(1,.ptr 1 0),(2,.ptr 2 0),(3,.i y1),(4,.ptr 4 0),(6,.i v4)],[(1,.box 53 [.y d0.States,.y d0.Owners,.y d0.Grain,.y d0.Cents,.l 8 d0.Picks e_T_croupierref11_Pick]),(2,.box 34 [.esl 1,.esl 1]),(4,.box 34 [.suf 12 0 0,.suf 14 0 0]),(12,.buf 0 3 1 (l14.map e_i64)),(14,.tree 0 31 1 [.o 26 3 [.z,.z,.z]] (l39.map e_lT_api_Choice) none)],[kC b20 [1,1,1,1,0,1,0,0,1,1],kL b20 [1,1,1,1,0,1,0,0],.inBlock 2,kC b20 [1,1,1,1,1]]⟩:=by
         intro l39 hF
         unfold F20_A4 at hF
         exact ja 5 (ih_F20_L3 _ _ hF)
        obtain⟨y45,e74,hF⟩:=bnd hF
        refine jo1 9 (gm (f:=e_T_croupierref11_Pick) e74) ?_
        obtain⟨hb52,hF⟩:=assd hF
        refine jo1 4 (ck hb52) ?_
        obtain⟨y46,e75,hF⟩:=bnd hF
        refine J_adv 3 (J_open (g:=0) (e:=31) (e2:=26) (n:=3) (es:=l35.map e_lT_api_Choice) 14 1200 (Int.toNat (Int.tmod (IntKind.i64.wrap y45.State) y1)) (y46.map e_T_api_Choice) (by kernel_rfl) (by kernel_rfl) (by kernel_rfl) (gjo (f:=e_lT_api_Choice) e75) ?_)
        refine J_adv 4 (J_opt1 (o:=chk (decide (0≤(Int.tmod (IntKind.i64.wrap y45.State) y1))&&(decide (0+Int.toNat (Int.tmod (IntKind.i64.wrap y45.State) y1)=Int.toNat (Int.tmod (IntKind.i64.wrap y45.State) y1))&&decide (Int.toNat (Int.tmod (IntKind.i64.wrap y45.State) y1)<(l35.map e_lT_api_Choice).length)))) [] (by kernel_rfl) (ckI e75) ?_)
        refine J_adv 0 (J_opt1 (o:=chk (decide ((Int.toNat (Int.tmod (IntKind.i64.wrap y45.State) y1))=(Int.toNat (Int.tmod (IntKind.i64.wrap y45.State) y1)))&&decide ((Int.toNat (Int.tmod (IntKind.i64.wrap y45.State) y1))<(l35.map e_lT_api_Choice).length))) [] (by kernel_rfl) (ckE e75) ?_)
        obtain⟨l40,e76,hF⟩:=bnd hF
        refine J_adv 3 (J_shutL (g:=0) (gd:=0) (e:=31) (e2:=26) (n:=3) (es:=l35.map e_lT_api_Choice) (ds:=y46.map e_T_api_Choice) 14 1200 (Int.toNat (Int.tmod (IntKind.i64.wrap y45.State) y1)) (l40.map e_lT_api_Choice) (by kernel_rfl) (by kernel_rfl) (by kernel_rfl) (by kernel_rfl) (glt (f:=e_lT_api_Choice) e75) (by cases e76;exact shm (f:=e_lT_api_Choice) (z:=y46)) ?_)
        refine ja 0 (S0:=[(1,.ptr 1 0),(2,.ptr 2 0),(3,.i y1),(4,.ptr 4 0),(6,.i v4),(7,.i (Int.tmod (IntKind.i64.wrap y45.State) y1)),(57,.b (decide (((y46.map e_T_api_Choice).length:Int)<3)))]) (O0:=[(1,.box 53 [.y d0.States,.y d0.Owners,.y d0.Grain,.y d0.Cents,.l 8 d0.Picks e_T_croupierref11_Pick]),(2,.box 34 [.esl 1,.esl 1]),(4,.box 34 [.suf 12 0 0,.suf 14 0 0]),(12,.buf 0 3 1 (l14.map e_i64)),(14,.tree 0 31 1 [.o 26 3 [.z,.z,.z]] (l40.map e_lT_api_Choice) none)]) (T0:=[kC b20 [1,1,1,1,0,1,0,0,1,0,0,1,1],.inBlock 3,kC b20 [1,1,1,1,0,1,0,0,1,1],kL b20 [1,1,1,1,0,1,0,0],.inBlock 2,kC b20 [1,1,1,1,1]]) ?_
        refine ji 0 57 hF (fun hb53 hF=> ?_) (fun hb53 hF=> ?_)
        ·
         obtain⟨y47,e77,hF⟩:=bnd hF
         refine J_adv 1 (J_open (g:=0) (e:=31) (e2:=26) (n:=3) (es:=l40.map e_lT_api_Choice) 14 1200 (Int.toNat (Int.tmod (IntKind.i64.wrap y45.State) y1)) (y47.map e_T_api_Choice) (by kernel_rfl) (by kernel_rfl) (by kernel_rfl) (gjo (f:=e_lT_api_Choice) e77) ?_)
         refine jd 0 ?_
         refine JD_adv 6 (JD_opt1 (o:=chk (decide (0≤(Int.tmod (IntKind.i64.wrap y45.State) y1))&&(decide (0+Int.toNat (Int.tmod (IntKind.i64.wrap y45.State) y1)=Int.toNat (Int.tmod (IntKind.i64.wrap y45.State) y1))&&decide (Int.toNat (Int.tmod (IntKind.i64.wrap y45.State) y1)<(l40.map e_lT_api_Choice).length)))) [] (by kernel_rfl) (by kernel_rfl) (ckI e77) ?_)
         refine JD_adv 0 (JD_opt1 (o:=chk (decide ((Int.toNat (Int.tmod (IntKind.i64.wrap y45.State) y1))=(Int.toNat (Int.tmod (IntKind.i64.wrap y45.State) y1)))&&decide ((Int.toNat (Int.tmod (IntKind.i64.wrap y45.State) y1))<(l40.map e_lT_api_Choice).length))) [] (by kernel_rfl) (by kernel_rfl) (ckE e77) ?_)
         obtain⟨y48,e78,hF⟩:=bnd hF
         refine do1 4 (gm (f:=e_T_croupierref11_Pick) e78) ?_
         obtain⟨y49,e79,hF⟩:=bnd hF
         refine dc 1 en61 (F61_ok e79) ?_
         obtain⟨l41,e80,hF⟩:=bnd hF
         refine do2 1 (am (f:=e_T_api_Choice) e80) ?_
         refine JD_adv 0 (JD_opt1 (o:=chk (decide (0≤(Int.tmod (IntKind.i64.wrap y45.State) y1))&&(decide (0+Int.toNat (Int.tmod (IntKind.i64.wrap y45.State) y1)=Int.toNat (Int.tmod (IntKind.i64.wrap y45.State) y1))&&decide (Int.toNat (Int.tmod (IntKind.i64.wrap y45.State) y1)<(l40.map e_lT_api_Choice).length)))) [] (by kernel_rfl) (by kernel_rfl) (ckI e77) ?_)
         refine JD_adv 0 (JD_opt1 (o:=chk (decide ((Int.toNat (Int.tmod (IntKind.i64.wrap y45.State) y1))=(Int.toNat (Int.tmod (IntKind.i64.wrap y45.State) y1)))&&decide ((Int.toNat (Int.tmod (IntKind.i64.wrap y45.State) y1))<(l40.map e_lT_api_Choice).length))) [] (by kernel_rfl) (by kernel_rfl) (ckE e77) ?_)
         refine je 0 ?_
         obtain⟨l42,e81,hF⟩:=bnd hF
         refine J_adv 0 (J_shutL (g:=0) (gd:=1) (e:=31) (e2:=26) (n:=3) (es:=l40.map e_lT_api_Choice) (ds:=l41.map e_T_api_Choice) 14 1200 (Int.toNat (Int.tmod (IntKind.i64.wrap y45.State) y1)) (l42.map e_lT_api_Choice) (by kernel_rfl) (by kernel_rfl) (by kernel_rfl) (by kernel_rfl) (glt (f:=e_lT_api_Choice) e77) (by cases e81;exact shm (f:=e_lT_api_Choice) (z:=l41)) ?_)
         refine ja 0 (S0:=[(1,.ptr 1 0),(2,.ptr 2 0),(3,.i y1),(4,.ptr 4 0),(6,.i v4)]) (O0:=[(1,.box 53 [.y d0.States,.y d0.Owners,.y d0.Grain,.y d0.Cents,.l 8 d0.Picks e_T_croupierref11_Pick]),(2,.box 34 [.esl 1,.esl 1]),(4,.box 34 [.suf 12 0 0,.suf 14 0 0]),(12,.buf 0 3 1 (l14.map e_i64)),(14,.tree 0 31 1 [.o 26 3 [.z,.z,.z]] (l42.map e_lT_api_Choice) none)]) (T0:=[.inBlock 3,kC b20 [1,1,1,1,0,1,0,0,1,1],kL b20 [1,1,1,1,0,1,0,0],.inBlock 2,kC b20 [1,1,1,1,1]]) ?_
         exact ja 1 (hF20_A4 _ hF)
        ·
         exact ja 3 (hF20_A4 _ hF)
       ·
        have hF20_L5:∀(n_F20_L5:Nat) (v6:Int) (l54:List (List T_api_Choice)),F20_L5 l14 y1 n_F20_L5 v6 l54=some r→G20 r ⟨mkT [(2,.ptr 2 0),(3,.i y1),(4,.ptr 4 0),(8,.i v6)],[(2,.box 34 [.esl 1,.esl 1]),(4,.box 34 [.suf 12 0 0,.suf 14 0 0]),(12,.buf 0 3 1 (l14.map e_i64)),(14,.tree 0 31 1 [.o 26 3 [.z,.z,.z]] (l54.map e_lT_api_Choice) none)],[kL b20 [1,1,1,1,1,0,1,0,0],.inBlock 4,kC b20 [1,1,1,1,1,1]]⟩:=by
         clear hF;intro n_F20_L5
         induction n_F20_L5 with
         |zero=>intro v6 l54 hF;cases hF
         |succ n_F20_L5 ih_F20_L5=>
          intro v6 l54 hF
          rw[F20_L5]at hF
          refine ji 8 78 hF (fun hb60 hF=> ?_) (fun hb60 hF=> ?_)
          ·
           have hF20_A6:∀(l57:List (List T_api_Choice)),F20_A6 v6 (F20_L5 l14 y1 n_F20_L5) l57=some r→G20 r ⟨mkT [(2,.ptr 2 0),(3,.i y1),(4,.ptr 4 0),(8,.i v6)],[(2,.box 34 [.esl 1,.esl 1]),(4,.box 34 [.suf 12 0 0,.suf 14 0 0]),(12,.buf 0 3 1 (l14.map e_i64)),(14,.tree 0 31 1 [.o 26 3 [.z,.z,.z]] (l57.map e_lT_api_Choice) none)],[kC b20 [1,1,1,1,1,0,1,0,0,1,1],kL b20 [1,1,1,1,1,0,1,0,0],.inBlock 4,kC b20 [1,1,1,1,1,1]]⟩:=by
            intro l57 hF
            unfold F20_A6 at hF
            exact ja 5 (ih_F20_L5 _ _ hF)
           obtain⟨y60,e102,hF⟩:=bnd hF
           refine J_adv 5 (J_open (g:=0) (e:=31) (e2:=26) (n:=3) (es:=l54.map e_lT_api_Choice) 14 1200 (Int.toNat v6) (y60.map e_T_api_Choice) (by kernel_rfl) (by kernel_rfl) (by kernel_rfl) (gjo (f:=e_lT_api_Choice) e102) ?_)
           refine J_adv 4 (J_opt1 (o:=chk (decide (0≤v6)&&(decide (0+Int.toNat v6=Int.toNat v6)&&decide (Int.toNat v6<(l54.map e_lT_api_Choice).length)))) [] (by kernel_rfl) (ckI e102) ?_)
           refine J_adv 0 (J_opt1 (o:=chk (decide ((Int.toNat v6)=(Int.toNat v6))&&decide ((Int.toNat v6)<(l54.map e_lT_api_Choice).length))) [] (by kernel_rfl) (ckE e102) ?_)
           obtain⟨l58,e103,hF⟩:=bnd hF
           refine J_adv 3 (J_shutL (g:=0) (gd:=0) (e:=31) (e2:=26) (n:=3) (es:=l54.map e_lT_api_Choice) (ds:=y60.map e_T_api_Choice) 14 1200 (Int.toNat v6) (l58.map e_lT_api_Choice) (by kernel_rfl) (by kernel_rfl) (by kernel_rfl) (by kernel_rfl) (glt (f:=e_lT_api_Choice) e102) (by cases e103;exact shm (f:=e_lT_api_Choice) (z:=y60)) ?_)
           refine ja 0 (S0:=[(2,.ptr 2 0),(3,.i y1),(4,.ptr 4 0),(8,.i v6),(87,.b (((y60.map e_T_api_Choice).length:Int)==0))]) (O0:=[(2,.box 34 [.esl 1,.esl 1]),(4,.box 34 [.suf 12 0 0,.suf 14 0 0]),(12,.buf 0 3 1 (l14.map e_i64)),(14,.tree 0 31 1 [.o 26 3 [.z,.z,.z]] (l58.map e_lT_api_Choice) none)]) (T0:=[kC b20 [1,1,1,1,1,0,1,0,0,1,0,0,1],.inBlock 5,kC b20 [1,1,1,1,1,0,1,0,0,1,1],kL b20 [1,1,1,1,1,0,1,0,0],.inBlock 4,kC b20 [1,1,1,1,1,1]]) ?_
           refine ji 0 87 hF (fun hb62 hF=> ?_) (fun hb62 hF=> ?_)
           ·
            obtain⟨y61,e104,hF⟩:=bnd hF
            refine J_adv 1 (J_open (g:=0) (e:=31) (e2:=26) (n:=3) (es:=l58.map e_lT_api_Choice) 14 1200 (Int.toNat v6) (y61.map e_T_api_Choice) (by kernel_rfl) (by kernel_rfl) (by kernel_rfl) (gjo (f:=e_lT_api_Choice) e104) ?_)
            refine J_adv 9 (J_opt1 (o:=chk (decide (0≤v6)&&(decide (0+Int.toNat v6=Int.toNat v6)&&decide (Int.toNat v6<(l58.map e_lT_api_Choice).length)))) [] (by kernel_rfl) (ckI e104) ?_)
            refine J_adv 0 (J_opt1 (o:=chk (decide ((Int.toNat v6)=(Int.toNat v6))&&decide ((Int.toNat v6)<(l58.map e_lT_api_Choice).length))) [] (by kernel_rfl) (ckE e104) ?_)
            obtain⟨l59,e105,hF⟩:=bnd hF
            refine J_adv 1 (J_shutL (g:=0) (gd:=0) (e:=31) (e2:=26) (n:=3) (es:=l58.map e_lT_api_Choice) (ds:=[(⟨[],[48],[(⟨v6,[49]⟩:T_api_Branch)]⟩:T_api_Choice)].map e_T_api_Choice) 14 95 (Int.toNat v6) (l59.map e_lT_api_Choice) (by kernel_rfl) (by kernel_rfl) (by kernel_rfl) (by kernel_rfl) (glt (f:=e_lT_api_Choice) e104) (by cases e105;exact shm (f:=e_lT_api_Choice) (z:=[(⟨[],[48],[(⟨v6,[49]⟩:T_api_Branch)]⟩:T_api_Choice)])) ?_)
            refine ja 0 (S0:=[(2,.ptr 2 0),(3,.i y1),(4,.ptr 4 0),(8,.i v6)]) (O0:=[(2,.box 34 [.esl 1,.esl 1]),(4,.box 34 [.suf 12 0 0,.suf 14 0 0]),(12,.buf 0 3 1 (l14.map e_i64)),(14,.tree 0 31 1 [.o 26 3 [.z,.z,.z]] (l59.map e_lT_api_Choice) none)]) (T0:=[.inBlock 5,kC b20 [1,1,1,1,1,0,1,0,0,1,1],kL b20 [1,1,1,1,1,0,1,0,0],.inBlock 4,kC b20 [1,1,1,1,1,1]]) ?_
            exact ja 1 (hF20_A6 _ hF)
           ·
            exact ja 3 (hF20_A6 _ hF)
          ·
           refine J_adv 7 (J_flat (g:=0) (sz:=1) (e:=31) (shs:=[.o 26 3 [.z,.z,.z]]) (es:=l54.map e_lT_api_Choice) 14 (by kernel_rfl) ?_)
           have hF:=oi hF;subst hF
           exact jr 0
        exact ja 9 (hF20_L5 _ _ _ hF)
      clear hF;rename _=some o3=>hF
      refine ji 10 36 hF (fun hb63 hF=> ?_) (fun hb63 hF=> ?_)
      ·
       have hF:=oi hF;subst hF
       exact ja 3 hR3
      ·
       have hF:=oi hF;subst hF
       exact ja 3 hR3
    exact ja 9 (hF20_L3 _ _ _ hF)
 exact ja 7 (hF20_L1 _ _ _ hF)
def F29(d0:Int)(d1:Int):Option Int:=
 ass (decide (0≤d0))<|
 some (IntKind.u64.wrap (BitVec.ofInt IntKind.u64.bits (IntKind.u64.wrap d1)&&&BitVec.ofInt IntKind.u64.bits (IntKind.u64.wrap ((IntKind.u64.wrap (1*2^(min (Int.toNat d0) IntKind.u64.bits)))-1))).toNat)
theorem F29_ok{d0:Int}{d1:Int}{r:Int}(hF:F29 d0 d1=some r):
 CallF Tryz.prog 29 [.i d0,.d (.int .u16 d1)] (.n r):=by
 unfold F29 at hF
 refine cf 11 Tryz.func29 ?_
 obtain⟨hb1,hF⟩:=assd hF
 refine jo1 9 (ck hb1) ?_
 have hF:=oi hF;subst hF
 exact jr 4
def F36(d0:Int)(d1:Int):Option Bool:=
 ass (decide (0≤d1))<|
 some ((IntKind.u64.wrap (BitVec.ofInt IntKind.u64.bits (Int.fdiv d0 (2^(min (Int.toNat d1) IntKind.u64.bits)))&&&BitVec.ofInt IntKind.u64.bits 1).toNat)==1)
theorem F36_ok{d0:Int}{d1:Int}{r:Bool}(hF:F36 d0 d1=some r):
 CallF Tryz.prog 36 [.n d0,.i d1] (.b r):=by
 unfold F36 at hF
 refine cf 10 Tryz.func36 ?_
 obtain⟨hb1,hF⟩:=assd hF
 refine jo1 8 (ck hb1) ?_
 have hF:=oi hF;subst hF
 exact jr 4
def F252_L1(d0:List UInt8):Nat→Int→Int→Option Int
 |0,_,_=>none
 |n_F252_L1+1,v3,v4=>
  bif decide (v4<(d0.length:Int)) then
   (Option.bind (geti d0 v4) fun y5=>
   (F252_L1 d0 n_F252_L1) (IntKind.i64.wrap ((IntKind.i64.wrap (10*v3))+(IntKind.i64.wrap (IntKind.u8.wrap ((y5.toNat:Int)-48))))) (IntKind.i64.wrap (v4+1)))
  else
   (some v3)
def F252:Nat→(List UInt8)→Option Int
 |0,_=>none
 |fuel+1,d0=>
  Option.bind (geti d0 0) fun y1=>
  bif (y1.toNat:Int)==45 then
   (ass (decide (0≤1)&&decide (1≤(d0.length:Int))&&decide ((d0.length:Int)≤d0.length))<|
   Option.bind ((F252 fuel) ((d0.drop (Int.toNat 1)).take (Int.toNat ((d0.length:Int)-1)))) fun y2=>
   some (IntKind.i64.wrap (0-y2)))
  else
   (F252_L1 d0 fuel 0 0)
noncomputable abbrev b252:=bodyOf Tryz.f252
abbrev G252(r:Int):=J none Tryz.prog 27 [] (finF Tryz.prog Tryz.f252 (.i r))
theorem F252_ok:∀{fuel:Nat} {d0:List UInt8} {r:Int},F252 fuel d0=some r→CallF Tryz.prog 252 [.s d0] (.i r):=by
 intro fuel
 induction fuel with
 |zero=>intro _ r hF;cases hF
 |succ fuel ih=>
  intro d0 r hF
  have ih_F252:∀(d0:List UInt8) (r:Int),F252 fuel d0=some r→CallF Tryz.prog 252 [.s d0] (.i r):=fun d0 r h=>ih h
  rw[F252]at hF
  refine cf 27 Tryz.func252 ?_
  obtain⟨y1,e1,hF⟩:=bnd hF
  refine J_adv 8 (J_opt1 (o:=(match geti d0 0 with|some c=>some [.int .u8 c.toNat]|none=>none)) [.int .u8 y1.toNat] (by kernel_rfl) (by rw[e1]) ?_)
  refine ji 2 7 hF (fun hb1 hF=> ?_) (fun hb1 hF=> ?_)
  ·
   obtain⟨hb2,hF⟩:=assd hF
   refine jo1 4 (ck hb2) ?_
   obtain⟨y2,e2,hF⟩:=bnd hF
   refine jc 0 en252 (ih_F252 _ _ e2) ?_
   have hF:=oi hF;subst hF
   exact jr 3
  ·
   have hF252_L1:∀(n_F252_L1:Nat) (v3:Int) (v4:Int),F252_L1 d0 n_F252_L1 v3 v4=some r→G252 r ⟨mkT [(0,.s d0),(3,.i v3),(13,.i (d0.length:Int)),(14,.i v4)],[],[kL b252 [1,1,1,0,1,0,0],.inBlock 0,kC b252 [1,1,1,1]]⟩:=by
    clear hF;intro n_F252_L1
    induction n_F252_L1 with
    |zero=>intro v3 v4 hF;cases hF
    |succ n_F252_L1 ih_F252_L1=>
     intro v3 v4 hF
     rw[F252_L1]at hF
     refine ji 6 15 hF (fun hb5 hF=> ?_) (fun hb5 hF=> ?_)
     ·
      obtain⟨y5,e5,hF⟩:=bnd hF
      refine J_adv 14 (J_opt1 (o:=(match geti d0 v4 with|some c=>some [.int .u8 c.toNat]|none=>none)) [.int .u8 y5.toNat] (by kernel_rfl) (by rw[e5]) ?_)
      exact ja 10 (ih_F252_L1 _ _ hF)
     ·
      have hF:=oi hF;subst hF
      exact jr 7
   exact ja 15 (hF252_L1 _ _ _ hF)
def F214(fuel:Nat)(d0:List UInt8):Option (Int×Int×Bool):=
 Option.bind (F191 fuel d0) fun y1=>
 bif !y1 then
  (some (0,0,false))
 else
  (Option.bind (F251 fuel d0) fun y2=>
  Option.bind (F252 fuel y2.1) fun y3=>
  Option.bind (F252 fuel y2.2.1) fun y4=>
  some (y3,y4,y2.2.2==0))
theorem F214_ok{fuel:Nat}{d0:List UInt8}{r:Int×Int×Bool}(hF:F214 fuel d0=some r):
 CallF Tryz.prog 214 [.s d0] (.tup [.i r.1,.i r.2.1,.b r.2.2]):=by
 unfold F214 at hF
 refine cf 23 Tryz.func214 ?_
 obtain⟨y1,e1,hF⟩:=bnd hF
 refine jc 10 en191 (F191_ok e1) ?_
 refine ji 2 10 hF (fun hb1 hF=> ?_) (fun hb1 hF=> ?_)
 ·
  have hF:=oi hF;subst hF
  exact jr 7
 ·
  obtain⟨y2,e2,hF⟩:=bnd hF
  refine jc 5 en251 (F251_ok e2) ?_
  obtain⟨y3,e3,hF⟩:=bnd hF
  refine jc 11 en252 (F252_ok e3) ?_
  obtain⟨y4,e4,hF⟩:=bnd hF
  refine jc 1 en252 (F252_ok e4) ?_
  have hF:=oi hF;subst hF
  exact jr 6
def F253_L1:Nat→Int→Int→Option Int
 |0,_,_=>none
 |n_F253_L1+1,v3,v4=>
  bif decide (v4>0) then
   (ass (decide (v4≠0))<|
   (F253_L1 n_F253_L1) v4 (Int.tmod v3 v4))
  else
   (some v3)
def F253(fuel:Nat)(d0:Int)(d1:Int):Option Int:=
 F253_L1 fuel d0 d1
noncomputable abbrev b253:=bodyOf Tryz.f253
abbrev G253(r:Int):=J none Tryz.prog 12 [] (finF Tryz.prog Tryz.f253 (.i r))
theorem F253_ok{fuel:Nat}{d0:Int}{d1:Int}{r:Int}(hF:F253 fuel d0 d1=some r):
 CallF Tryz.prog 253 [.i d0,.i d1] (.i r):=by
 unfold F253 at hF
 refine cf 12 Tryz.func253 ?_
 have hF253_L1:∀(n_F253_L1:Nat) (v3:Int) (v4:Int),F253_L1 n_F253_L1 v3 v4=some r→G253 r ⟨mkT [(0,.i v3),(1,.i v4)],[],[kL b253 [1,0,0,0],.inBlock 0,kC b253 [1,1]]⟩:=by
  clear hF;intro n_F253_L1
  induction n_F253_L1 with
  |zero=>intro v3 v4 hF;cases hF
  |succ n_F253_L1 ih_F253_L1=>
   intro v3 v4 hF
   rw[F253_L1]at hF
   refine ji 7 6 hF (fun hb5 hF=> ?_) (fun hb5 hF=> ?_)
   ·
    refine jd 3 ?_
    obtain⟨hb6,hF⟩:=assd hF
    refine do1 3 (ck hb6) ?_
    refine je 2 ?_
    exact ja 1 (ih_F253_L1 _ _ hF)
   ·
    have hF:=oi hF;subst hF
    exact jr 7
 exact ja 7 (hF253_L1 _ _ _ hF)
structure T_model_checker where
 Model:T_api_Model
 p:Int
 gains:Int
 deriving DecidableEq
def F209(d0:List T_api_Choice):Option Bool:=
 Option.bind (
  bif decide (((d0.map e_T_api_Choice).length:Int)<1) then
   (some true)
  else
   (some (decide (((d0.map e_T_api_Choice).length:Int)>4)))) fun o1=>
 some o1
noncomputable abbrev b209:=bodyOf Tryz.f209
abbrev G209(r:Bool):=J none Tryz.prog 11 [] (finF Tryz.prog Tryz.f209 (.b r))
theorem F209_ok{d0:List T_api_Choice}{r:Bool}(hF:F209 d0=some r):
 CallF Tryz.prog 209 [.l 3 d0 e_T_api_Choice] (.b r):=by
 unfold F209 at hF
 refine cf 11 Tryz.func209 ?_
 obtain⟨o1,hO,hF⟩:=bnd hF
 have hR1:G209 r ⟨mkT [(2,.b o1)],[],[kO b209 [1,0],kC b209 [1,1]]⟩:=by
  clear hO
  have hF:=oi hF;subst hF
  exact jr 1
 clear hF;rename _=some o1=>hF
 refine ji 10 6 hF (fun hb3 hF=> ?_) (fun hb3 hF=> ?_)
 ·
  have hF:=oi hF;subst hF
  exact ja 5 hR1
 ·
  have hF:=oi hF;subst hF
  exact ja 5 hR1
def F190_L1(d0:List (List T_api_Choice)):Nat→Int→Option Int
 |0,_=>none
 |n_F190_L1+1,v2=>
  bif decide (v2<((d0.map e_lT_api_Choice).length:Int)) then
   (Option.bind (geti d0 v2) fun y5=>
   Option.bind (F209 y5) fun y6=>
   bif y6 then
    (some v2)
   else
    ((F190_L1 d0 n_F190_L1) (IntKind.i64.wrap (v2+1))))
  else
   (some (-1))
def F190(fuel:Nat)(d0:List (List T_api_Choice)):Option Int:=
 F190_L1 d0 fuel 0
noncomputable abbrev b190:=bodyOf Tryz.f190
abbrev G190(r:Int):=J none Tryz.prog 19 [] (finF Tryz.prog Tryz.f190 (.i r))
theorem F190_ok{fuel:Nat}{d0:List (List T_api_Choice)}{r:Int}(hF:F190 fuel d0=some r):
 CallF Tryz.prog 190 [.l 1 d0 e_lT_api_Choice,.d (.fnc 209)] (.i r):=by
 unfold F190 at hF
 refine cf 19 Tryz.func190 ?_
 have hF190_L1:∀(n_F190_L1:Nat) (v2:Int),F190_L1 d0 n_F190_L1 v2=some r→G190 r ⟨mkT [(0,.l 1 d0 e_lT_api_Choice),(1,.d (.fnc 209)),(7,.i ((d0.map e_lT_api_Choice).length:Int)),(8,.i v2)],[],[kL b190 [1,0,1,0,0],.inBlock 0,kC b190 [1,1]]⟩:=by
  clear hF;intro n_F190_L1
  induction n_F190_L1 with
  |zero=>intro v2 hF;cases hF
  |succ n_F190_L1 ih_F190_L1=>
   intro v2 hF
   rw[F190_L1]at hF
   refine ji 6 9 hF (fun hb5 hF=> ?_) (fun hb5 hF=> ?_)
   ·
    obtain⟨y5,e5,hF⟩:=bnd hF
    refine jo1 14 (gm (f:=e_lT_api_Choice) e5) ?_
    obtain⟨y6,e6,hF⟩:=bnd hF
    refine jc 1 en209 (F209_ok e6) ?_
    refine ji 1 16 hF (fun hb6 hF=> ?_) (fun hb6 hF=> ?_)
    ·
     have hF:=oi hF;subst hF
     exact jr 6
    ·
     exact ja 7 (ih_F190_L1 _ hF)
   ·
    have hF:=oi hF;subst hF
    exact jr 6
 exact ja 13 (hF190_L1 _ _ hF)
def F156(fuel:Nat)(d0:List (List T_api_Choice)):Option Bool:=
 Option.bind (F190 fuel d0) fun y1=>
 some (decide (y1≥0))
theorem F156_ok{fuel:Nat}{d0:List (List T_api_Choice)}{r:Bool}(hF:F156 fuel d0=some r):
 CallF Tryz.prog 156 [.l 1 d0 e_lT_api_Choice,.d (.fnc 209)] (.b r):=by
 unfold F156 at hF
 refine cf 9 Tryz.func156 ?_
 obtain⟨y1,e1,hF⟩:=bnd hF
 refine jc 8 en190 (F190_ok e1) ?_
 have hF:=oi hF;subst hF
 exact jr 3
noncomputable abbrev b173:=bodyOf Tryz.f173
def F211(d0:Int):Option Bool:=
 Option.bind (
  bif d0 !=0 then
   (some (d0 !=1))
  else
   (some false)) fun o1=>
 some o1
noncomputable abbrev b211:=bodyOf Tryz.f211
abbrev G211(r:Bool):=J none Tryz.prog 9 [] (finF Tryz.prog Tryz.f211 (.b r))
theorem F211_ok{d0:Int}{r:Bool}(hF:F211 d0=some r):
 CallF Tryz.prog 211 [.i d0] (.b r):=by
 unfold F211 at hF
 refine cf 9 Tryz.func211 ?_
 obtain⟨o1,hO,hF⟩:=bnd hF
 have hR1:G211 r ⟨mkT [(2,.b o1)],[],[kO b211 [1,0],kC b211 [1,1]]⟩:=by
  clear hO
  have hF:=oi hF;subst hF
  exact jr 1
 clear hF;rename _=some o1=>hF
 refine ji 9 5 hF (fun hb3 hF=> ?_) (fun hb3 hF=> ?_)
 ·
  have hF:=oi hF;subst hF
  exact ja 4 hR1
 ·
  have hF:=oi hF;subst hF
  exact ja 4 hR1
def F249_L1(d0:List Int):Nat→Int→Option Int
 |0,_=>none
 |n_F249_L1+1,v2=>
  bif decide (v2<((d0.map e_i64).length:Int)) then
   (Option.bind (geti d0 v2) fun y5=>
   Option.bind (F211 y5) fun y6=>
   bif y6 then
    (some v2)
   else
    ((F249_L1 d0 n_F249_L1) (IntKind.i64.wrap (v2+1))))
  else
   (some (-1))
def F249(fuel:Nat)(d0:List Int):Option Int:=
 F249_L1 d0 fuel 0
noncomputable abbrev b249:=bodyOf Tryz.f249
abbrev G249(r:Int):=J none Tryz.prog 19 [] (finF Tryz.prog Tryz.f249 (.i r))
theorem F249_ok{fuel:Nat}{d0:List Int}{r:Int}(hF:F249 fuel d0=some r):
 CallF Tryz.prog 249 [.l 1 d0 e_i64,.d (.fnc 211)] (.i r):=by
 unfold F249 at hF
 refine cf 19 Tryz.func249 ?_
 have hF249_L1:∀(n_F249_L1:Nat) (v2:Int),F249_L1 d0 n_F249_L1 v2=some r→G249 r ⟨mkT [(0,.l 1 d0 e_i64),(1,.d (.fnc 211)),(7,.i ((d0.map e_i64).length:Int)),(8,.i v2)],[],[kL b249 [1,0,1,0,0],.inBlock 0,kC b249 [1,1]]⟩:=by
  clear hF;intro n_F249_L1
  induction n_F249_L1 with
  |zero=>intro v2 hF;cases hF
  |succ n_F249_L1 ih_F249_L1=>
   intro v2 hF
   rw[F249_L1]at hF
   refine ji 6 9 hF (fun hb5 hF=> ?_) (fun hb5 hF=> ?_)
   ·
    obtain⟨y5,e5,hF⟩:=bnd hF
    refine jo1 14 (gm (f:=e_i64) e5) ?_
    obtain⟨y6,e6,hF⟩:=bnd hF
    refine jc 1 en211 (F211_ok e6) ?_
    refine ji 1 16 hF (fun hb6 hF=> ?_) (fun hb6 hF=> ?_)
    ·
     have hF:=oi hF;subst hF
     exact jr 6
    ·
     exact ja 7 (ih_F249_L1 _ hF)
   ·
    have hF:=oi hF;subst hF
    exact jr 6
 exact ja 13 (hF249_L1 _ _ hF)
def F210(fuel:Nat)(d0:List Int):Option Bool:=
 Option.bind (F249 fuel d0) fun y1=>
 some (decide (y1≥0))
theorem F210_ok{fuel:Nat}{d0:List Int}{r:Bool}(hF:F210 fuel d0=some r):
 CallF Tryz.prog 210 [.l 1 d0 e_i64,.d (.fnc 211)] (.b r):=by
 unfold F210 at hF
 refine cf 9 Tryz.func210 ?_
 obtain⟨y1,e1,hF⟩:=bnd hF
 refine jc 8 en249 (F249_ok e1) ?_
 have hF:=oi hF;subst hF
 exact jr 3
def F196(d0:T_api_Model):Option (List Int×List (List T_api_Choice)):=
 some (d0.Owner,d0.Choices)
noncomputable abbrev b196:=bodyOf Tryz.f196
theorem F196_ok{d0:T_api_Model}{r:List Int×List (List T_api_Choice)}(hF:F196 d0=some r):
 CallR Tryz.prog 196 [] [.agg [.l 1 d0.Owner e_i64,.l 1 d0.Choices e_lT_api_Choice]] [(2000,.box 34 [.l 1 r.1 e_i64,.l 1 r.2 e_lT_api_Choice])] (.fn 240 [] [.ptr 2000 0]):=by
 unfold F196 at hF
 refine cr 4 Tryz.func196 ?_
 refine ja 10 (S0:=[(2,.fn 240 [] [.ptr 1 0])]) (O0:=[(1,.box 34 [.l 1 d0.Owner e_i64,.l 1 d0.Choices e_lT_api_Choice])]) (T0:=[kC b196 [1,1]]) ?_
 refine J_adv 0 (J_ren [(1,2000)] (by kernel_rfl) (by kernel_rfl) (by kernel_rfl) (by kernel_rfl) ?_)
 have hF:=oi hF;subst hF
 exact J_adv 0 (J_retRR (xs:=[.fn 240 [] [.ptr 2000 0]]) [.fn 240 [] [.ptr 2000 0]] rfl (by kernel_rfl) (by kernel_rfl) (Res'.refl _) rfl)
def y_i64_T_api_Choice(x:Int×T_api_Choice):List Kx.V:=[.d (.int .i64 x.1),.agg [.d (.str x.2.Act),.d (.str x.2.Gain),.d (.sl 2 (x.2.Next.map e_T_api_Branch))]]
def F240_L2(v6:Int)(y9:List T_api_Choice)(rec_F240_L1:Int→Option (List (Int×T_api_Choice))):Nat→Int→Option (List (Int×T_api_Choice))
 |0,_=>none
 |n_F240_L2+1,v8=>
  bif decide (v8<((y9.map e_T_api_Choice).length:Int)) then
   (Option.bind (geti y9 v8) fun y12=>
   Option.bind (
    (F240_L2 v6 y9 rec_F240_L1 n_F240_L2) (IntKind.i64.wrap (v8+1))) fun l9=>
   some ((v6,y12)::l9))
  else
   (rec_F240_L1 (IntKind.i64.wrap (v6+1)))
def F240_L1(fuel:Nat)(d1:List (List T_api_Choice)):Nat→Int→Option (List (Int×T_api_Choice))
 |0,_=>none
 |n_F240_L1+1,v6=>
  bif decide (v6<((d1.map e_lT_api_Choice).length:Int)) then
   (Option.bind (geti d1 v6) fun y9=>
   F240_L2 v6 y9 (F240_L1 fuel d1 n_F240_L1) fuel 0)
  else
   (some [])
def F240(fuel:Nat)(d0:List Int)(d1:List (List T_api_Choice)):Option (List (Int×T_api_Choice)):=
 F240_L1 fuel d1 fuel 0
noncomputable abbrev b240:=bodyOf Tryz.f240
theorem F240_ok{fuel:Nat}{d0:List Int}{d1:List (List T_api_Choice)}{r:List (Int×T_api_Choice)}(hF:F240 fuel d0 d1=some r):
 IterC Tryz.prog 240 [(2000,.frn 2000)] [.yl 2000,.rp [.sl 1 (d0.map e_i64),.sl 1 (d1.map e_lT_api_Choice)] 0] (r.map y_i64_T_api_Choice) false:=by
 unfold F240 at hF
 refine iterC_of (N:=28) (b:=bodyOf Tryz.f240) Tryz.func240 (by kernel_rfl) rfl rfl (fun yl_ Inv_ Stop_ Pan_ hR_=> ?_)
 have hF240_L1:∀(n_F240_L1:Nat) (r:List (Int×T_api_Choice)) (v6:Int),F240_L1 fuel d1 n_F240_L1 v6=some r→J none Tryz.prog 28 [] (finI Tryz.prog Tryz.f240 yl_ Inv_ Stop_ Pan_ false (some (r.map y_i64_T_api_Choice))) ⟨mkT [(0,.yl 2000),(8,.l 1 d1 e_lT_api_Choice),(9,.i ((d1.map e_lT_api_Choice).length:Int)),(10,.i v6)],[(2000,.frn 2000)],[kL b240 [1,0,0],.inBlock 0]⟩:=by
  clear hF;intro n_F240_L1
  induction n_F240_L1 with
  |zero=>intro r v6 hF;cases hF
  |succ n_F240_L1 ih_F240_L1=>
   intro r v6 hF
   rw[F240_L1]at hF
   refine ji 6 11 hF (fun hb9 hF=> ?_) (fun hb9 hF=> ?_)
   ·
    obtain⟨y9,e9,hF⟩:=bnd hF
    refine jo1 7 (gm (f:=e_lT_api_Choice) e9) ?_
    have hF240_L2:∀(n_F240_L2:Nat) (r:List (Int×T_api_Choice)) (v8:Int),F240_L2 v6 y9 (F240_L1 fuel d1 n_F240_L1) n_F240_L2 v8=some r→J none Tryz.prog 28 [] (finI Tryz.prog Tryz.f240 yl_ Inv_ Stop_ Pan_ false (some (r.map y_i64_T_api_Choice))) ⟨mkT [(0,.yl 2000),(3,.i v6),(8,.l 1 d1 e_lT_api_Choice),(9,.i ((d1.map e_lT_api_Choice).length:Int)),(10,.i v6),(15,.l 3 y9 e_T_api_Choice),(16,.i ((y9.map e_T_api_Choice).length:Int)),(17,.i v8)],[(2000,.frn 2000)],[kL b240 [1,0,0,1,1,0,0,1,1,0,0],.inBlock 2,.inBlock 1,kC b240 [1,0,0,1,1,1],kL b240 [1,0,0],.inBlock 0]⟩:=by
     clear hF;intro n_F240_L2
     induction n_F240_L2 with
     |zero=>intro r v8 hF;cases hF
     |succ n_F240_L2 ih_F240_L2=>
      intro r v8 hF
      rw[F240_L2]at hF
      refine ji 6 18 hF (fun hb12 hF=> ?_) (fun hb12 hF=> ?_)
      ·
       obtain⟨y12,e12,hF⟩:=bnd hF
       refine jo1 6 (gm (f:=e_T_api_Choice) e12) ?_
       obtain⟨l9,hY_,hr_⟩:=bnd hF
       clear hF;have hr_:=Option.some.inj hr_;subst hr_;have hF:=hY_;clear hY_
       refine J_adv 9 (J_yield hR_ (xs:=[.i v6,.agg [.s y12.Act,.s y12.Gain,.l 2 y12.Next e_T_api_Branch]]) [.i v6,.agg [.s y12.Act,.s y12.Gain,.l 2 y12.Next e_T_api_Branch]] (ys:=l9.map y_i64_T_api_Choice) (by kernel_rfl) (by kernel_rfl) (Res'.refl _) ?_ ?_)
       rotate_left
       ·
        exact J_adv 3 (J_doneI hR_ (.inr rfl) rfl rfl (by kernel_rfl))
       ·
        exact ja 9 (ih_F240_L2 _ _ hF)
      ·
       exact ja 7 (ih_F240_L1 _ _ hF)
    exact ja 12 (hF240_L2 _ _ _ hF)
   ·
    have hF:=oi hF;subst hF
    exact J_adv 2 (J_doneI hR_ (.inl ⟨rfl,rfl⟩) rfl rfl (by kernel_rfl))
 exact ja 9 (hF240_L1 _ _ _ hF)
def F213(d0:Int):Option Bool:=
 Option.bind (
  bif decide (d0<97) then
   (some true)
  else
   (some (decide (d0>122)))) fun o1=>
 some o1
noncomputable abbrev b213:=bodyOf Tryz.f213
abbrev G213(r:Bool):=J none Tryz.prog 9 [] (finF Tryz.prog Tryz.f213 (.b r))
theorem F213_ok{d0:Int}{r:Bool}(hF:F213 d0=some r):
 CallF Tryz.prog 213 [.y d0] (.b r):=by
 unfold F213 at hF
 refine cf 9 Tryz.func213 ?_
 obtain⟨o1,hO,hF⟩:=bnd hF
 have hR1:G213 r ⟨mkT [(2,.b o1)],[],[kO b213 [1,0],kC b213 [1,1]]⟩:=by
  clear hO
  have hF:=oi hF;subst hF
  exact jr 1
 clear hF;rename _=some o1=>hF
 refine ji 9 5 hF (fun hb3 hF=> ?_) (fun hb3 hF=> ?_)
 ·
  have hF:=oi hF;subst hF
  exact ja 4 hR1
 ·
  have hF:=oi hF;subst hF
  exact ja 4 hR1
def F250_L1(d0:List Int):Nat→Int→Option Int
 |0,_=>none
 |n_F250_L1+1,v2=>
  bif decide (v2<((d0.map e_u8).length:Int)) then
   (Option.bind (geti d0 v2) fun y5=>
   Option.bind (F213 y5) fun y6=>
   bif y6 then
    (some v2)
   else
    ((F250_L1 d0 n_F250_L1) (IntKind.i64.wrap (v2+1))))
  else
   (some (-1))
def F250(fuel:Nat)(d0:List Int):Option Int:=
 F250_L1 d0 fuel 0
noncomputable abbrev b250:=bodyOf Tryz.f250
abbrev G250(r:Int):=J none Tryz.prog 19 [] (finF Tryz.prog Tryz.f250 (.i r))
theorem F250_ok{fuel:Nat}{d0:List Int}{r:Int}(hF:F250 fuel d0=some r):
 CallF Tryz.prog 250 [.l 1 d0 e_u8,.d (.fnc 213)] (.i r):=by
 unfold F250 at hF
 refine cf 19 Tryz.func250 ?_
 have hF250_L1:∀(n_F250_L1:Nat) (v2:Int),F250_L1 d0 n_F250_L1 v2=some r→G250 r ⟨mkT [(0,.l 1 d0 e_u8),(1,.d (.fnc 213)),(7,.i ((d0.map e_u8).length:Int)),(8,.i v2)],[],[kL b250 [1,0,1,0,0],.inBlock 0,kC b250 [1,1]]⟩:=by
  clear hF;intro n_F250_L1
  induction n_F250_L1 with
  |zero=>intro v2 hF;cases hF
  |succ n_F250_L1 ih_F250_L1=>
   intro v2 hF
   rw[F250_L1]at hF
   refine ji 6 9 hF (fun hb5 hF=> ?_) (fun hb5 hF=> ?_)
   ·
    obtain⟨y5,e5,hF⟩:=bnd hF
    refine jo1 14 (gm (f:=e_u8) e5) ?_
    obtain⟨y6,e6,hF⟩:=bnd hF
    refine jc 1 en213 (F213_ok e6) ?_
    refine ji 1 16 hF (fun hb6 hF=> ?_) (fun hb6 hF=> ?_)
    ·
     have hF:=oi hF;subst hF
     exact jr 6
    ·
     exact ja 7 (ih_F250_L1 _ hF)
   ·
    have hF:=oi hF;subst hF
    exact jr 6
 exact ja 13 (hF250_L1 _ _ hF)
def F212(fuel:Nat)(d0:List Int):Option Bool:=
 Option.bind (F250 fuel d0) fun y1=>
 some (decide (y1≥0))
theorem F212_ok{fuel:Nat}{d0:List Int}{r:Bool}(hF:F212 fuel d0=some r):
 CallF Tryz.prog 212 [.l 1 d0 e_u8,.d (.fnc 213)] (.b r):=by
 unfold F212 at hF
 refine cf 9 Tryz.func212 ?_
 obtain⟨y1,e1,hF⟩:=bnd hF
 refine jc 8 en250 (F250_ok e1) ?_
 have hF:=oi hF;subst hF
 exact jr 3
def F175_A2:Option Bool:=
 some false
def F175_L1(fuel:Nat):List (Int×T_api_Choice)→Option Bool
 |[]=>
  some true
 |y6::ys_F175_L1=>
  Option.bind (
   bif decide ((y6.2.Act.length:Int)>8) then
    (some true)
   else
    (Option.bind (F212 fuel (y6.2.Act.map toI)) fun y9=>
    some y9)) fun o2=>
  bif o2 then
   (F175_A2)
  else
   ((F175_L1 fuel ys_F175_L1))
noncomputable abbrev b175:=bodyOf Tryz.f175
def F215(fuel:Nat)(d0:Int)(d1:List Int)(d2:List (List T_api_Choice))(d3:Int)(d4:Int):Option (Bool×Int):=
 Option.bind (F253 fuel d4 d0) fun y1=>
 ass (decide (y1≠0))<|
 some (decide ((IntKind.i64.wrap ((IntKind.i64.wrap (Int.tdiv d4 y1))*d0))≤9999),IntKind.i64.wrap ((IntKind.i64.wrap (Int.tdiv d4 y1))*d0))
def F176_A2(v5:Int):Option (Bool×Int):=
 some (false,v5)
def F176_L1(fuel:Nat)(d0:List Int)(d1:List (List T_api_Choice))(d2:Int):List (Int×T_api_Choice)→Int→Option (Bool×Int)
 |[],v4=>
  some (true,v4)
 |y12::ys_F176_L1,v4=>
  Option.bind (F214 fuel y12.2.Gain) fun y13=>
  Option.bind (
   bif !y13.2.2 then
    (some (true,v4))
   else
    (bif decide (y13.1<0) then
     (some (true,v4))
    else
     (Option.bind (F215 fuel y13.2.1 d0 d1 d2 v4) fun y16=>
     some (!y16.1,y16.2)))) fun o3=>
  bif o3.1 then
   (F176_A2 o3.2)
  else
   ((F176_L1 fuel d0 d1 d2 ys_F176_L1) o3.2)
noncomputable abbrev b176:=bodyOf Tryz.f176
def F215a(fuel:Nat)(d0:Int)(d1:List Int)(d2:List (List T_api_Choice))(d3:Int)(d4:Int):Option (Bool×Int):=
 Option.bind (F253 fuel d3 d0) fun y1=>
 ass (decide (y1≠0))<|
 some (decide ((IntKind.i64.wrap ((IntKind.i64.wrap (Int.tdiv d3 y1))*d0))≤9999),IntKind.i64.wrap ((IntKind.i64.wrap (Int.tdiv d3 y1))*d0))
def F216_L2(fuel:Nat)(d0:List T_api_Branch)(v8:Int):Nat→Int→Int→Option (Bool×Int)
 |0,_,_=>none
 |n_F216_L2+1,v12,v13=>
  bif decide (v13<((d0.map e_T_api_Branch).length:Int)) then
   (Option.bind (geti d0 v13) fun y20=>
   Option.bind (F214 fuel y20.P) fun y21=>
   ass (decide (y21.2.1≠0))<|
   (F216_L2 fuel d0 v8 n_F216_L2) (IntKind.i64.wrap (v12+(IntKind.i64.wrap (y21.1*(IntKind.i64.wrap (Int.tdiv v8 y21.2.1)))))) (IntKind.i64.wrap (v13+1)))
  else
   (some (v12==v8,v8))
def F216_L1(fuel:Nat)(d0:List T_api_Branch)(d1:List Int)(d2:List (List T_api_Choice))(d4:Int):Nat→Int→Int→Int→Option (Bool×Int)
 |0,_,_,_=>none
 |n_F216_L1+1,v6,v7,v8=>
  bif decide (v7<((d0.map e_T_api_Branch).length:Int)) then
   (Option.bind (geti d0 v7) fun y11=>
   Option.bind (F214 fuel y11.P) fun y12=>
   Option.bind (
    bif decide (y11.To≤v6) then
     (some (true,v8))
    else
     (bif decide (y11.To≥((d1.map e_i64).length:Int)) then
      (some (true,v8))
     else
      (bif !y12.2.2 then
       (some (true,v8))
      else
       (bif decide (y12.1<1) then
        (some (true,v8))
       else
        (Option.bind (F215a fuel y12.2.1 d1 d2 v8 d4) fun y15=>
        some (!y15.1,y15.2)))))) fun o3=>
   bif o3.1 then
    (some (false,o3.2))
   else
    ((F216_L1 fuel d0 d1 d2 d4 n_F216_L1) y11.To (IntKind.i64.wrap (v7+1)) o3.2))
  else
   (F216_L2 fuel d0 v8 fuel 0 0)
noncomputable abbrev b216:=bodyOf Tryz.f216
noncomputable abbrev b177:=bodyOf Tryz.f177
def F173a(fuel:Nat)(d0:List Int)(d1:List (List T_api_Choice))(d2:Int)(d3:Int):Option Bool:=
 Option.bind (
  bif decide (((d0.map e_i64).length:Int)≥1) then
   (bif decide (((d0.map e_i64).length:Int)≤12) then
    (bif ((d1.map e_lT_api_Choice).length:Int)==((d0.map e_i64).length:Int) then
     (Option.bind (F156 fuel d1) fun y3=>
     some (!y3))
    else
     (some false))
   else
    (some false))
  else
   (some false)) fun o1=>
 some o1
abbrev G173a(d0:List Int)(d1:List (List T_api_Choice))(d2:Int)(d3:Int)(r:Bool):=J none Tryz.prog 43 [] (finR Tryz.prog Tryz.f173 [(2000,.box 238 [.l 1 d0 e_i64,.l 1 d1 e_lT_api_Choice,.i d2,.i d3])] (.b r))
theorem F173a_ok{fuel:Nat}{d0:List Int}{d1:List (List T_api_Choice)}{d2:Int}{d3:Int}{r:Bool}(hF:F173a fuel d0 d1 d2 d3=some r):
 CallR Tryz.prog 173 [(2000,.box 238 [.l 1 d0 e_i64,.l 1 d1 e_lT_api_Choice,.i d2,.i d3])] [.ptr 2000 0] [(2000,.box 238 [.l 1 d0 e_i64,.l 1 d1 e_lT_api_Choice,.i d2,.i d3])] (.b r):=by
 unfold F173a at hF
 refine cr 43 Tryz.func173 ?_
 obtain⟨o1,hO,hF⟩:=bnd hF
 have hR1:G173a d0 d1 d2 d3 r ⟨mkT [(2,.b o1)],[(2000,.box 238 [.l 1 d0 e_i64,.l 1 d1 e_lT_api_Choice,.i d2,.i d3])],[kC b173 [1,1]]⟩:=by
  clear hO
  have hF:=oi hF;subst hF
  exact jrr 0
 clear hF;rename _=some o1=>hF
 refine jd 5 ?_
 refine di 8 10 hF (fun hb7 hF=> ?_) (fun hb7 hF=> ?_)
 ·
  refine di 9 19 hF (fun hb8 hF=> ?_) (fun hb8 hF=> ?_)
  ·
   refine di 15 34 hF (fun hb9 hF=> ?_) (fun hb9 hF=> ?_)
   ·
    obtain⟨y3,e3,hF⟩:=bnd hF
    refine dc 5 en156 (F156_ok e3) ?_
    refine je 3 ?_
    have hF:=oi hF;subst hF
    exact ja 0 hR1
   ·
    refine je 9 ?_
    have hF:=oi hF;subst hF
    exact ja 0 hR1
  ·
   refine je 24 ?_
   have hF:=oi hF;subst hF
   exact ja 0 hR1
 ·
  refine je 33 ?_
  have hF:=oi hF;subst hF
  exact ja 0 hR1
def F174a(fuel:Nat)(d0:List Int)(d1:List (List T_api_Choice))(d2:Int)(d3:Int):Option Bool:=
 Option.bind (F210 fuel d0) fun y1=>
 some (!y1)
theorem F174a_ok{fuel:Nat}{d0:List Int}{d1:List (List T_api_Choice)}{d2:Int}{d3:Int}{r:Bool}(hF:F174a fuel d0 d1 d2 d3=some r):
 CallR Tryz.prog 174 [(2000,.box 238 [.l 1 d0 e_i64,.l 1 d1 e_lT_api_Choice,.i d2,.i d3])] [.ptr 2000 0] [(2000,.box 238 [.l 1 d0 e_i64,.l 1 d1 e_lT_api_Choice,.i d2,.i d3])] (.b r):=by
 unfold F174a at hF
 refine cr 10 Tryz.func174 ?_
 obtain⟨y1,e1,hF⟩:=bnd hF
 refine jc 11 en210 (F210_ok e1) ?_
 have hF:=oi hF;subst hF
 exact jrr 3
def F175a_A2:Option Bool:=
 some false
def F175a_L1(fuel:Nat):List (Int×T_api_Choice)→Option Bool
 |[]=>
  some true
 |y6::ys_F175a_L1=>
  Option.bind (
   bif decide ((y6.2.Act.length:Int)>8) then
    (some true)
   else
    (Option.bind (F212 fuel (y6.2.Act.map toI)) fun y9=>
    some y9)) fun o2=>
  bif o2 then
   (F175a_A2)
  else
   ((F175a_L1 fuel ys_F175a_L1))
def F175a(fuel:Nat)(d0:List Int)(d1:List (List T_api_Choice))(d2:Int)(d3:Int):Option Bool:=
 Option.bind (F196 (⟨d0,d1⟩:T_api_Model)) fun y1=>
 Option.bind (F240 fuel y1.1 y1.2) fun ys1=>
 F175a_L1 fuel ys1
theorem F175a_ok{fuel:Nat}{d0:List Int}{d1:List (List T_api_Choice)}{d2:Int}{d3:Int}{r:Bool}(hF:F175a fuel d0 d1 d2 d3=some r):
 CallR Tryz.prog 175 [(2000,.box 238 [.l 1 d0 e_i64,.l 1 d1 e_lT_api_Choice,.i d2,.i d3])] [.ptr 2000 0] [(2000,.box 238 [.l 1 d0 e_i64,.l 1 d1 e_lT_api_Choice,.i d2,.i d3])] (.b r):=by
 unfold F175a at hF
 refine callH_of (N:=22) (b:=bodyOf Tryz.f175) Tryz.func175 (by kernel_rfl) rfl rfl (by kernel_rfl) (fun s_ r0_ w00_ M00_ st_=> ?_)
 obtain⟨y1,e1,hF⟩:=bnd hF
 refine jcr 11 [(9,2000)] en196 (F196_ok e1) ?_
 refine ja 2 (S0:=[(2,.ptr 2 0),(9,.fn 240 [] [.ptr 9 0])]) (O0:=[(2,.box 4 [.b false]),(9,.box 34 [.l 1 y1.1 e_i64,.l 1 y1.2 e_lT_api_Choice]),(2000,.box 238 [.l 1 d0 e_i64,.l 1 d1 e_lT_api_Choice,.i d2,.i d3])]) (T0:=[kC b175 [1,0,1,0],.inBlock 0,kC b175 [1,1]]) ?_
 refine J_ren [(9,9),(2000,2000),(2,2100)] (by kernel_rfl) (by kernel_rfl) (by kernel_rfl) (by kernel_rfl) ?_
 refine J_at (S0:=[(2,.ptr 2100 0),(9,.fn 240 [] [.ptr 9 0])]) (O0:=[(9,.box 34 [.l 1 y1.1 e_i64,.l 1 y1.2 e_lT_api_Choice]),(2000,.box 238 [.l 1 d0 e_i64,.l 1 d1 e_lT_api_Choice,.i d2,.i d3]),(2100,.box 4 [.b false])]) (T0:=[kC b175 [1,0,1,0],.inBlock 0,kC b175 [1,1]]) [2,9] [9,2000,2100] (by kernel_rfl) rfl ?_
 obtain⟨ys1,e2,hF⟩:=bnd hF
 obtain⟨G_,hG_⟩:∃G:List (List Kx.V)→List (Nat×IObj)→Prop,G=(fun yv ob=>∃(yl_:List (Int×T_api_Choice)),yv=yl_.map y_i64_T_api_Choice∧ob=[(2000,.box 238 [.l 1 d0 e_i64,.l 1 d1 e_lT_api_Choice,.i d2,.i d3]),(2100,.box 4 [.b false])]∧F175a_L1 fuel yl_=some r):=⟨_,rfl⟩
 obtain⟨GX_,hGX_⟩:∃G:Code→List (Nat×IObj)→Prop,G=(fun j ob=>(∃(_:Unit),j= .ret∧ob=[(2000,.box 238 [.l 1 d0 e_i64,.l 1 d1 e_lT_api_Choice,.i d2,.i d3]),(2100,.box 4 [.b false])]∧F175a_A2=some r)):=⟨_,rfl⟩
 refine J_range (P:=Tryz.prog) (g:=(.tmp 9)) (ps:= #[10,11]) (asg:=(cAt b175 [1,0,1,0,0])) (bo:=(cAt b175 [1,0,1,0,1])) (k:=[.inBlock 0,kC b175 [1,1]]) (gf:=240) (first:=[]) (cap:=[.ptr 9 0]) (xs:=[.rp [.sl 1 (y1.1.map e_i64),.sl 1 (y1.2.map e_lT_api_Choice)] 0]) (os:=[]) (S1:=[(2,.ptr 2100 0)]) (ob0:=[(2000,.box 238 [.l 1 d0 e_i64,.l 1 d1 e_lT_api_Choice,.i d2,.i d3]),(2100,.box 4 [.b false])]) [] [2] [2000,2100] [.rp [.sl 1 (y1.1.map e_i64),.sl 1 (y1.2.map e_lT_api_Choice)] 0] (ysAll:=ys1.map y_i64_T_api_Choice) [2000,2100] G_ GX_ rfl (by kernel_rfl) rfl (by kernel_rfl) rfl (by kernel_rfl) (Res'.refl _) en240 (F240_ok e2) (by kernel_rfl) (by kernel_rfl) (by kernel_rfl) ?_ ?_ ?_ ⟨by kernel_rfl,by kernel_rfl⟩ ?_ ?_ ?_
 ·rw[hG_];exact⟨ys1,rfl,by kernel_rfl,hF⟩
 ·intro yv_ ob_ h_;rw[hG_]at h_;obtain⟨_,_,rfl,_⟩:=h_;kernel_rfl
 ·intro j_ ob_ h_;rw[hGX_]at h_;rcases h_ with⟨_,_,rfl,_⟩<;>kernel_rfl
 ·intro x_ hxa_ hxb_ hxp_ yv_ ysv_ ob_ h_;rw[hG_]at h_
  obtain⟨yl_,hy_,rfl,hF⟩:=h_
  cases yl_ with
  |nil=>cases hy_
  |cons y6 ys_F175a_L1=>
   cases hy_;rw[F175a_L1]at hF
   refine hJ_of (by kernel_rfl) ?_
   refine J_at (S0:=[(2,.ptr 2100 0),(10,.i y6.1),(11,.agg [.s y6.2.Act,.s y6.2.Gain,.l 2 y6.2.Next e_T_api_Branch])]) (O0:=[(3000,.raw x_.D (.deferred (some []))),(3001,.raw x_.L (.loop (recOf x_ .ready none))),(2000,.box 238 [.l 1 d0 e_i64,.l 1 d1 e_lT_api_Choice,.i d2,.i d3]),(2100,.box 4 [.b false])]) (T0:=[kC b175 [1,0,1,0,0],.begR x_.L,kC b175 [1,0,1,0,1]]) [2,10,11] [3000,3001,2000,2100] (by kernel_rfl) rfl ?_
   refine ja 4 (S0:=[(2,.ptr 2100 0),(4,.ptr 4 0),(10,.i y6.1),(11,.agg [.s y6.2.Act,.s y6.2.Gain,.l 2 y6.2.Next e_T_api_Branch])]) (O0:=[(3000,.raw x_.D (.deferred (some []))),(3001,.raw x_.L (.loop (recOf x_ .ready none))),(4,.box 26 [.s y6.2.Act,.s y6.2.Gain,.l 2 y6.2.Next e_T_api_Branch]),(2000,.box 238 [.l 1 d0 e_i64,.l 1 d1 e_lT_api_Choice,.i d2,.i d3]),(2100,.box 4 [.b false])]) (T0:=[.begR x_.L,kC b175 [1,0,1,0,1]]) ?_
   refine J_begR (l:=x_.L) (q:=3001) (k:=[kC b175 [1,0,1,0,1]]) (rec:=recOf x_ .ready none) rfl rfl rfl ?_
   obtain⟨o2,hO,hF⟩:=bnd hF
   have hR2:J (some x_.L) Tryz.prog 22 [] (finB x_ G_ GX_ (fun _=>False) (ys_F175a_L1.map y_i64_T_api_Choice)) ⟨mkT [(2,.ptr 2100 0),(21,.b o2)],[(3000,.raw x_.D (.deferred (some []))),(3001,.raw x_.L (.loop (recOf x_ .busy none))),(2000,.box 238 [.l 1 d0 e_i64,.l 1 d1 e_lT_api_Choice,.i d2,.i d3]),(2100,.box 4 [.b false])],[kO b175 [1,0,1,0,1,0,0],kC b175 [1,0,1,0,1,0,1],.inBlock 1]⟩:=by
    clear hO
    refine ji 1 21 hF (fun hb7 hF=> ?_) (fun hb7 hF=> ?_)
    ·
     refine ja 5 (S0:=[]) (O0:=rob x_ .busy none [(2000,.box 238 [.l 1 d0 e_i64,.l 1 d1 e_lT_api_Choice,.i d2,.i d3]),(2100,.box 4 [.b false])]) (T0:=[.code (.ret),.inBlock 1]) ?_
     exact J_retB rfl [(2000,.box 238 [.l 1 d0 e_i64,.l 1 d1 e_lT_api_Choice,.i d2,.i d3]),(2100,.box 4 [.b false])] (k:=[.inBlock 1]) rfl rfl rfl (by kernel_rfl) (by rw[hGX_];exact⟨(),rfl,rfl,hF⟩)
    ·
     refine ja 3 (S0:=[]) (O0:=rob x_ .busy none [(2000,.box 238 [.l 1 d0 e_i64,.l 1 d1 e_lT_api_Choice,.i d2,.i d3]),(2100,.box 4 [.b false])]) (T0:=[]) ?_
     exact J_endB rfl [(2000,.box 238 [.l 1 d0 e_i64,.l 1 d1 e_lT_api_Choice,.i d2,.i d3]),(2100,.box 4 [.b false])] rfl rfl (by kernel_rfl) (by rw[hG_];exact⟨ys_F175a_L1,rfl,rfl,hF⟩)
   clear hF;rename _=some o2=>hF
   refine ji 8 16 hF (fun hb8 hF=> ?_) (fun hb8 hF=> ?_)
   ·
    have hF:=oi hF;subst hF
    exact ja 5 hR2
   ·
    refine J_adv 2 (J_opt2 (o:=some (y6.2.Act.map byteD)) ((y6.2.Act.map toI).map e_u8) (by kernel_rfl) (bym (f:=e_u8) (fun _=>rfl)) ?_)
    obtain⟨y9,e8,hF⟩:=bnd hF
    refine jc 0 en212 (F212_ok e8) ?_
    have hF:=oi hF;subst hF
    exact ja 1 hR2
 ·intro D_ ob_ h_;rw[hG_]at h_
  obtain⟨yl_,hy_,rfl,hF⟩:=h_
  cases yl_ with
  |cons _ _=>cases hy_
  |nil=>
   clear hy_;rw[F175a_L1]at hF
   refine J_renG st_ [(2100,2),(2000,2000)] (by kernel_rfl) (by kernel_rfl) (by kernel_rfl) (by kernel_rfl) ?_
   refine ja 0 (S0:=[(2,.ptr 2 0)]) (O0:=[(2,.box 4 [.b false]),(2000,.box 238 [.l 1 d0 e_i64,.l 1 d1 e_lT_api_Choice,.i d2,.i d3])]) (T0:=[.inBlock 0,kC b175 [1,1]]) ?_
   have hF:=oi hF;subst hF
   exact J_adv 5 (J_retH (xs:=[.b true]) st_ [.b true] rfl rfl (by kernel_rfl) (Res'.refl _) rfl (by kernel_rfl))
 ·intro D_ ob_ j_ h_;rw[hGX_]at h_
  rcases h_ with⟨_,rfl,rfl,hF⟩
  ·
   unfold F175a_A2 at hF
   refine J_renG st_ [(2100,2),(2000,2000)] (by kernel_rfl) (by kernel_rfl) (by kernel_rfl) (by kernel_rfl) ?_
   refine ja 0 (S0:=[(2,.ptr 2 0)]) (O0:=[(2,.box 4 [.b false]),(2000,.box 238 [.l 1 d0 e_i64,.l 1 d1 e_lT_api_Choice,.i d2,.i d3])]) (T0:=[.code (.ret),.inBlock 0,kC b175 [1,1]]) ?_
   have hF:=oi hF;subst hF
   exact J_adv 0 (J_retH (xs:=[.b false]) st_ [.b false] rfl rfl (by kernel_rfl) (Res'.refl _) rfl (by kernel_rfl))
def F215b(fuel:Nat)(d0:Int)(d1:List Int)(d2:List (List T_api_Choice))(d3:Int)(d4:Int):Option (Bool×Int):=
 Option.bind (F253 fuel d4 d0) fun y1=>
 ass (decide (y1≠0))<|
 some (decide ((IntKind.i64.wrap ((IntKind.i64.wrap (Int.tdiv d4 y1))*d0))≤9999),IntKind.i64.wrap ((IntKind.i64.wrap (Int.tdiv d4 y1))*d0))
theorem F215b_ok{fuel:Nat}{d0:Int}{d1:List Int}{d2:List (List T_api_Choice)}{d3:Int}{d4:Int}{r:Bool×Int}(hF:F215b fuel d0 d1 d2 d3 d4=some r):
 CallR Tryz.prog 215 [(2000,.box 238 [.l 1 d1 e_i64,.l 1 d2 e_lT_api_Choice,.i d3,.i d4])] [.ptr 2000 3,.i d0] [(2000,.box 238 [.l 1 d1 e_i64,.l 1 d2 e_lT_api_Choice,.i d3,.i r.2])] (.b r.1):=by
 unfold F215b at hF
 refine cr 22 Tryz.func215 ?_
 refine jd 5 ?_
 obtain⟨y1,e1,hF⟩:=bnd hF
 refine dc 8 en253 (F253_ok e1) ?_
 obtain⟨hb1,hF⟩:=assd hF
 refine do1 0 (ck hb1) ?_
 refine je 4 ?_
 have hF:=oi hF;subst hF
 exact jrr 8
def F176a_A2(v5:Int):Option (Bool×Int):=
 some (false,v5)
def F176a_L1(fuel:Nat)(d0:List Int)(d1:List (List T_api_Choice))(d2:Int):List (Int×T_api_Choice)→Int→Option (Bool×Int)
 |[],v4=>
  some (true,v4)
 |y12::ys_F176a_L1,v4=>
  Option.bind (F214 fuel y12.2.Gain) fun y13=>
  Option.bind (
   bif !y13.2.2 then
    (some (true,v4))
   else
    (bif decide (y13.1<0) then
     (some (true,v4))
    else
     (Option.bind (F215b fuel y13.2.1 d0 d1 d2 v4) fun y16=>
     some (!y16.1,y16.2)))) fun o3=>
  bif o3.1 then
   (F176a_A2 o3.2)
  else
   ((F176a_L1 fuel d0 d1 d2 ys_F176a_L1) o3.2)
def F176a(fuel:Nat)(d0:List Int)(d1:List (List T_api_Choice))(d2:Int)(d3:Int):Option (Bool×Int):=
 Option.bind (F196 (⟨d0,d1⟩:T_api_Model)) fun y1=>
 Option.bind (F240 fuel y1.1 y1.2) fun ys1=>
 F176a_L1 fuel d0 d1 d2 ys1 1
theorem F176a_ok{fuel:Nat}{d0:List Int}{d1:List (List T_api_Choice)}{d2:Int}{d3:Int}{r:Bool×Int}(hF:F176a fuel d0 d1 d2 d3=some r):
 CallR Tryz.prog 176 [(2000,.box 238 [.l 1 d0 e_i64,.l 1 d1 e_lT_api_Choice,.i d2,.i d3])] [.ptr 2000 0] [(2000,.box 238 [.l 1 d0 e_i64,.l 1 d1 e_lT_api_Choice,.i d2,.i r.2])] (.b r.1):=by
 unfold F176a at hF
 refine callH_of (N:=39) (b:=bodyOf Tryz.f176) Tryz.func176 (by kernel_rfl) rfl rfl (by kernel_rfl) (fun s_ r0_ w00_ M00_ st_=> ?_)
 obtain⟨y1,e1,hF⟩:=bnd hF
 refine jcr 19 [(15,2000)] en196 (F196_ok e1) ?_
 refine ja 2 (S0:=[(1,.ptr 1 0),(2,.ptr 2 0),(15,.fn 240 [] [.ptr 15 0])]) (O0:=[(1,.box 195 [.ptr 2000 0]),(2,.box 4 [.b false]),(15,.box 34 [.l 1 y1.1 e_i64,.l 1 y1.2 e_lT_api_Choice]),(2000,.box 238 [.l 1 d0 e_i64,.l 1 d1 e_lT_api_Choice,.i d2,.i 1])]) (T0:=[kC b176 [1,1,0,1,0],.inBlock 0,kC b176 [1,1,1]]) ?_
 refine J_ren [(15,15),(2000,2000),(1,2100),(2,2101)] (by kernel_rfl) (by kernel_rfl) (by kernel_rfl) (by kernel_rfl) ?_
 refine J_at (S0:=[(1,.ptr 2100 0),(2,.ptr 2101 0),(15,.fn 240 [] [.ptr 15 0])]) (O0:=[(15,.box 34 [.l 1 y1.1 e_i64,.l 1 y1.2 e_lT_api_Choice]),(2000,.box 238 [.l 1 d0 e_i64,.l 1 d1 e_lT_api_Choice,.i d2,.i 1]),(2100,.box 195 [.ptr 2000 0]),(2101,.box 4 [.b false])]) (T0:=[kC b176 [1,1,0,1,0],.inBlock 0,kC b176 [1,1,1]]) [1,2,15] [15,2000,2100,2101] (by kernel_rfl) rfl ?_
 obtain⟨ys1,e2,hF⟩:=bnd hF
 obtain⟨G_,hG_⟩:∃G:List (List Kx.V)→List (Nat×IObj)→Prop,G=(fun yv ob=>∃(yl_:List (Int×T_api_Choice)) (v4:Int),yv=yl_.map y_i64_T_api_Choice∧ob=[(2000,.box 238 [.l 1 d0 e_i64,.l 1 d1 e_lT_api_Choice,.i d2,.i v4]),(2100,.box 195 [.ptr 2000 0]),(2101,.box 4 [.b false])]∧F176a_L1 fuel d0 d1 d2 yl_ v4=some r):=⟨_,rfl⟩
 obtain⟨GX_,hGX_⟩:∃G:Code→List (Nat×IObj)→Prop,G=(fun j ob=>(∃(v5:Int),j= .ret∧ob=[(2000,.box 238 [.l 1 d0 e_i64,.l 1 d1 e_lT_api_Choice,.i d2,.i v5]),(2100,.box 195 [.ptr 2000 0]),(2101,.box 4 [.b false])]∧F176a_A2 v5=some r)):=⟨_,rfl⟩
 refine J_range (P:=Tryz.prog) (g:=(.tmp 15)) (ps:= #[16,17]) (asg:=(cAt b176 [1,1,0,1,0,0])) (bo:=(cAt b176 [1,1,0,1,0,1])) (k:=[.inBlock 0,kC b176 [1,1,1]]) (gf:=240) (first:=[]) (cap:=[.ptr 15 0]) (xs:=[.rp [.sl 1 (y1.1.map e_i64),.sl 1 (y1.2.map e_lT_api_Choice)] 0]) (os:=[]) (S1:=[(1,.ptr 2100 0),(2,.ptr 2101 0)]) (ob0:=[(2000,.box 238 [.l 1 d0 e_i64,.l 1 d1 e_lT_api_Choice,.i d2,.i 1]),(2100,.box 195 [.ptr 2000 0]),(2101,.box 4 [.b false])]) [] [1,2] [2000,2100,2101] [.rp [.sl 1 (y1.1.map e_i64),.sl 1 (y1.2.map e_lT_api_Choice)] 0] (ysAll:=ys1.map y_i64_T_api_Choice) [2000,2100,2101] G_ GX_ rfl (by kernel_rfl) rfl (by kernel_rfl) rfl (by kernel_rfl) (Res'.refl _) en240 (F240_ok e2) (by kernel_rfl) (by kernel_rfl) (by kernel_rfl) ?_ ?_ ?_ ⟨by kernel_rfl,by kernel_rfl⟩ ?_ ?_ ?_
 ·rw[hG_];exact⟨ys1,1,rfl,by kernel_rfl,hF⟩
 ·intro yv_ ob_ h_;rw[hG_]at h_;obtain⟨_,_,_,rfl,_⟩:=h_;kernel_rfl
 ·intro j_ ob_ h_;rw[hGX_]at h_;rcases h_ with⟨_,_,rfl,_⟩<;>kernel_rfl
 ·intro x_ hxa_ hxb_ hxp_ yv_ ysv_ ob_ h_;rw[hG_]at h_
  obtain⟨yl_,v4,hy_,rfl,hF⟩:=h_
  cases yl_ with
  |nil=>cases hy_
  |cons y12 ys_F176a_L1=>
   cases hy_;rw[F176a_L1]at hF
   refine hJ_of (by kernel_rfl) ?_
   refine J_at (S0:=[(1,.ptr 2100 0),(2,.ptr 2101 0),(16,.i y12.1),(17,.agg [.s y12.2.Act,.s y12.2.Gain,.l 2 y12.2.Next e_T_api_Branch])]) (O0:=[(3000,.raw x_.D (.deferred (some []))),(3001,.raw x_.L (.loop (recOf x_ .ready none))),(2000,.box 238 [.l 1 d0 e_i64,.l 1 d1 e_lT_api_Choice,.i d2,.i v4]),(2100,.box 195 [.ptr 2000 0]),(2101,.box 4 [.b false])]) (T0:=[kC b176 [1,1,0,1,0,0],.begR x_.L,kC b176 [1,1,0,1,0,1]]) [1,2,16,17] [3000,3001,2000,2100,2101] (by kernel_rfl) rfl ?_
   refine ja 4 (S0:=[(1,.ptr 2100 0),(2,.ptr 2101 0),(4,.ptr 4 0),(16,.i y12.1),(17,.agg [.s y12.2.Act,.s y12.2.Gain,.l 2 y12.2.Next e_T_api_Branch])]) (O0:=[(3000,.raw x_.D (.deferred (some []))),(3001,.raw x_.L (.loop (recOf x_ .ready none))),(4,.box 26 [.s y12.2.Act,.s y12.2.Gain,.l 2 y12.2.Next e_T_api_Branch]),(2000,.box 238 [.l 1 d0 e_i64,.l 1 d1 e_lT_api_Choice,.i d2,.i v4]),(2100,.box 195 [.ptr 2000 0]),(2101,.box 4 [.b false])]) (T0:=[.begR x_.L,kC b176 [1,1,0,1,0,1]]) ?_
   refine J_begR (l:=x_.L) (q:=3001) (k:=[kC b176 [1,1,0,1,0,1]]) (rec:=recOf x_ .ready none) rfl rfl rfl ?_
   obtain⟨y13,e11,hF⟩:=bnd hF
   refine jc 5 en214 (F214_ok e11) ?_
   obtain⟨o3,hO,hF⟩:=bnd hF
   have hR3:J (some x_.L) Tryz.prog 39 [] (finB x_ G_ GX_ (fun _=>False) (ys_F176a_L1.map y_i64_T_api_Choice)) ⟨mkT [(2,.ptr 2101 0),(38,.b o3.1)],[(3000,.raw x_.D (.deferred (some []))),(3001,.raw x_.L (.loop (recOf x_ .busy none))),(2000,.box 238 [.l 1 d0 e_i64,.l 1 d1 e_lT_api_Choice,.i d2,.i o3.2]),(2100,.box 195 [.ptr 2000 0]),(2101,.box 4 [.b false])],[kO b176 [1,1,0,1,0,1,0,1,0],kC b176 [1,1,0,1,0,1,0,1,1],.inBlock 1]⟩:=by
    clear hO
    refine ji 1 38 hF (fun hb19 hF=> ?_) (fun hb19 hF=> ?_)
    ·
     refine ja 5 (S0:=[]) (O0:=rob x_ .busy none [(2000,.box 238 [.l 1 d0 e_i64,.l 1 d1 e_lT_api_Choice,.i d2,.i o3.2]),(2100,.box 195 [.ptr 2000 0]),(2101,.box 4 [.b false])]) (T0:=[.code (.ret),.inBlock 1]) ?_
     exact J_retB rfl [(2000,.box 238 [.l 1 d0 e_i64,.l 1 d1 e_lT_api_Choice,.i d2,.i o3.2]),(2100,.box 195 [.ptr 2000 0]),(2101,.box 4 [.b false])] (k:=[.inBlock 1]) rfl rfl rfl (by kernel_rfl) (by rw[hGX_];exact⟨o3.2,rfl,rfl,hF⟩)
    ·
     refine ja 3 (S0:=[]) (O0:=rob x_ .busy none [(2000,.box 238 [.l 1 d0 e_i64,.l 1 d1 e_lT_api_Choice,.i d2,.i o3.2]),(2100,.box 195 [.ptr 2000 0]),(2101,.box 4 [.b false])]) (T0:=[]) ?_
     exact J_endB rfl [(2000,.box 238 [.l 1 d0 e_i64,.l 1 d1 e_lT_api_Choice,.i d2,.i o3.2]),(2100,.box 195 [.ptr 2000 0]),(2101,.box 4 [.b false])] rfl rfl (by kernel_rfl) (by rw[hG_];exact⟨ys_F176a_L1,o3.2,rfl,rfl,hF⟩)
   clear hF;rename _=some o3=>hF
   refine ji 13 27 hF (fun hb20 hF=> ?_) (fun hb20 hF=> ?_)
   ·
    have hF:=oi hF;subst hF
    exact ja 11 hR3
   ·
    refine ji 4 31 hF (fun hb21 hF=> ?_) (fun hb21 hF=> ?_)
    ·
     have hF:=oi hF;subst hF
     exact ja 7 hR3
    ·
     obtain⟨y16,e14,hF⟩:=bnd hF
     refine jcr 4 [(2000,2000)] en215 (F215b_ok e14) ?_
     have hF:=oi hF;subst hF
     exact ja 2 hR3
 ·intro D_ ob_ h_;rw[hG_]at h_
  obtain⟨yl_,v4,hy_,rfl,hF⟩:=h_
  cases yl_ with
  |cons _ _=>cases hy_
  |nil=>
   clear hy_;rw[F176a_L1]at hF
   refine J_renG st_ [(2100,1),(2101,2),(2000,2000)] (by kernel_rfl) (by kernel_rfl) (by kernel_rfl) (by kernel_rfl) ?_
   refine ja 0 (S0:=[(2,.ptr 2 0)]) (O0:=[(2,.box 4 [.b false]),(2000,.box 238 [.l 1 d0 e_i64,.l 1 d1 e_lT_api_Choice,.i d2,.i v4])]) (T0:=[.inBlock 0,kC b176 [1,1,1]]) ?_
   have hF:=oi hF;subst hF
   exact J_adv 5 (J_retH (xs:=[.b true]) st_ [.b true] rfl rfl (by kernel_rfl) (Res'.refl _) rfl (by kernel_rfl))
 ·intro D_ ob_ j_ h_;rw[hGX_]at h_
  rcases h_ with⟨v5,rfl,rfl,hF⟩
  ·
   unfold F176a_A2 at hF
   refine J_renG st_ [(2100,1),(2101,2),(2000,2000)] (by kernel_rfl) (by kernel_rfl) (by kernel_rfl) (by kernel_rfl) ?_
   refine ja 0 (S0:=[(2,.ptr 2 0)]) (O0:=[(2,.box 4 [.b false]),(2000,.box 238 [.l 1 d0 e_i64,.l 1 d1 e_lT_api_Choice,.i d2,.i v5])]) (T0:=[.code (.ret),.inBlock 0,kC b176 [1,1,1]]) ?_
   have hF:=oi hF;subst hF
   exact J_adv 0 (J_retH (xs:=[.b false]) st_ [.b false] rfl rfl (by kernel_rfl) (Res'.refl _) rfl (by kernel_rfl))
def F215c(fuel:Nat)(d0:Int)(d1:List Int)(d2:List (List T_api_Choice))(d3:Int)(d4:Int):Option (Bool×Int):=
 Option.bind (F253 fuel d3 d0) fun y1=>
 ass (decide (y1≠0))<|
 some (decide ((IntKind.i64.wrap ((IntKind.i64.wrap (Int.tdiv d3 y1))*d0))≤9999),IntKind.i64.wrap ((IntKind.i64.wrap (Int.tdiv d3 y1))*d0))
theorem F215c_ok{fuel:Nat}{d0:Int}{d1:List Int}{d2:List (List T_api_Choice)}{d3:Int}{d4:Int}{r:Bool×Int}(hF:F215c fuel d0 d1 d2 d3 d4=some r):
 CallR Tryz.prog 215 [(2000,.box 238 [.l 1 d1 e_i64,.l 1 d2 e_lT_api_Choice,.i d3,.i d4])] [.ptr 2000 2,.i d0] [(2000,.box 238 [.l 1 d1 e_i64,.l 1 d2 e_lT_api_Choice,.i r.2,.i d4])] (.b r.1):=by
 unfold F215c at hF
 refine cr 22 Tryz.func215 ?_
 refine jd 5 ?_
 obtain⟨y1,e1,hF⟩:=bnd hF
 refine dc 8 en253 (F253_ok e1) ?_
 obtain⟨hb1,hF⟩:=assd hF
 refine do1 0 (ck hb1) ?_
 refine je 4 ?_
 have hF:=oi hF;subst hF
 exact jrr 8
def F216a_L2(fuel:Nat)(d0:List T_api_Branch)(v8:Int):Nat→Int→Int→Option (Bool×Int)
 |0,_,_=>none
 |n_F216a_L2+1,v12,v13=>
  bif decide (v13<((d0.map e_T_api_Branch).length:Int)) then
   (Option.bind (geti d0 v13) fun y20=>
   Option.bind (F214 fuel y20.P) fun y21=>
   ass (decide (y21.2.1≠0))<|
   (F216a_L2 fuel d0 v8 n_F216a_L2) (IntKind.i64.wrap (v12+(IntKind.i64.wrap (y21.1*(IntKind.i64.wrap (Int.tdiv v8 y21.2.1)))))) (IntKind.i64.wrap (v13+1)))
  else
   (some (v12==v8,v8))
def F216a_L1(fuel:Nat)(d0:List T_api_Branch)(d1:List Int)(d2:List (List T_api_Choice))(d4:Int):Nat→Int→Int→Int→Option (Bool×Int)
 |0,_,_,_=>none
 |n_F216a_L1+1,v6,v7,v8=>
  bif decide (v7<((d0.map e_T_api_Branch).length:Int)) then
   (Option.bind (geti d0 v7) fun y11=>
   Option.bind (F214 fuel y11.P) fun y12=>
   Option.bind (
    bif decide (y11.To≤v6) then
     (some (true,v8))
    else
     (bif decide (y11.To≥((d1.map e_i64).length:Int)) then
      (some (true,v8))
     else
      (bif !y12.2.2 then
       (some (true,v8))
      else
       (bif decide (y12.1<1) then
        (some (true,v8))
       else
        (Option.bind (F215c fuel y12.2.1 d1 d2 v8 d4) fun y15=>
        some (!y15.1,y15.2)))))) fun o3=>
   bif o3.1 then
    (some (false,o3.2))
   else
    ((F216a_L1 fuel d0 d1 d2 d4 n_F216a_L1) y11.To (IntKind.i64.wrap (v7+1)) o3.2))
  else
   (F216a_L2 fuel d0 v8 fuel 0 0)
def F216a(fuel:Nat)(d0:List T_api_Branch)(d1:List Int)(d2:List (List T_api_Choice))(d3:Int)(d4:Int):Option (Bool×Int):=
 F216a_L1 fuel d0 d1 d2 d4 fuel (-1) 0 d3
abbrev G216a(d1:List Int)(d2:List (List T_api_Choice))(d4:Int)(r:Bool×Int):=J none Tryz.prog 94 [] (finR Tryz.prog Tryz.f216 [(2000,.box 238 [.l 1 d1 e_i64,.l 1 d2 e_lT_api_Choice,.i r.2,.i d4])] (.b r.1))
theorem F216a_ok{fuel:Nat}{d0:List T_api_Branch}{d1:List Int}{d2:List (List T_api_Choice)}{d3:Int}{d4:Int}{r:Bool×Int}(hF:F216a fuel d0 d1 d2 d3 d4=some r):
 CallR Tryz.prog 216 [(2000,.box 238 [.l 1 d1 e_i64,.l 1 d2 e_lT_api_Choice,.i d3,.i d4])] [.ptr 2000 0,.l 2 d0 e_T_api_Branch] [(2000,.box 238 [.l 1 d1 e_i64,.l 1 d2 e_lT_api_Choice,.i r.2,.i d4])] (.b r.1):=by
 unfold F216a at hF
 refine cr 94 Tryz.func216 ?_
 have hF216a_L1:∀(n_F216a_L1:Nat) (v6:Int) (v7:Int) (v8:Int),F216a_L1 fuel d0 d1 d2 d4 n_F216a_L1 v6 v7 v8=some r→G216a d1 d2 d4 r ⟨mkT [(0,.ptr 2000 0),(1,.l 2 d0 e_T_api_Branch),(5,.i v6),(17,.l 2 d0 e_T_api_Branch),(18,.i ((d0.map e_T_api_Branch).length:Int)),(19,.i v7)],[(2000,.box 238 [.l 1 d1 e_i64,.l 1 d2 e_lT_api_Choice,.i v8,.i d4])],[kL b216 [1,1,0,1,0,0],.inBlock 0,kC b216 [1,1,1]]⟩:=by
  clear hF;intro n_F216a_L1
  induction n_F216a_L1 with
  |zero=>intro v6 v7 v8 hF;cases hF
  |succ n_F216a_L1 ih_F216a_L1=>
   intro v6 v7 v8 hF
   rw[F216a_L1]at hF
   refine ji 6 20 hF (fun hb29 hF=> ?_) (fun hb29 hF=> ?_)
   ·
    obtain⟨y11,e11,hF⟩:=bnd hF
    refine jo1 6 (gm (f:=e_T_api_Branch) e11) ?_
    obtain⟨y12,e12,hF⟩:=bnd hF
    refine jc 8 en214 (F214_ok e12) ?_
    obtain⟨o3,hO,hF⟩:=bnd hF
    have hR3:G216a d1 d2 d4 r ⟨mkT [(0,.ptr 2000 0),(1,.l 2 d0 e_T_api_Branch),(7,.ptr 7 0),(17,.l 2 d0 e_T_api_Branch),(18,.i ((d0.map e_T_api_Branch).length:Int)),(19,.i v7),(60,.b o3.1)],[(7,.box 29 [.i y11.To,.s y11.P]),(2000,.box 238 [.l 1 d1 e_i64,.l 1 d2 e_lT_api_Choice,.i o3.2,.i d4])],[kC b216 [1,1,0,1,0,0,1,1,0,0,1,1,0,1],kC b216 [1,1,0,1,0,0,1,1,0,0,1,1,1],.inBlock 1,kC b216 [1,1,0,1,0,0,1,1,1],kL b216 [1,1,0,1,0,0],.inBlock 0,kC b216 [1,1,1]]⟩:=by
     clear hO
     refine ji 0 60 hF (fun hb38 hF=> ?_) (fun hb38 hF=> ?_)
     ·
      have hF:=oi hF;subst hF
      exact jrr 5
     ·
      exact ja 12 (ih_F216a_L1 _ _ _ hF)
    clear hF;rename _=some o3=>hF
    refine jd 10 ?_
    refine di 5 34 hF (fun hb39 hF=> ?_) (fun hb39 hF=> ?_)
    ·
     refine je 26 ?_
     have hF:=oi hF;subst hF
     exact ja 0 hR3
    ·
     refine di 11 45 hF (fun hb40 hF=> ?_) (fun hb40 hF=> ?_)
     ·
      refine je 15 ?_
      have hF:=oi hF;subst hF
      exact ja 0 hR3
     ·
      refine di 4 49 hF (fun hb41 hF=> ?_) (fun hb41 hF=> ?_)
      ·
       refine je 11 ?_
       have hF:=oi hF;subst hF
       exact ja 0 hR3
      ·
       refine di 4 53 hF (fun hb42 hF=> ?_) (fun hb42 hF=> ?_)
       ·
        refine je 7 ?_
        have hF:=oi hF;subst hF
        exact ja 0 hR3
       ·
        obtain⟨y15,e15,hF⟩:=bnd hF
        refine dcr 4 [(2000,2000)] en215 (F215c_ok e15) ?_
        refine je 2 ?_
        have hF:=oi hF;subst hF
        exact ja 0 hR3
   ·
    have hF216a_L2:∀(n_F216a_L2:Nat) (v12:Int) (v13:Int),F216a_L2 fuel d0 v8 n_F216a_L2 v12 v13=some r→G216a d1 d2 d4 r ⟨mkT [(0,.ptr 2000 0),(11,.i v12),(64,.l 2 d0 e_T_api_Branch),(65,.i ((d0.map e_T_api_Branch).length:Int)),(66,.i v13)],[(2000,.box 238 [.l 1 d1 e_i64,.l 1 d2 e_lT_api_Choice,.i v8,.i d4])],[kL b216 [1,1,1,1,0,1,0,0],.inBlock 2,kC b216 [1,1,1,1,1]]⟩:=by
     clear hF;intro n_F216a_L2
     induction n_F216a_L2 with
     |zero=>intro v12 v13 hF;cases hF
     |succ n_F216a_L2 ih_F216a_L2=>
      intro v12 v13 hF
      rw[F216a_L2]at hF
      refine ji 6 67 hF (fun hb47 hF=> ?_) (fun hb47 hF=> ?_)
      ·
       obtain⟨y20,e20,hF⟩:=bnd hF
       refine jo1 6 (gm (f:=e_T_api_Branch) e20) ?_
       obtain⟨y21,e21,hF⟩:=bnd hF
       refine jc 8 en214 (F214_ok e21) ?_
       obtain⟨hb48,hF⟩:=assd hF
       refine jo1 16 (ck hb48) ?_
       exact ja 9 (ih_F216a_L2 _ _ hF)
      ·
       have hF:=oi hF;subst hF
       exact jrr 12
    exact ja 15 (hF216a_L2 _ _ _ hF)
 exact ja 17 (hF216a_L1 _ _ _ _ hF)
def F177a_A2(v3:Int):Option (Bool×Int):=
 some (false,v3)
def F177a_L1(fuel:Nat)(d0:List Int)(d1:List (List T_api_Choice))(d3:Int):List (Int×T_api_Choice)→Int→Option (Bool×Int)
 |[],v2=>
  some (true,v2)
 |y6::ys_F177a_L1,v2=>
  Option.bind (F216a fuel y6.2.Next d0 d1 v2 d3) fun y7=>
  bif !y7.1 then
   (F177a_A2 y7.2)
  else
   ((F177a_L1 fuel d0 d1 d3 ys_F177a_L1) y7.2)
def F177a(fuel:Nat)(d0:List Int)(d1:List (List T_api_Choice))(d2:Int)(d3:Int):Option (Bool×Int):=
 Option.bind (F196 (⟨d0,d1⟩:T_api_Model)) fun y1=>
 Option.bind (F240 fuel y1.1 y1.2) fun ys1=>
 F177a_L1 fuel d0 d1 d3 ys1 1
theorem F177a_ok{fuel:Nat}{d0:List Int}{d1:List (List T_api_Choice)}{d2:Int}{d3:Int}{r:Bool×Int}(hF:F177a fuel d0 d1 d2 d3=some r):
 CallR Tryz.prog 177 [(2000,.box 238 [.l 1 d0 e_i64,.l 1 d1 e_lT_api_Choice,.i d2,.i d3])] [.ptr 2000 0] [(2000,.box 238 [.l 1 d0 e_i64,.l 1 d1 e_lT_api_Choice,.i r.2,.i d3])] (.b r.1):=by
 unfold F177a at hF
 refine callH_of (N:=20) (b:=bodyOf Tryz.f177) Tryz.func177 (by kernel_rfl) rfl rfl (by kernel_rfl) (fun s_ r0_ w00_ M00_ st_=> ?_)
 obtain⟨y1,e1,hF⟩:=bnd hF
 refine jcr 19 [(12,2000)] en196 (F196_ok e1) ?_
 refine ja 2 (S0:=[(1,.ptr 1 0),(2,.ptr 2 0),(12,.fn 240 [] [.ptr 12 0])]) (O0:=[(1,.box 195 [.ptr 2000 0]),(2,.box 4 [.b false]),(12,.box 34 [.l 1 y1.1 e_i64,.l 1 y1.2 e_lT_api_Choice]),(2000,.box 238 [.l 1 d0 e_i64,.l 1 d1 e_lT_api_Choice,.i 1,.i d3])]) (T0:=[kC b177 [1,1,0,1,0],.inBlock 0,kC b177 [1,1,1]]) ?_
 refine J_ren [(12,12),(2000,2000),(1,2100),(2,2101)] (by kernel_rfl) (by kernel_rfl) (by kernel_rfl) (by kernel_rfl) ?_
 refine J_at (S0:=[(1,.ptr 2100 0),(2,.ptr 2101 0),(12,.fn 240 [] [.ptr 12 0])]) (O0:=[(12,.box 34 [.l 1 y1.1 e_i64,.l 1 y1.2 e_lT_api_Choice]),(2000,.box 238 [.l 1 d0 e_i64,.l 1 d1 e_lT_api_Choice,.i 1,.i d3]),(2100,.box 195 [.ptr 2000 0]),(2101,.box 4 [.b false])]) (T0:=[kC b177 [1,1,0,1,0],.inBlock 0,kC b177 [1,1,1]]) [1,2,12] [12,2000,2100,2101] (by kernel_rfl) rfl ?_
 obtain⟨ys1,e2,hF⟩:=bnd hF
 obtain⟨G_,hG_⟩:∃G:List (List Kx.V)→List (Nat×IObj)→Prop,G=(fun yv ob=>∃(yl_:List (Int×T_api_Choice)) (v2:Int),yv=yl_.map y_i64_T_api_Choice∧ob=[(2000,.box 238 [.l 1 d0 e_i64,.l 1 d1 e_lT_api_Choice,.i v2,.i d3]),(2100,.box 195 [.ptr 2000 0]),(2101,.box 4 [.b false])]∧F177a_L1 fuel d0 d1 d3 yl_ v2=some r):=⟨_,rfl⟩
 obtain⟨GX_,hGX_⟩:∃G:Code→List (Nat×IObj)→Prop,G=(fun j ob=>(∃(v3:Int),j= .ret∧ob=[(2000,.box 238 [.l 1 d0 e_i64,.l 1 d1 e_lT_api_Choice,.i v3,.i d3]),(2100,.box 195 [.ptr 2000 0]),(2101,.box 4 [.b false])]∧F177a_A2 v3=some r)):=⟨_,rfl⟩
 refine J_range (P:=Tryz.prog) (g:=(.tmp 12)) (ps:= #[13,14]) (asg:=(cAt b177 [1,1,0,1,0,0])) (bo:=(cAt b177 [1,1,0,1,0,1])) (k:=[.inBlock 0,kC b177 [1,1,1]]) (gf:=240) (first:=[]) (cap:=[.ptr 12 0]) (xs:=[.rp [.sl 1 (y1.1.map e_i64),.sl 1 (y1.2.map e_lT_api_Choice)] 0]) (os:=[]) (S1:=[(1,.ptr 2100 0),(2,.ptr 2101 0)]) (ob0:=[(2000,.box 238 [.l 1 d0 e_i64,.l 1 d1 e_lT_api_Choice,.i 1,.i d3]),(2100,.box 195 [.ptr 2000 0]),(2101,.box 4 [.b false])]) [] [1,2] [2000,2100,2101] [.rp [.sl 1 (y1.1.map e_i64),.sl 1 (y1.2.map e_lT_api_Choice)] 0] (ysAll:=ys1.map y_i64_T_api_Choice) [2000,2100,2101] G_ GX_ rfl (by kernel_rfl) rfl (by kernel_rfl) rfl (by kernel_rfl) (Res'.refl _) en240 (F240_ok e2) (by kernel_rfl) (by kernel_rfl) (by kernel_rfl) ?_ ?_ ?_ ⟨by kernel_rfl,by kernel_rfl⟩ ?_ ?_ ?_
 ·rw[hG_];exact⟨ys1,1,rfl,by kernel_rfl,hF⟩
 ·intro yv_ ob_ h_;rw[hG_]at h_;obtain⟨_,_,_,rfl,_⟩:=h_;kernel_rfl
 ·intro j_ ob_ h_;rw[hGX_]at h_;rcases h_ with⟨_,_,rfl,_⟩<;>kernel_rfl
 ·intro x_ hxa_ hxb_ hxp_ yv_ ysv_ ob_ h_;rw[hG_]at h_
  obtain⟨yl_,v2,hy_,rfl,hF⟩:=h_
  cases yl_ with
  |nil=>cases hy_
  |cons y6 ys_F177a_L1=>
   cases hy_;rw[F177a_L1]at hF
   refine hJ_of (by kernel_rfl) ?_
   refine J_at (S0:=[(1,.ptr 2100 0),(2,.ptr 2101 0),(13,.i y6.1),(14,.agg [.s y6.2.Act,.s y6.2.Gain,.l 2 y6.2.Next e_T_api_Branch])]) (O0:=[(3000,.raw x_.D (.deferred (some []))),(3001,.raw x_.L (.loop (recOf x_ .ready none))),(2000,.box 238 [.l 1 d0 e_i64,.l 1 d1 e_lT_api_Choice,.i v2,.i d3]),(2100,.box 195 [.ptr 2000 0]),(2101,.box 4 [.b false])]) (T0:=[kC b177 [1,1,0,1,0,0],.begR x_.L,kC b177 [1,1,0,1,0,1]]) [1,2,13,14] [3000,3001,2000,2100,2101] (by kernel_rfl) rfl ?_
   refine ja 4 (S0:=[(1,.ptr 2100 0),(2,.ptr 2101 0),(4,.ptr 4 0),(13,.i y6.1),(14,.agg [.s y6.2.Act,.s y6.2.Gain,.l 2 y6.2.Next e_T_api_Branch])]) (O0:=[(3000,.raw x_.D (.deferred (some []))),(3001,.raw x_.L (.loop (recOf x_ .ready none))),(4,.box 26 [.s y6.2.Act,.s y6.2.Gain,.l 2 y6.2.Next e_T_api_Branch]),(2000,.box 238 [.l 1 d0 e_i64,.l 1 d1 e_lT_api_Choice,.i v2,.i d3]),(2100,.box 195 [.ptr 2000 0]),(2101,.box 4 [.b false])]) (T0:=[.begR x_.L,kC b177 [1,1,0,1,0,1]]) ?_
   refine J_begR (l:=x_.L) (q:=3001) (k:=[kC b177 [1,1,0,1,0,1]]) (rec:=recOf x_ .ready none) rfl rfl rfl ?_
   obtain⟨y7,e5,hF⟩:=bnd hF
   refine jcr 6 [(2000,2000)] en216 (F216a_ok e5) ?_
   refine ji 2 19 hF (fun hb3 hF=> ?_) (fun hb3 hF=> ?_)
   ·
    refine ja 5 (S0:=[]) (O0:=rob x_ .busy none [(2000,.box 238 [.l 1 d0 e_i64,.l 1 d1 e_lT_api_Choice,.i y7.2,.i d3]),(2100,.box 195 [.ptr 2000 0]),(2101,.box 4 [.b false])]) (T0:=[.code (.ret),.inBlock 1]) ?_
    exact J_retB rfl [(2000,.box 238 [.l 1 d0 e_i64,.l 1 d1 e_lT_api_Choice,.i y7.2,.i d3]),(2100,.box 195 [.ptr 2000 0]),(2101,.box 4 [.b false])] (k:=[.inBlock 1]) rfl rfl rfl (by kernel_rfl) (by rw[hGX_];exact⟨y7.2,rfl,rfl,hF⟩)
   ·
    refine ja 3 (S0:=[]) (O0:=rob x_ .busy none [(2000,.box 238 [.l 1 d0 e_i64,.l 1 d1 e_lT_api_Choice,.i y7.2,.i d3]),(2100,.box 195 [.ptr 2000 0]),(2101,.box 4 [.b false])]) (T0:=[]) ?_
    exact J_endB rfl [(2000,.box 238 [.l 1 d0 e_i64,.l 1 d1 e_lT_api_Choice,.i y7.2,.i d3]),(2100,.box 195 [.ptr 2000 0]),(2101,.box 4 [.b false])] rfl rfl (by kernel_rfl) (by rw[hG_];exact⟨ys_F177a_L1,y7.2,rfl,rfl,hF⟩)
 ·intro D_ ob_ h_;rw[hG_]at h_
  obtain⟨yl_,v2,hy_,rfl,hF⟩:=h_
  cases yl_ with
  |cons _ _=>cases hy_
  |nil=>
   clear hy_;rw[F177a_L1]at hF
   refine J_renG st_ [(2100,1),(2101,2),(2000,2000)] (by kernel_rfl) (by kernel_rfl) (by kernel_rfl) (by kernel_rfl) ?_
   refine ja 0 (S0:=[(2,.ptr 2 0)]) (O0:=[(2,.box 4 [.b false]),(2000,.box 238 [.l 1 d0 e_i64,.l 1 d1 e_lT_api_Choice,.i v2,.i d3])]) (T0:=[.inBlock 0,kC b177 [1,1,1]]) ?_
   have hF:=oi hF;subst hF
   exact J_adv 5 (J_retH (xs:=[.b true]) st_ [.b true] rfl rfl (by kernel_rfl) (Res'.refl _) rfl (by kernel_rfl))
 ·intro D_ ob_ j_ h_;rw[hGX_]at h_
  rcases h_ with⟨v3,rfl,rfl,hF⟩
  ·
   unfold F177a_A2 at hF
   refine J_renG st_ [(2100,1),(2101,2),(2000,2000)] (by kernel_rfl) (by kernel_rfl) (by kernel_rfl) (by kernel_rfl) ?_
   refine ja 0 (S0:=[(2,.ptr 2 0)]) (O0:=[(2,.box 4 [.b false]),(2000,.box 238 [.l 1 d0 e_i64,.l 1 d1 e_lT_api_Choice,.i v3,.i d3])]) (T0:=[.code (.ret),.inBlock 0,kC b177 [1,1,1]]) ?_
   have hF:=oi hF;subst hF
   exact J_adv 0 (J_retH (xs:=[.b false]) st_ [.b false] rfl rfl (by kernel_rfl) (Res'.refl _) rfl (by kernel_rfl))
def F132_L1(fuel:Nat)(d0:T_api_Model):Nat→Int→Int→Int→Option (T_model_checker×Bool)
 |0,_,_,_=>none
 |n_F132_L1+1,v4,v5,v6=>
  bif decide (v4<5) then
   (bif decide (v4=0) then
    (Option.bind (F173a fuel d0.Owner d0.Choices v5 v6) fun y11=>
    bif !y11 then
     (some ((⟨d0,v5,v6⟩:T_model_checker),false))
    else
     ((F132_L1 fuel d0 n_F132_L1) (IntKind.i64.wrap (v4+1)) v5 v6))
   else bif decide (v4=1) then
    (Option.bind (F174a fuel d0.Owner d0.Choices v5 v6) fun y12=>
    bif !y12 then
     (some ((⟨d0,v5,v6⟩:T_model_checker),false))
    else
     ((F132_L1 fuel d0 n_F132_L1) (IntKind.i64.wrap (v4+1)) v5 v6))
   else bif decide (v4=2) then
    (Option.bind (F175a fuel d0.Owner d0.Choices v5 v6) fun y13=>
    bif !y13 then
     (some ((⟨d0,v5,v6⟩:T_model_checker),false))
    else
     ((F132_L1 fuel d0 n_F132_L1) (IntKind.i64.wrap (v4+1)) v5 v6))
   else bif decide (v4=3) then
    (Option.bind (F176a fuel d0.Owner d0.Choices v5 v6) fun y14=>
    bif !y14.1 then
     (some ((⟨d0,v5,y14.2⟩:T_model_checker),false))
    else
     ((F132_L1 fuel d0 n_F132_L1) (IntKind.i64.wrap (v4+1)) v5 y14.2))
   else bif decide (v4=4) then
    (Option.bind (F177a fuel d0.Owner d0.Choices v5 v6) fun y15=>
    bif !y15.1 then
     (some ((⟨d0,y15.2,v6⟩:T_model_checker),false))
    else
     ((F132_L1 fuel d0 n_F132_L1) (IntKind.i64.wrap (v4+1)) y15.2 v6))
   else none)
  else
   (some ((⟨d0,v5,v6⟩:T_model_checker),true))
def F132(fuel:Nat)(d0:T_api_Model):Option (T_model_checker×Bool):=
 F132_L1 fuel d0 fuel 0 0 0
noncomputable abbrev b132:=bodyOf Tryz.f132
abbrev G132(r:T_model_checker×Bool):=J none Tryz.prog 22 [] (finF Tryz.prog Tryz.f132 (.tup [.d (.pt [.sl 1 (r.1.Model.Owner.map e_i64),.sl 1 (r.1.Model.Choices.map e_lT_api_Choice),.int .i64 r.1.p,.int .i64 r.1.gains]),.b r.2]))
theorem F132_ok{fuel:Nat}{d0:T_api_Model}{r:T_model_checker×Bool}(hF:F132 fuel d0=some r):
 CallF Tryz.prog 132 [.agg [.l 1 d0.Owner e_i64,.l 1 d0.Choices e_lT_api_Choice]] (.tup [.d (.pt [.sl 1 (r.1.Model.Owner.map e_i64),.sl 1 (r.1.Model.Choices.map e_lT_api_Choice),.int .i64 r.1.p,.int .i64 r.1.gains]),.b r.2]):=by
 unfold F132 at hF
 refine cf 22 Tryz.func132 ?_
 have hF132_L1:∀(n_F132_L1:Nat) (v4:Int) (v5:Int) (v6:Int),F132_L1 fuel d0 n_F132_L1 v4 v5 v6=some r→G132 r ⟨mkT [(4,.ptr 10 0),(5,.b true),(11,.agg [.d (.fnc 173),.d (.fnc 174),.d (.fnc 175),.d (.fnc 176),.d (.fnc 177)]),(12,.i v4)],[(10,.box 238 [.l 1 d0.Owner e_i64,.l 1 d0.Choices e_lT_api_Choice,.i v5,.i v6])],[kL b132 [1,0,1,1,1,0,1,0,0],.inBlock 0,kC b132 [1,0,1,1,1,1],.inScope]⟩:=by
  clear hF;intro n_F132_L1
  induction n_F132_L1 with
  |zero=>intro v4 v5 v6 hF;cases hF
  |succ n_F132_L1 ih_F132_L1=>
   intro v4 v5 v6 hF
   rw[F132_L1]at hF
   refine ji 6 13 hF (fun hb22 hF=> ?_) (fun hb22 hF=> ?_)
   ·
    rcases Bool.eq_false_or_eq_true (decide (v4=0)) with hb23|hb23
    ·replace hF:=ift hb23 hF
     refine J_adv 6 (J_opt1 (o:=geti (chunks 1 5 ([.fnc 173,.fnc 174,.fnc 175,.fnc 176,.fnc 177]:List Dat)) v4) ([.fnc 173]:List Dat) (by kernel_rfl) (by rw[of_decide_eq_true hb23];rfl) ?_)
     obtain⟨y11,e11,hF⟩:=bnd hF
     refine jcr 6 [(10,2000)] en173 (F173a_ok e11) ?_
     refine ji 2 18 hF (fun hb24 hF=> ?_) (fun hb24 hF=> ?_)
     ·
      have hF:=oi hF;subst hF
      exact J_adv 13 (J_ret (xs:=[.rp [.sl 1 (d0.Owner.map e_i64),.sl 1 (d0.Choices.map e_lT_api_Choice),.int .i64 v5,.int .i64 v6] 0,.b false]) [.d (.pt [.sl 1 ((((⟨d0,v5,v6⟩:T_model_checker).Model).Owner).map e_i64),.sl 1 ((((⟨d0,v5,v6⟩:T_model_checker).Model).Choices).map e_lT_api_Choice),.int .i64 ((⟨d0,v5,v6⟩:T_model_checker).p),.int .i64 ((⟨d0,v5,v6⟩:T_model_checker).gains)]),.b false] rfl rfl (by kernel_rfl) ⟨Re.pt _,⟨Re.refl _,trivial⟩⟩ rfl)
     ·
      exact ja 7 (ih_F132_L1 _ _ _ hF)
    ·replace hF:=iff' hb23 hF
     rcases Bool.eq_false_or_eq_true (decide (v4=1)) with hb25|hb25
     ·replace hF:=ift hb25 hF
      refine J_adv 6 (J_opt1 (o:=geti (chunks 1 5 ([.fnc 173,.fnc 174,.fnc 175,.fnc 176,.fnc 177]:List Dat)) v4) ([.fnc 174]:List Dat) (by kernel_rfl) (by rw[of_decide_eq_true hb25];rfl) ?_)
      obtain⟨y12,e12,hF⟩:=bnd hF
      refine jcr 6 [(10,2000)] en174 (F174a_ok e12) ?_
      refine ji 2 18 hF (fun hb26 hF=> ?_) (fun hb26 hF=> ?_)
      ·
       have hF:=oi hF;subst hF
       exact J_adv 13 (J_ret (xs:=[.rp [.sl 1 (d0.Owner.map e_i64),.sl 1 (d0.Choices.map e_lT_api_Choice),.int .i64 v5,.int .i64 v6] 0,.b false]) [.d (.pt [.sl 1 ((((⟨d0,v5,v6⟩:T_model_checker).Model).Owner).map e_i64),.sl 1 ((((⟨d0,v5,v6⟩:T_model_checker).Model).Choices).map e_lT_api_Choice),.int .i64 ((⟨d0,v5,v6⟩:T_model_checker).p),.int .i64 ((⟨d0,v5,v6⟩:T_model_checker).gains)]),.b false] rfl rfl (by kernel_rfl) ⟨Re.pt _,⟨Re.refl _,trivial⟩⟩ rfl)
      ·
       exact ja 7 (ih_F132_L1 _ _ _ hF)
     ·replace hF:=iff' hb25 hF
      rcases Bool.eq_false_or_eq_true (decide (v4=2)) with hb27|hb27
      ·replace hF:=ift hb27 hF
       refine J_adv 6 (J_opt1 (o:=geti (chunks 1 5 ([.fnc 173,.fnc 174,.fnc 175,.fnc 176,.fnc 177]:List Dat)) v4) ([.fnc 175]:List Dat) (by kernel_rfl) (by rw[of_decide_eq_true hb27];rfl) ?_)
       obtain⟨y13,e13,hF⟩:=bnd hF
       refine jcr 6 [(10,2000)] en175 (F175a_ok e13) ?_
       refine ji 2 18 hF (fun hb28 hF=> ?_) (fun hb28 hF=> ?_)
       ·
        have hF:=oi hF;subst hF
        exact J_adv 13 (J_ret (xs:=[.rp [.sl 1 (d0.Owner.map e_i64),.sl 1 (d0.Choices.map e_lT_api_Choice),.int .i64 v5,.int .i64 v6] 0,.b false]) [.d (.pt [.sl 1 ((((⟨d0,v5,v6⟩:T_model_checker).Model).Owner).map e_i64),.sl 1 ((((⟨d0,v5,v6⟩:T_model_checker).Model).Choices).map e_lT_api_Choice),.int .i64 ((⟨d0,v5,v6⟩:T_model_checker).p),.int .i64 ((⟨d0,v5,v6⟩:T_model_checker).gains)]),.b false] rfl rfl (by kernel_rfl) ⟨Re.pt _,⟨Re.refl _,trivial⟩⟩ rfl)
       ·
        exact ja 7 (ih_F132_L1 _ _ _ hF)
      ·replace hF:=iff' hb27 hF
       rcases Bool.eq_false_or_eq_true (decide (v4=3)) with hb29|hb29
       ·replace hF:=ift hb29 hF
        refine J_adv 6 (J_opt1 (o:=geti (chunks 1 5 ([.fnc 173,.fnc 174,.fnc 175,.fnc 176,.fnc 177]:List Dat)) v4) ([.fnc 176]:List Dat) (by kernel_rfl) (by rw[of_decide_eq_true hb29];rfl) ?_)
        obtain⟨y14,e14,hF⟩:=bnd hF
        refine jcr 6 [(10,2000)] en176 (F176a_ok e14) ?_
        refine ji 2 18 hF (fun hb30 hF=> ?_) (fun hb30 hF=> ?_)
        ·
         have hF:=oi hF;subst hF
         exact J_adv 13 (J_ret (xs:=[.rp [.sl 1 (d0.Owner.map e_i64),.sl 1 (d0.Choices.map e_lT_api_Choice),.int .i64 v5,.int .i64 y14.2] 0,.b false]) [.d (.pt [.sl 1 ((((⟨d0,v5,y14.2⟩:T_model_checker).Model).Owner).map e_i64),.sl 1 ((((⟨d0,v5,y14.2⟩:T_model_checker).Model).Choices).map e_lT_api_Choice),.int .i64 ((⟨d0,v5,y14.2⟩:T_model_checker).p),.int .i64 ((⟨d0,v5,y14.2⟩:T_model_checker).gains)]),.b false] rfl rfl (by kernel_rfl) ⟨Re.pt _,⟨Re.refl _,trivial⟩⟩ rfl)
        ·
         exact ja 7 (ih_F132_L1 _ _ _ hF)
       ·replace hF:=iff' hb29 hF
        rcases Bool.eq_false_or_eq_true (decide (v4=4)) with hb31|hb31
        ·replace hF:=ift hb31 hF
         refine J_adv 6 (J_opt1 (o:=geti (chunks 1 5 ([.fnc 173,.fnc 174,.fnc 175,.fnc 176,.fnc 177]:List Dat)) v4) ([.fnc 177]:List Dat) (by kernel_rfl) (by rw[of_decide_eq_true hb31];rfl) ?_)
         obtain⟨y15,e15,hF⟩:=bnd hF
         refine jcr 6 [(10,2000)] en177 (F177a_ok e15) ?_
         refine ji 2 18 hF (fun hb32 hF=> ?_) (fun hb32 hF=> ?_)
         ·
          have hF:=oi hF;subst hF
          exact J_adv 13 (J_ret (xs:=[.rp [.sl 1 (d0.Owner.map e_i64),.sl 1 (d0.Choices.map e_lT_api_Choice),.int .i64 y15.2,.int .i64 v6] 0,.b false]) [.d (.pt [.sl 1 ((((⟨d0,y15.2,v6⟩:T_model_checker).Model).Owner).map e_i64),.sl 1 ((((⟨d0,y15.2,v6⟩:T_model_checker).Model).Choices).map e_lT_api_Choice),.int .i64 ((⟨d0,y15.2,v6⟩:T_model_checker).p),.int .i64 ((⟨d0,y15.2,v6⟩:T_model_checker).gains)]),.b false] rfl rfl (by kernel_rfl) ⟨Re.pt _,⟨Re.refl _,trivial⟩⟩ rfl)
         ·
          exact ja 7 (ih_F132_L1 _ _ _ hF)
        ·replace hF:=iff' hb31 hF
         cases hF
   ·
    have hF:=oi hF;subst hF
    exact J_adv 9 (J_ret (xs:=[.rp [.sl 1 (d0.Owner.map e_i64),.sl 1 (d0.Choices.map e_lT_api_Choice),.int .i64 v5,.int .i64 v6] 0,.b true]) [.d (.pt [.sl 1 ((((⟨d0,v5,v6⟩:T_model_checker).Model).Owner).map e_i64),.sl 1 ((((⟨d0,v5,v6⟩:T_model_checker).Model).Choices).map e_lT_api_Choice),.int .i64 ((⟨d0,v5,v6⟩:T_model_checker).p),.int .i64 ((⟨d0,v5,v6⟩:T_model_checker).gains)]),.b true] rfl rfl (by kernel_rfl) ⟨Re.pt _,⟨Re.refl _,trivial⟩⟩ rfl)
 exact ja 28 (hF132_L1 _ _ _ _ hF)
def F93(fuel:Nat)(d0:T_api_Model):Option Int:=
 Option.bind (F132 fuel d0) fun y1=>
 bif !y1.2 then
  (some 110)
 else
  (some 0)
theorem F93_ok{fuel:Nat}{d0:T_api_Model}{r:Int}(hF:F93 fuel d0=some r):
 CallF Tryz.prog 93 [.agg [.l 1 d0.Owner e_i64,.l 1 d0.Choices e_lT_api_Choice]] (.i r):=by
 unfold F93 at hF
 refine cf 12 Tryz.func93 ?_
 obtain⟨y1,e1,hF⟩:=bnd hF
 refine jc 9 en132 (F132_ok e1) ?_
 refine ji 11 11 hF (fun hb1 hF=> ?_) (fun hb1 hF=> ?_)
 ·
  have hF:=oi hF;subst hF
  exact jr 5
 ·
  have hF:=oi hF;subst hF
  exact jr 6
end Go.Proofs.YtfgbhfphjmmiaaaGreatDoor
end
section
set_option linter.unusedVariables false
set_option maxRecDepth 100000
namespace Go.Proofs.YtfgbhfphjmmiaaaGreatDoor
open Go Go.RowKit Kx
theorem en93:entersT Tryz.prog 93:=Kx.enters_of Tryz.func93 (by kernel_rfl) (by kernel_rfl)
theorem en51:entersT Tryz.prog 51:=Kx.enters_of Tryz.func51 (by kernel_rfl) (by kernel_rfl)
theorem en87:entersT Tryz.prog 87:=Kx.enters_of Tryz.func87 (by kernel_rfl) (by kernel_rfl)
theorem en43:entersT Tryz.prog 43:=Kx.enters_of Tryz.func43 (by kernel_rfl) (by kernel_rfl)
theorem en44:entersT Tryz.prog 44:=Kx.enters_of Tryz.func44 (by kernel_rfl) (by kernel_rfl)
theorem en45:entersT Tryz.prog 45:=Kx.enters_of Tryz.func45 (by kernel_rfl) (by kernel_rfl)
theorem en86:entersT Tryz.prog 86:=Kx.enters_of Tryz.func86 (by kernel_rfl) (by kernel_rfl)
theorem en54:entersT Tryz.prog 54:=Kx.enters_of Tryz.func54 (by kernel_rfl) (by kernel_rfl)
theorem en55:entersT Tryz.prog 55:=Kx.enters_of Tryz.func55 (by kernel_rfl) (by kernel_rfl)
theorem en95:entersT Tryz.prog 95:=Kx.enters_of Tryz.func95 (by kernel_rfl) (by kernel_rfl)
theorem en50:entersT Tryz.prog 50:=Kx.enters_of Tryz.func50 (by kernel_rfl) (by kernel_rfl)
theorem en52:entersT Tryz.prog 52:=Kx.enters_of Tryz.func52 (by kernel_rfl) (by kernel_rfl)
theorem en94:entersT Tryz.prog 94:=Kx.enters_of Tryz.func94 (by kernel_rfl) (by kernel_rfl)
theorem en46:entersT Tryz.prog 46:=Kx.enters_of Tryz.func46 (by kernel_rfl) (by kernel_rfl)
theorem en47:entersT Tryz.prog 47:=Kx.enters_of Tryz.func47 (by kernel_rfl) (by kernel_rfl)
theorem en49:entersT Tryz.prog 49:=Kx.enters_of Tryz.func49 (by kernel_rfl) (by kernel_rfl)
theorem en53:entersT Tryz.prog 53:=Kx.enters_of Tryz.func53 (by kernel_rfl) (by kernel_rfl)
theorem en36:entersT Tryz.prog 36:=Kx.enters_of Tryz.func36 (by kernel_rfl) (by kernel_rfl)
theorem en11:entersT Tryz.prog 11:=Kx.enters_of Tryz.func11 (by kernel_rfl) (by kernel_rfl)
theorem en10:entersT Tryz.prog 10:=Kx.enters_of Tryz.func10 (by kernel_rfl) (by kernel_rfl)
theorem en16:entersT Tryz.prog 16:=Kx.enters_of Tryz.func16 (by kernel_rfl) (by kernel_rfl)
theorem en15:entersT Tryz.prog 15:=Kx.enters_of Tryz.func15 (by kernel_rfl) (by kernel_rfl)
theorem en12:entersT Tryz.prog 12:=Kx.enters_of Tryz.func12 (by kernel_rfl) (by kernel_rfl)
theorem en17:entersT Tryz.prog 17:=Kx.enters_of Tryz.func17 (by kernel_rfl) (by kernel_rfl)
theorem en57:entersT Tryz.prog 57:=Kx.enters_of Tryz.func57 (by kernel_rfl) (by kernel_rfl)
theorem en69:entersT Tryz.prog 69:=Kx.enters_of Tryz.func69 (by kernel_rfl) (by kernel_rfl)
theorem en26:entersT Tryz.prog 26:=Kx.enters_of Tryz.func26 (by kernel_rfl) (by kernel_rfl)
theorem en14:entersT Tryz.prog 14:=Kx.enters_of Tryz.func14 (by kernel_rfl) (by kernel_rfl)
theorem en58:entersT Tryz.prog 58:=Kx.enters_of Tryz.func58 (by kernel_rfl) (by kernel_rfl)
theorem en13:entersT Tryz.prog 13:=Kx.enters_of Tryz.func13 (by kernel_rfl) (by kernel_rfl)
theorem en59:entersT Tryz.prog 59:=Kx.enters_of Tryz.func59 (by kernel_rfl) (by kernel_rfl)
def F43(fuel:Nat)(d0:T_api_Model)(d1:Int)(d2:Int):Option Int:=
 Option.bind (F93 fuel d0) fun y1=>
 bif y1 !=0 then
  (some y1)
 else
  (Option.bind (
   ass (decide (0≤((d0.Owner.map e_i64).length:Int)))<|
   bif (IntKind.u64.wrap (BitVec.ofInt IntKind.u64.bits d1&&& ~~~BitVec.ofInt IntKind.u64.bits (IntKind.u64.wrap ((IntKind.u64.wrap (1*2^(min (Int.toNat ((d0.Owner.map e_i64).length:Int)) IntKind.u64.bits)))-1))).toNat) !=0 then
    (some true)
   else
    (bif decide (d2<0) then
     (some true)
    else
     (some (decide (d2>60))))) fun o1=>
  bif o1 then
   (some 2)
  else
   (some 0))
noncomputable abbrev b43:=bodyOf Tryz.f43
abbrev G43(r:Int):=J none Tryz.prog 29 [] (finF Tryz.prog Tryz.f43 (.i r))
theorem F43_ok{fuel:Nat}{d0:T_api_Model}{d1:Int}{d2:Int}{r:Int}(hF:F43 fuel d0 d1 d2=some r):
 CallF Tryz.prog 43 [.agg [.l 1 d0.Owner e_i64,.l 1 d0.Choices e_lT_api_Choice],.n d1,.i d2] (.i r):=by
 unfold F43 at hF
 refine cf 29 Tryz.func43 ?_
 obtain⟨y1,e1,hF⟩:=bnd hF
 refine jc 9 en93 (F93_ok e1) ?_
 refine ji 7 11 hF (fun hb1 hF=> ?_) (fun hb1 hF=> ?_)
 ·
  have hF:=oi hF;subst hF
  exact jr 6
 ·
  obtain⟨o1,hO,hF⟩:=bnd hF
  have hR1:G43 r ⟨mkT [(28,.b o1)],[],[kO b43 [1,1,0,0],kC b43 [1,1,0,1],kC b43 [1,1,1]]⟩:=by
   clear hO
   refine ji 1 28 hF (fun hb8 hF=> ?_) (fun hb8 hF=> ?_)
   ·
    have hF:=oi hF;subst hF
    exact jr 5
   ·
    have hF:=oi hF;subst hF
    exact jr 6
  clear hF;rename _=some o1=>hF
  obtain⟨hb9,hF⟩:=assd hF
  refine jo1 9 (ck hb9) ?_
  refine ji 4 21 hF (fun hb10 hF=> ?_) (fun hb10 hF=> ?_)
  ·
   have hF:=oi hF;subst hF
   exact ja 7 hR1
  ·
   refine ji 4 25 hF (fun hb11 hF=> ?_) (fun hb11 hF=> ?_)
   ·
    have hF:=oi hF;subst hF
    exact ja 3 hR1
   ·
    have hF:=oi hF;subst hF
    exact ja 3 hR1
def e_T_exact_Num(x:T_exact_Num):List Dat:=[.bool x.n_.neg,.sl 1 (x.n_.mag.map e_u32),.bool x.d.neg,.sl 1 (x.d.mag.map e_u32)]
def F44_L1(fuel:Nat)(d1:Int)(l1:List T_exact_Num):Nat→Int→(List T_exact_Num)→Option (List T_exact_Num)
 |0,_,_=>none
 |n_F44_L1+1,v2,l5=>
  bif decide (v2<((l1.map e_T_exact_Num).length:Int)) then
   (ass (decide (0≤v2))<|
   Option.bind (F51 fuel (IntKind.i64.wrap (IntKind.u64.wrap (BitVec.ofInt IntKind.u64.bits (Int.fdiv d1 (2^(min (Int.toNat v2) IntKind.u64.bits)))&&&BitVec.ofInt IntKind.u64.bits 1).toNat)) 1) fun y5=>
   Option.bind (geti l5 v2) fun y6=>
   Option.bind (some (l5.set (0+Int.toNat v2) y5)) fun l6=>
   (F44_L1 fuel d1 l1 n_F44_L1) (IntKind.i64.wrap (v2+1)) l6)
  else
   (some l5)
def F44(fuel:Nat)(d0:T_api_Model)(d1:Int):Option (List T_exact_Num):=
 Option.bind (mkL ((d0.Owner.map e_i64).length:Int) ((d0.Owner.map e_i64).length:Int) (⟨(⟨false,[]⟩:T_exact_Whole),(⟨false,[]⟩:T_exact_Whole)⟩:T_exact_Num)) fun l1=>
 F44_L1 fuel d1 l1 fuel 0 l1
noncomputable abbrev b44:=bodyOf Tryz.f44
abbrev G44(r:List T_exact_Num):=J none Tryz.prog 27 [] (finF Tryz.prog Tryz.f44 (.l 4 r e_T_exact_Num))
theorem F44_ok{fuel:Nat}{d0:T_api_Model}{d1:Int}{r:List T_exact_Num}(hF:F44 fuel d0 d1=some r):
 CallF Tryz.prog 44 [.agg [.l 1 d0.Owner e_i64,.l 1 d0.Choices e_lT_api_Choice],.n d1] (.l 4 r e_T_exact_Num):=by
 unfold F44 at hF
 refine cf 27 Tryz.func44 ?_
 obtain⟨l1,e1,hF⟩:=bnd hF
 refine jo2 10 (mm (f:=e_T_exact_Num) e1) ?_
 have hF44_L1:∀(n_F44_L1:Nat) (v2:Int) (l5:List T_exact_Num),F44_L1 fuel d1 l1 n_F44_L1 v2 l5=some r→G44 r ⟨mkT [(1,.n d1),(5,.suf 10 0 0),(12,.i ((l1.map e_T_exact_Num).length:Int)),(13,.i v2)],[(10,.buf 0 100 4 (l5.map e_T_exact_Num))],[kL b44 [1,1,0,1,0,0],.inBlock 0,kC b44 [1,1,1]]⟩:=by
  clear hF;intro n_F44_L1
  induction n_F44_L1 with
  |zero=>intro v2 l5 hF;cases hF
  |succ n_F44_L1 ih_F44_L1=>
   intro v2 l5 hF
   rw[F44_L1]at hF
   refine ji 6 14 hF (fun hb5 hF=> ?_) (fun hb5 hF=> ?_)
   ·
    obtain⟨hb6,hF⟩:=assd hF
    refine jo1 14 (ck hb6) ?_
    obtain⟨y5,e8,hF⟩:=bnd hF
    refine jc 2 en51 (F51_ok e8) ?_
    obtain⟨y6,e9,hF⟩:=bnd hF
    refine jo1 0 (gm (f:=e_T_exact_Num) e9) ?_
    obtain⟨l6,e10,hF⟩:=bnd hF
    have hst:=stm (f:=e_T_exact_Num) (z:=y5) (k:=0) (xs:=[.bool y5.n_.neg,.sl 1 (y5.n_.mag.map e_u32),.bool y5.d.neg,.sl 1 (y5.d.mag.map e_u32)]) (gj e9) rfl
    refine J_adv 0 (J_opt2 (o:=(match(l5.map e_T_exact_Num)[0+Int.toNat v2]? with|some old=>some ((l5.map e_T_exact_Num).set (0+Int.toNat v2) (setD old 0 [.bool y5.n_.neg,.sl 1 (y5.n_.mag.map e_u32),.bool y5.d.neg,.sl 1 (y5.d.mag.map e_u32)]))|none=>none)) (l6.map e_T_exact_Num) (by kernel_rfl) (by cases e10;exact hst) ?_)
    exact ja 6 (ih_F44_L1 _ _ hF)
   ·
    have hF:=oi hF;subst hF
    exact jr 7
 exact ja 11 (hF44_L1 _ _ _ hF)
def F46_L1(fuel:Nat)(d0:List T_exact_Num):Nat→Int→(List (List UInt8))→Option (List (List UInt8))
 |0,_,_=>none
 |n_F46_L1+1,v2,l5=>
  bif decide (v2<((d0.map e_T_exact_Num).length:Int)) then
   (Option.bind (geti d0 v2) fun y7=>
   Option.bind (F87 fuel y7) fun y8=>
   Option.bind (geti l5 v2) fun y9=>
   Option.bind (some (l5.set (0+Int.toNat v2) y8)) fun l6=>
   (F46_L1 fuel d0 n_F46_L1) (IntKind.i64.wrap (v2+1)) l6)
  else
   (some l5)
def F46(fuel:Nat)(d0:List T_exact_Num):Option (List (List UInt8)):=
 Option.bind (mkL ((d0.map e_T_exact_Num).length:Int) ((d0.map e_T_exact_Num).length:Int) []) fun l1=>
 F46_L1 fuel d0 fuel 0 l1
noncomputable abbrev b46:=bodyOf Tryz.f46
abbrev G46(r:List (List UInt8)):=J none Tryz.prog 23 [] (finF Tryz.prog Tryz.f46 (.l 1 r e_s))
theorem F46_ok{fuel:Nat}{d0:List T_exact_Num}{r:List (List UInt8)}(hF:F46 fuel d0=some r):
 CallF Tryz.prog 46 [.l 4 d0 e_T_exact_Num] (.l 1 r e_s):=by
 unfold F46 at hF
 refine cf 23 Tryz.func46 ?_
 obtain⟨l1,e1,hF⟩:=bnd hF
 refine jo2 8 (mm (f:=e_s) e1) ?_
 have hF46_L1:∀(n_F46_L1:Nat) (v2:Int) (l5:List (List UInt8)),F46_L1 fuel d0 n_F46_L1 v2 l5=some r→G46 r ⟨mkT [(3,.suf 8 0 0),(9,.l 4 d0 e_T_exact_Num),(10,.i ((d0.map e_T_exact_Num).length:Int)),(11,.i v2)],[(8,.buf 0 23 1 (l5.map e_s))],[kL b46 [1,1,0,1,0,0],.inBlock 0,kC b46 [1,1,1]]⟩:=by
  clear hF;intro n_F46_L1
  induction n_F46_L1 with
  |zero=>intro v2 l5 hF;cases hF
  |succ n_F46_L1 ih_F46_L1=>
   intro v2 l5 hF
   rw[F46_L1]at hF
   refine ji 6 12 hF (fun hb3 hF=> ?_) (fun hb3 hF=> ?_)
   ·
    obtain⟨y7,e10,hF⟩:=bnd hF
    refine jo1 7 (gm (f:=e_T_exact_Num) e10) ?_
    obtain⟨y8,e11,hF⟩:=bnd hF
    refine jc 9 en87 (F87_ok e11) ?_
    obtain⟨y9,e12,hF⟩:=bnd hF
    refine jo1 0 (gm (f:=e_s) e12) ?_
    obtain⟨l6,e13,hF⟩:=bnd hF
    have hst:=stm (f:=e_s) (z:=y8) (k:=0) (xs:=[.str y8]) (gj e12) rfl
    refine J_adv 0 (J_opt2 (o:=(match(l5.map e_s)[0+Int.toNat v2]? with|some old=>some ((l5.map e_s).set (0+Int.toNat v2) (setD old 0 [.str y8]))|none=>none)) (l6.map e_s) (by kernel_rfl) (by cases e13;exact hst) ?_)
    exact ja 6 (ih_F46_L1 _ _ hF)
   ·
    have hF:=oi hF;subst hF
    exact jr 7
 exact ja 11 (hF46_L1 _ _ _ hF)
def F45(d0:T_api_Model)(d1:Int):Option (List Int×List (List T_api_Choice)×Int):=
 some (d0.Owner,d0.Choices,d1)
noncomputable abbrev b45:=bodyOf Tryz.f45
theorem F45_ok{d0:T_api_Model}{d1:Int}{r:List Int×List (List T_api_Choice)×Int}(hF:F45 d0 d1=some r):
 CallR Tryz.prog 45 [] [.agg [.l 1 d0.Owner e_i64,.l 1 d0.Choices e_lT_api_Choice],.n d1] [(2000,.box 34 [.l 1 r.1 e_i64,.l 1 r.2.1 e_lT_api_Choice]),(2001,.box 40 [.n r.2.2])] (.fn 94 [] [.ptr 2000 0,.ptr 2001 0]):=by
 unfold F45 at hF
 refine cr 6 Tryz.func45 ?_
 refine ja 11 (S0:=[(4,.fn 94 [] [.ptr 2 0,.ptr 3 0])]) (O0:=[(2,.box 34 [.l 1 d0.Owner e_i64,.l 1 d0.Choices e_lT_api_Choice]),(3,.box 40 [.n d1])]) (T0:=[kC b45 [1,1]]) ?_
 refine J_adv 0 (J_ren [(2,2000),(3,2001)] (by kernel_rfl) (by kernel_rfl) (by kernel_rfl) (by kernel_rfl) ?_)
 have hF:=oi hF;subst hF
 exact J_adv 0 (J_retRR (xs:=[.fn 94 [] [.ptr 2000 0,.ptr 2001 0]]) [.fn 94 [] [.ptr 2000 0,.ptr 2001 0]] rfl (by kernel_rfl) (by kernel_rfl) (Res'.refl _) rfl)
def F55_L1(fuel:Nat)(d0:T_api_Choice)(d1:List T_exact_Num):Nat→Int→Bool→(List Int)→Bool→(List Int)→Option T_exact_Num
 |0,_,_,_,_,_=>none
 |n_F55_L1+1,v2,t3,l3,t4,l4=>
  bif decide (v2<((d0.Next.map e_T_api_Branch).length:Int)) then
   (Option.bind (geti d0.Next v2) fun y12=>
   Option.bind (F48 fuel y12.P) fun y13=>
   Option.bind (geti d1 y12.To) fun y14=>
   Option.bind (F86 fuel y13 y14) fun y15=>
   Option.bind (F54 fuel (⟨(⟨t3,l3⟩:T_exact_Whole),(⟨t4,l4⟩:T_exact_Whole)⟩:T_exact_Num) y15) fun y16=>
   (F55_L1 fuel d0 d1 n_F55_L1) (IntKind.i64.wrap (v2+1)) y16.n_.neg y16.n_.mag y16.d.neg y16.d.mag)
  else
   (some (⟨(⟨t3,l3⟩:T_exact_Whole),(⟨t4,l4⟩:T_exact_Whole)⟩:T_exact_Num))
def F55(fuel:Nat)(d0:T_api_Choice)(d1:List T_exact_Num):Option T_exact_Num:=
 Option.bind (F51 fuel 0 1) fun y1=>
 F55_L1 fuel d0 d1 fuel 0 y1.n_.neg y1.n_.mag y1.d.neg y1.d.mag
noncomputable abbrev b55:=bodyOf Tryz.f55
abbrev G55(r:T_exact_Num):=J none Tryz.prog 29 [] (finF Tryz.prog Tryz.f55 (.agg [.b r.n_.neg,.l 1 r.n_.mag e_u32,.b r.d.neg,.l 1 r.d.mag e_u32]))
theorem F55_ok{fuel:Nat}{d0:T_api_Choice}{d1:List T_exact_Num}{r:T_exact_Num}(hF:F55 fuel d0 d1=some r):
 CallF Tryz.prog 55 [.agg [.s d0.Act,.s d0.Gain,.l 2 d0.Next e_T_api_Branch],.l 4 d1 e_T_exact_Num] (.agg [.b r.n_.neg,.l 1 r.n_.mag e_u32,.b r.d.neg,.l 1 r.d.mag e_u32]):=by
 unfold F55 at hF
 refine cf 29 Tryz.func55 ?_
 obtain⟨y1,e1,hF⟩:=bnd hF
 refine jc 7 en51 (F51_ok e1) ?_
 have hF55_L1:∀(n_F55_L1:Nat) (v2:Int) (t3:Bool) (l3:List Int) (t4:Bool) (l4:List Int),F55_L1 fuel d0 d1 n_F55_L1 v2 t3 l3 t4 l4=some r→G55 r ⟨mkT [(1,.l 4 d1 e_T_exact_Num),(4,.ptr 4 0),(5,.ptr 5 0),(10,.l 2 d0.Next e_T_api_Branch),(11,.i ((d0.Next.map e_T_api_Branch).length:Int)),(12,.i v2)],[(4,.box 100 [.b false,.esl 1,.b false,.esl 1]),(5,.box 100 [.b t3,.l 1 l3 e_u32,.b t4,.l 1 l4 e_u32])],[kL b55 [1,1,0,1,0,0],.inBlock 0,kC b55 [1,1,1]]⟩:=by
  clear hF;intro n_F55_L1
  induction n_F55_L1 with
  |zero=>intro v2 t3 l3 t4 l4 hF;cases hF
  |succ n_F55_L1 ih_F55_L1=>
   intro v2 t3 l3 t4 l4 hF
   rw[F55_L1]at hF
   refine ji 6 13 hF (fun hb3 hF=> ?_) (fun hb3 hF=> ?_)
   ·
    obtain⟨y12,e12,hF⟩:=bnd hF
    refine jo1 6 (gm (f:=e_T_api_Branch) e12) ?_
    refine jd 4 ?_
    obtain⟨y13,e13,hF⟩:=bnd hF
    refine dc 3 en48 (F48_ok e13) ?_
    obtain⟨y14,e14,hF⟩:=bnd hF
    refine do1 3 (gm (f:=e_T_exact_Num) e14) ?_
    obtain⟨y15,e15,hF⟩:=bnd hF
    refine dc 1 en86 (F86_ok e15) ?_
    obtain⟨y16,e16,hF⟩:=bnd hF
    refine dc 0 en54 (F54_ok e16) ?_
    refine je 1 ?_
    exact ja 5 (ih_F55_L1 _ _ _ _ _ hF)
   ·
    have hF:=oi hF;subst hF
    exact jr 7
 exact ja 13 (hF55_L1 _ _ _ _ _ _ hF)
def F95(fuel:Nat)(d0:T_api_Choice)(d1:List T_exact_Num):Option T_exact_Num:=
 Option.bind (F55 fuel d0 d1) fun y1=>
 some y1
theorem F95_ok{fuel:Nat}{d0:T_api_Choice}{d1:List T_exact_Num}{r:T_exact_Num}(hF:F95 fuel d0 d1=some r):
 CallF Tryz.prog 95 [.agg [.s d0.Act,.s d0.Gain,.l 2 d0.Next e_T_api_Branch],.rp [.sl 4 (d1.map e_T_exact_Num)] 0] (.agg [.b r.n_.neg,.l 1 r.n_.mag e_u32,.b r.d.neg,.l 1 r.d.mag e_u32]):=by
 unfold F95 at hF
 refine cf 7 Tryz.func95 ?_
 obtain⟨y1,e1,hF⟩:=bnd hF
 refine jc 9 en55 (F55_ok e1) ?_
 have hF:=oi hF;subst hF
 exact jr 2
def F52_A2(v6:Int)(rec_F52_L1:Int→Int→Bool→(List Int)→Bool→(List Int)→Option (T_exact_Num×Int))(v7:Int)(t14:Bool)(l10:List Int)(t15:Bool)(l11:List Int):Option (T_exact_Num×Int):=
 rec_F52_L1 v7 (IntKind.i64.wrap (v6+1)) t14 l10 t15 l11
def F52_L1(fuel:Nat)(d0:Int)(d2:List T_exact_Num)(l1:List T_api_Choice):Nat→Int→Int→Bool→(List Int)→Bool→(List Int)→Option (T_exact_Num×Int)
 |0,_,_,_,_,_,_=>none
 |n_F52_L1+1,v5,v6,t11,l8,t12,l9=>
  bif decide (v6<((l1.map e_T_api_Choice).length:Int)) then
   (Option.bind (geti l1 v6) fun y18=>
   Option.bind (F95 fuel y18 d2) fun y19=>
   Option.bind (F50 fuel y19 (⟨(⟨t11,l8⟩:T_exact_Whole),(⟨t12,l9⟩:T_exact_Whole)⟩:T_exact_Num)) fun y20=>
   Option.bind (
    bif d0==0 then
     (bif decide (y20>0) then
      (some true)
     else
      (bif d0==1 then
       (some (decide (y20<0)))
      else
       (some false)))
    else
     (bif d0==1 then
      (some (decide (y20<0)))
     else
      (some false))) fun o6=>
   bif o6 then
    (F52_A2 v6 (F52_L1 fuel d0 d2 l1 n_F52_L1) (IntKind.i64.wrap (v6+1)) y19.n_.neg y19.n_.mag y19.d.neg y19.d.mag)
   else
    (F52_A2 v6 (F52_L1 fuel d0 d2 l1 n_F52_L1) v5 t11 l8 t12 l9))
  else
   (some ((⟨(⟨t11,l8⟩:T_exact_Whole),(⟨t12,l9⟩:T_exact_Whole)⟩:T_exact_Num),v5))
def F52(fuel:Nat)(d0:Int)(d1:List T_api_Choice)(d2:List T_exact_Num):Option (T_exact_Num×Int):=
 Option.bind (geti d1 0) fun y1=>
 Option.bind (F95 fuel y1 d2) fun y2=>
 Option.bind (slc d1 1 (d1.length:Int)) fun l1=>
 F52_L1 fuel d0 d2 l1 fuel 0 0 y2.n_.neg y2.n_.mag y2.d.neg y2.d.mag
noncomputable abbrev b52:=bodyOf Tryz.f52
abbrev G52(r:T_exact_Num×Int):=J none Tryz.prog 53 [] (finF Tryz.prog Tryz.f52 (.tup [.agg [.b r.1.n_.neg,.l 1 r.1.n_.mag e_u32,.b r.1.d.neg,.l 1 r.1.d.mag e_u32],.i r.2]))
theorem F52_ok{fuel:Nat}{d0:Int}{d1:List T_api_Choice}{d2:List T_exact_Num}{r:T_exact_Num×Int}(hF:F52 fuel d0 d1 d2=some r):
 CallF Tryz.prog 52 [.i d0,.l 3 d1 e_T_api_Choice,.fn 95 [] [.rp [.sl 4 (d2.map e_T_exact_Num)] 0]] (.tup [.agg [.b r.1.n_.neg,.l 1 r.1.n_.mag e_u32,.b r.1.d.neg,.l 1 r.1.d.mag e_u32],.i r.2]):=by
 unfold F52 at hF
 refine cf 53 Tryz.func52 ?_
 obtain⟨y1,e1,hF⟩:=bnd hF
 refine jo1 9 (gm (f:=e_T_api_Choice) e1) ?_
 obtain⟨y2,e2,hF⟩:=bnd hF
 refine jc 1 en95 (F95_ok e2) ?_
 obtain⟨l1,e3,hF⟩:=bnd hF
 refine jo2 8 (smh (f:=e_T_api_Choice) e3) ?_
 have hF52_L1:∀(n_F52_L1:Nat) (v5:Int) (v6:Int) (t11:Bool) (l8:List Int) (t12:Bool) (l9:List Int),F52_L1 fuel d0 d2 l1 n_F52_L1 v5 v6 t11 l8 t12 l9=some r→G52 r ⟨mkT [(0,.i d0),(2,.fn 95 [] [.rp [.sl 4 (d2.map e_T_exact_Num)] 0]),(6,.ptr 6 0),(8,.i v5),(9,.ptr 9 0),(20,.l 3 l1 e_T_api_Choice),(21,.i ((l1.map e_T_api_Choice).length:Int)),(22,.i v6)],[(6,.box 100 [.b false,.esl 1,.b false,.esl 1]),(9,.box 100 [.b t11,.l 1 l8 e_u32,.b t12,.l 1 l9 e_u32])],[kL b52 [1,1,0,1,0,0],.inBlock 0,kC b52 [1,1,1]]⟩:=by
  clear hF;intro n_F52_L1
  induction n_F52_L1 with
  |zero=>intro v5 v6 t11 l8 t12 l9 hF;cases hF
  |succ n_F52_L1 ih_F52_L1=>
   intro v5 v6 t11 l8 t12 l9 hF
   rw[F52_L1]at hF
   refine ji 6 23 hF (fun hb55 hF=> ?_) (fun hb55 hF=> ?_)
   ·
    have hF52_A2:∀(v7:Int) (t14:Bool) (l10:List Int) (t15:Bool) (l11:List Int),F52_A2 v6 (F52_L1 fuel d0 d2 l1 n_F52_L1) v7 t14 l10 t15 l11=some r→G52 r ⟨mkT [(0,.i d0),(2,.fn 95 [] [.rp [.sl 4 (d2.map e_T_exact_Num)] 0]),(6,.ptr 6 0),(8,.i v7),(9,.ptr 9 0),(20,.l 3 l1 e_T_api_Choice),(21,.i ((l1.map e_T_api_Choice).length:Int)),(22,.i v6)],[(6,.box 100 [.b false,.esl 1,.b false,.esl 1]),(9,.box 100 [.b t14,.l 1 l10 e_u32,.b t15,.l 1 l11 e_u32])],[kC b52 [1,1,0,1,0,0,1,1,1],kL b52 [1,1,0,1,0,0],.inBlock 0,kC b52 [1,1,1]]⟩:=by
     intro v7 t14 l10 t15 l11 hF
     unfold F52_A2 at hF
     exact ja 4 (ih_F52_L1 _ _ _ _ _ _ hF)
    obtain⟨y18,e19,hF⟩:=bnd hF
    refine jo1 7 (gm (f:=e_T_api_Choice) e19) ?_
    obtain⟨y19,e20,hF⟩:=bnd hF
    refine jc 9 en95 (F95_ok e20) ?_
    obtain⟨y20,e21,hF⟩:=bnd hF
    refine jc 7 en50 (F50_ok e21) ?_
    obtain⟨o6,hO,hF⟩:=bnd hF
    have hR6:G52 r ⟨mkT [(0,.i d0),(2,.fn 95 [] [.rp [.sl 4 (d2.map e_T_exact_Num)] 0]),(6,.ptr 6 0),(8,.i v5),(9,.ptr 9 0),(10,.i v6),(12,.ptr 12 0),(20,.l 3 l1 e_T_api_Choice),(21,.i ((l1.map e_T_api_Choice).length:Int)),(22,.i v6),(46,.b o6)],[(6,.box 100 [.b false,.esl 1,.b false,.esl 1]),(9,.box 100 [.b t11,.l 1 l8 e_u32,.b t12,.l 1 l9 e_u32]),(12,.box 100 [.b y19.n_.neg,.l 1 y19.n_.mag e_u32,.b y19.d.neg,.l 1 y19.d.mag e_u32])],[kO b52 [1,1,0,1,0,0,1,1,0,0,1,1,1,0],kC b52 [1,1,0,1,0,0,1,1,0,0,1,1,1,1],.inBlock 1,kC b52 [1,1,0,1,0,0,1,1,1],kL b52 [1,1,0,1,0,0],.inBlock 0,kC b52 [1,1,1]]⟩:=by
     clear hO
     refine ji 1 46 hF (fun hb77 hF=> ?_) (fun hb77 hF=> ?_)
     ·
      refine jd 1 ?_
      refine je 5 ?_
      exact ja 1 (hF52_A2 _ _ _ _ _ hF)
     ·
      exact ja 3 (hF52_A2 _ _ _ _ _ hF)
    clear hF;rename _=some o6=>hF
    refine ji 7 35 hF (fun hb78 hF=> ?_) (fun hb78 hF=> ?_)
    ·
     refine ji 4 39 hF (fun hb79 hF=> ?_) (fun hb79 hF=> ?_)
     ·
      have hF:=oi hF;subst hF
      exact ja 7 hR6
     ·
      refine ji 3 42 hF (fun hb80 hF=> ?_) (fun hb80 hF=> ?_)
      ·
       have hF:=oi hF;subst hF
       exact ja 4 hR6
      ·
       have hF:=oi hF;subst hF
       exact ja 4 hR6
    ·
     refine ji 7 42 hF (fun hb81 hF=> ?_) (fun hb81 hF=> ?_)
     ·
      have hF:=oi hF;subst hF
      exact ja 4 hR6
     ·
      have hF:=oi hF;subst hF
      exact ja 4 hR6
   ·
    have hF:=oi hF;subst hF
    exact jr 9
 exact ja 5 (hF52_L1 _ _ _ _ _ _ _ hF)
def F94_A2(v2:Int)(rec_F94_L1:Int→(List Int)→(List T_exact_Num)→Option (List T_exact_Num×List Int))(l26:List Int)(l27:List T_exact_Num):Option (List T_exact_Num×List Int):=
 rec_F94_L1 (IntKind.i64.wrap (v2+1)) l26 l27
def F94_L1(fuel:Nat)(d0:List T_exact_Num)(d1:List Int)(d2:List (List T_api_Choice))(d3:Int):Nat→Int→(List Int)→(List T_exact_Num)→Option (List T_exact_Num×List Int)
 |0,_,_,_=>none
 |n_F94_L1+1,v2,l21,l22=>
  bif decide (v2<((d2.map e_lT_api_Choice).length:Int)) then
   (Option.bind (geti d2 v2) fun y36=>
   ass (decide (0≤v2))<|
   bif (IntKind.u64.wrap (BitVec.ofInt IntKind.u64.bits (Int.fdiv d3 (2^(min (Int.toNat v2) IntKind.u64.bits)))&&&BitVec.ofInt IntKind.u64.bits 1).toNat)==1 then
    (Option.bind (F51 fuel 1 1) fun y37=>
    Option.bind (geti l22 v2) fun y38=>
    Option.bind (some (l22.set (0+Int.toNat v2) y37)) fun l28=>
    F94_A2 v2 (F94_L1 fuel d0 d1 d2 d3 n_F94_L1) l21 l28)
   else
    (Option.bind (geti d1 v2) fun y39=>
    Option.bind (F52 fuel y39 y36 d0) fun y40=>
    Option.bind (geti l22 v2) fun y41=>
    Option.bind (some (l22.set (0+Int.toNat v2) y40.1)) fun l29=>
    Option.bind (geti l21 v2) fun y42=>
    Option.bind (some (l21.set (0+Int.toNat v2) y40.2)) fun l30=>
    F94_A2 v2 (F94_L1 fuel d0 d1 d2 d3 n_F94_L1) l30 l29))
  else
   (some (l22,l21))
def F94(fuel:Nat)(d0:List T_exact_Num)(d1:List Int)(d2:List (List T_api_Choice))(d3:Int):Option (List T_exact_Num×List Int):=
 Option.bind (mkL ((d0.map e_T_exact_Num).length:Int) ((d0.map e_T_exact_Num).length:Int) (⟨(⟨false,[]⟩:T_exact_Whole),(⟨false,[]⟩:T_exact_Whole)⟩:T_exact_Num)) fun l1=>
 Option.bind (mkL ((d0.map e_T_exact_Num).length:Int) ((d0.map e_T_exact_Num).length:Int) 0) fun l2=>
 F94_L1 fuel d0 d1 d2 d3 fuel 0 l2 l1
noncomputable abbrev b94:=bodyOf Tryz.f94
abbrev G94(r:List T_exact_Num×List Int):=J none Tryz.prog 53 [] (finF Tryz.prog Tryz.f94 (.tup [.l 4 r.1 e_T_exact_Num,.l 1 r.2 e_i64]))
theorem F94_ok{fuel:Nat}{d0:List T_exact_Num}{d1:List Int}{d2:List (List T_api_Choice)}{d3:Int}{r:List T_exact_Num×List Int}(hF:F94 fuel d0 d1 d2 d3=some r):
 CallF Tryz.prog 94 [.l 4 d0 e_T_exact_Num,.rp [.sl 1 (d1.map e_i64),.sl 1 (d2.map e_lT_api_Choice)] 0,.rp [.int .u64 d3] 0] (.tup [.l 4 r.1 e_T_exact_Num,.l 1 r.2 e_i64]):=by
 unfold F94 at hF
 refine cf 53 Tryz.func94 ?_
 refine jd 7 ?_
 obtain⟨l1,e1,hF⟩:=bnd hF
 refine do2 2 (mm (f:=e_T_exact_Num) e1) ?_
 obtain⟨l2,e2,hF⟩:=bnd hF
 refine do2 2 (mm (f:=e_i64) e2) ?_
 refine je 2 ?_
 have hF94_L1:∀(n_F94_L1:Nat) (v2:Int) (l21:List Int) (l22:List T_exact_Num),F94_L1 fuel d0 d1 d2 d3 n_F94_L1 v2 l21 l22=some r→G94 r ⟨mkT [(1,.rp [.sl 1 (d1.map e_i64),.sl 1 (d2.map e_lT_api_Choice)] 0),(2,.rp [.int .u64 d3] 0),(3,.ptr 3 0),(6,.suf 12 0 0),(7,.suf 15 0 0),(17,.l 1 d2 e_lT_api_Choice),(18,.i ((d2.map e_lT_api_Choice).length:Int)),(19,.i v2)],[(3,.fzb [.l 4 d0 e_T_exact_Num]),(12,.buf 0 100 4 (l22.map e_T_exact_Num)),(15,.buf 0 3 1 (l21.map e_i64))],[kL b94 [1,1,0,1,0,0],.inBlock 0,kC b94 [1,1,1]]⟩:=by
  clear hF;intro n_F94_L1
  induction n_F94_L1 with
  |zero=>intro v2 l21 l22 hF;cases hF
  |succ n_F94_L1 ih_F94_L1=>
   intro v2 l21 l22 hF
   rw[F94_L1]at hF
   refine ji 6 20 hF (fun hb11 hF=> ?_) (fun hb11 hF=> ?_)
   ·
    have hF94_A2:∀(l26:List Int) (l27:List T_exact_Num),F94_A2 v2 (F94_L1 fuel d0 d1 d2 d3 n_F94_L1) l26 l27=some r→G94 r ⟨mkT [(1,.rp [.sl 1 (d1.map e_i64),.sl 1 (d2.map e_lT_api_Choice)] 0),(2,.rp [.int .u64 d3] 0),(3,.ptr 3 0),(6,.suf 12 0 0),(7,.suf 15 0 0),(17,.l 1 d2 e_lT_api_Choice),(18,.i ((d2.map e_lT_api_Choice).length:Int)),(19,.i v2)],[(3,.fzb [.l 4 d0 e_T_exact_Num]),(12,.buf 0 100 4 (l27.map e_T_exact_Num)),(15,.buf 0 3 1 (l26.map e_i64))],[kC b94 [1,1,0,1,0,0,1,1,1],kL b94 [1,1,0,1,0,0],.inBlock 0,kC b94 [1,1,1]]⟩:=by
     intro l26 l27 hF
     unfold F94_A2 at hF
     exact ja 4 (ih_F94_L1 _ _ _ hF)
    obtain⟨y36,e53,hF⟩:=bnd hF
    refine jo1 7 (gm (f:=e_lT_api_Choice) e53) ?_
    obtain⟨hb14,hF⟩:=assd hF
    refine jo1 9 (ck hb14) ?_
    refine ji 3 28 hF (fun hb15 hF=> ?_) (fun hb15 hF=> ?_)
    ·
     obtain⟨y37,e54,hF⟩:=bnd hF
     refine jc 5 en51 (F51_ok e54) ?_
     obtain⟨y38,e55,hF⟩:=bnd hF
     refine jo1 0 (gm (f:=e_T_exact_Num) e55) ?_
     obtain⟨l28,e56,hF⟩:=bnd hF
     have hst:=stm (f:=e_T_exact_Num) (z:=y37) (k:=0) (xs:=[.bool y37.n_.neg,.sl 1 (y37.n_.mag.map e_u32),.bool y37.d.neg,.sl 1 (y37.d.mag.map e_u32)]) (gj e55) rfl
     refine J_adv 0 (J_opt2 (o:=(match(l22.map e_T_exact_Num)[0+Int.toNat v2]? with|some old=>some ((l22.map e_T_exact_Num).set (0+Int.toNat v2) (setD old 0 [.bool y37.n_.neg,.sl 1 (y37.n_.mag.map e_u32),.bool y37.d.neg,.sl 1 (y37.d.mag.map e_u32)]))|none=>none)) (l28.map e_T_exact_Num) (by kernel_rfl) (by cases e56;exact hst) ?_)
     exact ja 2 (hF94_A2 _ _ hF)
    ·
     obtain⟨y39,e57,hF⟩:=bnd hF
     refine jo1 10 (gm (f:=e_i64) e57) ?_
     obtain⟨y40,e58,hF⟩:=bnd hF
     refine jc 3 en52 (F52_ok e58) ?_
     obtain⟨y41,e59,hF⟩:=bnd hF
     refine jo1 3 (gm (f:=e_T_exact_Num) e59) ?_
     obtain⟨l29,e60,hF⟩:=bnd hF
     have hst:=stm (f:=e_T_exact_Num) (z:=y40.1) (k:=0) (xs:=[.bool y40.1.n_.neg,.sl 1 (y40.1.n_.mag.map e_u32),.bool y40.1.d.neg,.sl 1 (y40.1.d.mag.map e_u32)]) (gj e59) rfl
     refine J_adv 0 (J_opt2 (o:=(match(l22.map e_T_exact_Num)[0+Int.toNat v2]? with|some old=>some ((l22.map e_T_exact_Num).set (0+Int.toNat v2) (setD old 0 [.bool y40.1.n_.neg,.sl 1 (y40.1.n_.mag.map e_u32),.bool y40.1.d.neg,.sl 1 (y40.1.d.mag.map e_u32)]))|none=>none)) (l29.map e_T_exact_Num) (by kernel_rfl) (by cases e60;exact hst) ?_)
     obtain⟨y42,e61,hF⟩:=bnd hF
     refine jo1 0 (gm (f:=e_i64) e61) ?_
     obtain⟨l30,e62,hF⟩:=bnd hF
     have hst:=stm (f:=e_i64) (z:=y40.2) (k:=0) (xs:=[.int .i64 y40.2]) (gj e61) rfl
     refine J_adv 0 (J_opt2 (o:=(match(l21.map e_i64)[0+Int.toNat v2]? with|some old=>some ((l21.map e_i64).set (0+Int.toNat v2) (setD old 0 [.int .i64 y40.2]))|none=>none)) (l30.map e_i64) (by kernel_rfl) (by cases e62;exact hst) ?_)
     exact ja 2 (hF94_A2 _ _ hF)
   ·
    have hF:=oi hF;subst hF
    exact jr 9
 refine J_adv 10 (J_frz (te:=88) 3 [.l 4 d0 e_T_exact_Num] (by kernel_rfl) (by kernel_rfl) ?_)
 exact ja 0 (hF94_L1 _ _ _ _ hF)
def F12_L1(fuel:Nat)(d2:Int)(y3:List Int×List (List T_api_Choice)×Int):Nat→(List T_exact_Num)→Int→Option (List (List UInt8)×Int)
 |0,_,_=>none
 |n_F12_L1+1,l2,v2=>
  bif decide (v2<d2) then
   (Option.bind (F94 fuel l2 y3.1 y3.2.1 y3.2.2) fun y6=>
   (F12_L1 fuel d2 y3 n_F12_L1) y6.1 (IntKind.i64.wrap (v2+1)))
  else
   (Option.bind (F46 fuel l2) fun y7=>
   some (y7,0))
def F12(fuel:Nat)(d0:T_api_Model)(d1:Int)(d2:Int):Option (List (List UInt8)×Int):=
 Option.bind (F43 fuel d0 d1 d2) fun y1=>
 bif y1 !=0 then
  (some ([],y1))
 else
  (Option.bind (F44 fuel d0 d1) fun y2=>
  Option.bind (F45 d0 d1) fun y3=>
  F12_L1 fuel d2 y3 fuel y2 0)
noncomputable abbrev b12:=bodyOf Tryz.f12
abbrev G12(r:List (List UInt8)×Int):=J none Tryz.prog 36 [] (finF Tryz.prog Tryz.f12 (.tup [.l 1 r.1 e_s,.i r.2]))
theorem F12_ok{fuel:Nat}{d0:T_api_Model}{d1:Int}{d2:Int}{r:List (List UInt8)×Int}(hF:F12 fuel d0 d1 d2=some r):
 CallF Tryz.prog 12 [.agg [.l 1 d0.Owner e_i64,.l 1 d0.Choices e_lT_api_Choice],.n d1,.i d2] (.tup [.l 1 r.1 e_s,.i r.2]):=by
 unfold F12 at hF
 refine cf 36 Tryz.func12 ?_
 obtain⟨y1,e1,hF⟩:=bnd hF
 refine jc 12 en43 (F43_ok e1) ?_
 refine ji 7 16 hF (fun hb1 hF=> ?_) (fun hb1 hF=> ?_)
 ·
  have hF:=oi hF;subst hF
  exact jr 7
 ·
  refine jd 3 ?_
  obtain⟨y2,e2,hF⟩:=bnd hF
  refine dc 2 en44 (F44_ok e2) ?_
  obtain⟨y3,e3,hF⟩:=bnd hF
  refine dcr 2 [(23,2000),(1123,2001)] en45 (F45_ok e3) ?_
  refine je 2 ?_
  have hF12_L1:∀(n_F12_L1:Nat) (l2:List T_exact_Num) (v2:Int),F12_L1 fuel d2 y3 n_F12_L1 l2 v2=some r→G12 r ⟨mkT [(9,.l 4 l2 e_T_exact_Num),(10,.fn 94 [] [.ptr 23 0,.ptr 1123 0]),(24,.i d2),(25,.i v2)],[(23,.fzb [.l 1 y3.1 e_i64,.l 1 y3.2.1 e_lT_api_Choice]),(1123,.fzb [.n y3.2.2])],[kL b12 [1,1,1,0,1,0,0],.inBlock 0,kC b12 [1,1,1,1]]⟩:=by
   clear hF;intro n_F12_L1
   induction n_F12_L1 with
   |zero=>intro l2 v2 hF;cases hF
   |succ n_F12_L1 ih_F12_L1=>
    intro l2 v2 hF
    rw[F12_L1]at hF
    refine ji 6 26 hF (fun hb4 hF=> ?_) (fun hb4 hF=> ?_)
    ·
     obtain⟨y6,e6,hF⟩:=bnd hF
     refine jc 7 en94 (F94_ok e6) ?_
     exact ja 10 (ih_F12_L1 _ _ hF)
    ·
     obtain⟨y7,e7,hF⟩:=bnd hF
     refine jc 5 en46 (F46_ok e7) ?_
     have hF:=oi hF;subst hF
     exact jr 3
  refine J_adv 8 (J_frz (te:=40) 1123 [.n y3.2.2] (by kernel_rfl) (by kernel_rfl) ?_)
  refine J_adv 0 (J_frz (te:=34) 23 [.l 1 y3.1 e_i64,.l 1 y3.2.1 e_lT_api_Choice] (by kernel_rfl) (by kernel_rfl) ?_)
  exact ja 0 (hF12_L1 _ _ _ hF)
def e_li64(x:List Int):List Dat:=[.sl 1 (x.map e_i64)]
def F15_L1(fuel:Nat)(d2:Int)(y3:List Int×List (List T_api_Choice)×Int):Nat→(List T_exact_Num)→Int→(List (List Int))→Option (List (List Int)×Int)
 |0,_,_,_=>none
 |n_F15_L1+1,l6,v2,l7=>
  bif decide (v2<d2) then
   (Option.bind (F94 fuel l6 y3.1 y3.2.1 y3.2.2) fun y8=>
   Option.bind (geti l7 (IntKind.i64.wrap ((IntKind.i64.wrap (d2-1))-v2))) fun y9=>
   Option.bind (some (l7.set (0+Int.toNat (IntKind.i64.wrap ((IntKind.i64.wrap (d2-1))-v2))) y8.2)) fun l8=>
   (F15_L1 fuel d2 y3 n_F15_L1) y8.1 (IntKind.i64.wrap (v2+1)) l8)
  else
   (some (l7,0))
def F15(fuel:Nat)(d0:T_api_Model)(d1:Int)(d2:Int):Option (List (List Int)×Int):=
 Option.bind (F43 fuel d0 d1 d2) fun y1=>
 bif y1 !=0 then
  (some ([],y1))
 else
  (Option.bind (F44 fuel d0 d1) fun y2=>
  Option.bind (F45 d0 d1) fun y3=>
  Option.bind (mkL d2 d2 []) fun l1=>
  F15_L1 fuel d2 y3 fuel y2 0 l1)
noncomputable abbrev b15:=bodyOf Tryz.f15
abbrev G15(r:List (List Int)×Int):=J none Tryz.prog 46 [] (finF Tryz.prog Tryz.f15 (.tup [.l 1 r.1 e_li64,.i r.2]))
theorem F15_ok{fuel:Nat}{d0:T_api_Model}{d1:Int}{d2:Int}{r:List (List Int)×Int}(hF:F15 fuel d0 d1 d2=some r):
 CallF Tryz.prog 15 [.agg [.l 1 d0.Owner e_i64,.l 1 d0.Choices e_lT_api_Choice],.n d1,.i d2] (.tup [.l 1 r.1 e_li64,.i r.2]):=by
 unfold F15 at hF
 refine cf 46 Tryz.func15 ?_
 obtain⟨y1,e1,hF⟩:=bnd hF
 refine jc 12 en43 (F43_ok e1) ?_
 refine ji 7 18 hF (fun hb1 hF=> ?_) (fun hb1 hF=> ?_)
 ·
  have hF:=oi hF;subst hF
  exact jr 7
 ·
  refine jd 3 ?_
  obtain⟨y2,e2,hF⟩:=bnd hF
  refine dc 2 en44 (F44_ok e2) ?_
  obtain⟨y3,e3,hF⟩:=bnd hF
  refine dcr 2 [(25,2000),(1125,2001)] en45 (F45_ok e3) ?_
  refine je 2 ?_
  obtain⟨l1,e4,hF⟩:=bnd hF
  refine jo2 3 (mm (f:=e_li64) e4) ?_
  refine J_adv 2 (J_flat (g:=0) (sz:=1) (e:=22) (shs:=[.o 3 1 [.z]]) (es:=l1.map e_li64) 27 (by kernel_rfl) ?_)
  have hF15_L1:∀(n_F15_L1:Nat) (l6:List T_exact_Num) (v2:Int) (l7:List (List Int)),F15_L1 fuel d2 y3 n_F15_L1 l6 v2 l7=some r→G15 r ⟨mkT [(2,.i d2),(9,.l 4 l6 e_T_exact_Num),(10,.fn 94 [] [.ptr 25 0,.ptr 1125 0]),(11,.suf 27 0 0),(28,.i d2),(29,.i v2)],[(25,.fzb [.l 1 y3.1 e_i64,.l 1 y3.2.1 e_lT_api_Choice]),(27,.buf 0 22 1 (l7.map e_li64)),(1125,.fzb [.n y3.2.2])],[kL b15 [1,1,1,1,0,1,0,0],.inBlock 0,kC b15 [1,1,1,1,1]]⟩:=by
   clear hF;intro n_F15_L1
   induction n_F15_L1 with
   |zero=>intro l6 v2 l7 hF;cases hF
   |succ n_F15_L1 ih_F15_L1=>
    intro l6 v2 l7 hF
    rw[F15_L1]at hF
    refine ji 6 30 hF (fun hb4 hF=> ?_) (fun hb4 hF=> ?_)
    ·
     obtain⟨y8,e11,hF⟩:=bnd hF
     refine jc 17 en94 (F94_ok e11) ?_
     obtain⟨y9,e12,hF⟩:=bnd hF
     refine jo1 4 (gm (f:=e_li64) e12) ?_
     obtain⟨l8,e13,hF⟩:=bnd hF
     have hst:=stm (f:=e_li64) (z:=y8.2) (k:=0) (xs:=[.sl 1 (y8.2.map e_i64)]) (gj e12) rfl
     refine J_adv 0 (J_opt2 (o:=(match(l7.map e_li64)[0+Int.toNat (IntKind.i64.wrap ((IntKind.i64.wrap (d2-1))-v2))]? with|some old=>some ((l7.map e_li64).set (0+Int.toNat (IntKind.i64.wrap ((IntKind.i64.wrap (d2-1))-v2))) (setD old 0 [.sl 1 (y8.2.map e_i64)]))|none=>none)) (l8.map e_li64) (by kernel_rfl) (by cases e13;exact hst) ?_)
     exact ja 6 (ih_F15_L1 _ _ _ hF)
    ·
     have hF:=oi hF;subst hF
     exact jr 8
  refine J_adv 8 (J_frz (te:=40) 1125 [.n y3.2.2] (by kernel_rfl) (by kernel_rfl) ?_)
  refine J_adv 0 (J_frz (te:=34) 25 [.l 1 y3.1 e_i64,.l 1 y3.2.1 e_lT_api_Choice] (by kernel_rfl) (by kernel_rfl) ?_)
  exact ja 0 (hF15_L1 _ _ _ _ hF)
def F13_L1(fuel:Nat)(d1:Int)(y3:T_exact_Num)(y11:List Int×List (List T_api_Choice)×Int):Nat→(List T_exact_Num)→Int→Option (Int×Int)
 |0,_,_=>none
 |n_F13_L1+1,l2,v2=>
  bif decide (v2<61) then
   (Option.bind (geti l2 d1) fun y18=>
   Option.bind (F50 fuel y18 y3) fun y19=>
   bif decide (y19≥0) then
    (some (v2,0))
   else
    (Option.bind (F94 fuel l2 y11.1 y11.2.1 y11.2.2) fun y20=>
    (F13_L1 fuel d1 y3 y11 n_F13_L1) y20.1 (IntKind.i64.wrap (v2+1))))
  else
   (some (0,4))
def F13(fuel:Nat)(d0:T_api_Model)(d1:Int)(d2:Int)(d3:List UInt8):Option (Int×Int):=
 Option.bind (F43 fuel d0 d2 0) fun y1=>
 bif y1 !=0 then
  (some (0,y1))
 else
  (Option.bind (
   bif decide (d1<0) then
    (some true)
   else
    (some (decide (d1≥((d0.Owner.map e_i64).length:Int))))) fun o1=>
  bif o1 then
   (some (0,2))
  else
   (Option.bind (F47 fuel d3) fun y2=>
   bif y2 !=0 then
    (some (0,5))
   else
    (Option.bind (F48 fuel d3) fun y3=>
    Option.bind (
     Option.bind (F49 y3) fun y21=>
     bif decide (y21<0) then
      (some true)
     else
      (Option.bind (F51 fuel 1 1) fun y22=>
      Option.bind (F50 fuel y3 y22) fun y23=>
      some (decide (y23>0)))) fun o2=>
    bif o2 then
     (some (0,2))
    else
     (Option.bind (F44 fuel d0 d2) fun y10=>
     Option.bind (F45 d0 d2) fun y11=>
     F13_L1 fuel d1 y3 y11 fuel y10 0))))
noncomputable abbrev b13:=bodyOf Tryz.f13
abbrev G13(r:Int×Int):=J none Tryz.prog 68 [] (finF Tryz.prog Tryz.f13 (.tup [.i r.1,.i r.2]))
theorem F13_ok{fuel:Nat}{d0:T_api_Model}{d1:Int}{d2:Int}{d3:List UInt8}{r:Int×Int}(hF:F13 fuel d0 d1 d2 d3=some r):
 CallF Tryz.prog 13 [.agg [.l 1 d0.Owner e_i64,.l 1 d0.Choices e_lT_api_Choice],.i d1,.n d2,.s d3] (.tup [.i r.1,.i r.2]):=by
 unfold F13 at hF
 refine cf 68 Tryz.func13 ?_
 obtain⟨y1,e1,hF⟩:=bnd hF
 refine jc 11 en43 (F43_ok e1) ?_
 refine ji 7 19 hF (fun hb1 hF=> ?_) (fun hb1 hF=> ?_)
 ·
  have hF:=oi hF;subst hF
  exact jr 7
 ·
  obtain⟨o1,hO,hF⟩:=bnd hF
  have hR1:G13 r ⟨mkT [(1,.i d1),(2,.n d2),(3,.s d3),(4,.ptr 4 0),(29,.b o1)],[(4,.box 34 [.l 1 d0.Owner e_i64,.l 1 d0.Choices e_lT_api_Choice])],[kO b13 [1,1,0,0],kC b13 [1,1,0,1],kC b13 [1,1,1]]⟩:=by
   clear hO
   refine ji 1 29 hF (fun hb4 hF=> ?_) (fun hb4 hF=> ?_)
   ·
    have hF:=oi hF;subst hF
    exact jr 6
   ·
    obtain⟨y2,e2,hF⟩:=bnd hF
    refine jc 6 en47 (F47_ok e2) ?_
    refine ji 2 32 hF (fun hb5 hF=> ?_) (fun hb5 hF=> ?_)
    ·
     have hF:=oi hF;subst hF
     exact jr 6
    ·
     obtain⟨y3,e3,hF⟩:=bnd hF
     refine jc 5 en48 (F48_ok e3) ?_
     obtain⟨o2,hO,hF⟩:=bnd hF
     have hR2:G13 r ⟨mkT [(1,.i d1),(2,.n d2),(4,.ptr 4 0),(11,.ptr 11 0),(43,.b o2)],[(4,.box 34 [.l 1 d0.Owner e_i64,.l 1 d0.Choices e_lT_api_Choice]),(11,.box 100 [.b y3.n_.neg,.l 1 y3.n_.mag e_u32,.b y3.d.neg,.l 1 y3.d.mag e_u32])],[kC b13 [1,1,1,1,1,0,1],kC b13 [1,1,1,1,1,1]]⟩:=by
      clear hO
      refine ji 0 43 hF (fun hb8 hF=> ?_) (fun hb8 hF=> ?_)
      ·
       have hF:=oi hF;subst hF
       exact jr 6
      ·
       refine jd 3 ?_
       obtain⟨y10,e10,hF⟩:=bnd hF
       refine dc 2 en44 (F44_ok e10) ?_
       obtain⟨y11,e11,hF⟩:=bnd hF
       refine dcr 2 [(49,2000),(1149,2001)] en45 (F45_ok e11) ?_
       refine je 2 ?_
       have hF13_L1:∀(n_F13_L1:Nat) (l2:List T_exact_Num) (v2:Int),F13_L1 fuel d1 y3 y11 n_F13_L1 l2 v2=some r→G13 r ⟨mkT [(1,.i d1),(11,.ptr 11 0),(12,.l 4 l2 e_T_exact_Num),(13,.fn 94 [] [.ptr 49 0,.ptr 1149 0]),(50,.i v2)],[(11,.box 100 [.b y3.n_.neg,.l 1 y3.n_.mag e_u32,.b y3.d.neg,.l 1 y3.d.mag e_u32]),(49,.fzb [.l 1 y11.1 e_i64,.l 1 y11.2.1 e_lT_api_Choice]),(1149,.fzb [.n y11.2.2])],[kL b13 [1,1,1,1,1,1,1,0,1,0,0],.inBlock 0,kC b13 [1,1,1,1,1,1,1,1]]⟩:=by
        clear hF;intro n_F13_L1
        induction n_F13_L1 with
        |zero=>intro l2 v2 hF;cases hF
        |succ n_F13_L1 ih_F13_L1=>
         intro l2 v2 hF
         rw[F13_L1]at hF
         refine ji 6 51 hF (fun hb12 hF=> ?_) (fun hb12 hF=> ?_)
         ·
          refine jd 11 ?_
          obtain⟨y18,e18,hF⟩:=bnd hF
          refine do1 2 (gm (f:=e_T_exact_Num) e18) ?_
          obtain⟨y19,e19,hF⟩:=bnd hF
          refine dc 2 en50 (F50_ok e19) ?_
          refine je 1 ?_
          refine ji 0 59 hF (fun hb13 hF=> ?_) (fun hb13 hF=> ?_)
          ·
           have hF:=oi hF;subst hF
           exact jr 7
          ·
           obtain⟨y20,e20,hF⟩:=bnd hF
           refine jc 5 en94 (F94_ok e20) ?_
           exact ja 10 (ih_F13_L1 _ _ hF)
         ·
          have hF:=oi hF;subst hF
          exact jr 7
       refine J_adv 7 (J_frz (te:=40) 1149 [.n y11.2.2] (by kernel_rfl) (by kernel_rfl) ?_)
       refine J_adv 0 (J_frz (te:=34) 49 [.l 1 y11.1 e_i64,.l 1 y11.2.1 e_lT_api_Choice] (by kernel_rfl) (by kernel_rfl) ?_)
       exact ja 0 (hF13_L1 _ _ _ hF)
     clear hF;rename _=some o2=>hF
     refine jd 5 ?_
     obtain⟨y21,e21,hF⟩:=bnd hF
     refine dc 1 en49 (F49_ok e21) ?_
     refine di 2 38 hF (fun hb14 hF=> ?_) (fun hb14 hF=> ?_)
     ·
      refine je 5 ?_
      have hF:=oi hF;subst hF
      exact ja 0 hR2
     ·
      obtain⟨y22,e22,hF⟩:=bnd hF
      refine dc 1 en51 (F51_ok e22) ?_
      obtain⟨y23,e23,hF⟩:=bnd hF
      refine dc 0 en50 (F50_ok e23) ?_
      refine je 2 ?_
      have hF:=oi hF;subst hF
      exact ja 0 hR2
  clear hF;rename _=some o1=>hF
  refine ji 8 23 hF (fun hb15 hF=> ?_) (fun hb15 hF=> ?_)
  ·
   have hF:=oi hF;subst hF
   exact ja 6 hR1
  ·
   have hF:=oi hF;subst hF
   exact ja 6 hR1
def F53a(fuel:Nat)(d0:T_api_Choice)(d1:List T_exact_Num):Option T_exact_Num:=
 Option.bind (F48 fuel d0.Gain) fun y1=>
 Option.bind (F55 fuel d0 d1) fun y2=>
 Option.bind (F54 fuel y1 y2) fun y3=>
 some y3
theorem F53a_ok{fuel:Nat}{d0:T_api_Choice}{d1:List T_exact_Num}{r:T_exact_Num}(hF:F53a fuel d0 d1=some r):
 CallR Tryz.prog 53 [(2000,.box 88 [.l 4 d1 e_T_exact_Num])] [.agg [.s d0.Act,.s d0.Gain,.l 2 d0.Next e_T_api_Branch],.ptr 2000 0] [(2000,.box 88 [.l 4 d1 e_T_exact_Num])] (.agg [.b r.n_.neg,.l 1 r.n_.mag e_u32,.b r.d.neg,.l 1 r.d.mag e_u32]):=by
 unfold F53a at hF
 refine cr 11 Tryz.func53 ?_
 refine jd 6 ?_
 obtain⟨y1,e1,hF⟩:=bnd hF
 refine dc 2 en48 (F48_ok e1) ?_
 obtain⟨y2,e2,hF⟩:=bnd hF
 refine dc 2 en55 (F55_ok e2) ?_
 obtain⟨y3,e3,hF⟩:=bnd hF
 refine dc 0 en54 (F54_ok e3) ?_
 refine je 1 ?_
 have hF:=oi hF;subst hF
 exact jrr 0
def F52b_A2(v6:Int)(rec_F52b_L1:Int→Int→Bool→(List Int)→Bool→(List Int)→Option (T_exact_Num×Int))(v7:Int)(t14:Bool)(l10:List Int)(t15:Bool)(l11:List Int):Option (T_exact_Num×Int):=
 rec_F52b_L1 v7 (IntKind.i64.wrap (v6+1)) t14 l10 t15 l11
def F52b_L1(fuel:Nat)(d0:Int)(d2:List T_exact_Num)(l1:List T_api_Choice):Nat→Int→Int→Bool→(List Int)→Bool→(List Int)→Option (T_exact_Num×Int)
 |0,_,_,_,_,_,_=>none
 |n_F52b_L1+1,v5,v6,t11,l8,t12,l9=>
  bif decide (v6<((l1.map e_T_api_Choice).length:Int)) then
   (Option.bind (geti l1 v6) fun y18=>
   Option.bind (F53a fuel y18 d2) fun y19=>
   Option.bind (F50 fuel y19 (⟨(⟨t11,l8⟩:T_exact_Whole),(⟨t12,l9⟩:T_exact_Whole)⟩:T_exact_Num)) fun y20=>
   Option.bind (
    bif d0==0 then
     (bif decide (y20>0) then
      (some true)
     else
      (bif d0==1 then
       (some (decide (y20<0)))
      else
       (some false)))
    else
     (bif d0==1 then
      (some (decide (y20<0)))
     else
      (some false))) fun o6=>
   bif o6 then
    (F52b_A2 v6 (F52b_L1 fuel d0 d2 l1 n_F52b_L1) (IntKind.i64.wrap (v6+1)) y19.n_.neg y19.n_.mag y19.d.neg y19.d.mag)
   else
    (F52b_A2 v6 (F52b_L1 fuel d0 d2 l1 n_F52b_L1) v5 t11 l8 t12 l9))
  else
   (some ((⟨(⟨t11,l8⟩:T_exact_Whole),(⟨t12,l9⟩:T_exact_Whole)⟩:T_exact_Num),v5))
def F52b(fuel:Nat)(d0:Int)(d1:List T_api_Choice)(d2:List T_exact_Num):Option (T_exact_Num×Int):=
 Option.bind (geti d1 0) fun y1=>
 Option.bind (F53a fuel y1 d2) fun y2=>
 Option.bind (slc d1 1 (d1.length:Int)) fun l1=>
 F52b_L1 fuel d0 d2 l1 fuel 0 0 y2.n_.neg y2.n_.mag y2.d.neg y2.d.mag
abbrev G52b(d2:List T_exact_Num)(r:T_exact_Num×Int):=J none Tryz.prog 53 [] (finR Tryz.prog Tryz.f52 [(2000,.box 88 [.l 4 d2 e_T_exact_Num])] (.tup [.agg [.b r.1.n_.neg,.l 1 r.1.n_.mag e_u32,.b r.1.d.neg,.l 1 r.1.d.mag e_u32],.i r.2]))
theorem F52b_ok{fuel:Nat}{d0:Int}{d1:List T_api_Choice}{d2:List T_exact_Num}{r:T_exact_Num×Int}(hF:F52b fuel d0 d1 d2=some r):
 CallR Tryz.prog 52 [(2000,.box 88 [.l 4 d2 e_T_exact_Num])] [.i d0,.l 3 d1 e_T_api_Choice,.fn 53 [] [.ptr 2000 0]] [(2000,.box 88 [.l 4 d2 e_T_exact_Num])] (.tup [.agg [.b r.1.n_.neg,.l 1 r.1.n_.mag e_u32,.b r.1.d.neg,.l 1 r.1.d.mag e_u32],.i r.2]):=by
 unfold F52b at hF
 refine cr 53 Tryz.func52 ?_
 obtain⟨y1,e1,hF⟩:=bnd hF
 refine jo1 9 (gm (f:=e_T_api_Choice) e1) ?_
 obtain⟨y2,e2,hF⟩:=bnd hF
 refine jcr 1 [(2000,2000)] en53 (F53a_ok e2) ?_
 obtain⟨l1,e3,hF⟩:=bnd hF
 refine jo2 8 (smh (f:=e_T_api_Choice) e3) ?_
 have hF52b_L1:∀(n_F52b_L1:Nat) (v5:Int) (v6:Int) (t11:Bool) (l8:List Int) (t12:Bool) (l9:List Int),F52b_L1 fuel d0 d2 l1 n_F52b_L1 v5 v6 t11 l8 t12 l9=some r→G52b d2 r ⟨mkT [(0,.i d0),(2,.fn 53 [] [.ptr 2000 0]),(6,.ptr 6 0),(8,.i v5),(9,.ptr 9 0),(20,.l 3 l1 e_T_api_Choice),(21,.i ((l1.map e_T_api_Choice).length:Int)),(22,.i v6)],[(6,.box 100 [.b false,.esl 1,.b false,.esl 1]),(9,.box 100 [.b t11,.l 1 l8 e_u32,.b t12,.l 1 l9 e_u32]),(2000,.box 88 [.l 4 d2 e_T_exact_Num])],[kL b52 [1,1,0,1,0,0],.inBlock 0,kC b52 [1,1,1]]⟩:=by
  clear hF;intro n_F52b_L1
  induction n_F52b_L1 with
  |zero=>intro v5 v6 t11 l8 t12 l9 hF;cases hF
  |succ n_F52b_L1 ih_F52b_L1=>
   intro v5 v6 t11 l8 t12 l9 hF
   rw[F52b_L1]at hF
   refine ji 6 23 hF (fun hb55 hF=> ?_) (fun hb55 hF=> ?_)
   ·
    have hF52b_A2:∀(v7:Int) (t14:Bool) (l10:List Int) (t15:Bool) (l11:List Int),F52b_A2 v6 (F52b_L1 fuel d0 d2 l1 n_F52b_L1) v7 t14 l10 t15 l11=some r→G52b d2 r ⟨mkT [(0,.i d0),(2,.fn 53 [] [.ptr 2000 0]),(6,.ptr 6 0),(8,.i v7),(9,.ptr 9 0),(20,.l 3 l1 e_T_api_Choice),(21,.i ((l1.map e_T_api_Choice).length:Int)),(22,.i v6)],[(6,.box 100 [.b false,.esl 1,.b false,.esl 1]),(9,.box 100 [.b t14,.l 1 l10 e_u32,.b t15,.l 1 l11 e_u32]),(2000,.box 88 [.l 4 d2 e_T_exact_Num])],[kC b52 [1,1,0,1,0,0,1,1,1],kL b52 [1,1,0,1,0,0],.inBlock 0,kC b52 [1,1,1]]⟩:=by
     intro v7 t14 l10 t15 l11 hF
     unfold F52b_A2 at hF
     exact ja 4 (ih_F52b_L1 _ _ _ _ _ _ hF)
    obtain⟨y18,e19,hF⟩:=bnd hF
    refine jo1 7 (gm (f:=e_T_api_Choice) e19) ?_
    obtain⟨y19,e20,hF⟩:=bnd hF
    refine jcr 9 [(2000,2000)] en53 (F53a_ok e20) ?_
    obtain⟨y20,e21,hF⟩:=bnd hF
    refine jc 7 en50 (F50_ok e21) ?_
    obtain⟨o6,hO,hF⟩:=bnd hF
    have hR6:G52b d2 r ⟨mkT [(0,.i d0),(2,.fn 53 [] [.ptr 2000 0]),(6,.ptr 6 0),(8,.i v5),(9,.ptr 9 0),(10,.i v6),(12,.ptr 12 0),(20,.l 3 l1 e_T_api_Choice),(21,.i ((l1.map e_T_api_Choice).length:Int)),(22,.i v6),(46,.b o6)],[(6,.box 100 [.b false,.esl 1,.b false,.esl 1]),(9,.box 100 [.b t11,.l 1 l8 e_u32,.b t12,.l 1 l9 e_u32]),(12,.box 100 [.b y19.n_.neg,.l 1 y19.n_.mag e_u32,.b y19.d.neg,.l 1 y19.d.mag e_u32]),(2000,.box 88 [.l 4 d2 e_T_exact_Num])],[kO b52 [1,1,0,1,0,0,1,1,0,0,1,1,1,0],kC b52 [1,1,0,1,0,0,1,1,0,0,1,1,1,1],.inBlock 1,kC b52 [1,1,0,1,0,0,1,1,1],kL b52 [1,1,0,1,0,0],.inBlock 0,kC b52 [1,1,1]]⟩:=by
     clear hO
     refine ji 1 46 hF (fun hb77 hF=> ?_) (fun hb77 hF=> ?_)
     ·
      refine jd 1 ?_
      refine je 5 ?_
      exact ja 1 (hF52b_A2 _ _ _ _ _ hF)
     ·
      exact ja 3 (hF52b_A2 _ _ _ _ _ hF)
    clear hF;rename _=some o6=>hF
    refine ji 7 35 hF (fun hb78 hF=> ?_) (fun hb78 hF=> ?_)
    ·
     refine ji 4 39 hF (fun hb79 hF=> ?_) (fun hb79 hF=> ?_)
     ·
      have hF:=oi hF;subst hF
      exact ja 7 hR6
     ·
      refine ji 3 42 hF (fun hb80 hF=> ?_) (fun hb80 hF=> ?_)
      ·
       have hF:=oi hF;subst hF
       exact ja 4 hR6
      ·
       have hF:=oi hF;subst hF
       exact ja 4 hR6
    ·
     refine ji 7 42 hF (fun hb81 hF=> ?_) (fun hb81 hF=> ?_)
     ·
      have hF:=oi hF;subst hF
      exact ja 4 hR6
     ·
      have hF:=oi hF;subst hF
      exact ja 4 hR6
   ·
    have hF:=oi hF;subst hF
    exact jrr 9
 exact ja 5 (hF52b_L1 _ _ _ _ _ _ _ hF)
def F14_L3(fuel:Nat)(d0:T_api_Model)(l26:List T_exact_Num)(v11:Int)(rec_F14_L2:Int→(List T_exact_Num)→Option (List (List UInt8)×Int)):Nat→Int→(List T_exact_Num)→Option (List (List UInt8)×Int)
 |0,_,_=>none
 |n_F14_L3+1,v13,l31=>
  bif decide (v13<((d0.Choices.map e_lT_api_Choice).length:Int)) then
   (Option.bind (geti d0.Choices v13) fun y59=>
   Option.bind (geti d0.Owner v13) fun y60=>
   Option.bind (F52b fuel y60 y59 l26) fun y61=>
   Option.bind (geti l31 v13) fun y62=>
   Option.bind (some (l31.set (0+Int.toNat v13) y61.1)) fun l32=>
   (F14_L3 fuel d0 l26 v11 rec_F14_L2 n_F14_L3) (IntKind.i64.wrap (v13+1)) l32)
  else
   (rec_F14_L2 (IntKind.i64.wrap (v11+1)) l31)
def F14_L2(fuel:Nat)(d0:T_api_Model)(d1:Int):Nat→Int→(List T_exact_Num)→Option (List (List UInt8)×Int)
 |0,_,_=>none
 |n_F14_L2+1,v11,l26=>
  bif decide (v11<d1) then
   (Option.bind (mkL ((l26.map e_T_exact_Num).length:Int) ((l26.map e_T_exact_Num).length:Int) (⟨(⟨false,[]⟩:T_exact_Whole),(⟨false,[]⟩:T_exact_Whole)⟩:T_exact_Num)) fun l27=>
   F14_L3 fuel d0 l26 v11 (F14_L2 fuel d0 d1 n_F14_L2) fuel 0 l27)
  else
   (Option.bind (F46 fuel l26) fun y63=>
   some (y63,0))
def F14_L1(fuel:Nat)(d0:T_api_Model)(d1:Int)(y2:List T_exact_Num):Nat→Int→(List T_exact_Num)→Option (List (List UInt8)×Int)
 |0,_,_=>none
 |n_F14_L1+1,v5,l11=>
  bif decide (v5<((d0.Choices.map e_lT_api_Choice).length:Int)) then
   (Option.bind (geti d0.Choices v5) fun y23=>
   Option.bind (geti d0.Owner v5) fun y24=>
   Option.bind (F52b fuel y24 y23 y2) fun y25=>
   Option.bind (geti l11 v5) fun y26=>
   Option.bind (some (l11.set (0+Int.toNat v5) y25.1)) fun l12=>
   (F14_L1 fuel d0 d1 y2 n_F14_L1) (IntKind.i64.wrap (v5+1)) l12)
  else
   (F14_L2 fuel d0 d1 fuel (IntKind.i64.wrap (0+1)) l11)
def F14(fuel:Nat)(d0:T_api_Model)(d1:Int):Option (List (List UInt8)×Int):=
 Option.bind (F43 fuel d0 0 d1) fun y1=>
 bif y1 !=0 then
  (some ([],y1))
 else
  (Option.bind (F44 fuel d0 0) fun y2=>
  bif decide (0<d1) then
   (Option.bind (mkL ((y2.map e_T_exact_Num).length:Int) ((y2.map e_T_exact_Num).length:Int) (⟨(⟨false,[]⟩:T_exact_Whole),(⟨false,[]⟩:T_exact_Whole)⟩:T_exact_Num)) fun l7=>
   F14_L1 fuel d0 d1 y2 fuel 0 l7)
  else
   (Option.bind (F46 fuel y2) fun y64=>
   some (y64,0)))
noncomputable abbrev b14:=bodyOf Tryz.f14
abbrev G14(r:List (List UInt8)×Int):=J none Tryz.prog 52 [] (finF Tryz.prog Tryz.f14 (.tup [.l 1 r.1 e_s,.i r.2]))
theorem F14_ok{fuel:Nat}{d0:T_api_Model}{d1:Int}{r:List (List UInt8)×Int}(hF:F14 fuel d0 d1=some r):
 CallF Tryz.prog 14 [.agg [.l 1 d0.Owner e_i64,.l 1 d0.Choices e_lT_api_Choice],.i d1] (.tup [.l 1 r.1 e_s,.i r.2]):=by
 unfold F14 at hF
 refine cf 52 Tryz.func14 ?_
 obtain⟨y1,e1,hF⟩:=bnd hF
 refine jc 11 en43 (F43_ok e1) ?_
 refine ji 7 15 hF (fun hb1 hF=> ?_) (fun hb1 hF=> ?_)
 ·
  have hF:=oi hF;subst hF
  exact jr 7
 ·
  obtain⟨y2,e2,hF⟩:=bnd hF
  refine jc 5 en44 (F44_ok e2) ?_
  refine ji 17 21 hF (fun hb7 hF=> ?_) (fun hb7 hF=> ?_)
  ·
   obtain⟨l7,e19,hF⟩:=bnd hF
   refine jo2 8 (mm (f:=e_T_exact_Num) e19) ?_
   have hF14_L1:∀(n_F14_L1:Nat) (v5:Int) (l11:List T_exact_Num),F14_L1 fuel d0 d1 y2 n_F14_L1 v5 l11=some r→G14 r ⟨mkT [(2,.ptr 2 0),(7,.ptr 7 0),(8,.suf 24 0 0),(19,.i d1),(20,.i 0),(26,.l 1 d0.Choices e_lT_api_Choice),(27,.i ((d0.Choices.map e_lT_api_Choice).length:Int)),(28,.i v5)],[(2,.box 34 [.l 1 d0.Owner e_i64,.l 1 d0.Choices e_lT_api_Choice]),(7,.box 88 [.l 4 y2 e_T_exact_Num]),(24,.buf 0 100 4 (l11.map e_T_exact_Num))],[kL b14 [1,1,1,0,1,0,0,1,1,0,0,1,0,1,0,0],.inBlock 2,kC b14 [1,1,1,0,1,0,0,1,1,0,0,1,1],.inBlock 1,kC b14 [1,1,1,0,1,0,0,1,1,1],kL b14 [1,1,1,0,1,0,0],.inBlock 0,kC b14 [1,1,1,1]]⟩:=by
    clear hF;intro n_F14_L1
    induction n_F14_L1 with
    |zero=>intro v5 l11 hF;cases hF
    |succ n_F14_L1 ih_F14_L1=>
     intro v5 l11 hF
     rw[F14_L1]at hF
     refine ji 6 29 hF (fun hb10 hF=> ?_) (fun hb10 hF=> ?_)
     ·
      obtain⟨y23,e30,hF⟩:=bnd hF
      refine jo1 7 (gm (f:=e_lT_api_Choice) e30) ?_
      obtain⟨y24,e31,hF⟩:=bnd hF
      refine jo1 10 (gm (f:=e_i64) e31) ?_
      obtain⟨y25,e32,hF⟩:=bnd hF
      refine jcr 3 [(7,2000)] en52 (F52b_ok e32) ?_
      obtain⟨y26,e33,hF⟩:=bnd hF
      refine jo1 3 (gm (f:=e_T_exact_Num) e33) ?_
      obtain⟨l12,e34,hF⟩:=bnd hF
      have hst:=stm (f:=e_T_exact_Num) (z:=y25.1) (k:=0) (xs:=[.bool y25.1.n_.neg,.sl 1 (y25.1.n_.mag.map e_u32),.bool y25.1.d.neg,.sl 1 (y25.1.d.mag.map e_u32)]) (gj e33) rfl
      refine J_adv 0 (J_opt2 (o:=(match(l11.map e_T_exact_Num)[0+Int.toNat v5]? with|some old=>some ((l11.map e_T_exact_Num).set (0+Int.toNat v5) (setD old 0 [.bool y25.1.n_.neg,.sl 1 (y25.1.n_.mag.map e_u32),.bool y25.1.d.neg,.sl 1 (y25.1.d.mag.map e_u32)]))|none=>none)) (l12.map e_T_exact_Num) (by kernel_rfl) (by cases e34;exact hst) ?_)
      exact ja 6 (ih_F14_L1 _ _ hF)
     ·
      have hF14_L2:∀(n_F14_L2:Nat) (v11:Int) (l26:List T_exact_Num),F14_L2 fuel d0 d1 n_F14_L2 v11 l26=some r→G14 r ⟨mkT [(2,.ptr 2 0),(7,.ptr 7 0),(19,.i d1),(20,.i v11)],[(2,.box 34 [.l 1 d0.Owner e_i64,.l 1 d0.Choices e_lT_api_Choice]),(7,.box 88 [.suf 24 0 0]),(24,.buf 0 100 4 (l26.map e_T_exact_Num))],[kL b14 [1,1,1,0,1,0,0],.inBlock 0,kC b14 [1,1,1,1]]⟩:=by
       clear hF;intro n_F14_L2
       induction n_F14_L2 with
       |zero=>intro v11 l26 hF;cases hF
       |succ n_F14_L2 ih_F14_L2=>
        intro v11 l26 hF
        rw[F14_L2]at hF
        refine ji 6 21 hF (fun hb19 hF=> ?_) (fun hb19 hF=> ?_)
        ·
         refine J_adv 5 (J_frzO (g:=0) (e:=100) (sz:=4) (es:=l26.map e_T_exact_Num) 24 (by kernel_rfl) ?_)
         refine ja 0 (S0:=[(2,.ptr 2 0),(7,.ptr 7 0),(19,.i d1),(20,.i v11)]) (O0:=[(2,.box 34 [.l 1 d0.Owner e_i64,.l 1 d0.Choices e_lT_api_Choice]),(7,.box 88 [.l 4 l26 e_T_exact_Num])]) (T0:=[kC b14 [1,1,1,0,1,0,0,1,1,0,0,0],kC b14 [1,1,1,0,1,0,0,1,1,0,0,1],.inBlock 1,kC b14 [1,1,1,0,1,0,0,1,1,1],kL b14 [1,1,1,0,1,0,0],.inBlock 0,kC b14 [1,1,1,1]]) ?_
         obtain⟨l27,e67,hF⟩:=bnd hF
         refine jo2 3 (mm (f:=e_T_exact_Num) e67) ?_
         have hF14_L3:∀(n_F14_L3:Nat) (v13:Int) (l31:List T_exact_Num),F14_L3 fuel d0 l26 v11 (F14_L2 fuel d0 d1 n_F14_L2) n_F14_L3 v13 l31=some r→G14 r ⟨mkT [(2,.ptr 2 0),(7,.ptr 7 0),(8,.suf 24 0 0),(19,.i d1),(20,.i v11),(26,.l 1 d0.Choices e_lT_api_Choice),(27,.i ((d0.Choices.map e_lT_api_Choice).length:Int)),(28,.i v13)],[(2,.box 34 [.l 1 d0.Owner e_i64,.l 1 d0.Choices e_lT_api_Choice]),(7,.box 88 [.l 4 l26 e_T_exact_Num]),(24,.buf 0 100 4 (l31.map e_T_exact_Num))],[kL b14 [1,1,1,0,1,0,0,1,1,0,0,1,0,1,0,0],.inBlock 2,kC b14 [1,1,1,0,1,0,0,1,1,0,0,1,1],.inBlock 1,kC b14 [1,1,1,0,1,0,0,1,1,1],kL b14 [1,1,1,0,1,0,0],.inBlock 0,kC b14 [1,1,1,1]]⟩:=by
          clear hF;intro n_F14_L3
          induction n_F14_L3 with
          |zero=>intro v13 l31 hF;cases hF
          |succ n_F14_L3 ih_F14_L3=>
           intro v13 l31 hF
           rw[F14_L3]at hF
           refine ji 6 29 hF (fun hb22 hF=> ?_) (fun hb22 hF=> ?_)
           ·
            obtain⟨y59,e78,hF⟩:=bnd hF
            refine jo1 7 (gm (f:=e_lT_api_Choice) e78) ?_
            obtain⟨y60,e79,hF⟩:=bnd hF
            refine jo1 10 (gm (f:=e_i64) e79) ?_
            obtain⟨y61,e80,hF⟩:=bnd hF
            refine jcr 3 [(7,2000)] en52 (F52b_ok e80) ?_
            obtain⟨y62,e81,hF⟩:=bnd hF
            refine jo1 3 (gm (f:=e_T_exact_Num) e81) ?_
            obtain⟨l32,e82,hF⟩:=bnd hF
            have hst:=stm (f:=e_T_exact_Num) (z:=y61.1) (k:=0) (xs:=[.bool y61.1.n_.neg,.sl 1 (y61.1.n_.mag.map e_u32),.bool y61.1.d.neg,.sl 1 (y61.1.d.mag.map e_u32)]) (gj e81) rfl
            refine J_adv 0 (J_opt2 (o:=(match(l31.map e_T_exact_Num)[0+Int.toNat v13]? with|some old=>some ((l31.map e_T_exact_Num).set (0+Int.toNat v13) (setD old 0 [.bool y61.1.n_.neg,.sl 1 (y61.1.n_.mag.map e_u32),.bool y61.1.d.neg,.sl 1 (y61.1.d.mag.map e_u32)]))|none=>none)) (l32.map e_T_exact_Num) (by kernel_rfl) (by cases e82;exact hst) ?_)
            exact ja 6 (ih_F14_L3 _ _ hF)
           ·
            exact ja 11 (ih_F14_L2 _ _ hF)
         exact ja 12 (hF14_L3 _ _ _ hF)
        ·
         obtain⟨y63,e83,hF⟩:=bnd hF
         refine jc 5 en46 (F46_ok e83) ?_
         have hF:=oi hF;subst hF
         exact jr 3
      exact ja 11 (hF14_L2 _ _ _ hF)
   exact ja 12 (hF14_L1 _ _ _ hF)
  ·
   obtain⟨y64,e84,hF⟩:=bnd hF
   refine jc 5 en46 (F46_ok e84) ?_
   have hF:=oi hF;subst hF
   exact jr 3
def F17_L1(d0:List (List UInt8))(d1:List (List UInt8)):Nat→Int→Option Bool
 |0,_=>none
 |n_F17_L1+1,v2=>
  bif decide (v2<((d0.map e_s).length:Int)) then
   (Option.bind (geti d0 v2) fun y5=>
   Option.bind (geti d1 v2) fun y6=>
   bif !(y5==y6) then
    (some false)
   else
    ((F17_L1 d0 d1 n_F17_L1) (IntKind.i64.wrap (v2+1))))
  else
   (some true)
def F17(fuel:Nat)(d0:List (List UInt8))(d1:List (List UInt8)):Option Bool:=
 bif ((d0.map e_s).length:Int) !=((d1.map e_s).length:Int) then
  (some false)
 else
  (F17_L1 d0 d1 fuel 0)
noncomputable abbrev b17:=bodyOf Tryz.f17
abbrev G17(r:Bool):=J none Tryz.prog 26 [] (finF Tryz.prog Tryz.f17 (.b r))
theorem F17_ok{fuel:Nat}{d0:List (List UInt8)}{d1:List (List UInt8)}{r:Bool}(hF:F17 fuel d0 d1=some r):
 CallF Tryz.prog 17 [.l 1 d0 e_s,.l 1 d1 e_s] (.b r):=by
 unfold F17 at hF
 refine cf 26 Tryz.func17 ?_
 refine ji 13 10 hF (fun hb1 hF=> ?_) (fun hb1 hF=> ?_)
 ·
  have hF:=oi hF;subst hF
  exact jr 5
 ·
  have hF17_L1:∀(n_F17_L1:Nat) (v2:Int),F17_L1 d0 d1 n_F17_L1 v2=some r→G17 r ⟨mkT [(0,.l 1 d0 e_s),(1,.l 1 d1 e_s),(12,.i ((d0.map e_s).length:Int)),(13,.i v2)],[],[kL b17 [1,1,0,1,0,0],.inBlock 0,kC b17 [1,1,1]]⟩:=by
   clear hF;intro n_F17_L1
   induction n_F17_L1 with
   |zero=>intro v2 hF;cases hF
   |succ n_F17_L1 ih_F17_L1=>
    intro v2 hF
    rw[F17_L1]at hF
    refine ji 6 14 hF (fun hb6 hF=> ?_) (fun hb6 hF=> ?_)
    ·
     refine jd 10 ?_
     obtain⟨y5,e5,hF⟩:=bnd hF
     refine do1 2 (gm (f:=e_s) e5) ?_
     obtain⟨y6,e6,hF⟩:=bnd hF
     refine do1 3 (gm (f:=e_s) e6) ?_
     refine je 2 ?_
     refine ji 0 24 hF (fun hb7 hF=> ?_) (fun hb7 hF=> ?_)
     ·
      have hF:=oi hF;subst hF
      exact jr 5
     ·
      exact ja 7 (ih_F17_L1 _ hF)
    ·
     have hF:=oi hF;subst hF
     exact jr 6
  exact ja 11 (hF17_L1 _ _ hF)
def F11(d0:Int)(d1:List UInt8):Option T_api_Branch:=
 some (⟨d0,d1⟩:T_api_Branch)
theorem F11_ok{d0:Int}{d1:List UInt8}{r:T_api_Branch}(hF:F11 d0 d1=some r):
 CallF Tryz.prog 11 [.i d0,.s d1] (.agg [.i r.To,.s r.P]):=by
 unfold F11 at hF
 refine cf 8 Tryz.func11 ?_
 have hF:=oi hF;subst hF
 exact jr 11
def F10(d0:List UInt8)(d1:List T_api_Branch):Option T_api_Choice:=
 some (⟨[],d0,d1⟩:T_api_Choice)
theorem F10_ok{d0:List UInt8}{d1:List T_api_Branch}{r:T_api_Choice}(hF:F10 d0 d1=some r):
 CallF Tryz.prog 10 [.s d0,.l 2 d1 e_T_api_Branch] (.agg [.s r.Act,.s r.Gain,.l 2 r.Next e_T_api_Branch]):=by
 unfold F10 at hF
 refine cf 8 Tryz.func10 ?_
 have hF:=oi hF;subst hF
 exact jr 11
def F16:Option T_api_Model:=
 Option.bind (F11 0 [49,47,50]) fun y1=>
 Option.bind (F11 1 [49,47,50]) fun y2=>
 Option.bind (F10 [49] [y1,y2]) fun y3=>
 Option.bind (F11 1 [51,47,52]) fun y4=>
 Option.bind (F11 2 [49,47,52]) fun y5=>
 Option.bind (F10 [48] [y4,y5]) fun y6=>
 Option.bind (F11 0 [49]) fun y7=>
 Option.bind (F10 [50] [y7]) fun y8=>
 Option.bind (F11 1 [49,47,50]) fun y9=>
 Option.bind (F11 2 [49,47,50]) fun y10=>
 Option.bind (F10 [49,47,50] [y9,y10]) fun y11=>
 Option.bind (F11 2 [49]) fun y12=>
 Option.bind (F10 [48] [y12]) fun y13=>
 some (⟨[0,1,0],[[y3,y6],[y8,y11],[y13]]⟩:T_api_Model)
theorem F16_ok{r:T_api_Model}(hF:F16=some r):
 CallF Tryz.prog 16 [] (.agg [.l 1 r.Owner e_i64,.l 1 r.Choices e_lT_api_Choice]):=by
 unfold F16 at hF
 refine cf 25 Tryz.func16 ?_
 obtain⟨y1,e1,hF⟩:=bnd hF
 refine jc 7 en11 (F11_ok e1) ?_
 obtain⟨y2,e2,hF⟩:=bnd hF
 refine jc 0 en11 (F11_ok e2) ?_
 obtain⟨y3,e3,hF⟩:=bnd hF
 refine jc 1 en10 (F10_ok e3) ?_
 obtain⟨y4,e4,hF⟩:=bnd hF
 refine jc 0 en11 (F11_ok e4) ?_
 obtain⟨y5,e5,hF⟩:=bnd hF
 refine jc 0 en11 (F11_ok e5) ?_
 obtain⟨y6,e6,hF⟩:=bnd hF
 refine jc 1 en10 (F10_ok e6) ?_
 obtain⟨y7,e7,hF⟩:=bnd hF
 refine jc 1 en11 (F11_ok e7) ?_
 obtain⟨y8,e8,hF⟩:=bnd hF
 refine jc 1 en10 (F10_ok e8) ?_
 obtain⟨y9,e9,hF⟩:=bnd hF
 refine jc 0 en11 (F11_ok e9) ?_
 obtain⟨y10,e10,hF⟩:=bnd hF
 refine jc 0 en11 (F11_ok e10) ?_
 obtain⟨y11,e11,hF⟩:=bnd hF
 refine jc 1 en10 (F10_ok e11) ?_
 obtain⟨y12,e12,hF⟩:=bnd hF
 refine jc 1 en11 (F11_ok e12) ?_
 obtain⟨y13,e13,hF⟩:=bnd hF
 refine jc 1 en10 (F10_ok e13) ?_
 have hF:=oi hF;subst hF
 exact jr 5
def F57(fuel:Nat)(d0:Int)(d1:List (List UInt8)):Option Bool:=
 Option.bind (F16) fun y1=>
 Option.bind (F12 fuel y1 4 d0) fun y2=>
 Option.bind (
  bif y2.2==0 then
   (Option.bind (F17 fuel y2.1 d1) fun y5=>
   some y5)
  else
   (some false)) fun o1=>
 some o1
noncomputable abbrev b57:=bodyOf Tryz.f57
abbrev G57(r:Bool):=J none Tryz.prog 20 [] (finF Tryz.prog Tryz.f57 (.b r))
theorem F57_ok{fuel:Nat}{d0:Int}{d1:List (List UInt8)}{r:Bool}(hF:F57 fuel d0 d1=some r):
 CallF Tryz.prog 57 [.i d0,.l 1 d1 e_s] (.b r):=by
 unfold F57 at hF
 refine cf 20 Tryz.func57 ?_
 obtain⟨y1,e1,hF⟩:=bnd hF
 refine jc 6 en16 (F16_ok e1) ?_
 obtain⟨y2,e2,hF⟩:=bnd hF
 refine jc 1 en12 (F12_ok e2) ?_
 obtain⟨o1,hO,hF⟩:=bnd hF
 have hR1:G57 r ⟨mkT [(4,.b o1)],[],[kO b57 [1,1,0],kC b57 [1,1,1]]⟩:=by
  clear hO
  have hF:=oi hF;subst hF
  exact jr 1
 clear hF;rename _=some o1=>hF
 refine ji 11 15 hF (fun hb3 hF=> ?_) (fun hb3 hF=> ?_)
 ·
  obtain⟨y5,e5,hF⟩:=bnd hF
  refine jc 2 en17 (F17_ok e5) ?_
  have hF:=oi hF;subst hF
  exact ja 2 hR1
 ·
  have hF:=oi hF;subst hF
  exact ja 5 hR1
def F69_L1(d0:List Int)(d1:List Int):Nat→Int→Option Bool
 |0,_=>none
 |n_F69_L1+1,v2=>
  bif decide (v2<((d0.map e_i64).length:Int)) then
   (Option.bind (geti d0 v2) fun y5=>
   Option.bind (geti d1 v2) fun y6=>
   bif y5 !=y6 then
    (some false)
   else
    ((F69_L1 d0 d1 n_F69_L1) (IntKind.i64.wrap (v2+1))))
  else
   (some true)
def F69(fuel:Nat)(d0:List Int)(d1:List Int):Option Bool:=
 bif ((d0.map e_i64).length:Int) !=((d1.map e_i64).length:Int) then
  (some false)
 else
  (F69_L1 d0 d1 fuel 0)
noncomputable abbrev b69:=bodyOf Tryz.f69
abbrev G69(r:Bool):=J none Tryz.prog 26 [] (finF Tryz.prog Tryz.f69 (.b r))
theorem F69_ok{fuel:Nat}{d0:List Int}{d1:List Int}{r:Bool}(hF:F69 fuel d0 d1=some r):
 CallF Tryz.prog 69 [.l 1 d0 e_i64,.l 1 d1 e_i64] (.b r):=by
 unfold F69 at hF
 refine cf 26 Tryz.func69 ?_
 refine ji 13 10 hF (fun hb1 hF=> ?_) (fun hb1 hF=> ?_)
 ·
  have hF:=oi hF;subst hF
  exact jr 5
 ·
  have hF69_L1:∀(n_F69_L1:Nat) (v2:Int),F69_L1 d0 d1 n_F69_L1 v2=some r→G69 r ⟨mkT [(0,.l 1 d0 e_i64),(1,.l 1 d1 e_i64),(5,.i v2)],[],[kL b69 [1,1,0,1,0,0],.inBlock 0,kC b69 [1,1,1]]⟩:=by
   clear hF;intro n_F69_L1
   induction n_F69_L1 with
   |zero=>intro v2 hF;cases hF
   |succ n_F69_L1 ih_F69_L1=>
    intro v2 hF
    rw[F69_L1]at hF
    refine ji 9 14 hF (fun hb6 hF=> ?_) (fun hb6 hF=> ?_)
    ·
     refine jd 5 ?_
     obtain⟨y5,e5,hF⟩:=bnd hF
     refine do1 2 (gm (f:=e_i64) e5) ?_
     obtain⟨y6,e6,hF⟩:=bnd hF
     refine do1 3 (gm (f:=e_i64) e6) ?_
     refine je 2 ?_
     refine ji 0 25 hF (fun hb7 hF=> ?_) (fun hb7 hF=> ?_)
     ·
      have hF:=oi hF;subst hF
      exact jr 5
     ·
      exact ja 8 (ih_F69_L1 _ hF)
    ·
     have hF:=oi hF;subst hF
     exact jr 6
  exact ja 9 (hF69_L1 _ _ hF)
def F26_L1(fuel:Nat)(d0:List (List Int))(d1:List (List Int)):Nat→Int→Option Bool
 |0,_=>none
 |n_F26_L1+1,v2=>
  bif decide (v2<((d0.map e_li64).length:Int)) then
   (Option.bind (geti d0 v2) fun y7=>
   Option.bind (geti d1 v2) fun y8=>
   Option.bind (F69 fuel y7 y8) fun y9=>
   bif !y9 then
    (some false)
   else
    ((F26_L1 fuel d0 d1 n_F26_L1) (IntKind.i64.wrap (v2+1))))
  else
   (some true)
def F26(fuel:Nat)(d0:List (List Int))(d1:List (List Int)):Option Bool:=
 bif ((d0.map e_li64).length:Int) !=((d1.map e_li64).length:Int) then
  (some false)
 else
  (F26_L1 fuel d0 d1 fuel 0)
noncomputable abbrev b26:=bodyOf Tryz.f26
abbrev G26(r:Bool):=J none Tryz.prog 27 [] (finF Tryz.prog Tryz.f26 (.b r))
theorem F26_ok{fuel:Nat}{d0:List (List Int)}{d1:List (List Int)}{r:Bool}(hF:F26 fuel d0 d1=some r):
 CallF Tryz.prog 26 [.l 1 d0 e_li64,.l 1 d1 e_li64] (.b r):=by
 unfold F26 at hF
 refine cf 27 Tryz.func26 ?_
 refine ji 13 10 hF (fun hb1 hF=> ?_) (fun hb1 hF=> ?_)
 ·
  have hF:=oi hF;subst hF
  exact jr 5
 ·
  have hF26_L1:∀(n_F26_L1:Nat) (v2:Int),F26_L1 fuel d0 d1 n_F26_L1 v2=some r→G26 r ⟨mkT [(0,.l 1 d0 e_li64),(1,.l 1 d1 e_li64),(5,.i v2)],[],[kL b26 [1,1,0,1,0,0],.inBlock 0,kC b26 [1,1,1]]⟩:=by
   clear hF;intro n_F26_L1
   induction n_F26_L1 with
   |zero=>intro v2 hF;cases hF
   |succ n_F26_L1 ih_F26_L1=>
    intro v2 hF
    rw[F26_L1]at hF
    refine ji 9 14 hF (fun hb6 hF=> ?_) (fun hb6 hF=> ?_)
    ·
     refine jd 5 ?_
     obtain⟨y7,e7,hF⟩:=bnd hF
     refine do1 2 (gm (f:=e_li64) e7) ?_
     obtain⟨y8,e8,hF⟩:=bnd hF
     refine do1 3 (gm (f:=e_li64) e8) ?_
     obtain⟨y9,e9,hF⟩:=bnd hF
     refine dc 1 en69 (F69_ok e9) ?_
     refine je 1 ?_
     refine ji 0 26 hF (fun hb7 hF=> ?_) (fun hb7 hF=> ?_)
     ·
      have hF:=oi hF;subst hF
      exact jr 5
     ·
      exact ja 8 (ih_F26_L1 _ hF)
    ·
     have hF:=oi hF;subst hF
     exact jr 6
  exact ja 9 (hF26_L1 _ _ hF)
def F58(fuel:Nat)(d0:Int)(d1:List (List UInt8)):Option Bool:=
 Option.bind (F16) fun y1=>
 Option.bind (F14 fuel y1 d0) fun y2=>
 Option.bind (
  bif y2.2==0 then
   (Option.bind (F17 fuel y2.1 d1) fun y5=>
   some y5)
  else
   (some false)) fun o1=>
 some o1
noncomputable abbrev b58:=bodyOf Tryz.f58
abbrev G58(r:Bool):=J none Tryz.prog 20 [] (finF Tryz.prog Tryz.f58 (.b r))
theorem F58_ok{fuel:Nat}{d0:Int}{d1:List (List UInt8)}{r:Bool}(hF:F58 fuel d0 d1=some r):
 CallF Tryz.prog 58 [.i d0,.l 1 d1 e_s] (.b r):=by
 unfold F58 at hF
 refine cf 20 Tryz.func58 ?_
 obtain⟨y1,e1,hF⟩:=bnd hF
 refine jc 6 en16 (F16_ok e1) ?_
 obtain⟨y2,e2,hF⟩:=bnd hF
 refine jc 1 en14 (F14_ok e2) ?_
 obtain⟨o1,hO,hF⟩:=bnd hF
 have hR1:G58 r ⟨mkT [(4,.b o1)],[],[kO b58 [1,1,0],kC b58 [1,1,1]]⟩:=by
  clear hO
  have hF:=oi hF;subst hF
  exact jr 1
 clear hF;rename _=some o1=>hF
 refine ji 11 15 hF (fun hb3 hF=> ?_) (fun hb3 hF=> ?_)
 ·
  obtain⟨y5,e5,hF⟩:=bnd hF
  refine jc 2 en17 (F17_ok e5) ?_
  have hF:=oi hF;subst hF
  exact ja 2 hR1
 ·
  have hF:=oi hF;subst hF
  exact ja 5 hR1
def F59(fuel:Nat)(d0:Int)(d1:Int)(d2:List UInt8)(d3:Int)(d4:Int):Option Bool:=
 Option.bind (F16) fun y1=>
 Option.bind (F13 fuel y1 d0 d1 d2) fun y2=>
 Option.bind (
  bif y2.1==d3 then
   (some (y2.2==d4))
  else
   (some false)) fun o1=>
 some o1
noncomputable abbrev b59:=bodyOf Tryz.f59
abbrev G59(r:Bool):=J none Tryz.prog 29 [] (finF Tryz.prog Tryz.f59 (.b r))
theorem F59_ok{fuel:Nat}{d0:Int}{d1:Int}{d2:List UInt8}{d3:Int}{d4:Int}{r:Bool}(hF:F59 fuel d0 d1 d2 d3 d4=some r):
 CallF Tryz.prog 59 [.i d0,.n d1,.s d2,.i d3,.i d4] (.b r):=by
 unfold F59 at hF
 refine cf 29 Tryz.func59 ?_
 obtain⟨y1,e1,hF⟩:=bnd hF
 refine jc 6 en16 (F16_ok e1) ?_
 obtain⟨y2,e2,hF⟩:=bnd hF
 refine jc 3 en13 (F13_ok e2) ?_
 obtain⟨o1,hO,hF⟩:=bnd hF
 have hR1:G59 r ⟨mkT [(10,.b o1)],[],[kO b59 [1,1,0],kC b59 [1,1,1]]⟩:=by
  clear hO
  have hF:=oi hF;subst hF
  exact jr 1
 clear hF;rename _=some o1=>hF
 refine ji 12 24 hF (fun hb3 hF=> ?_) (fun hb3 hF=> ?_)
 ·
  have hF:=oi hF;subst hF
  exact ja 5 hR1
 ·
  have hF:=oi hF;subst hF
  exact ja 5 hR1
def F19(fuel:Nat):Option Bool:=
 Option.bind (F16) fun y1=>
 Option.bind (F15 fuel y1 4 2) fun y2=>
 Option.bind (F15 fuel y1 5 1) fun y3=>
 Option.bind (F15 fuel y1 4 0) fun y4=>
 Option.bind (F12 fuel y1 4 61) fun y5=>
 Option.bind (
  Option.bind (F57 fuel 0 [[48],[48],[49]]) fun y50=>
  bif y50 then
   (Option.bind (F57 fuel 1 [[49,47,52],[48],[49]]) fun y51=>
   bif y51 then
    (Option.bind (F57 fuel 2 [[49,47,52],[49,47,52],[49]]) fun y52=>
    bif y52 then
     (Option.bind (F57 fuel 3 [[55,47,49,54],[49,47,52],[49]]) fun y53=>
     bif y53 then
      (bif y2.2==0 then
       (bif y3.2==0 then
        (bif y4.2==0 then
         (bif y5.2==2 then
          (some (((y4.1.map e_li64).length:Int)==0))
         else
          (some false))
        else
         (some false))
       else
        (some false))
      else
       (some false))
     else
      (some false))
    else
     (some false))
   else
    (some false))
  else
   (some false)) fun o1=>
 Option.bind (
  bif o1 then
   (Option.bind (F26 fuel y2.1 [[1,0,0],[1,0,0]]) fun y45=>
   bif y45 then
    (Option.bind (F26 fuel y3.1 [[0,1,0]]) fun y46=>
    bif y46 then
     (Option.bind (F58 fuel 0 [[48],[48],[48]]) fun y47=>
     bif y47 then
      (Option.bind (F58 fuel 1 [[49],[49,47,50],[48]]) fun y48=>
      bif y48 then
       (Option.bind (F58 fuel 2 [[55,47,52],[51,47,52],[48]]) fun y49=>
       some y49)
      else
       (some false))
     else
      (some false))
    else
     (some false))
   else
    (some false))
  else
   (some false)) fun o2=>
 Option.bind (
  bif o2 then
   (Option.bind (F59 fuel 0 4 [49,47,52] 1 0) fun y38=>
   bif y38 then
    (Option.bind (F59 fuel 1 4 [49,47,52] 2 0) fun y39=>
    bif y39 then
     (Option.bind (F59 fuel 0 4 [48] 0 0) fun y40=>
     bif y40 then
      (Option.bind (F59 fuel 0 0 [49,47,50] 0 4) fun y41=>
      bif y41 then
       (Option.bind (F59 fuel 3 4 [49] 0 2) fun y42=>
       bif y42 then
        (Option.bind (F59 fuel 0 4 [53,47,52] 0 2) fun y43=>
        bif y43 then
         (Option.bind (F59 fuel 0 4 [120] 0 5) fun y44=>
         some y44)
        else
         (some false))
       else
        (some false))
      else
       (some false))
     else
      (some false))
    else
     (some false))
   else
    (some false))
  else
   (some false)) fun o3=>
 some o3
noncomputable abbrev b19:=bodyOf Tryz.f19
abbrev G19(r:Bool):=J none Tryz.prog 115 [] (finF Tryz.prog Tryz.f19 (.b r))
theorem F19_ok{fuel:Nat}{r:Bool}(hF:F19 fuel=some r):
 CallF Tryz.prog 19 [] (.b r):=by
 unfold F19 at hF
 refine cf 115 Tryz.func19 ?_
 obtain⟨y1,e1,hF⟩:=bnd hF
 refine jc 6 en16 (F16_ok e1) ?_
 obtain⟨y2,e2,hF⟩:=bnd hF
 refine jc 6 en15 (F15_ok e2) ?_
 obtain⟨y3,e3,hF⟩:=bnd hF
 refine jc 9 en15 (F15_ok e3) ?_
 obtain⟨y4,e4,hF⟩:=bnd hF
 refine jc 9 en15 (F15_ok e4) ?_
 obtain⟨y5,e5,hF⟩:=bnd hF
 refine jc 9 en12 (F12_ok e5) ?_
 obtain⟨o1,hO,hF⟩:=bnd hF
 have hR1:G19 r ⟨mkT [(2,.l 1 y2.1 e_li64),(4,.l 1 y3.1 e_li64),(10,.b o1)],[],[kO b19 [1,1,1,1,1,1,0],kC b19 [1,1,1,1,1,1,1]]⟩:=by
  clear hO
  obtain⟨o2,hO,hF⟩:=bnd hF
  have hR2:G19 r ⟨mkT [(10,.b o2)],[],[kO b19 [1,1,1,1,1,1,1,0],kC b19 [1,1,1,1,1,1,1,1]]⟩:=by
   clear hO
   obtain⟨o3,hO,hF⟩:=bnd hF
   have hR3:G19 r ⟨mkT [(0,.b o3)],[],[kO b19 [1,1,1,1,1,1,1,1,0],kC b19 [1,1,1,1,1,1,1,1,1]]⟩:=by
    clear hO
    have hF:=oi hF;subst hF
    exact jr 1
   clear hF;rename _=some o3=>hF
   refine ji 5 94 hF (fun hb41 hF=> ?_) (fun hb41 hF=> ?_)
   ·
    obtain⟨y38,e38,hF⟩:=bnd hF
    refine jc 0 en59 (F59_ok e38) ?_
    refine ji 2 97 hF (fun hb42 hF=> ?_) (fun hb42 hF=> ?_)
    ·
     obtain⟨y39,e39,hF⟩:=bnd hF
     refine jc 0 en59 (F59_ok e39) ?_
     refine ji 2 100 hF (fun hb43 hF=> ?_) (fun hb43 hF=> ?_)
     ·
      obtain⟨y40,e40,hF⟩:=bnd hF
      refine jc 0 en59 (F59_ok e40) ?_
      refine ji 2 103 hF (fun hb44 hF=> ?_) (fun hb44 hF=> ?_)
      ·
       obtain⟨y41,e41,hF⟩:=bnd hF
       refine jc 0 en59 (F59_ok e41) ?_
       refine ji 2 106 hF (fun hb45 hF=> ?_) (fun hb45 hF=> ?_)
       ·
        obtain⟨y42,e42,hF⟩:=bnd hF
        refine jc 0 en59 (F59_ok e42) ?_
        refine ji 2 109 hF (fun hb46 hF=> ?_) (fun hb46 hF=> ?_)
        ·
         obtain⟨y43,e43,hF⟩:=bnd hF
         refine jc 0 en59 (F59_ok e43) ?_
         refine ji 2 112 hF (fun hb47 hF=> ?_) (fun hb47 hF=> ?_)
         ·
          obtain⟨y44,e44,hF⟩:=bnd hF
          refine jc 0 en59 (F59_ok e44) ?_
          have hF:=oi hF;subst hF
          exact ja 2 hR3
         ·
          have hF:=oi hF;subst hF
          exact ja 3 hR3
        ·
         have hF:=oi hF;subst hF
         exact ja 6 hR3
       ·
        have hF:=oi hF;subst hF
        exact ja 9 hR3
      ·
       have hF:=oi hF;subst hF
       exact ja 12 hR3
     ·
      have hF:=oi hF;subst hF
      exact ja 15 hR3
    ·
     have hF:=oi hF;subst hF
     exact ja 18 hR3
   ·
    have hF:=oi hF;subst hF
    exact ja 21 hR3
  clear hF;rename _=some o2=>hF
  refine ji 5 68 hF (fun hb48 hF=> ?_) (fun hb48 hF=> ?_)
  ·
   obtain⟨y45,e45,hF⟩:=bnd hF
   refine jc 4 en26 (F26_ok e45) ?_
   refine ji 2 75 hF (fun hb49 hF=> ?_) (fun hb49 hF=> ?_)
   ·
    obtain⟨y46,e46,hF⟩:=bnd hF
    refine jc 3 en26 (F26_ok e46) ?_
    refine ji 2 81 hF (fun hb50 hF=> ?_) (fun hb50 hF=> ?_)
    ·
     obtain⟨y47,e47,hF⟩:=bnd hF
     refine jc 1 en58 (F58_ok e47) ?_
     refine ji 2 85 hF (fun hb51 hF=> ?_) (fun hb51 hF=> ?_)
     ·
      obtain⟨y48,e48,hF⟩:=bnd hF
      refine jc 1 en58 (F58_ok e48) ?_
      refine ji 2 89 hF (fun hb52 hF=> ?_) (fun hb52 hF=> ?_)
      ·
       obtain⟨y49,e49,hF⟩:=bnd hF
       refine jc 1 en58 (F58_ok e49) ?_
       have hF:=oi hF;subst hF
       exact ja 2 hR2
      ·
       have hF:=oi hF;subst hF
       exact ja 4 hR2
     ·
      have hF:=oi hF;subst hF
      exact ja 8 hR2
    ·
     have hF:=oi hF;subst hF
     exact ja 12 hR2
   ·
    have hF:=oi hF;subst hF
    exact ja 18 hR2
  ·
   have hF:=oi hF;subst hF
   exact ja 25 hR2
 clear hF;rename _=some o1=>hF
 obtain⟨y50,e50,hF⟩:=bnd hF
 refine jc 9 en57 (F57_ok e50) ?_
 refine ji 1 34 hF (fun hb53 hF=> ?_) (fun hb53 hF=> ?_)
 ·
  obtain⟨y51,e51,hF⟩:=bnd hF
  refine jc 1 en57 (F57_ok e51) ?_
  refine ji 2 38 hF (fun hb54 hF=> ?_) (fun hb54 hF=> ?_)
  ·
   obtain⟨y52,e52,hF⟩:=bnd hF
   refine jc 1 en57 (F57_ok e52) ?_
   refine ji 2 42 hF (fun hb55 hF=> ?_) (fun hb55 hF=> ?_)
   ·
    obtain⟨y53,e53,hF⟩:=bnd hF
    refine jc 1 en57 (F57_ok e53) ?_
    refine ji 2 46 hF (fun hb56 hF=> ?_) (fun hb56 hF=> ?_)
    ·
     refine ji 4 50 hF (fun hb57 hF=> ?_) (fun hb57 hF=> ?_)
     ·
      refine ji 4 54 hF (fun hb58 hF=> ?_) (fun hb58 hF=> ?_)
      ·
       refine ji 4 58 hF (fun hb59 hF=> ?_) (fun hb59 hF=> ?_)
       ·
        refine ji 4 62 hF (fun hb60 hF=> ?_) (fun hb60 hF=> ?_)
        ·
         have hF:=oi hF;subst hF
         exact ja 5 hR1
        ·
         have hF:=oi hF;subst hF
         exact ja 5 hR1
       ·
        have hF:=oi hF;subst hF
        exact ja 9 hR1
      ·
       have hF:=oi hF;subst hF
       exact ja 13 hR1
     ·
      have hF:=oi hF;subst hF
      exact ja 17 hR1
    ·
     have hF:=oi hF;subst hF
     exact ja 21 hR1
   ·
    have hF:=oi hF;subst hF
    exact ja 25 hR1
  ·
   have hF:=oi hF;subst hF
   exact ja 29 hR1
 ·
  have hF:=oi hF;subst hF
  exact ja 33 hR1
end Go.Proofs.YtfgbhfphjmmiaaaGreatDoor
end
section
set_option linter.unusedVariables false
set_option maxRecDepth 100000
namespace Go.Proofs.YtfgbhfphjmmiaaaGreatDoor
open Go Go.RowKit Kx
theorem en19:entersT Tryz.prog 19:=Kx.enters_of Tryz.func19 (by kernel_rfl) (by kernel_rfl)
theorem en20:entersT Tryz.prog 20:=Kx.enters_of Tryz.func20 (by kernel_rfl) (by kernel_rfl)
theorem en29:entersT Tryz.prog 29:=Kx.enters_of Tryz.func29 (by kernel_rfl) (by kernel_rfl)
theorem en106:entersT Tryz.prog 106:=Kx.enters_of Tryz.func106 (by kernel_rfl) (by kernel_rfl)
theorem en56:entersT Tryz.prog 56:=Kx.enters_of Tryz.func56 (by kernel_rfl) (by kernel_rfl)
theorem en18:entersT Tryz.prog 18:=Kx.enters_of Tryz.func18 (by kernel_rfl) (by kernel_rfl)
theorem en77:entersT Tryz.prog 77:=Kx.enters_of Tryz.func77 (by kernel_rfl) (by kernel_rfl)
theorem en78:entersT Tryz.prog 78:=Kx.enters_of Tryz.func78 (by kernel_rfl) (by kernel_rfl)
theorem en38:entersT Tryz.prog 38:=Kx.enters_of Tryz.func38 (by kernel_rfl) (by kernel_rfl)
theorem en79:entersT Tryz.prog 79:=Kx.enters_of Tryz.func79 (by kernel_rfl) (by kernel_rfl)
theorem en80:entersT Tryz.prog 80:=Kx.enters_of Tryz.func80 (by kernel_rfl) (by kernel_rfl)
theorem en81:entersT Tryz.prog 81:=Kx.enters_of Tryz.func81 (by kernel_rfl) (by kernel_rfl)
theorem en30:entersT Tryz.prog 30:=Kx.enters_of Tryz.func30 (by kernel_rfl) (by kernel_rfl)
def F106(d0:Int)(d1:Int):Option (Int×Int):=
 some (IntKind.u64.wrap ((IntKind.u64.wrap ((IntKind.u64.wrap ((Int.fdiv d0 (2^(min (Int.toNat 32) IntKind.u64.bits)))*(Int.fdiv d1 (2^(min (Int.toNat 32) IntKind.u64.bits)))))+(Int.fdiv (IntKind.u64.wrap ((IntKind.u64.wrap ((Int.fdiv d0 (2^(min (Int.toNat 32) IntKind.u64.bits)))*(IntKind.u64.wrap (BitVec.ofInt IntKind.u64.bits d1&&&BitVec.ofInt IntKind.u64.bits 4294967295).toNat)))+(Int.fdiv (IntKind.u64.wrap ((IntKind.u64.wrap (BitVec.ofInt IntKind.u64.bits d0&&&BitVec.ofInt IntKind.u64.bits 4294967295).toNat)*(IntKind.u64.wrap (BitVec.ofInt IntKind.u64.bits d1&&&BitVec.ofInt IntKind.u64.bits 4294967295).toNat))) (2^(min (Int.toNat 32) IntKind.u64.bits))))) (2^(min (Int.toNat 32) IntKind.u64.bits)))))+(Int.fdiv (IntKind.u64.wrap ((IntKind.u64.wrap (BitVec.ofInt IntKind.u64.bits (IntKind.u64.wrap ((IntKind.u64.wrap ((Int.fdiv d0 (2^(min (Int.toNat 32) IntKind.u64.bits)))*(IntKind.u64.wrap (BitVec.ofInt IntKind.u64.bits d1&&&BitVec.ofInt IntKind.u64.bits 4294967295).toNat)))+(Int.fdiv (IntKind.u64.wrap ((IntKind.u64.wrap (BitVec.ofInt IntKind.u64.bits d0&&&BitVec.ofInt IntKind.u64.bits 4294967295).toNat)*(IntKind.u64.wrap (BitVec.ofInt IntKind.u64.bits d1&&&BitVec.ofInt IntKind.u64.bits 4294967295).toNat))) (2^(min (Int.toNat 32) IntKind.u64.bits)))))&&&BitVec.ofInt IntKind.u64.bits 4294967295).toNat)+(IntKind.u64.wrap ((IntKind.u64.wrap (BitVec.ofInt IntKind.u64.bits d0&&&BitVec.ofInt IntKind.u64.bits 4294967295).toNat)*(Int.fdiv d1 (2^(min (Int.toNat 32) IntKind.u64.bits))))))) (2^(min (Int.toNat 32) IntKind.u64.bits)))),IntKind.u64.wrap (d0*d1))
theorem F106_ok{d0:Int}{d1:Int}{r:Int×Int}(hF:F106 d0 d1=some r):
 CallF Tryz.prog 106 [.n d0,.n d1] (.tup [.n r.1,.n r.2]):=by
 unfold F106 at hF
 refine cf 51 Tryz.func106 ?_
 have hF:=oi hF;subst hF
 exact jr 86
def F56(d0:Int)(d1:Int):Option (Int×Int):=
 Option.bind (F106 d0 d1) fun y1=>
 some (y1.1,y1.2)
theorem F56_ok{d0:Int}{d1:Int}{r:Int×Int}(hF:F56 d0 d1=some r):
 CallF Tryz.prog 56 [.n d0,.n d1] (.tup [.n r.1,.n r.2]):=by
 unfold F56 at hF
 refine cf 30 Tryz.func56 ?_
 obtain⟨y1,e1,hF⟩:=bnd hF
 refine jc 12 en106 (F106_ok e1) ?_
 have hF:=oi hF;subst hF
 exact jr 13
def F18_L1:Nat→Int→(List (List UInt8))→Option (List (List UInt8))
 |0,_,_=>none
 |n_F18_L1+1,v2,l3=>
  bif decide (v2<((l3.map e_s).length:Int)) then
   (ass (decide ((0:Int)≤v2)&&decide (v2≤(((l3.map e_s).drop 0).length:Int)))<|
   ass (decide ((0:Int)≤0)&&decide (0≤v2)&&decide (v2≤(((l3.map e_s).drop 0).length:Int)))<|
   (F18_L1 n_F18_L1) (IntKind.i64.wrap (v2+(cpyN (l3.map e_s) (0+Int.toNat v2) (((l3.map e_s).drop (0+Int.toNat 0)).take (Int.toNat (v2-0)))))) (cpy l3 (0+Int.toNat v2) ((l3.drop (0+Int.toNat 0)).take (Int.toNat (v2-0)))))
  else
   (some l3)
def F18(fuel:Nat)(d0:Int)(d1:List (List UInt8)):Option (List (List UInt8)):=
 bif decide (d0<0) then
  (none)
 else
  (Option.bind (F56 (IntKind.u64.wrap ((d1.map e_s).length:Int)) (IntKind.u64.wrap d0)) fun y1=>
  Option.bind (
   bif decide (y1.1>0) then
    (some true)
   else
    (some (decide (y1.2>9223372036854775807)))) fun o1=>
  bif o1 then
   (none)
  else
   (Option.bind (mkL (IntKind.i64.wrap y1.2) (IntKind.i64.wrap y1.2) []) fun l1=>
   F18_L1 fuel (cpyN (l1.map e_s) 0 ((d1.map e_s).drop 0)) (cpy l1 0 (d1.drop 0))))
noncomputable abbrev b18:=bodyOf Tryz.f18
abbrev G18(d1:List (List UInt8))(r:List (List UInt8)):=J none Tryz.prog 48 [] (finR Tryz.prog Tryz.f18 [(2000,.buf 0 23 1 (d1.map e_s)),(2001,.buf 0 23 1 (r.map e_s))] (.suf 2001 0 0))
theorem F18_ok{fuel:Nat}{d0:Int}{d1:List (List UInt8)}{r:List (List UInt8)}(hF:F18 fuel d0 d1=some r):
 CallR Tryz.prog 18 [(2000,.buf 0 23 1 (d1.map e_s))] [.suf 2000 0 0,.i d0] [(2000,.buf 0 23 1 (d1.map e_s)),(2001,.buf 0 23 1 (r.map e_s))] (.suf 2001 0 0):=by
 unfold F18 at hF
 refine cr 48 Tryz.func18 ?_
 refine ji 10 10 hF (fun hb1 hF=> ?_) (fun hb1 hF=> ?_)
 ·
  cases hF
 ·
  obtain⟨y1,e1,hF⟩:=bnd hF
  refine jc 9 en56 (F56_ok e1) ?_
  obtain⟨o1,hO,hF⟩:=bnd hF
  have hR1:G18 d1 r ⟨mkT [(0,.suf 2000 0 0),(6,.n y1.2),(26,.b o1)],[(2000,.buf 0 23 1 (d1.map e_s))],[kO b18 [1,1,1,0,0],kC b18 [1,1,1,0,1],kC b18 [1,1,1,1]]⟩:=by
   clear hO
   refine ji 1 26 hF (fun hb4 hF=> ?_) (fun hb4 hF=> ?_)
   ·
    cases hF
   ·
    obtain⟨l1,e2,hF⟩:=bnd hF
    refine jo2 6 (mm (f:=e_s) e2) ?_
    refine J_adv 6 (J_opt2 (o:=cpy2 (l1.map e_s) 0 ((d1.map e_s).drop 0)) ((cpy l1 0 (d1.drop 0)).map e_s) (by kernel_rfl) cp2d ?_)
    have hF18_L1:∀(n_F18_L1:Nat) (v2:Int) (l3:List (List UInt8)),F18_L1 n_F18_L1 v2 l3=some r→G18 d1 r ⟨mkT [(7,.suf 30 0 0),(8,.i v2)],[(30,.buf 0 23 1 (l3.map e_s)),(2000,.buf 0 23 1 (d1.map e_s))],[kL b18 [1,1,1,1,1,1,0,0,0],.inBlock 0,kC b18 [1,1,1,1,1,1,1]]⟩:=by
     clear hF;intro n_F18_L1
     induction n_F18_L1 with
     |zero=>intro v2 l3 hF;cases hF
     |succ n_F18_L1 ih_F18_L1=>
      intro v2 l3 hF
      rw[F18_L1]at hF
      refine ji 9 37 hF (fun hb11 hF=> ?_) (fun hb11 hF=> ?_)
      ·
       refine jd 3 ?_
       obtain⟨hb12,hF⟩:=assd hF
       refine do1 3 (ck hb12) ?_
       obtain⟨hb13,hF⟩:=assd hF
       refine do1 2 (ck hb13) ?_
       refine JD_adv 0 (JD_opt2 (o:=cpy2 (l3.map e_s) (0+Int.toNat v2) (((l3.map e_s).drop (0+Int.toNat 0)).take (Int.toNat (v2-0)))) ((cpy l3 (0+Int.toNat v2) ((l3.drop (0+Int.toNat 0)).take (Int.toNat (v2-0)))).map e_s) (by kernel_rfl) (by kernel_rfl) cp2t ?_)
       refine je 2 ?_
       exact ja 1 (ih_F18_L1 _ _ hF)
      ·
       refine ja 7 (S0:=[(4,.suf 30 0 0)]) (O0:=[(30,.buf 0 23 1 (l3.map e_s)),(2000,.buf 0 23 1 (d1.map e_s))]) (T0:=[kC b18 [1,1,1,1,1,1,1,1]]) ?_
       refine J_adv 0 (J_ren [(2000,2000),(30,2001)] (by kernel_rfl) (by kernel_rfl) (by kernel_rfl) (by kernel_rfl) ?_)
       have hF:=oi hF;subst hF
       exact J_adv 0 (J_retRR (xs:=[.suf 2001 0 0]) [.suf 2001 0 0] rfl (by kernel_rfl) (by kernel_rfl) (Res'.refl _) rfl)
    exact ja 5 (hF18_L1 _ _ _ hF)
  clear hF;rename _=some o1=>hF
  refine ji 12 23 hF (fun hb14 hF=> ?_) (fun hb14 hF=> ?_)
  ·
   have hF:=oi hF;subst hF
   exact ja 3 hR1
  ·
   have hF:=oi hF;subst hF
   exact ja 3 hR1
def F77_L1(d0:T_api_Model)(d1:List Int):Nat→Int→Option Bool
 |0,_=>none
 |n_F77_L1+1,v2=>
  bif decide (v2<((d1.map e_i64).length:Int)) then
   (Option.bind (
    Option.bind (geti d1 v2) fun y25=>
    bif decide (y25<0) then
     (some true)
    else
     (Option.bind (geti d1 v2) fun y26=>
     Option.bind (geti d0.Choices v2) fun y27=>
     some (decide (y26≥((y27.map e_T_api_Choice).length:Int))))) fun o3=>
   bif o3 then
    (some false)
   else
    ((F77_L1 d0 d1 n_F77_L1) (IntKind.i64.wrap (v2+1))))
  else
   (some true)
def F77(fuel:Nat)(d0:T_api_Model)(d1:List Int):Option Bool:=
 bif ((d1.map e_i64).length:Int) !=((d0.Choices.map e_lT_api_Choice).length:Int) then
  (some false)
 else
  (F77_L1 d0 d1 fuel 0)
noncomputable abbrev b77:=bodyOf Tryz.f77
abbrev G77(r:Bool):=J none Tryz.prog 36 [] (finF Tryz.prog Tryz.f77 (.b r))
theorem F77_ok{fuel:Nat}{d0:T_api_Model}{d1:List Int}{r:Bool}(hF:F77 fuel d0 d1=some r):
 CallF Tryz.prog 77 [.agg [.l 1 d0.Owner e_i64,.l 1 d0.Choices e_lT_api_Choice],.l 1 d1 e_i64] (.b r):=by
 unfold F77 at hF
 refine cf 36 Tryz.func77 ?_
 refine ji 15 11 hF (fun hb1 hF=> ?_) (fun hb1 hF=> ?_)
 ·
  have hF:=oi hF;subst hF
  exact jr 5
 ·
  have hF77_L1:∀(n_F77_L1:Nat) (v2:Int),F77_L1 d0 d1 n_F77_L1 v2=some r→G77 r ⟨mkT [(1,.l 1 d1 e_i64),(2,.ptr 2 0),(5,.i v2)],[(2,.box 34 [.l 1 d0.Owner e_i64,.l 1 d0.Choices e_lT_api_Choice])],[kL b77 [1,1,0,1,0,0],.inBlock 0,kC b77 [1,1,1]]⟩:=by
   clear hF;intro n_F77_L1
   induction n_F77_L1 with
   |zero=>intro v2 hF;cases hF
   |succ n_F77_L1 ih_F77_L1=>
    intro v2 hF
    rw[F77_L1]at hF
    refine ji 9 15 hF (fun hb12 hF=> ?_) (fun hb12 hF=> ?_)
    ·
     obtain⟨o3,hO,hF⟩:=bnd hF
     have hR3:G77 r ⟨mkT [(1,.l 1 d1 e_i64),(2,.ptr 2 0),(5,.i v2),(35,.b o3)],[(2,.box 34 [.l 1 d0.Owner e_i64,.l 1 d0.Choices e_lT_api_Choice])],[kC b77 [1,1,0,1,0,0,1,0,0,1],.inBlock 1,kC b77 [1,1,0,1,0,0,1,1],kL b77 [1,1,0,1,0,0],.inBlock 0,kC b77 [1,1,1]]⟩:=by
      clear hO
      refine ji 0 35 hF (fun hb15 hF=> ?_) (fun hb15 hF=> ?_)
      ·
       have hF:=oi hF;subst hF
       exact jr 5
      ·
       exact ja 8 (ih_F77_L1 _ hF)
     clear hF;rename _=some o3=>hF
     refine jd 5 ?_
     obtain⟨y25,e25,hF⟩:=bnd hF
     refine do1 2 (gm (f:=e_i64) e25) ?_
     refine di 3 23 hF (fun hb16 hF=> ?_) (fun hb16 hF=> ?_)
     ·
      refine je 12 ?_
      have hF:=oi hF;subst hF
      exact ja 0 hR3
     ·
      obtain⟨y26,e26,hF⟩:=bnd hF
      refine do1 2 (gm (f:=e_i64) e26) ?_
      obtain⟨y27,e27,hF⟩:=bnd hF
      refine do1 4 (gm (f:=e_lT_api_Choice) e27) ?_
      refine je 4 ?_
      have hF:=oi hF;subst hF
      exact ja 0 hR3
    ·
     have hF:=oi hF;subst hF
     exact jr 6
  exact ja 9 (hF77_L1 _ _ hF)
def F78(d0:List (List UInt8)):Option (List (List UInt8)):=
 ass (decide (0<((d0.map e_s).drop 0).length))<|
 Option.bind (app [] d0) fun l1=>
 some l1
noncomputable abbrev b78:=bodyOf Tryz.f78
theorem F78_ok{d0:List (List UInt8)}{r:List (List UInt8)}(hF:F78 d0=some r):
 CallR Tryz.prog 78 [(2000,.buf 0 23 1 (d0.map e_s))] [.suf 2000 0 0] [(2000,.fzs 0 1 (d0.map e_s)),(2001,.buf 0 23 1 (r.map e_s))] (.suf 2001 0 0):=by
 unfold F78 at hF
 refine cr 8 Tryz.func78 ?_
 obtain⟨hb1,hF⟩:=assd hF
 refine jo1 8 (ck hb1) ?_
 obtain⟨l1,e1,hF⟩:=bnd hF
 refine jo2 7 (am (f:=e_s) e1) ?_
 refine ja 2 (S0:=[(2,.suf 7 0 0)]) (O0:=[(7,.buf 0 23 1 (l1.map e_s)),(2000,.fzs 0 1 (d0.map e_s))]) (T0:=[kC b78 [1,1,1]]) ?_
 refine J_adv 0 (J_ren [(2000,2000),(7,2001)] (by kernel_rfl) (by kernel_rfl) (by kernel_rfl) (by kernel_rfl) ?_)
 have hF:=oi hF;subst hF
 exact J_adv 0 (J_retRR (xs:=[.suf 2001 0 0]) [.suf 2001 0 0] rfl (by kernel_rfl) (by kernel_rfl) (Res'.refl _) rfl)
def F79_L1(fuel:Nat)(d0:T_api_Choice)(d1:List (List UInt8)):Nat→(List UInt8)→Int→Option (List UInt8)
 |0,_,_=>none
 |n_F79_L1+1,x2,v2=>
  bif decide (v2<((d0.Next.map e_T_api_Branch).length:Int)) then
   (Option.bind (geti d0.Next v2) fun y11=>
   Option.bind (geti d0.Next v2) fun y12=>
   Option.bind (geti d1 y12.To) fun y13=>
   Option.bind (F38 fuel y11.P y13) fun y14=>
   Option.bind (F37 fuel x2 y14) fun y15=>
   (F79_L1 fuel d0 d1 n_F79_L1) y15 (IntKind.i64.wrap (v2+1)))
  else
   (some x2)
def F79(fuel:Nat)(d0:T_api_Choice)(d1:List (List UInt8)):Option (List UInt8):=
 F79_L1 fuel d0 d1 fuel [48] 0
noncomputable abbrev b79:=bodyOf Tryz.f79
abbrev G79(r:List UInt8):=J none Tryz.prog 33 [] (finF Tryz.prog Tryz.f79 (.s r))
theorem F79_ok{fuel:Nat}{d0:T_api_Choice}{d1:List (List UInt8)}{r:List UInt8}(hF:F79 fuel d0 d1=some r):
 CallF Tryz.prog 79 [.agg [.s d0.Act,.s d0.Gain,.l 2 d0.Next e_T_api_Branch],.l 1 d1 e_s] (.s r):=by
 unfold F79 at hF
 refine cf 33 Tryz.func79 ?_
 have hF79_L1:∀(n_F79_L1:Nat) (x2:List UInt8) (v2:Int),F79_L1 fuel d0 d1 n_F79_L1 x2 v2=some r→G79 r ⟨mkT [(1,.l 1 d1 e_s),(2,.ptr 2 0),(5,.s x2),(6,.i v2)],[(2,.box 26 [.s d0.Act,.s d0.Gain,.l 2 d0.Next e_T_api_Branch])],[kL b79 [1,1,0,1,0,0],.inBlock 0,kC b79 [1,1,1]]⟩:=by
  clear hF;intro n_F79_L1
  induction n_F79_L1 with
  |zero=>intro x2 v2 hF;cases hF
  |succ n_F79_L1 ih_F79_L1=>
   intro x2 v2 hF
   rw[F79_L1]at hF
   refine ji 10 11 hF (fun hb3 hF=> ?_) (fun hb3 hF=> ?_)
   ·
    refine jd 4 ?_
    obtain⟨y11,e11,hF⟩:=bnd hF
    refine do1 4 (gm (f:=e_T_api_Branch) e11) ?_
    obtain⟨y12,e12,hF⟩:=bnd hF
    refine do1 6 (gm (f:=e_T_api_Branch) e12) ?_
    obtain⟨y13,e13,hF⟩:=bnd hF
    refine do1 2 (gm (f:=e_s) e13) ?_
    obtain⟨y14,e14,hF⟩:=bnd hF
    refine dc 1 en38 (F38_ok e14) ?_
    obtain⟨y15,e15,hF⟩:=bnd hF
    refine dc 0 en37 (F37_ok e15) ?_
    refine je 1 ?_
    exact ja 6 (ih_F79_L1 _ _ hF)
   ·
    have hF:=oi hF;subst hF
    exact jr 7
 exact ja 16 (hF79_L1 _ _ _ hF)
def F30_A2(v2:Int)(rec_F30_L1:Int→(List (List UInt8))→Option (List (List UInt8)×Bool))(l10:List (List UInt8)):Option (List (List UInt8)×Bool):=
 rec_F30_L1 (IntKind.i64.wrap (v2+1)) l10
def F30_A5(l339:List (List UInt8))(v42:Int)(rec_F30_L4:(List (List UInt8))→Int→(List (List UInt8))→Option (List (List UInt8)×Bool))(l360:List (List UInt8)):Option (List (List UInt8)×Bool):=
 rec_F30_L4 l339 (IntKind.i64.wrap (v42+1)) l360
def F30_A7(v46:Int)(rec_F30_L6:Int→(List (List UInt8))→Option (List (List UInt8)×Bool))(l377:List (List UInt8)):Option (List (List UInt8)×Bool):=
 rec_F30_L6 (IntKind.i64.wrap (v46+1)) l377
def F30_L6(fuel:Nat)(d3:Int)(l339:List (List UInt8))(v42:Int)(y1128:List T_api_Choice)(rec_F30_L4:(List (List UInt8))→Int→(List (List UInt8))→Option (List (List UInt8)×Bool)):Nat→Int→(List (List UInt8))→Option (List (List UInt8)×Bool)
 |0,_,_=>none
 |n_F30_L6+1,v46,l374=>
  bif decide (v46<((y1128.map e_T_api_Choice).length:Int)) then
   (Option.bind (geti y1128 v46) fun y1184=>
   bif d3==0 then
    (Option.bind (geti l374 v42) fun y1185=>
    Option.bind (F79 fuel y1184 l339) fun y1186=>
    Option.bind (F80 fuel y1185 y1186) fun y1187=>
    Option.bind (geti l374 v42) fun y1188=>
    Option.bind (some (l374.set (0+Int.toNat v42) y1187)) fun l378=>
    F30_A7 v46 (F30_L6 fuel d3 l339 v42 y1128 rec_F30_L4 n_F30_L6) l378)
   else
    (Option.bind (geti l374 v42) fun y1189=>
    Option.bind (F79 fuel y1184 l339) fun y1190=>
    Option.bind (F81 fuel y1189 y1190) fun y1191=>
    Option.bind (geti l374 v42) fun y1192=>
    Option.bind (some (l374.set (0+Int.toNat v42) y1191)) fun l379=>
    F30_A7 v46 (F30_L6 fuel d3 l339 v42 y1128 rec_F30_L4 n_F30_L6) l379))
  else
   (F30_A5 l339 v42 rec_F30_L4 l374)
def F30_L4(fuel:Nat)(d0:T_api_Model)(d1:Int)(d2:List (List Int))(d3:Int)(v32:Int)(rec_F30_L3:Int→(List (List UInt8))→Option (List (List UInt8)×Bool)):Nat→(List (List UInt8))→Int→(List (List UInt8))→Option (List (List UInt8)×Bool)
 |0,_,_,_=>none
 |n_F30_L4+1,l339,v42,l340=>
  bif decide (v42<((d0.Choices.map e_lT_api_Choice).length:Int)) then
   (Option.bind (geti d0.Choices v42) fun y1128=>
   Option.bind (F36 d1 v42) fun y1129=>
   bif y1129 then
    (F30_A5 l339 v42 (F30_L4 fuel d0 d1 d2 d3 v32 rec_F30_L3 n_F30_L4) l340)
   else
    (Option.bind (geti d0.Owner v42) fun y1130=>
    bif y1130==d3 then
     (Option.bind (geti d2 v32) fun y1131=>
     Option.bind (geti y1131 v42) fun y1132=>
     Option.bind (geti y1128 y1132) fun y1133=>
     Option.bind (F79 fuel y1133 l339) fun y1134=>
     Option.bind (geti l340 v42) fun y1135=>
     Option.bind (some (l340.set (0+Int.toNat v42) y1134)) fun l361=>
     F30_A5 l339 v42 (F30_L4 fuel d0 d1 d2 d3 v32 rec_F30_L3 n_F30_L4) l361)
    else
     (Option.bind (geti y1128 0) fun y1136=>
     Option.bind (F79 fuel y1136 l339) fun y1137=>
     Option.bind (geti l340 v42) fun y1138=>
     Option.bind (some (l340.set (0+Int.toNat v42) y1137)) fun l362=>
     F30_L6 fuel d3 l339 v42 y1128 (F30_L4 fuel d0 d1 d2 d3 v32 rec_F30_L3 n_F30_L4) fuel 0 l362)))
  else
   (rec_F30_L3 (IntKind.i64.wrap (v32-1)) l340)
def F30_L3(fuel:Nat)(d0:T_api_Model)(d1:Int)(d2:List (List Int))(d3:Int):Nat→Int→(List (List UInt8))→Option (List (List UInt8)×Bool)
 |0,_,_=>none
 |n_F30_L3+1,v32,l257=>
  bif decide (v32≥0) then
   (Option.bind (geti d2 v32) fun y800=>
   Option.bind (F77 fuel d0 y800) fun y801=>
   bif !y801 then
    (some ([],false))
   else
    (Option.bind (F78 l257) fun y802=>
    F30_L4 fuel d0 d1 d2 d3 v32 (F30_L3 fuel d0 d1 d2 d3 n_F30_L3) fuel l257 0 y802))
  else
   (some (l257,true))
def F30_L1(fuel:Nat)(d0:T_api_Model)(d1:Int)(d2:List (List Int))(d3:Int)(y1:List (List UInt8)):Nat→Int→(List (List UInt8))→Option (List (List UInt8)×Bool)
 |0,_,_=>none
 |n_F30_L1+1,v2,l8=>
  bif decide (v2<((y1.map e_s).length:Int)) then
   (Option.bind (F36 d1 v2) fun y12=>
   bif y12 then
    (Option.bind (geti l8 v2) fun y13=>
    Option.bind (some (l8.set (0+Int.toNat v2) [49])) fun l11=>
    F30_A2 v2 (F30_L1 fuel d0 d1 d2 d3 y1 n_F30_L1) l11)
   else
    (F30_A2 v2 (F30_L1 fuel d0 d1 d2 d3 y1 n_F30_L1) l8))
  else
   (F30_L3 fuel d0 d1 d2 d3 fuel (IntKind.i64.wrap (((d2.map e_li64).length:Int)-1)) l8)
def F30(fuel:Nat)(d0:T_api_Model)(d1:Int)(d2:List (List Int))(d3:Int):Option (List (List UInt8)×Bool):=
 Option.bind (F18 fuel ((d0.Owner.map e_i64).length:Int) [[48]]) fun y1=>
 F30_L1 fuel d0 d1 d2 d3 y1 fuel 0 y1
noncomputable abbrev b30:=bodyOf Tryz.f30
abbrev G30(r:List (List UInt8)×Bool):=J none Tryz.prog 126 [] (finF Tryz.prog Tryz.f30 (.tup [.l 1 r.1 e_s,.b r.2]))
theorem F30_ok{fuel:Nat}{d0:T_api_Model}{d1:Int}{d2:List (List Int)}{d3:Int}{r:List (List UInt8)×Bool}(hF:F30 fuel d0 d1 d2 d3=some r):
 CallF Tryz.prog 30 [.agg [.l 1 d0.Owner e_i64,.l 1 d0.Choices e_lT_api_Choice],.n d1,.l 1 d2 e_li64,.i d3] (.tup [.l 1 r.1 e_s,.b r.2]):=by
 unfold F30 at hF
 refine cf 126 Tryz.func30 ?_
 obtain⟨y1,e1,hF⟩:=bnd hF
 refine jcr 12 [(18,2000),(22,2001)] en18 (F18_ok e1) ?_
 have hF30_L1:∀(n_F30_L1:Nat) (v2:Int) (l8:List (List UInt8)),F30_L1 fuel d0 d1 d2 d3 y1 n_F30_L1 v2 l8=some r→G30 r ⟨mkT [(1,.n d1),(2,.l 1 d2 e_li64),(3,.i d3),(4,.ptr 4 0),(10,.suf 22 0 0),(24,.i ((y1.map e_s).length:Int)),(25,.i v2)],[(4,.box 34 [.l 1 d0.Owner e_i64,.l 1 d0.Choices e_lT_api_Choice]),(22,.buf 0 23 1 (l8.map e_s))],[kL b30 [1,1,0,1,0,0],.inBlock 0,kC b30 [1,1,1]]⟩:=by
  clear hF;intro n_F30_L1
  induction n_F30_L1 with
  |zero=>intro v2 l8 hF;cases hF
  |succ n_F30_L1 ih_F30_L1=>
   intro v2 l8 hF
   rw[F30_L1]at hF
   refine ji 6 26 hF (fun hb7 hF=> ?_) (fun hb7 hF=> ?_)
   ·
    have hF30_A2:∀(l10:List (List UInt8)),F30_A2 v2 (F30_L1 fuel d0 d1 d2 d3 y1 n_F30_L1) l10=some r→G30 r ⟨mkT [(1,.n d1),(2,.l 1 d2 e_li64),(3,.i d3),(4,.ptr 4 0),(10,.suf 22 0 0),(24,.i ((y1.map e_s).length:Int)),(25,.i v2)],[(4,.box 34 [.l 1 d0.Owner e_i64,.l 1 d0.Choices e_lT_api_Choice]),(22,.buf 0 23 1 (l10.map e_s))],[kC b30 [1,1,0,1,0,0,1,1,1],kL b30 [1,1,0,1,0,0],.inBlock 0,kC b30 [1,1,1]]⟩:=by
     intro l10 hF
     unfold F30_A2 at hF
     exact ja 4 (ih_F30_L1 _ _ hF)
    obtain⟨y12,e17,hF⟩:=bnd hF
    refine jc 13 en36 (F36_ok e17) ?_
    refine ji 1 30 hF (fun hb9 hF=> ?_) (fun hb9 hF=> ?_)
    ·
     obtain⟨y13,e18,hF⟩:=bnd hF
     refine jo1 4 (gm (f:=e_s) e18) ?_
     obtain⟨l11,e19,hF⟩:=bnd hF
     have hst:=stm (f:=e_s) (z:=[49]) (k:=0) (xs:=[.str [49]]) (gj e18) rfl
     refine J_adv 0 (J_opt2 (o:=(match(l8.map e_s)[0+Int.toNat v2]? with|some old=>some ((l8.map e_s).set (0+Int.toNat v2) (setD old 0 [.str [49]]))|none=>none)) (l11.map e_s) (by kernel_rfl) (by cases e19;exact hst) ?_)
     exact ja 2 (hF30_A2 _ hF)
    ·
     exact ja 3 (hF30_A2 _ hF)
   ·
    have hF30_L3:∀(n_F30_L3:Nat) (v32:Int) (l257:List (List UInt8)),F30_L3 fuel d0 d1 d2 d3 n_F30_L3 v32 l257=some r→G30 r ⟨mkT [(1,.n d1),(2,.l 1 d2 e_li64),(3,.i d3),(4,.ptr 4 0),(10,.suf 22 0 0),(12,.i v32)],[(4,.box 34 [.l 1 d0.Owner e_i64,.l 1 d0.Choices e_lT_api_Choice]),(22,.buf 0 23 1 (l257.map e_s))],[kL b30 [1,1,1,0,1,0,0],.inBlock 2,kC b30 [1,1,1,1]]⟩:=by
     clear hF;intro n_F30_L3
     induction n_F30_L3 with
     |zero=>intro v32 l257 hF;cases hF
     |succ n_F30_L3 ih_F30_L3=>
      intro v32 l257 hF
      rw[F30_L3]at hF
      refine ji 7 39 hF (fun hb152 hF=> ?_) (fun hb152 hF=> ?_)
      ·
       refine jd 6 ?_
       obtain⟨y800,e974,hF⟩:=bnd hF
       refine do1 3 (gm (f:=e_li64) e974) ?_
       obtain⟨y801,e975,hF⟩:=bnd hF
       refine dc 1 en77 (F77_ok e975) ?_
       refine je 1 ?_
       refine ji 0 48 hF (fun hb153 hF=> ?_) (fun hb153 hF=> ?_)
       ·
        have hF:=oi hF;subst hF
        exact jr 6
       ·
        obtain⟨y802,e976,hF⟩:=bnd hF
        refine jcr 5 [(22,2000),(50,2001)] en78 (F78_ok e976) ?_
        have hF30_L4:∀(n_F30_L4:Nat) (l339:List (List UInt8)) (v42:Int) (l340:List (List UInt8)),F30_L4 fuel d0 d1 d2 d3 v32 (F30_L3 fuel d0 d1 d2 d3 n_F30_L3) n_F30_L4 l339 v42 l340=some r→G30 r ⟨mkT [(1,.n d1),(2,.l 1 d2 e_li64),(3,.i d3),(4,.ptr 4 0),(10,.l 1 l339 e_s),(12,.i v32),(13,.suf 50 0 0),(52,.l 1 d0.Choices e_lT_api_Choice),(53,.i ((d0.Choices.map e_lT_api_Choice).length:Int)),(54,.i v42)],[(4,.box 34 [.l 1 d0.Owner e_i64,.l 1 d0.Choices e_lT_api_Choice]),(50,.buf 0 23 1 (l340.map e_s))],[kL b30 [1,1,1,0,1,0,0,1,0,0,1,1,0,1,0,0],.inBlock 4,kC b30 [1,1,1,0,1,0,0,1,0,0,1,1,1],.inBlock 3,kC b30 [1,1,1,0,1,0,0,1,1],kL b30 [1,1,1,0,1,0,0],.inBlock 2,kC b30 [1,1,1,1]]⟩:=by
         clear hF;intro n_F30_L4
         induction n_F30_L4 with
         |zero=>intro l339 v42 l340 hF;cases hF
         |succ n_F30_L4 ih_F30_L4=>
          intro l339 v42 l340 hF
          rw[F30_L4]at hF
          refine ji 6 55 hF (fun hb200 hF=> ?_) (fun hb200 hF=> ?_)
          ·
           have hF30_A5:∀(l360:List (List UInt8)),F30_A5 l339 v42 (F30_L4 fuel d0 d1 d2 d3 v32 (F30_L3 fuel d0 d1 d2 d3 n_F30_L3) n_F30_L4) l360=some r→G30 r ⟨mkT [(1,.n d1),(2,.l 1 d2 e_li64),(3,.i d3),(4,.ptr 4 0),(10,.l 1 l339 e_s),(12,.i v32),(13,.suf 50 0 0),(52,.l 1 d0.Choices e_lT_api_Choice),(53,.i ((d0.Choices.map e_lT_api_Choice).length:Int)),(54,.i v42)],[(4,.box 34 [.l 1 d0.Owner e_i64,.l 1 d0.Choices e_lT_api_Choice]),(50,.buf 0 23 1 (l360.map e_s))],[kC b30 [1,1,1,0,1,0,0,1,0,0,1,1,0,1,0,0,1,1,1],kL b30 [1,1,1,0,1,0,0,1,0,0,1,1,0,1,0,0],.inBlock 4,kC b30 [1,1,1,0,1,0,0,1,0,0,1,1,1],.inBlock 3,kC b30 [1,1,1,0,1,0,0,1,1],kL b30 [1,1,1,0,1,0,0],.inBlock 2,kC b30 [1,1,1,1]]⟩:=by
            intro l360 hF
            unfold F30_A5 at hF
            exact ja 4 (ih_F30_L4 _ _ _ hF)
           obtain⟨y1128,e1372,hF⟩:=bnd hF
           refine jo1 7 (gm (f:=e_lT_api_Choice) e1372) ?_
           obtain⟨y1129,e1373,hF⟩:=bnd hF
           refine jc 9 en36 (F36_ok e1373) ?_
           refine ji 1 61 hF (fun hb212 hF=> ?_) (fun hb212 hF=> ?_)
           ·
            exact ja 2 (hF30_A5 _ hF)
           ·
            obtain⟨y1130,e1374,hF⟩:=bnd hF
            refine jo1 8 (gm (f:=e_i64) e1374) ?_
            refine ji 4 68 hF (fun hb213 hF=> ?_) (fun hb213 hF=> ?_)
            ·
             obtain⟨y1131,e1375,hF⟩:=bnd hF
             refine jo1 8 (gm (f:=e_li64) e1375) ?_
             obtain⟨y1132,e1376,hF⟩:=bnd hF
             refine jo1 2 (gm (f:=e_i64) e1376) ?_
             obtain⟨y1133,e1377,hF⟩:=bnd hF
             refine jo1 1 (gm (f:=e_T_api_Choice) e1377) ?_
             obtain⟨y1134,e1378,hF⟩:=bnd hF
             refine jc 2 en79 (F79_ok e1378) ?_
             obtain⟨y1135,e1379,hF⟩:=bnd hF
             refine jo1 0 (gm (f:=e_s) e1379) ?_
             obtain⟨l361,e1380,hF⟩:=bnd hF
             have hst:=stm (f:=e_s) (z:=y1134) (k:=0) (xs:=[.str y1134]) (gj e1379) rfl
             refine J_adv 0 (J_opt2 (o:=(match(l340.map e_s)[0+Int.toNat v42]? with|some old=>some ((l340.map e_s).set (0+Int.toNat v42) (setD old 0 [.str y1134]))|none=>none)) (l361.map e_s) (by kernel_rfl) (by cases e1380;exact hst) ?_)
             exact ja 2 (hF30_A5 _ hF)
            ·
             obtain⟨y1136,e1381,hF⟩:=bnd hF
             refine jo1 7 (gm (f:=e_T_api_Choice) e1381) ?_
             obtain⟨y1137,e1382,hF⟩:=bnd hF
             refine jc 2 en79 (F79_ok e1382) ?_
             obtain⟨y1138,e1383,hF⟩:=bnd hF
             refine jo1 0 (gm (f:=e_s) e1383) ?_
             obtain⟨l362,e1384,hF⟩:=bnd hF
             have hst:=stm (f:=e_s) (z:=y1137) (k:=0) (xs:=[.str y1137]) (gj e1383) rfl
             refine J_adv 0 (J_opt2 (o:=(match(l340.map e_s)[0+Int.toNat v42]? with|some old=>some ((l340.map e_s).set (0+Int.toNat v42) (setD old 0 [.str y1137]))|none=>none)) (l362.map e_s) (by kernel_rfl) (by cases e1384;exact hst) ?_)
             have hF30_L6:∀(n_F30_L6:Nat) (v46:Int) (l374:List (List UInt8)),F30_L6 fuel d3 l339 v42 y1128 (F30_L4 fuel d0 d1 d2 d3 v32 (F30_L3 fuel d0 d1 d2 d3 n_F30_L3) n_F30_L4) n_F30_L6 v46 l374=some r→G30 r ⟨mkT [(1,.n d1),(2,.l 1 d2 e_li64),(3,.i d3),(4,.ptr 4 0),(10,.l 1 l339 e_s),(12,.i v32),(13,.suf 50 0 0),(14,.i v42),(52,.l 1 d0.Choices e_lT_api_Choice),(53,.i ((d0.Choices.map e_lT_api_Choice).length:Int)),(54,.i v42),(92,.l 3 y1128 e_T_api_Choice),(93,.i ((y1128.map e_T_api_Choice).length:Int)),(94,.i v46)],[(4,.box 34 [.l 1 d0.Owner e_i64,.l 1 d0.Choices e_lT_api_Choice]),(50,.buf 0 23 1 (l374.map e_s))],[kL b30 [1,1,1,0,1,0,0,1,0,0,1,1,0,1,0,0,1,1,0,0,1,1,1,1,1,0,0],.inBlock 6,.inBlock 5,kC b30 [1,1,1,0,1,0,0,1,0,0,1,1,0,1,0,0,1,1,1],kL b30 [1,1,1,0,1,0,0,1,0,0,1,1,0,1,0,0],.inBlock 4,kC b30 [1,1,1,0,1,0,0,1,0,0,1,1,1],.inBlock 3,kC b30 [1,1,1,0,1,0,0,1,1],kL b30 [1,1,1,0,1,0,0],.inBlock 2,kC b30 [1,1,1,1]]⟩:=by
              clear hF;intro n_F30_L6
              induction n_F30_L6 with
              |zero=>intro v46 l374 hF;cases hF
              |succ n_F30_L6 ih_F30_L6=>
               intro v46 l374 hF
               rw[F30_L6]at hF
               refine ji 6 95 hF (fun hb220 hF=> ?_) (fun hb220 hF=> ?_)
               ·
                have hF30_A7:∀(l377:List (List UInt8)),F30_A7 v46 (F30_L6 fuel d3 l339 v42 y1128 (F30_L4 fuel d0 d1 d2 d3 v32 (F30_L3 fuel d0 d1 d2 d3 n_F30_L3) n_F30_L4) n_F30_L6) l377=some r→G30 r ⟨mkT [(1,.n d1),(2,.l 1 d2 e_li64),(3,.i d3),(4,.ptr 4 0),(10,.l 1 l339 e_s),(12,.i v32),(13,.suf 50 0 0),(14,.i v42),(52,.l 1 d0.Choices e_lT_api_Choice),(53,.i ((d0.Choices.map e_lT_api_Choice).length:Int)),(54,.i v42),(92,.l 3 y1128 e_T_api_Choice),(93,.i ((y1128.map e_T_api_Choice).length:Int)),(94,.i v46)],[(4,.box 34 [.l 1 d0.Owner e_i64,.l 1 d0.Choices e_lT_api_Choice]),(50,.buf 0 23 1 (l377.map e_s))],[kC b30 [1,1,1,0,1,0,0,1,0,0,1,1,0,1,0,0,1,1,0,0,1,1,1,1,1,0,0,1,1,1],kL b30 [1,1,1,0,1,0,0,1,0,0,1,1,0,1,0,0,1,1,0,0,1,1,1,1,1,0,0],.inBlock 6,.inBlock 5,kC b30 [1,1,1,0,1,0,0,1,0,0,1,1,0,1,0,0,1,1,1],kL b30 [1,1,1,0,1,0,0,1,0,0,1,1,0,1,0,0],.inBlock 4,kC b30 [1,1,1,0,1,0,0,1,0,0,1,1,1],.inBlock 3,kC b30 [1,1,1,0,1,0,0,1,1],kL b30 [1,1,1,0,1,0,0],.inBlock 2,kC b30 [1,1,1,1]]⟩:=by
                 intro l377 hF
                 unfold F30_A7 at hF
                 exact ja 4 (ih_F30_L6 _ _ hF)
                obtain⟨y1184,e1440,hF⟩:=bnd hF
                refine jo1 6 (gm (f:=e_T_api_Choice) e1440) ?_
                refine ji 9 99 hF (fun hb222 hF=> ?_) (fun hb222 hF=> ?_)
                ·
                 refine jd 1 ?_
                 obtain⟨y1185,e1441,hF⟩:=bnd hF
                 refine do1 4 (gm (f:=e_s) e1441) ?_
                 refine do1 0 (gjm (f:=e_s) (gj e1441)) ?_
                 obtain⟨y1186,e1442,hF⟩:=bnd hF
                 refine dc 2 en79 (F79_ok e1442) ?_
                 obtain⟨y1187,e1443,hF⟩:=bnd hF
                 refine dc 0 en80 (F80_ok e1443) ?_
                 obtain⟨y1188,e1444,hF⟩:=bnd hF
                 refine do1 0 (gm (f:=e_s) e1444) ?_
                 obtain⟨l378,e1445,hF⟩:=bnd hF
                 have hst:=stm (f:=e_s) (z:=y1187) (k:=0) (xs:=[.str y1187]) (gj e1444) rfl
                 refine JD_adv 0 (JD_opt2 (o:=(match(l374.map e_s)[0+Int.toNat v42]? with|some old=>some ((l374.map e_s).set (0+Int.toNat v42) (setD old 0 [.str y1187]))|none=>none)) (l378.map e_s) (by kernel_rfl) (by kernel_rfl) (by cases e1445;exact hst) ?_)
                 refine je 0 ?_
                 exact ja 1 (hF30_A7 _ hF)
                ·
                 refine jd 1 ?_
                 obtain⟨y1189,e1446,hF⟩:=bnd hF
                 refine do1 4 (gm (f:=e_s) e1446) ?_
                 refine do1 0 (gjm (f:=e_s) (gj e1446)) ?_
                 obtain⟨y1190,e1447,hF⟩:=bnd hF
                 refine dc 2 en79 (F79_ok e1447) ?_
                 obtain⟨y1191,e1448,hF⟩:=bnd hF
                 refine dc 0 en81 (F81_ok e1448) ?_
                 obtain⟨y1192,e1449,hF⟩:=bnd hF
                 refine do1 0 (gm (f:=e_s) e1449) ?_
                 obtain⟨l379,e1450,hF⟩:=bnd hF
                 have hst:=stm (f:=e_s) (z:=y1191) (k:=0) (xs:=[.str y1191]) (gj e1449) rfl
                 refine JD_adv 0 (JD_opt2 (o:=(match(l374.map e_s)[0+Int.toNat v42]? with|some old=>some ((l374.map e_s).set (0+Int.toNat v42) (setD old 0 [.str y1191]))|none=>none)) (l379.map e_s) (by kernel_rfl) (by kernel_rfl) (by cases e1450;exact hst) ?_)
                 refine je 0 ?_
                 exact ja 1 (hF30_A7 _ hF)
               ·
                exact ja 3 (hF30_A5 _ hF)
             exact ja 9 (hF30_L6 _ _ _ hF)
          ·
           refine J_adv 12 (J_ren [(4,4),(50,22)] (by kernel_rfl) (by kernel_rfl) (by kernel_rfl) (by kernel_rfl) ?_)
           exact ja 0 (ih_F30_L3 _ _ hF)
        exact ja 12 (hF30_L4 _ _ _ _ hF)
      ·
       have hF:=oi hF;subst hF
       exact jr 8
    exact ja 12 (hF30_L3 _ _ _ hF)
 exact ja 11 (hF30_L1 _ _ _ hF)
def F7(fuel:Nat)(d0:T_croupierref11_Draft)(d1:Int)(d2:Int):Option Bool:=
 Option.bind (F19 fuel) fun y1=>
 bif !y1 then
  (some false)
 else
  (Option.bind (F20 fuel d0) fun y2=>
  Option.bind (F29 ((y2.Owner.map e_i64).length:Int) d1) fun y3=>
  Option.bind (F12 fuel y2 y3 (IntKind.i64.wrap (Int.tmod d2 6))) fun y4=>
  Option.bind (F15 fuel y2 y3 (IntKind.i64.wrap (Int.tmod d2 6))) fun y5=>
  Option.bind (
   bif y4.2 !=0 then
    (some true)
   else
    (bif y5.2 !=0 then
     (some true)
    else
     (some (((y5.1.map e_li64).length:Int) !=(IntKind.i64.wrap (Int.tmod d2 6)))))) fun o1=>
  bif o1 then
   (some false)
  else
   (Option.bind (F30 fuel y2 y3 y5.1 0) fun y6=>
   Option.bind (F30 fuel y2 y3 y5.1 1) fun y7=>
   Option.bind (
    bif y6.2 then
     (bif y7.2 then
      (Option.bind (F17 fuel y6.1 y4.1) fun y12=>
      bif y12 then
       (Option.bind (F17 fuel y7.1 y4.1) fun y13=>
       some y13)
      else
       (some false))
     else
      (some false))
    else
     (some false)) fun o2=>
   some o2))
noncomputable abbrev b7:=bodyOf Tryz.f7
abbrev G7(r:Bool):=J none Tryz.prog 84 [] (finF Tryz.prog Tryz.f7 (.b r))
theorem F7_ok{fuel:Nat}{d0:T_croupierref11_Draft}{d1:Int}{d2:Int}{r:Bool}(hF:F7 fuel d0 d1 d2=some r):
 CallF Tryz.prog 7 [.agg [.y d0.States,.y d0.Owners,.y d0.Grain,.y d0.Cents,.l 8 d0.Picks e_T_croupierref11_Pick],.d (.int .u16 d1),.y d2] (.b r):=by
 unfold F7 at hF
 refine cf 84 Tryz.func7 ?_
 obtain⟨y1,e1,hF⟩:=bnd hF
 refine jc 8 en19 (F19_ok e1) ?_
 refine ji 2 19 hF (fun hb1 hF=> ?_) (fun hb1 hF=> ?_)
 ·
  have hF:=oi hF;subst hF
  exact jr 5
 ·
  obtain⟨y2,e2,hF⟩:=bnd hF
  refine jc 5 en20 (F20_ok e2) ?_
  obtain⟨y3,e3,hF⟩:=bnd hF
  refine jc 9 en29 (F29_ok e3) ?_
  obtain⟨y4,e4,hF⟩:=bnd hF
  refine jc 11 en12 (F12_ok e4) ?_
  obtain⟨y5,e5,hF⟩:=bnd hF
  refine jc 11 en15 (F15_ok e5) ?_
  obtain⟨o1,hO,hF⟩:=bnd hF
  have hR1:G7 r ⟨mkT [(7,.ptr 7 0),(8,.n y3),(10,.l 1 y4.1 e_s),(12,.l 1 y5.1 e_li64),(55,.b o1)],[(7,.box 34 [.l 1 y2.Owner e_i64,.l 1 y2.Choices e_lT_api_Choice])],[kO b7 [1,1,1,1,1,1,0,0],kC b7 [1,1,1,1,1,1,0,1],kC b7 [1,1,1,1,1,1,1]]⟩:=by
   clear hO
   refine ji 1 55 hF (fun hb6 hF=> ?_) (fun hb6 hF=> ?_)
   ·
    have hF:=oi hF;subst hF
    exact jr 5
   ·
    obtain⟨y6,e6,hF⟩:=bnd hF
    refine jc 7 en30 (F30_ok e6) ?_
    obtain⟨y7,e7,hF⟩:=bnd hF
    refine jc 11 en30 (F30_ok e7) ?_
    obtain⟨o2,hO,hF⟩:=bnd hF
    have hR2:G7 r ⟨mkT [(6,.b o2)],[],[kO b7 [1,1,1,1,1,1,1,1,1,0],kC b7 [1,1,1,1,1,1,1,1,1,1]]⟩:=by
     clear hO
     have hF:=oi hF;subst hF
     exact jr 1
    clear hF;rename _=some o2=>hF
    refine ji 10 71 hF (fun hb13 hF=> ?_) (fun hb13 hF=> ?_)
    ·
     refine ji 3 74 hF (fun hb14 hF=> ?_) (fun hb14 hF=> ?_)
     ·
      obtain⟨y12,e12,hF⟩:=bnd hF
      refine jc 2 en17 (F17_ok e12) ?_
      refine ji 2 79 hF (fun hb15 hF=> ?_) (fun hb15 hF=> ?_)
      ·
       obtain⟨y13,e13,hF⟩:=bnd hF
       refine jc 2 en17 (F17_ok e13) ?_
       have hF:=oi hF;subst hF
       exact ja 2 hR2
      ·
       have hF:=oi hF;subst hF
       exact ja 5 hR2
     ·
      have hF:=oi hF;subst hF
      exact ja 10 hR2
    ·
     have hF:=oi hF;subst hF
     exact ja 13 hR2
  clear hF;rename _=some o1=>hF
  refine ji 12 46 hF (fun hb16 hF=> ?_) (fun hb16 hF=> ?_)
  ·
   have hF:=oi hF;subst hF
   exact ja 9 hR1
  ·
   refine ji 4 50 hF (fun hb17 hF=> ?_) (fun hb17 hF=> ?_)
   ·
    have hF:=oi hF;subst hF
    exact ja 5 hR1
   ·
    have hF:=oi hF;subst hF
    exact ja 5 hR1
end Go.Proofs.YtfgbhfphjmmiaaaGreatDoor
end
section
namespace Go.Proofs.YtfgbhfphjmmiaaaGreatDoor
open Go Go.RowKit Kx
set_option maxRecDepth 100000
def val(B:Int):List Int→Int
 |[]=>0
 |x::l=>x+B*val B l
def dig(B:Int)(l:List Int):Prop:=∀x∈l,0≤x∧x<B
theorem dig_nil{B:Int}:dig B []:=fun _ h=>by cases h
theorem dig_cons{B x:Int}{l:List Int}:dig B (x::l)↔(0≤x∧x<B)∧dig B l:=by
 unfold dig;simp
theorem dig_app{B:Int}{l m:List Int}:dig B (l++m)↔dig B l∧dig B m:=by
 unfold dig
 simp only[List.mem_append]
 exact⟨fun h=>⟨fun x hx=>h x (Or.inl hx),fun x hx=>h x (Or.inr hx)⟩,fun h x hx=>hx.elim (h.1 x) (h.2 x)⟩
theorem dig_take{B:Int}{l:List Int}(h:dig B l)(i:Nat):dig B (l.take i):=fun x hx=>h x (List.mem_of_mem_take hx)
theorem dig_drop{B:Int}{l:List Int}(h:dig B l)(i:Nat):dig B (l.drop i):=fun x hx=>h x (List.mem_of_mem_drop hx)
theorem dig_get{B:Int}{l:List Int}(h:dig B l){i:Nat}(hi:i<l.length):0≤l[i]∧l[i]<B:=h _ (List.getElem_mem hi)
theorem dig_set{B:Int}{l:List Int}(h:dig B l)(i:Nat){y:Int}(hy:0≤y∧y<B):dig B (l.set i y):=fun x hx=>by
 rcases List.mem_or_eq_of_mem_set hx with h1|h1
 ·exact h x h1
 ·subst h1;exact hy
theorem dig_zeros{B:Int}(hB:0<B)(n:Nat):dig B (List.replicate n 0):=fun x hx=>by
 rw[(List.mem_replicate.mp hx).2];omega
theorem val_app{B:Int}:∀(l m:List Int),val B (l++m)=val B l+B^l.length*val B m
 |[],m=>by simp[val]
 |x::l,m=>by
  rw[List.cons_append,val,val,val_app l m,List.length_cons,Int.pow_succ']
  grind
theorem val_nonneg{B:Int}(hB:0<B):∀{l:List Int},dig B l→0≤val B l
 |[],_=>Int.le_refl _
 |x::l,h=>by
  have h:=dig_cons.mp h
  have:=val_nonneg hB h.2
  rw[val]
  have:=Int.mul_nonneg (Int.le_of_lt hB) this
  omega
theorem pow_pos'{B:Int}(hB:0<B)(n:Nat):0<B^n:=Int.pow_pos hB
theorem val_lt{B:Int}(hB:0<B):∀{l:List Int},dig B l→val B l<B^l.length
 |[],_=>by simp[val]
 |x::l,h=>by
  have h:=dig_cons.mp h
  have h1:=val_lt hB h.2
  rw[val,List.length_cons,Int.pow_succ']
  have h2:val B l+1≤B^l.length:=h1
  have h3:=Int.mul_le_mul_of_nonneg_left h2 (Int.le_of_lt hB)
  rw[Int.mul_add]at h3
  omega
theorem val_split{B:Int}(l:List Int)(i:Nat)(hi:i≤l.length):val B l=val B (l.take i)+B^i*val B (l.drop i):=by
 have:=val_app (B:=B) (l.take i) (l.drop i)
 rwa [List.take_append_drop,List.length_take,Nat.min_eq_left hi]at this
theorem val_set{B:Int}:∀(l:List Int) (i:Nat) (hi:i<l.length) (y:Int),val B (l.set i y)=val B l+(y-l[i])*B^i
 |x::l,0,_,y=>by simp[val];omega
 |x::l,i+1,hi,y=>by
  have ih:=val_set (B:=B) l i (by simpa using hi) y
  rw[List.set_cons_succ,val,val,ih,List.getElem_cons_succ,Int.pow_succ']
  grind
theorem val_zeros{B:Int}:∀(n:Nat),val B (List.replicate n 0)=0
 |0=>rfl
 |n+1=>by rw[List.replicate_succ,val,val_zeros n];simp
theorem val_take_succ{B:Int}{l:List Int}{i:Nat}(hi:i<l.length):val B (l.take (i+1))=val B (l.take i)+l[i]*B^i:=by
 rw[List.take_succ_eq_append_getElem hi,val_app,List.length_take,Nat.min_eq_left (by omega)]
 simp[val];grind
theorem val_drop{B:Int}{l:List Int}{i:Nat}(hi:i<l.length):val B (l.drop i)=l[i]+B*val B (l.drop (i+1)):=by
 rw[List.drop_eq_getElem_cons hi,val]
def dgF(B:Int):Nat→Int→List Int
 |0,_=>[]
 |k+1,n=>if n≤0 then[] else n%B::dgF B k (n/B)
def dg(B:Int)(n:Int):List Int:=dgF B n.toNat n
theorem div_lt'{B n:Int}(hB:1<B)(hn:0<n):n/B<n:=by
 have h1:=Int.emod_add_mul_ediv n B
 have h2:=Int.emod_nonneg n (show B≠0 by omega)
 have h3:=Int.ediv_nonneg (Int.le_of_lt hn) (show(0:Int)≤B by omega)
 by_cases h:n/B=0
 ·omega
 ·have h4:=Int.mul_le_mul_of_nonneg_right (show(2:Int)≤B by omega) h3
  omega
theorem dgF_fuel{B:Int}(hB:1<B):∀(k j:Nat) (n:Int),n.toNat≤k→n.toNat≤j→dgF B k n=dgF B j n
 |0,0,_,_,_=>rfl
 |0,j+1,n,h,_=>by rw[dgF,dgF,if_pos (by omega)]
 |k+1,0,n,_,h=>by rw[dgF,dgF,if_pos (by omega)]
 |k+1,j+1,n,h,h'=>by
  rw[dgF,dgF]
  split
  ·rfl
  ·have:=div_lt' hB (n:=n) (by omega)
   rw[dgF_fuel hB k j (n/B) (by omega) (by omega)]
theorem dg_zero{B n:Int}(hn:n≤0):dg B n=[]:=by
 unfold dg;rw[show n.toNat=0 by omega];rfl
theorem dg_step{B n:Int}(hB:1<B)(hn:0<n):dg B n=n%B::dg B (n/B):=by
 unfold dg
 obtain⟨k,hk⟩:∃k,n.toNat=k+1:=⟨n.toNat-1,by omega⟩
 have:=div_lt' hB hn
 rw[hk,dgF,if_neg (by omega),dgF_fuel hB k (n/B).toNat (n/B) (by omega) (Nat.le_refl _)]
theorem dg_ind{B:Int}(hB:1<B){P:Int→Prop}(h0:P 0)(h1:∀n,0<n→P (n/B)→P n):∀(n:Int),0≤n→P n:=by
 have:∀(k:Nat) (n:Int),0≤n→n.toNat≤k→P n:=by
  intro k
  induction k with
  |zero=>intro n hn hk;rw[show n=0 by omega];exact h0
  |succ k ih=>
   intro n hn hk
   by_cases h:n=0
   ·rw[h];exact h0
   ·have:=div_lt' hB (n:=n) (by omega)
    exact h1 n (by omega) (ih (n/B) (Int.ediv_nonneg hn (by omega)) (by omega))
 exact fun n hn=>this n.toNat n hn (Nat.le_refl _)
theorem val_dg{B:Int}(hB:1<B):∀n,0≤n→val B (dg B n)=n:=
 dg_ind hB (by rw[dg_zero (Int.le_refl _)];rfl) fun n hn ih=>by
  rw[dg_step hB hn,val,ih]
  exact Int.emod_add_mul_ediv n B
theorem dig_dg{B:Int}(hB:1<B):∀n,0≤n→dig B (dg B n):=
 dg_ind hB (by rw[dg_zero (Int.le_refl _)];exact dig_nil) fun n hn ih=>by
  rw[dg_step hB hn]
  exact dig_cons.mpr ⟨⟨Int.emod_nonneg _ (by omega),Int.emod_lt_of_pos _ (by omega)⟩,ih⟩
theorem dg_cons{B x v:Int}(hB:1<B)(hx:0≤x∧x<B)(hv:0≤v)(h:0<x+B*v):dg B (x+B*v)=x::dg B v:=by
 rw[dg_step hB h]
 have e1:(x+B*v)%B=x:=by
  rw[Int.add_mul_emod_self_left];exact Int.emod_eq_of_lt hx.1 hx.2
 have e2:(x+B*v)/B=v:=by
  rw[Int.add_mul_ediv_left _ _ (by omega),Int.ediv_eq_zero_of_lt hx.1 hx.2];omega
 rw[e1,e2]
def trim:List Int→List Int
 |[]=>[]
 |x::l=>match trim l with
  |[]=>if x=0 then[] else[x]
  |y::m=>x::y::m
theorem trim_eq{B:Int}(hB:1<B):∀{l:List Int},dig B l→trim l=dg B (val B l)
 |[],_=>by rw[val,dg_zero (Int.le_refl _)];rfl
 |x::l,h=>by
  have h:=dig_cons.mp h
  have ih:=trim_eq hB h.2
  have hn:=val_nonneg (show 0<B by omega) h.2
  rw[trim,val]
  by_cases hv:val B l=0
  ·rw[hv,dg_zero (Int.le_refl _)]at ih
   rw[ih,hv]
   dsimp only
   by_cases hx:x=0
   ·rw[if_pos hx,hx,dg_zero (by omega)]
   ·rw[if_neg hx,dg_cons hB h.1 (Int.le_refl _) (by omega),dg_zero (Int.le_refl _)]
  ·have hp:0<B*val B l:=Int.mul_pos (by omega) (by omega)
   rw[dg_cons hB h.1 hn (by omega),←ih]
   have:trim l≠[]:=by
    rw[ih,dg_step hB (by omega)];simp
   cases ht:trim l with
   |nil=>exact absurd ht this
   |cons y m=>rfl
theorem trim_snoc0:∀(l:List Int),trim (l++[0])=trim l
 |[]=>rfl
 |x::l=>by rw[List.cons_append,trim,trim_snoc0 l,trim]
theorem trim_snoc{y:Int}(hy:y≠0):∀(l:List Int),trim (l++[y])=l++[y]
 |[]=>by simp[trim,hy]
 |x::l=>by
  rw[List.cons_append,trim,trim_snoc hy l]
  cases l<;>rfl
theorem dg_len_le{B:Int}(hB:1<B):∀{L:Nat} {n:Int},n<B^L→(dg B n).length≤L
 |0,n,h=>by rw[dg_zero (by simp at h;omega)];simp
 |L+1,n,h=>by
  by_cases hn:n≤0
  ·rw[dg_zero hn];simp
  ·rw[dg_step hB (by omega),List.length_cons]
   have:n/B<B^L:=Int.ediv_lt_of_lt_mul (by omega) (by rw[Int.pow_succ]at h;exact h)
   have:=dg_len_le hB this
   omega
theorem dg_lt{B:Int}(hB:1<B){n:Int}(hn:0≤n):n<B^(dg B n).length:=by
 have:=val_lt (show 0<B by omega) (dig_dg hB n hn)
 rwa [val_dg hB n hn]at this
theorem dg_ge{B:Int}(hB:1<B){n:Int}(hn:0<n):B^((dg B n).length-1)≤n:=by
 have key:∀n,0≤n→0<n→B^((dg B n).length-1)≤n:=by
  refine dg_ind hB (fun h=>absurd h (by omega)) fun n hn ih h=> ?_
  rw[dg_step hB hn,List.length_cons,Nat.add_sub_cancel]
  have h0:=Int.ediv_nonneg (Int.le_of_lt hn) (show(0:Int)≤B by omega)
  by_cases hq:n/B=0
  ·rw[hq,dg_zero (Int.le_refl _)];simp;omega
  ·have ih:=ih (by omega)
   have hl:(dg B (n/B)).length=((dg B (n/B)).length-1)+1:=by
    have:0<(dg B (n/B)).length:=by rw[dg_step hB (by omega)];simp
    omega
   rw[hl,Int.pow_succ']
   have h1:=Int.mul_le_mul_of_nonneg_left ih (show(0:Int)≤B by omega)
   have h2:=Int.emod_add_mul_ediv n B
   have h3:=Int.emod_nonneg n (show B≠0 by omega)
   omega
 exact key n (Int.le_of_lt hn) hn
theorem pow_mono{B:Int}(hB:1<B){i j:Nat}(h:i≤j):B^i≤B^j:=by
 obtain⟨d,rfl⟩:=Nat.le.dest h
 rw[Int.pow_add]
 have h1:=pow_pos' (show 0<B by omega) i
 have h2:=pow_pos' (show 0<B by omega) d
 have:=Int.mul_le_mul_of_nonneg_left (show 1≤B^d by omega) (Int.le_of_lt h1)
 rw[Int.mul_one]at this
 exact this
theorem dg_len_lt{B:Int}(hB:1<B){a b:Int}(ha:0≤a)(hb:0≤b)(h:(dg B a).length<(dg B b).length):a<b:=by
 have h1:=dg_lt hB ha
 have hb':0<b:=by
  by_cases h0:b=0
  ·rw[h0,dg_zero (Int.le_refl _)]at h;simp at h
  ·omega
 have h2:=dg_ge hB hb'
 have h3:=pow_mono hB (show(dg B a).length≤(dg B b).length-1 by omega)
 omega
theorem dg_last{B:Int}(hB:1<B){n:Int}(hn:0<n):∃l y,dg B n=l++[y]∧0<y∧y<B:=by
 have key:∀n,0≤n→0<n→∃l y,dg B n=l++[y]∧0<y∧y<B:=by
  refine dg_ind hB (fun h=>absurd h (by omega)) fun n hn ih h=> ?_
  rw[dg_step hB hn]
  have h0:=Int.ediv_nonneg (Int.le_of_lt hn) (show(0:Int)≤B by omega)
  have h2:=Int.emod_add_mul_ediv n B
  have h3:=Int.emod_nonneg n (show B≠0 by omega)
  have h4:=Int.emod_lt_of_pos n (show 0<B by omega)
  by_cases hq:n/B=0
  ·rw[hq]at h2
   exact⟨[],n%B,by rw[hq,dg_zero (Int.le_refl _)];rfl,by omega,h4⟩
  ·obtain⟨l,y,e,hy⟩:=ih (by omega)
   exact⟨n%B::l,y,by rw[e];rfl,hy⟩
 exact key n (Int.le_of_lt hn) hn
theorem dg_ne{B:Int}(hB:1<B){n:Int}(hn:0<n):dg B n≠[]:=by rw[dg_step hB hn];simp
theorem dg_nil_iff{B:Int}(hB:1<B){n:Int}(hn:0≤n):dg B n=[]↔n=0:=by
 constructor
 ·intro h
  by_cases h0:n=0
  ·exact h0
  ·exact absurd h (dg_ne hB (by omega))
 ·intro h;rw[h];exact dg_zero (Int.le_refl _)
theorem dg_can{B:Int}(hB:1<B){l:List Int}{y:Int}(hd:dig B (l++[y]))(hy:y≠0):dg B (val B (l++[y]))=l++[y]:=by
 rw[←trim_eq hB hd,trim_snoc hy]
theorem val_top{B:Int}(hB:0<B){m o:List Int}(hm:dig B m)(ho:dig B o){i:Nat}(h1:i<m.length)(h2:i<o.length)(he:m.drop (i+1)=o.drop (i+1))(hl:m[i]<o[i]):val B m<val B o:=by
 rw[val_split m i (by omega),val_split o i (by omega),val_drop h1,val_drop h2,he]
 have a:=val_lt hB (dig_take hm i)
 rw[List.length_take,Nat.min_eq_left (by omega)]at a
 have b:=val_nonneg hB (dig_take ho i)
 have p:=pow_pos' hB i
 have c:=Int.mul_le_mul_of_nonneg_left (show m[i]+1≤o[i] from hl) (Int.le_of_lt p)
 rw[Int.mul_add]at c
 rw[Int.mul_add,Int.mul_add]
 omega
end Go.Proofs.YtfgbhfphjmmiaaaGreatDoor
end
section
namespace Go.Proofs.YtfgbhfphjmmiaaaGreatDoor
open Go Go.RowKit Kx
set_option maxRecDepth 100000
def Ev(p:Nat→Prop):Prop:=∃k,∀n,k≤n→p n
theorem Ev.of{p:Nat→Prop}(h:∀n,p n):Ev p:=⟨0,fun n _=>h n⟩
theorem Ev.from_{p:Nat→Prop}(k:Nat)(h:∀n,k≤n→p n):Ev p:=⟨k,h⟩
theorem Ev.mono{p q:Nat→Prop}(hp:Ev p)(h:∀n,p n→q n):Ev q:=hp.imp fun _ hk n hn=>h n (hk n hn)
theorem Ev.and{p q:Nat→Prop}(hp:Ev p)(hq:Ev q):Ev fun n=>p n∧q n:=by
 obtain⟨a,ha⟩:=hp;obtain⟨b,hb⟩:=hq
 exact⟨a+b,fun n hn=>⟨ha n (by omega),hb n (by omega)⟩⟩
theorem Ev.ex{p:Nat→Prop}(hp:Ev p):∃n,p n:=by obtain⟨k,h⟩:=hp;exact⟨k,h k (Nat.le_refl _)⟩
theorem sb{α β:Type}(x:α)(f:α→Option β):Option.bind (some x) f=f x:=rfl
theorem wi64{i:Int}(h0: -9223372036854775808≤i)(h1:i<9223372036854775808):IntKind.i64.wrap i=i:=by
 have e64:(2^IntKind.i64.bits:Int)=18446744073709551616:=rfl
 have e63:(2^(IntKind.i64.bits-1):Int)=9223372036854775808:=rfl
 unfold IntKind.wrap
 simp only[e64,e63,show IntKind.i64.signed=true from rfl,Bool.true_and,decide_eq_true_eq]
 split<;>omega
theorem wu64{i:Int}(h0:0≤i)(h1:i<18446744073709551616):IntKind.u64.wrap i=i:=by
 have e64:(2^IntKind.u64.bits:Int)=18446744073709551616:=rfl
 unfold IntKind.wrap
 simp only[e64,show IntKind.u64.signed=false from rfl,Bool.false_and]
 rw[if_neg (by decide)]
 exact Int.emod_eq_of_lt h0 h1
theorem wu32{i:Int}(h0:0≤i)(h1:i<4294967296):IntKind.u32.wrap i=i:=by
 have e64:(2^IntKind.u32.bits:Int)=4294967296:=rfl
 unfold IntKind.wrap
 simp only[e64,show IntKind.u32.signed=false from rfl,Bool.false_and]
 rw[if_neg (by decide)]
 exact Int.emod_eq_of_lt h0 h1
theorem wu64n{i:Int}(h0: -9223372036854775808≤i)(h1:i<0):IntKind.u64.wrap (0-IntKind.u64.wrap i)= -i:=by
 have e64:(2^IntKind.u64.bits:Int)=18446744073709551616:=rfl
 unfold IntKind.wrap
 simp only[e64,show IntKind.u64.signed=false from rfl,Bool.false_and]
 rw[if_neg (by decide),if_neg (by decide)]
 omega
theorem tdm{a b:Int}(ha:0≤a):Int.tdiv a b=a/b∧Int.tmod a b=a%b:=⟨Int.tdiv_eq_ediv_of_nonneg ha,Int.tmod_eq_emod_of_nonneg ha⟩
theorem geti_k{α:Type}(l:List α)(k:Nat):geti l (k:Int)=l[k]? :=by simp[geti]
theorem geti_at{α:Type}{l:List α}{k:Nat}(h:k<l.length):geti l (k:Int)=some l[k]:=by rw[geti_k,List.getElem?_eq_getElem h]
theorem geti_i{α:Type}{l:List α}{v:Int}(h0:0≤v)(h:v.toNat<l.length):geti l v=some l[v.toNat]:=by
 obtain⟨k,rfl⟩:∃k:Nat,v=(k:Int):=⟨v.toNat,by omega⟩
 exact geti_at (by simpa using h)
theorem ass_t{α:Type}{b:Bool}{x:Option α}(h:b=true):ass b x=x:=by subst h;rfl
theorem app_n{α:Type}(l m:List α)(h:l.length+m.length≤2147483648):app l m=some (l++m):=by
 unfold app;rw[show decide (l.length+m.length≤2147483648)=true from decide_eq_true h];rfl
theorem dlt{α β:Type}{l:List α}{f:α→β}{i:Nat}(h:i<l.length):decide ((i:Int)<((l.map f).length:Int))=true:=decide_eq_true (by rw[List.length_map];omega)
theorem dge{α β:Type}{l:List α}{f:α→β}{i:Nat}(h:l.length≤i):decide ((i:Int)<((l.map f).length:Int))=false:=decide_eq_false (by rw[List.length_map];omega)
theorem wi(i:Nat)(h:i<4000000000000000000):IntKind.i64.wrap ((i:Int)+1)=((i+1:Nat):Int):=by
 rw[wi64 (i:=(i:Int)+1) (by omega) (by omega)];omega
theorem wip(i:Nat)(h:i<4000000000000000000):IntKind.i64.wrap ((i:Int)-1)=(i:Int)-1:=wi64 (by omega) (by omega)
theorem mkL_0{α:Type}{c:Int}(h0:0≤c)(h:c≤2147483648)(x:α):mkL 0 c x=some []:=by
 unfold mkL
 rw[show(decide ((0:Int)≤0)&&decide ((0:Int)≤c)&&decide (c≤2147483648))=true by simp;omega]
 rfl
theorem mkL_n{α:Type}{n:Nat}(h:n≤2147483648)(x:α):mkL (n:Int) (n:Int) x=some (List.replicate n x):=by
 unfold mkL
 rw[show(decide ((0:Int)≤(n:Int))&&decide ((n:Int)≤(n:Int))&&decide ((n:Int)≤2147483648))=true by simp;omega]
 simp
def cmpI(a b:Int):Int:=if a<b then-1 else if a>b then 1 else 0
theorem cmpI_eq{a:Int}:cmpI a a=0:=by simp[cmpI]
theorem cmpI_lt{a b:Int}(h:a<b):cmpI a b= -1:=by simp[cmpI,h]
theorem cmpI_gt{a b:Int}(h:b<a):cmpI a b=1:=by unfold cmpI;rw[if_neg (by omega),if_pos h]
theorem cmpI_0{a b:Int}:cmpI a b=0↔a=b:=by
 unfold cmpI;split
 ·constructor<;>intro h<;>omega
 ·split<;>constructor<;>intro h<;>omega
theorem cmpI_neg{a b:Int}:cmpI (-a) (-b)=cmpI b a:=by
 unfold cmpI;split<;>split<;>first|rfl|(split<;>first|rfl|omega)|omega
theorem compI_eq(a b:Int):F141 a b=some (cmpI a b):=by
 unfold F141 F185 cmpI
 simp only[sb,bne_self_eq_false,cond_false]
 by_cases h:a<b
 ·simp[h]
 ·by_cases h':a>b<;>simp[h,h']
theorem compU_eq(a b:Int):F186 a b=some (cmpI a b):=by
 unfold F186 F233 cmpI
 simp only[sb,bne_self_eq_false,cond_false]
 by_cases h:a<b
 ·simp[h]
 ·by_cases h':a>b<;>simp[h,h']
theorem bne0{a b:Int}:(cmpI a b !=0)=decide (a≠b):=by
 by_cases h:a=b
 ·subst h;simp[cmpI_eq]
 ·have:cmpI a b≠0:=fun e=>h (cmpI_0.1 e)
  simp[h,this]
def sg(neg:Bool)(v:Int):Int:=bif neg then-v else v
def W(n:Int):T_exact_Whole:=⟨decide (n<0),dg 1000000000 (n.natAbs:Int)⟩
theorem hB1:(1:Int)<1000000000:=by decide
theorem W_sg{neg:Bool}{v:Int}(hv:0≤v):W (sg neg v)=⟨neg&&decide (v≠0),dg 1000000000 v⟩:=by
 unfold W sg
 cases neg
 ·simp only[cond_false,Bool.false_and]
  rw[show((v.natAbs:Nat):Int)=v by omega,decide_eq_false (by omega)]
 ·simp only[cond_true,Bool.true_and]
  rw[show(((-v).natAbs:Nat):Int)=v by omega]
  congr 1
  rw[decide_eq_decide];omega
def sz(L:Nat)(n:Int):Prop:=(n.natAbs:Int)<1000000000^L
theorem whole_L{d0:Bool}:∀(k:Nat) (l:List Int),l.length<k→l.length≤2147483648→F140_L1 d0 k l=some ⟨d0&&decide (trim l≠[]),trim l⟩
 |0,l,h,_=>absurd h (by omega)
 |k+1,l,h,hl=>by
  unfold F140_L1
  rcases List.eq_nil_or_concat l with rfl|⟨m,y,rfl⟩
  ·simp[trim]
  ·rw[List.concat_eq_append]at*
   simp only[List.length_append,List.length_cons,List.length_nil]at h hl
   have hw:IntKind.i64.wrap ((((m++[y]).map e_u32).length:Int)-1)=((m.length:Nat):Int):=by
    rw[List.length_map,List.length_append]
    simp only[List.length_cons,List.length_nil]
    rw[wi64 (by omega) (by omega)];omega
   have hg:geti (m++[y]) ((m.length:Nat):Int)=some y:=by rw[geti_k];simp
   have hp:decide ((((m++[y]).map e_u32).length:Int)>0)=true:=decide_eq_true (by rw[List.length_map,List.length_append];simp)
   rw[hp,hw,hg]
   simp only[cond_true,sb]
   by_cases hy:y=0
   ·subst hy
    have hs:slc (m++[0]) 0 ((m.length:Nat):Int)=some m:=by
     unfold slc
     have:((m.length:Nat):Int)≤(((m++[(0:Int)]).length:Nat):Int):=by simp;omega
     simp only[decide_eq_true this,Int.le_refl,decide_true,Bool.and_true,Bool.true_and,decide_eq_true (Int.natCast_nonneg m.length),cond_true]
     simp
    simp only[beq_self_eq_true,cond_true,hs,sb]
    rw[whole_L k m (by omega) (by omega),trim_snoc0]
   ·have:(y==0)=false:=by simpa using hy
    simp only[this,cond_false]
    rw[trim_snoc hy]
    cases d0<;>simp
theorem whole_eq{fuel:Nat}{neg:Bool}{l:List Int}(hd:dig 1000000000 l)(hl:l.length≤2147483648)(hf:l.length<fuel):F140 fuel neg l=some (W (sg neg (val 1000000000 l))):=by
 have hv:=val_nonneg (show(0:Int)<1000000000 by decide) hd
 unfold F140
 rw[whole_L fuel l hf hl,W_sg hv,trim_eq hB1 hd]
 congr 2
 rw[decide_eq_decide.2 (show dg 1000000000 (val 1000000000 l)≠[]↔val 1000000000 l≠0 from not_congr (dg_nil_iff hB1 hv))]
theorem small_L1{d0:Int}:∀(v:Int),0≤v→v<18446744073709551616→∀(k:Nat) (acc:List Int),(dg 1000000000 v).length<k→acc.length+(dg 1000000000 v).length≤2147483648→F99_L1 d0 k v acc=some ⟨decide (d0<0),acc++dg 1000000000 v⟩:=by
 intro v hv
 refine dg_ind hB1 (P:=fun v=>v<18446744073709551616→∀(k:Nat) (acc:List Int),(dg 1000000000 v).length<k→acc.length+(dg 1000000000 v).length≤2147483648→F99_L1 d0 k v acc=some ⟨decide (d0<0),acc++dg 1000000000 v⟩) ?_ ?_ v hv
 ·intro _ k acc hk _
  cases k with
  |zero=>omega
  |succ k=>
   unfold F99_L1
   simp[dg_zero]
 ·intro n hn ih h64 k acc hk hl
  rw[dg_step hB1 hn,List.length_cons]at hk hl
  cases k with
  |zero=>omega
  |succ k=>
   unfold F99_L1
   have h1:=Int.emod_nonneg n (show(1000000000:Int)≠0 by decide)
   have h2:=Int.emod_lt_of_pos n (show(0:Int)<1000000000 by decide)
   have h3:n/1000000000≤n:=Int.ediv_le_self _ (by omega)
   have h4:0≤n/1000000000:=Int.ediv_nonneg (by omega) (by decide)
   rw[decide_eq_true (show n>0 from hn),(tdm (by omega:0≤n)).1,(tdm (by omega:0≤n)).2,wu32 h1 (by omega),wu64 h4 (by omega),app_n _ _ (by simp;omega)]
   simp only[cond_true,sb]
   rw[ih (by omega) k _ (by omega) (by simp;omega),dg_step hB1 hn]
   simp
theorem small_L2{d0:Int}:∀(k:Nat) (v:Int) (acc:List Int),F99_L2 d0 k v acc=F99_L1 d0 k v acc
 |0,_,_=>rfl
 |k+1,v,acc=>by
  unfold F99_L2 F99_L1
  have:F99_L2 d0 k=F99_L1 d0 k:=by funext v acc;exact small_L2 k v acc
  rw[this]
theorem small_eq{fuel:Nat}{n:Int}(h0: -9223372036854775808≤n)(h1:n<9223372036854775808)(hf:10≤fuel):F99 fuel n=some (W n):=by
 have hl:∀v:Int,0≤v→v<18446744073709551616→(dg 1000000000 v).length≤3:=fun v _ h=>dg_len_le hB1 (by
  have:(1000000000:Int)^3=1000000000000000000000000000:=by decide
  omega)
 unfold F99 W
 by_cases h:n<0
 ·rw[decide_eq_true h]
  simp only[cond_true]
  have:=hl (-n) (by omega) (by omega)
  rw[wu64n h0 h,small_L1 _ (by omega) (by omega) _ _ (by omega) (by simp;omega),decide_eq_true h,show((n.natAbs:Nat):Int)= -n by omega]
  rfl
 ·rw[decide_eq_false h]
  simp only[cond_false]
  have:=hl n (by omega) (by omega)
  rw[wu64 (by omega) (by omega),small_L2,small_L1 _ (by omega) (by omega) _ _ (by omega) (by simp;omega),decide_eq_false h,show((n.natAbs:Nat):Int)=n by omega]
  rfl
theorem compare_L{m o:List Int}(hm:dig 1000000000 m)(ho:dig 1000000000 o)(he:m.length=o.length)(hl:m.length≤2147483648):∀(i k:Nat),i≤m.length→i<k→m.drop i=o.drop i→F142_L1 m o k ((i:Int)-1)=some (cmpI (val 1000000000 m) (val 1000000000 o))
 |0,0,_,h,_=>absurd h (by omega)
 |0,k+1,_,_,hd=>by
  unfold F142_L1
  rw[List.drop_zero,List.drop_zero]at hd
  subst hd
  simp[cmpI_eq]
 |i+1,0,_,h,_=>absurd h (by omega)
 |i+1,k+1,hi,hk,hd=>by
  unfold F142_L1
  rw[show(((i+1:Nat):Int)-1)=((i:Nat):Int) by omega,decide_eq_true (show((i:Nat):Int)≥0 by omega),geti_at (l:=m) (by omega),geti_at (l:=o) (by omega)]
  simp only[cond_true,sb,compU_eq,bne0]
  by_cases h:m[i]=o[i]
  ·rw[decide_eq_false (by simpa using h)]
   simp only[cond_false]
   rw[wip i (by omega)]
   exact compare_L hm ho he hl i k (by omega) (by omega) (by rw[List.drop_eq_getElem_cons (show i<m.length by omega),List.drop_eq_getElem_cons (show i<o.length by omega),h,hd])
  ·rw[decide_eq_true h]
   simp only[cond_true]
   rcases Int.lt_or_gt_of_ne h with h'|h'
   ·rw[cmpI_lt h',cmpI_lt (val_top (by decide) hm ho (by omega) (by omega) hd h')]
   ·rw[cmpI_gt h',cmpI_gt (val_top (by decide) ho hm (by omega) (by omega) hd.symm h')]
theorem compare_eq{fuel:Nat}{a b:Int}(ha:0≤a)(hb:0≤b)(hl:(dg 1000000000 a).length≤2147483648)(hl2:(dg 1000000000 b).length≤2147483648)(hf:(dg 1000000000 a).length<fuel):F142 fuel (dg 1000000000 a) (dg 1000000000 b)=some (cmpI a b):=by
 unfold F142
 rw[compI_eq,sb,bne0,List.length_map,List.length_map]
 by_cases h:(dg 1000000000 a).length=(dg 1000000000 b).length
 ·rw[decide_eq_false (by omega)]
  simp only[cond_false]
  rw[wip _ (by omega),compare_L (dig_dg hB1 a ha) (dig_dg hB1 b hb) h hl _ fuel (Nat.le_refl _) hf (by rw[List.drop_of_length_le (Nat.le_refl _),List.drop_of_length_le (by omega)]),val_dg hB1 a ha,val_dg hB1 b hb]
 ·rw[decide_eq_true (by omega)]
  simp only[cond_true]
  rcases Nat.lt_or_gt_of_ne h with h'|h'
  ·rw[cmpI_lt (by omega),cmpI_lt (dg_len_lt hB1 ha hb h')]
  ·rw[cmpI_gt (by omega),cmpI_gt (dg_len_lt hB1 hb ha h')]
end Go.Proofs.YtfgbhfphjmmiaaaGreatDoor
end
section
namespace Go.Proofs.YtfgbhfphjmmiaaaGreatDoor
open Go Go.RowKit Kx
set_option maxRecDepth 100000
theorem dig9{l:List Int}(h:dig 1000000000 l){i:Nat}(hi:i<l.length):0≤l[i]∧l[i]<1000000000:=dig_get h hi
theorem vdrop{l:List Int}{i:Nat}(hi:i<l.length):val 1000000000 (l.drop i)=l[i]+1000000000*val 1000000000 (l.drop (i+1)):=val_drop hi
theorem vdrop0{l:List Int}{i:Nat}(hi:l.length≤i):val 1000000000 (l.drop i)=0:=by rw[List.drop_of_length_le hi];rfl
theorem vcons(x:Int)(l:List Int):val 1000000000 (x::l)=x+1000000000*val 1000000000 l:=rfl
theorem plus_L{m o:List Int}(hm:dig 1000000000 m)(ho:dig 1000000000 o)(hle:o.length≤m.length)(hb:m.length≤1073741824):∀(r i k:Nat) (c:Int) (acc:List Int),i+r=m.length→r<k→0≤c→c≤1→acc.length=i→
 ∃t,F145_L2 m o k c (i:Int) acc=some (acc++t)∧dig 1000000000 t∧t.length≤r+1∧val 1000000000 t=val 1000000000 (m.drop i)+val 1000000000 (o.drop i)+c
 |0,i,0,_,_,_,h,_,_,_=>absurd h (by omega)
 |r+1,i,0,_,_,_,h,_,_,_=>absurd h (by omega)
 |0,i,k+1,c,acc,hi,_,h0,h1,ha=>by
  unfold F145_L2
  rw[dge (by omega),vdrop0 (by omega:m.length≤i),vdrop0 (by omega:o.length≤i)]
  simp only[cond_false]
  by_cases hc:c>0
  ·rw[decide_eq_true hc,app_n _ _ (by simp;omega)]
   refine⟨[c],rfl,dig_cons.2 ⟨⟨h0,by omega⟩,dig_nil⟩,by simp,by simp[val]⟩
  ·rw[decide_eq_false hc]
   refine⟨[],by simp,dig_nil,by simp,by simp[val];omega⟩
 |r+1,i,k+1,c,acc,hi,hk,h0,h1,ha=>by
  unfold F145_L2
  obtain⟨a1,a2⟩:=dig9 hm (show i<m.length by omega)
  rw[dlt (by omega),geti_at (l:=m) (by omega),vdrop (l:=m) (by omega)]
  simp only[cond_true,sb]
  rw[wu32 (i:=m[i]+c) (by omega) (by omega),wi i (by omega)]
  by_cases hio:i<o.length
  ·obtain⟨b1,b2⟩:=dig9 ho hio
   rw[dlt hio,geti_at (l:=o) hio,vdrop (l:=o) hio]
   simp only[cond_true,sb]
   rw[wu32 (i:=m[i]+c+o[i]) (by omega) (by omega),(tdm (show 0≤m[i]+c+o[i] by omega)).1,(tdm (show 0≤m[i]+c+o[i] by omega)).2,wu32 (by omega) (by omega),app_n _ _ (by simp;omega)]
   simp only[sb]
   obtain⟨t,e1,e2,e3,e4⟩:=plus_L hm ho hle hb r (i+1) k ((m[i]+c+o[i])/1000000000) (acc++[(m[i]+c+o[i])%1000000000]) (by omega) (by omega) (by omega) (by omega) (by simp;omega)
   refine⟨(m[i]+c+o[i])%1000000000::t,by rw[e1];simp,dig_cons.2 ⟨⟨by omega,by omega⟩,e2⟩,by simp;omega,?_⟩
   rw[vcons,e4]
   omega
  ·rw[dge (by omega),vdrop0 (by omega:o.length≤i)]
   simp only[cond_false]
   rw[(tdm (show 0≤m[i]+c by omega)).1,(tdm (show 0≤m[i]+c by omega)).2,wu32 (by omega) (by omega),app_n _ _ (by simp;omega)]
   simp only[sb]
   obtain⟨t,e1,e2,e3,e4⟩:=plus_L hm ho hle hb r (i+1) k ((m[i]+c)/1000000000) (acc++[(m[i]+c)%1000000000]) (by omega) (by omega) (by omega) (by omega) (by simp;omega)
   refine⟨(m[i]+c)%1000000000::t,by rw[e1];simp,dig_cons.2 ⟨⟨by omega,by omega⟩,e2⟩,by simp;omega,?_⟩
   rw[vcons,e4,vdrop0 (by omega:o.length≤i+1)]
   omega
theorem plus_L1{m o:List Int}:∀(k:Nat),F145_L1 m o k=F145_L2 o m k
 |0=>by funext c i acc;rfl
 |k+1=>by
  funext c i acc
  unfold F145_L1 F145_L2
  rw[plus_L1 k]
theorem plus_eq{fuel:Nat}{m o:List Int}(hm:dig 1000000000 m)(ho:dig 1000000000 o)(h1:m.length≤1073741823)(h2:o.length≤1073741823)(hf:m.length+o.length<fuel):
 ∃t,F145 fuel m o=some t∧dig 1000000000 t∧t.length≤m.length+o.length+1∧val 1000000000 t=val 1000000000 m+val 1000000000 o:=by
 unfold F145
 rw[List.length_map,List.length_map]
 by_cases h:m.length<o.length
 ·rw[decide_eq_true (by omega)]
  simp only[cond_true]
  rw[wi64 (by omega) (by omega),mkL_0 (by omega) (by omega)]
  simp only[sb]
  rw[plus_L1]
  obtain⟨t,e1,e2,e3,e4⟩:=plus_L ho hm (by omega) (by omega) o.length 0 fuel 0 [] (by omega) (by omega) (by omega) (by omega) rfl
  refine⟨t,e1,e2,by omega,?_⟩
  rw[e4,List.drop_zero,List.drop_zero];omega
 ·rw[decide_eq_false (by omega)]
  simp only[cond_false]
  rw[wi64 (by omega) (by omega),mkL_0 (by omega) (by omega)]
  simp only[sb]
  obtain⟨t,e1,e2,e3,e4⟩:=plus_L hm ho (by omega) (by omega) m.length 0 fuel 0 [] (by omega) (by omega) (by omega) (by omega) rfl
  refine⟨t,e1,e2,by omega,?_⟩
  rw[e4,List.drop_zero,List.drop_zero];omega
theorem minus_L{m o:List Int}(hm:dig 1000000000 m)(ho:dig 1000000000 o)(hle:o.length≤m.length)(hb:m.length≤1073741824):∀(r i k:Nat) (c:Int) (acc:List Int),i+r=m.length→r<k→0≤c→c≤1→acc.length=i→
 ∃t,F146_L1 m o k c (i:Int) acc=some (acc++t)∧dig 1000000000 t∧t.length=r∧(val 1000000000 t=val 1000000000 (m.drop i)-val 1000000000 (o.drop i)-c∨val 1000000000 t=val 1000000000 (m.drop i)-val 1000000000 (o.drop i)-c+1000000000^r)
 |0,i,0,_,_,_,h,_,_,_=>absurd h (by omega)
 |r+1,i,0,_,_,_,h,_,_,_=>absurd h (by omega)
 |0,i,k+1,c,acc,hi,_,h0,h1,ha=>by
  unfold F146_L1
  rw[dge (by omega),vdrop0 (by omega:m.length≤i),vdrop0 (by omega:o.length≤i)]
  refine⟨[],by simp,dig_nil,rfl,?_⟩
  simp only[val,Int.pow_zero]
  omega
 |r+1,i,k+1,c,acc,hi,hk,h0,h1,ha=>by
  unfold F146_L1
  obtain⟨a1,a2⟩:=dig9 hm (show i<m.length by omega)
  have hp:(1000000000:Int)^(r+1)=1000000000*1000000000^r:=Int.pow_succ' ..
  rw[dlt (by omega),geti_at (l:=m) (by omega),vdrop (l:=m) (by omega),hp]
  simp only[cond_true,sb]
  rw[wi64 (i:=m[i]) (by omega) (by omega),wi64 (i:=m[i]-c) (by omega) (by omega),wi i (by omega)]
  have key:∀(d c' y:Int),0≤d→d<1000000000→0≤c'→c'≤1→d=m[i]-c-y+1000000000*c'→val 1000000000 (o.drop i)=y+1000000000*val 1000000000 (o.drop (i+1))→
   ∃t,Option.bind (app acc [d]) (fun l=>F146_L1 m o k c' ((i+1:Nat):Int) l)=some (acc++t)∧dig 1000000000 t∧t.length=r+1∧(val 1000000000 t=m[i]+1000000000*val 1000000000 (m.drop (i+1))-val 1000000000 (o.drop i)-c∨val 1000000000 t=m[i]+1000000000*val 1000000000 (m.drop (i+1))-val 1000000000 (o.drop i)-c+1000000000*1000000000^r):=by
   intro d c' y d0 d1 c0 c1 hd hv
   rw[app_n _ _ (by simp;omega)]
   simp only[sb]
   obtain⟨t,e1,e2,e3,e4⟩:=minus_L hm ho hle hb r (i+1) k c' (acc++[d]) (by omega) (by omega) c0 c1 (by simp;omega)
   refine⟨d::t,by rw[e1];simp,dig_cons.2 ⟨⟨d0,d1⟩,e2⟩,by simp;omega,?_⟩
   rw[vcons,hv]
   rcases e4 with e4|e4
   ·left;rw[e4];omega
   ·right;rw[e4];omega
  by_cases hio:i<o.length
  ·obtain⟨b1,b2⟩:=dig9 ho hio
   rw[dlt hio,geti_at (l:=o) hio]
   simp only[cond_true,sb]
   rw[wi64 (i:=o[i]) (by omega) (by omega),wi64 (i:=m[i]-c-o[i]) (by omega) (by omega)]
   by_cases hn:m[i]-c-o[i]<0
   ·rw[decide_eq_true hn]
    simp only[cond_true]
    rw[wi64 (by omega) (by omega),wu32 (by omega) (by omega)]
    exact key _ 1 o[i] (by omega) (by omega) (by omega) (by omega) (by omega) (vdrop hio)
   ·rw[decide_eq_false hn]
    simp only[cond_false]
    rw[wu32 (by omega) (by omega)]
    exact key _ 0 o[i] (by omega) (by omega) (by omega) (by omega) (by omega) (vdrop hio)
  ·have hv:val 1000000000 (o.drop i)=0+1000000000*val 1000000000 (o.drop (i+1)):=by rw[vdrop0 (by omega:o.length≤i),vdrop0 (by omega:o.length≤i+1)];rfl
   rw[dge (by omega)]
   simp only[cond_false]
   by_cases hn:m[i]-c<0
   ·rw[decide_eq_true hn]
    simp only[cond_true]
    rw[wi64 (by omega) (by omega),wu32 (by omega) (by omega)]
    exact key _ 1 0 (by omega) (by omega) (by omega) (by omega) (by omega) hv
   ·rw[decide_eq_false hn]
    simp only[cond_false]
    rw[wu32 (by omega) (by omega)]
    exact key _ 0 0 (by omega) (by omega) (by omega) (by omega) (by omega) hv
theorem minus_eq{fuel:Nat}{m o:List Int}(hm:dig 1000000000 m)(ho:dig 1000000000 o)(hle:o.length≤m.length)(hb:m.length≤1073741824)(hv:val 1000000000 o≤val 1000000000 m)(hf:m.length<fuel):
 ∃t,F146 fuel m o=some t∧dig 1000000000 t∧t.length=m.length∧val 1000000000 t=val 1000000000 m-val 1000000000 o:=by
 unfold F146
 rw[List.length_map,mkL_0 (by omega) (by omega)]
 simp only[sb]
 obtain⟨t,e1,e2,e3,e4⟩:=minus_L hm ho hle hb m.length 0 fuel 0 [] (by omega) hf (by omega) (by omega) rfl
 rw[List.drop_zero,List.drop_zero]at e4
 refine⟨t,e1,e2,e3,?_⟩
 rcases e4 with e4|e4
 ·omega
 ·have:=val_lt (show(0:Int)<1000000000 by decide) e2
  rw[e3]at this
  omega
def ln(n:Int):Nat:=(dg 1000000000 (n.natAbs:Int)).length
theorem W_dig(n:Int):dig 1000000000 (dg 1000000000 (n.natAbs:Int)):=dig_dg hB1 _ (by omega)
theorem W_val(n:Int):val 1000000000 (dg 1000000000 (n.natAbs:Int))=(n.natAbs:Int):=val_dg hB1 _ (by omega)
theorem sign_eq{a:Int}:F100 (W a)=some (cmpI a 0):=by
 unfold F100
 show(bif (((dg 1000000000 (a.natAbs:Int)).map e_u32).length:Int)==0 then some 0 else bif decide (a<0) then some (-1) else some 1)=_
 by_cases h:a=0
 ·subst h;rfl
 ·have:((((dg 1000000000 (a.natAbs:Int)).map e_u32).length:Int)==0)=false:=by
   rw[List.length_map]
   have:=dg_ne hB1 (show 0<(a.natAbs:Int) by omega)
   have:=List.length_pos_iff.2 this
   simp;omega
  rw[this]
  simp only[cond_false]
  by_cases hn:a<0
  ·rw[decide_eq_true hn,cmpI_lt hn];rfl
  ·rw[decide_eq_false hn,cmpI_gt (by omega)];rfl
theorem add_eq{fuel:Nat}{a b:Int}(ha:ln a≤1073741820)(hb:ln b≤1073741820)(hf:ln a+ln b+2<fuel):F104 fuel (W a) (W b)=some (W (a+b)):=by
 unfold ln at ha hb hf
 have va:=W_val a;have vb:=W_val b
 have da:=W_dig a;have db:=W_dig b
 unfold F104
 show(bif decide (a<0)==decide (b<0) then Option.bind (F145 fuel (dg 1000000000 (a.natAbs:Int)) (dg 1000000000 (b.natAbs:Int))) (fun y1=>Option.bind (F140 fuel (decide (a<0)) y1) fun y2=>some y2) else
  Option.bind (F142 fuel (dg 1000000000 (a.natAbs:Int)) (dg 1000000000 (b.natAbs:Int))) fun y3=>bif decide (y3<0) then Option.bind (F146 fuel (dg 1000000000 (b.natAbs:Int)) (dg 1000000000 (a.natAbs:Int))) (fun y4=>Option.bind (F140 fuel (decide (b<0)) y4) fun y5=>some y5) else
   Option.bind (F146 fuel (dg 1000000000 (a.natAbs:Int)) (dg 1000000000 (b.natAbs:Int))) fun y6=>Option.bind (F140 fuel (decide (a<0)) y6) fun y7=>some y7)=_
 by_cases hs:decide (a<0)=decide (b<0)
 ·rw[hs]
  simp only[beq_self_eq_true,cond_true]
  obtain⟨t,e1,e2,e3,e4⟩:=plus_eq da db (by omega) (by omega) (show _<fuel by omega)
  rw[e1,sb,whole_eq e2 (by omega) (by omega),sb,e4,va,vb]
  congr 2
  have hs:a<0↔b<0:=by simpa using hs
  unfold sg
  by_cases h:b<0
  ·rw[decide_eq_true h];simp only[cond_true];omega
  ·rw[decide_eq_false h];simp only[cond_false];omega
 ·have:(decide (a<0)==decide (b<0))=false:=by simpa using hs
  rw[this]
  have hs:¬(a<0↔b<0):=by simpa using hs
  simp only[cond_false]
  rw[compare_eq (by omega) (by omega) (by omega) (by omega) (by omega),sb]
  by_cases hc:(a.natAbs:Int)<(b.natAbs:Int)
  ·rw[cmpI_lt hc]
   simp only[show decide ((-1:Int)<0)=true from rfl,cond_true]
   have hlen:(dg 1000000000 (a.natAbs:Int)).length≤(dg 1000000000 (b.natAbs:Int)).length:=by
    rcases Nat.lt_or_ge (dg 1000000000 (b.natAbs:Int)).length (dg 1000000000 (a.natAbs:Int)).length with h|h
    ·have:=dg_len_lt hB1 (show 0≤(b.natAbs:Int) by omega) (show 0≤(a.natAbs:Int) by omega) h;omega
    ·exact h
   obtain⟨t,e1,e2,e3,e4⟩:=minus_eq db da hlen (by omega) (by rw[va,vb];omega) (show _<fuel by omega)
   rw[e1,sb,whole_eq e2 (by omega) (by omega),sb,e4,va,vb]
   congr 2
   unfold sg
   by_cases h:b<0
   ·rw[decide_eq_true h];simp only[cond_true];omega
   ·rw[decide_eq_false h];simp only[cond_false];omega
  ·have h0:decide (cmpI (a.natAbs:Int) (b.natAbs:Int)<0)=false:=by
    apply decide_eq_false
    unfold cmpI
    rw[if_neg hc]
    split<;>omega
   rw[h0]
   simp only[cond_false]
   have hlen:(dg 1000000000 (b.natAbs:Int)).length≤(dg 1000000000 (a.natAbs:Int)).length:=by
    rcases Nat.lt_or_ge (dg 1000000000 (a.natAbs:Int)).length (dg 1000000000 (b.natAbs:Int)).length with h|h
    ·have:=dg_len_lt hB1 (show 0≤(a.natAbs:Int) by omega) (show 0≤(b.natAbs:Int) by omega) h;omega
    ·exact h
   obtain⟨t,e1,e2,e3,e4⟩:=minus_eq da db hlen (by omega) (by rw[va,vb];omega) (show _<fuel by omega)
   rw[e1,sb,whole_eq e2 (by omega) (by omega),sb,e4,va,vb]
   congr 2
   unfold sg
   by_cases h:a<0
   ·rw[decide_eq_true h];simp only[cond_true];omega
   ·rw[decide_eq_false h];simp only[cond_false];omega
theorem wcmp_eq{fuel:Nat}{a b:Int}(ha:ln a≤1073741820)(hb:ln b≤1073741820)(hf:ln a+ln b<fuel):F102 fuel (W a) (W b)=some (cmpI a b):=by
 unfold ln at ha hb hf
 unfold F102
 simp only[sign_eq,sb,compI_eq,bne0]
 by_cases hs:cmpI a 0=cmpI b 0
 ·rw[decide_eq_false (by simpa using hs)]
  simp only[cond_false]
  show(bif (((dg 1000000000 (a.natAbs:Int)).map e_u32).length:Int)==0 then some (cmpI (cmpI a 0) (cmpI b 0)) else bif decide (a<0) then Option.bind (F142 fuel (dg 1000000000 (b.natAbs:Int)) (dg 1000000000 (a.natAbs:Int))) (fun y4=>some y4) else Option.bind (F142 fuel (dg 1000000000 (a.natAbs:Int)) (dg 1000000000 (b.natAbs:Int))) fun y5=>some y5)=_
  by_cases h:a=0
  ·subst h
   rw[cmpI_eq]at hs
   have:=cmpI_0.1 hs.symm
   subst this;rfl
  ·have hl:((((dg 1000000000 (a.natAbs:Int)).map e_u32).length:Int)==0)=false:=by
    rw[List.length_map]
    have:=dg_ne hB1 (show 0<(a.natAbs:Int) by omega)
    have:=List.length_pos_iff.2 this
    simp;omega
   rw[hl]
   simp only[cond_false]
   by_cases hn:a<0
   ·rw[decide_eq_true hn]
    simp only[cond_true]
    have hb':b<0:=by
     rw[cmpI_lt hn]at hs
     rcases Int.lt_trichotomy b 0 with h|h|h
     ·exact h
     ·rw[h,cmpI_eq]at hs;omega
     ·rw[cmpI_gt h]at hs;omega
    rw[compare_eq (by omega) (by omega) (by omega) (by omega) (by omega),sb,show((b.natAbs:Nat):Int)= -b by omega,show((a.natAbs:Nat):Int)= -a by omega,cmpI_neg]
   ·rw[decide_eq_false hn]
    simp only[cond_false]
    have hb':0<b:=by
     rw[cmpI_gt (by omega)]at hs
     rcases Int.lt_trichotomy b 0 with h|h|h
     ·rw[cmpI_lt h]at hs;omega
     ·rw[h,cmpI_eq]at hs;omega
     ·exact h
    rw[compare_eq (by omega) (by omega) (by omega) (by omega) (by omega),sb,show((b.natAbs:Nat):Int)=b by omega,show((a.natAbs:Nat):Int)=a by omega]
 ·rw[decide_eq_true hs]
  simp only[cond_true]
  rcases Int.lt_trichotomy a 0 with h|h|h<;>rcases Int.lt_trichotomy b 0 with h'|h'|h'<;>first|(rw[cmpI_lt h,cmpI_lt h']at hs;exact absurd rfl hs)|(rw[cmpI_gt h,cmpI_gt h']at hs;exact absurd rfl hs)|(subst h;subst h';exact absurd rfl hs)|skip
  ·rw[cmpI_lt h,h',cmpI_eq,cmpI_lt h];rfl
  ·rw[cmpI_lt h,cmpI_gt h',cmpI_lt (show(-1:Int)<1 by omega),cmpI_lt (show a<b by omega)];rfl
  ·rw[h,cmpI_eq,cmpI_lt h',cmpI_gt h'];rfl
  ·rw[h,cmpI_eq,cmpI_gt h',cmpI_lt h'];rfl
  ·rw[cmpI_gt h,cmpI_lt h',cmpI_gt (show(-1:Int)<1 by omega),cmpI_gt (show b<a by omega)];rfl
  ·rw[cmpI_gt h,h',cmpI_eq,cmpI_gt h];rfl
end Go.Proofs.YtfgbhfphjmmiaaaGreatDoor
end
section
namespace Go.Proofs.YtfgbhfphjmmiaaaGreatDoor
open Go Go.RowKit Kx
set_option maxRecDepth 100000
theorem mul_lt{x y X Y:Int}(h0:0≤x)(h1:x<X)(h2:0≤y)(h3:y<Y):0≤x*y∧x*y≤(X-1)*(Y-1):=by
 refine⟨Int.mul_nonneg h0 h2,?_⟩
 have a:=Int.mul_le_mul_of_nonneg_right (show x≤X-1 by omega) h2
 have b:=Int.mul_le_mul_of_nonneg_left (show y≤Y-1 by omega) (show 0≤X-1 by omega)
 omega
theorem mul_l9{x y:Int}(h0:0≤x)(h1:x<1000000000)(h2:0≤y)(h3:y<1000000000):0≤x*y∧x*y≤999999998000000001:=by
 have:=mul_lt h0 h1 h2 h3;omega
theorem scaled_L{m:List Int}{y:Int}(hm:dig 1000000000 m)(hb:m.length≤1073741824)(y0:0≤y)(y1:y<1000000000):∀(r i k:Nat) (c:Int) (acc:List Int),i+r=m.length→r<k→0≤c→c<1000000000→acc.length=i→
 ∃t,F218_L1 m y k c (i:Int) acc=some (acc++t)∧dig 1000000000 t∧t.length=r+1∧val 1000000000 t=val 1000000000 (m.drop i)*y+c
 |0,i,0,_,_,_,h,_,_,_=>absurd h (by omega)
 |r+1,i,0,_,_,_,h,_,_,_=>absurd h (by omega)
 |0,i,k+1,c,acc,hi,_,h0,h1,ha=>by
  unfold F218_L1
  rw[dge (by omega),vdrop0 (by omega:m.length≤i)]
  simp only[cond_false]
  rw[wu32 h0 (by omega),app_n _ _ (by simp;omega)]
  exact⟨[c],rfl,dig_cons.2 ⟨⟨h0,h1⟩,dig_nil⟩,rfl,by simp[val]⟩
 |r+1,i,k+1,c,acc,hi,hk,h0,h1,ha=>by
  unfold F218_L1
  obtain⟨a1,a2⟩:=dig9 hm (show i<m.length by omega)
  obtain⟨p1,p2⟩:=mul_l9 a1 a2 y0 y1
  rw[dlt (by omega),geti_at (l:=m) (by omega),vdrop (l:=m) (by omega)]
  simp only[cond_true,sb]
  rw[wu64 (i:=m[i]) (by omega) (by omega),wu64 (i:=y) (by omega) (by omega),wu64 (i:=m[i]*y) (by omega) (by omega),wu64 (i:=m[i]*y+c) (by omega) (by omega),wi i (by omega),(tdm (show 0≤m[i]*y+c by omega)).1,(tdm (show 0≤m[i]*y+c by omega)).2,wu32 (by omega) (by omega),wu64 (by omega) (by omega),app_n _ _ (by simp;omega)]
  simp only[sb]
  obtain⟨t,e1,e2,e3,e4⟩:=scaled_L hm hb y0 y1 r (i+1) k ((m[i]*y+c)/1000000000) (acc++[(m[i]*y+c)%1000000000]) (by omega) (by omega) (by omega) (by omega) (by simp;omega)
  refine⟨(m[i]*y+c)%1000000000::t,by rw[e1];simp,dig_cons.2 ⟨⟨by omega,by omega⟩,e2⟩,by simp;omega,?_⟩
  rw[vcons,e4,Int.add_mul,Int.mul_assoc]
  omega
theorem scaled_eq{fuel:Nat}{m:List Int}{y:Int}(hm:dig 1000000000 m)(hb:m.length≤1073741824)(y0:0≤y)(y1:y<1000000000)(hf:m.length<fuel):
 ∃t,F218 fuel m y=some t∧dig 1000000000 t∧t.length=m.length+1∧val 1000000000 t=val 1000000000 m*y:=by
 unfold F218
 rw[List.length_map,wi64 (by omega) (by omega),mkL_0 (by omega) (by omega)]
 simp only[sb]
 obtain⟨t,e1,e2,e3,e4⟩:=scaled_L hm hb y0 y1 m.length 0 fuel 0 [] (by omega) hf (by omega) (by omega) rfl
 rw[List.drop_zero]at e4
 exact⟨t,e1,e2,e3,by omega⟩
theorem scaled_a:∀(m:List Int) (y:Int) (k:Nat),F218a_L1 m y k=F218_L1 m y k
 |m,y,0=>by funext c i acc;rfl
 |m,y,k+1=>by
  funext c i acc
  unfold F218a_L1 F218_L1
  rw[scaled_a m y k]
theorem scaleda_eq{fuel:Nat}{m:List Int}{y:Int}:F218a fuel m y=F218 fuel m y:=by
 unfold F218a F218
 rw[scaled_a]
def pairs(m:List Int):Nat→List (Int×Int)
 |0=>[]
 |i+1=>((i:Nat),m.getD i 0)::pairs m i
theorem back_L{m:List Int}(hb:m.length≤2147483648):∀(i k:Nat),i≤m.length→i<k→F254_L1 m k ((i:Int)-1)=some (pairs m i)
 |0,0,_,h=>absurd h (by omega)
 |i+1,0,_,h=>absurd h (by omega)
 |0,k+1,_,_=>by
  unfold F254_L1
  rfl
 |i+1,k+1,hi,hk=>by
  unfold F254_L1
  rw[show(((i+1:Nat):Int)-1)=(i:Int) by omega,decide_eq_true (show(i:Int)≥0 by omega),geti_at (l:=m) (by omega),wip i (by omega)]
  simp only[cond_true,sb]
  rw[back_L hb i k (by omega) (by omega)]
  simp only[sb,pairs]
  rw[List.getD_eq_getElem?_getD,List.getElem?_eq_getElem (show i<m.length by omega)];rfl
theorem back_eq{fuel:Nat}{m:List Int}(hb:m.length≤2147483648)(hf:m.length<fuel):F254 fuel m=some (pairs m m.length):=by
 unfold F254
 rw[List.length_map,wip _ (by omega)]
 exact back_L hb m.length fuel (Nat.le_refl _) hf
theorem getD9{m:List Int}{i:Nat}(h:i<m.length):m.getD i 0=m[i]:=by
 rw[List.getD_eq_getElem?_getD,List.getElem?_eq_getElem h];rfl
theorem vtake{l:List Int}{i:Nat}(hi:i<l.length):val 1000000000 (l.take (i+1))=val 1000000000 (l.take i)+l[i]*1000000000^i:=val_take_succ hi
theorem short_L{m:List Int}{y:Int}(hm:dig 1000000000 m)(hb:m.length≤1073741824)(y0:0<y)(y1:y<1000000000):∀(i:Nat) (rest:Int) (out:List Int),i≤m.length→out.length=m.length→0≤rest→rest<y→
 ∃q r,F217_L1 y (pairs m i) rest out=some (q++out.drop i,r)∧dig 1000000000 q∧q.length=i∧0≤r∧r<y∧rest*1000000000^i+val 1000000000 (m.take i)=y*val 1000000000 q+r
 |0,rest,out,_,ho,r0,r1=>by
  unfold pairs F217_L1
  refine⟨[],rest,by rw[wu32 r0 (by omega)];simp,dig_nil,rfl,r0,r1,by simp[val]⟩
 |i+1,rest,out,hi,ho,r0,r1=>by
  obtain⟨a1,a2⟩:=dig9 hm (show i<m.length by omega)
  unfold pairs F217_L1
  rw[getD9 (by omega)]
  have hy:IntKind.u64.wrap y=y:=wu64 (by omega) (by omega)
  have hn0:0≤rest*1000000000+m[i]:=by omega
  have hq:(rest*1000000000+m[i])/y<1000000000:=Int.ediv_lt_of_lt_mul y0 (by
   have:=Int.mul_le_mul_of_nonneg_right (show rest+1≤y by omega) (show(0:Int)≤1000000000 by decide)
   rw[Int.mul_comm 1000000000 y];omega)
  have hq0:0≤(rest*1000000000+m[i])/y:=Int.ediv_nonneg hn0 (by omega)
  have hr0:=Int.emod_nonneg (rest*1000000000+m[i]) (show y≠0 by omega)
  have hr1:=Int.emod_lt_of_pos (rest*1000000000+m[i]) y0
  have hqr:=Int.emod_add_mul_ediv (rest*1000000000+m[i]) y
  rw[hy,ass_t (by simp;omega),ass_t (by simp;omega)]
  dsimp only
  rw[geti_at (l:=out) (by omega),sb,wu64 (i:=rest*1000000000) (by omega) (by omega),wu64 (i:=m[i]) (by omega) (by omega),wu64 hn0 (by omega),(tdm hn0).1,(tdm hn0).2,wu64 hq0 (by omega),wu32 hq0 (by omega),sb]
  rw[show 0+Int.toNat (i:Int)=i by omega]
  obtain⟨q,r,e1,e2,e3,e4,e5,e6⟩:=short_L hm hb y0 y1 i ((rest*1000000000+m[i])%y) (out.set i ((rest*1000000000+m[i])/y)) (by omega) (by simpa using ho) hr0 hr1
  refine⟨q++[(rest*1000000000+m[i])/y],r,?_,dig_app.2 ⟨e2,dig_cons.2 ⟨⟨hq0,hq⟩,dig_nil⟩⟩,by simp;omega,e4,e5,?_⟩
  ·rw[e1,List.drop_eq_getElem_cons (show i<(out.set i ((rest*1000000000+m[i])/y)).length by simp;omega),List.drop_set_of_lt (by omega)]
   simp
  ·rw[val_app,e3,vtake (by omega),Int.pow_succ]
   have hv1:val 1000000000 [(rest*1000000000+m[i])/y]=(rest*1000000000+m[i])/y:=by simp[val]
   rw[hv1]
   generalize (rest*1000000000+m[i])/y=Q at*
   generalize (rest*1000000000+m[i])%y=R at*
   generalize (1000000000:Int)^i=X at*
   grind
theorem short_eq{fuel:Nat}{m:List Int}{y:Int}(hm:dig 1000000000 m)(hb:m.length≤1073741824)(y0:0<y)(y1:y<1000000000)(hf:m.length<fuel):
 ∃q,F217 fuel m y=some (q,val 1000000000 m%y)∧dig 1000000000 q∧q.length=m.length∧val 1000000000 q=val 1000000000 m/y:=by
 unfold F217 F221
 rw[List.length_map,mkL_n (by omega),sb,sb,back_eq (by omega) hf,sb]
 obtain⟨q,r,e1,e2,e3,e4,e5,e6⟩:=short_L hm hb y0 y1 m.length 0 (List.replicate m.length 0) (Nat.le_refl _) (by simp) (by omega) y0
 rw[List.take_length,Int.zero_mul,Int.zero_add]at e6
 have h1:val 1000000000 m%y=r:=by rw[e6,Int.mul_add_emod_self_left];exact Int.emod_eq_of_lt e4 e5
 have h2:val 1000000000 m/y=val 1000000000 q:=by rw[e6,Int.mul_add_ediv_left _ _ (by omega),Int.ediv_eq_zero_of_lt e4 e5];omega
 exact⟨q,by rw[e1,h1,List.drop_of_length_le (by simp)];simp,e2,e3,h2.symm⟩
theorem mul_L2{b:Int}{y:Int}{i:Nat}{rec_:Int→List Int→Option T_exact_Whole}(y0:0≤y)(y1:y<1000000000)(hb:ln b≤1073741820)(hi:i≤1073741820):∀(r j k:Nat) (c:Int) (out:List Int),j+r=ln b→r<k→0≤c→c<1000000000→dig 1000000000 out→(hl:i+ln b<out.length)→out[i+ln b]=0→
 ∃out',F101_L2 (W b) (i:Int) y rec_ k c (j:Int) out=rec_ ((i+1:Nat):Int) out'∧dig 1000000000 out'∧out'.length=out.length∧out'.drop (i+ln b+1)=out.drop (i+ln b+1)∧val 1000000000 out'=val 1000000000 out+(y*val 1000000000 ((dg 1000000000 (b.natAbs:Int)).drop j)+c)*1000000000^(i+j)
 |0,j,0,_,_,_,h,_,_,_,_,_=>absurd h (by omega)
 |r+1,j,0,_,_,_,h,_,_,_,_,_=>absurd h (by omega)
 |0,j,k+1,c,out,hj,_,c0,c1,hd,hl,hz=>by
  unfold F101_L2
  have hlen:(W b).mag.length=ln b:=rfl
  rw[dge (by omega)]
  simp only[cond_false]
  rw[List.length_map,hlen,wi64 (i:=(i:Int)+(ln b:Int)) (by omega) (by omega),show(i:Int)+(ln b:Int)=((i+ln b:Nat):Int) by omega,geti_at hl,wi i (by omega),wu32 c0 (by omega)]
  simp only[sb]
  rw[show 0+Int.toNat ((i+ln b:Nat):Int)=i+ln b by omega]
  refine⟨_,rfl,dig_set hd _ ⟨c0,c1⟩,by simp,by rw[List.drop_set_of_lt (by omega)],?_⟩
  rw[val_set _ _ hl,hz,vdrop0 (show(dg 1000000000 (b.natAbs:Int)).length≤j by show ln b≤j;omega),show i+j=i+ln b by omega]
  simp
 |r+1,j,k+1,c,out,hj,hk,c0,c1,hd,hl,hz=>by
  have hlen:(W b).mag.length=ln b:=rfl
  have hjl:j<(dg 1000000000 (b.natAbs:Int)).length:=by show j<ln b;omega
  unfold F101_L2
  have hg:geti (W b).mag (j:Int)=some (dg 1000000000 (b.natAbs:Int))[j]:=geti_at hjl
  rw[dlt (by omega),hg]
  obtain⟨a1,a2⟩:=dig9 (W_dig b) hjl
  rw[vdrop hjl]
  generalize hxx:(dg 1000000000 (b.natAbs:Int))[j]=x at*
  obtain⟨p1,p2⟩:=mul_l9 y0 y1 a1 a2
  obtain⟨o1,o2⟩:=dig9 hd (show i+j<out.length by omega)
  simp only[cond_true,sb]
  rw[wi64 (i:=(i:Int)+(j:Int)) (by omega) (by omega),show(i:Int)+(j:Int)=((i+j:Nat):Int) by omega,geti_at (l:=out) (by omega)]
  simp only[sb]
  rw[show 0+Int.toNat ((i+j:Nat):Int)=i+j by omega,wu64 (i:=y) (by omega) (by omega),wu64 (i:=x) (by omega) (by omega),wu64 (i:=y*x) (by omega) (by omega),wu64 (i:=out[i+j]) (by omega) (by omega),wu64 (i:=y*x+out[i+j]) (by omega) (by omega),wu64 (i:=y*x+out[i+j]+c) (by omega) (by omega),(tdm (show 0≤y*x+out[i+j]+c by omega)).1,(tdm (show 0≤y*x+out[i+j]+c by omega)).2,wu32 (by omega) (by omega),wu64 (by omega) (by omega),wi j (by omega)]
  obtain⟨out',e1,e2,e3,e4,e5⟩:=mul_L2 (rec_:=rec_) y0 y1 hb hi r (j+1) k ((y*x+out[i+j]+c)/1000000000) (out.set (i+j) ((y*x+out[i+j]+c)%1000000000)) (by omega) (by omega) (by omega) (by omega) (dig_set hd _ ⟨by omega,by omega⟩) (by simpa using hl) (by rw[List.getElem_set_ne (by omega)];exact hz)
  refine⟨out',e1,e2,by simpa using e3,by rw[e4,List.drop_set_of_lt (by omega)],?_⟩
  rw[e5,val_set _ _ (by omega),show i+(j+1)=i+j+1 by omega,Int.pow_succ]
  have hqr:=Int.emod_add_mul_ediv (y*x+out[i+j]+c) 1000000000
  generalize (y*x+out[i+j]+c)/1000000000=Q at*
  generalize (y*x+out[i+j]+c)%1000000000=R at*
  generalize (1000000000:Int)^(i+j)=X at*
  grind
theorem mul_L1{fuel:Nat}{a b:Int}(ha:ln a≤1073741820)(hb:ln b≤1073741820)(hab:ln a+ln b≤1073741820)(hf:ln a+ln b+1<fuel):∀(r i k:Nat) (out:List Int),i+r=ln a→r<k→dig 1000000000 out→out.length=ln a+ln b→out.drop (i+ln b)=List.replicate r 0→
 val 1000000000 out=val 1000000000 ((dg 1000000000 (a.natAbs:Int)).take i)*(b.natAbs:Int)→F101_L1 fuel (W a) (W b) k (i:Int) out=some (W (a*b))
 |0,i,0,_,_,h,_,_,_,_=>absurd h (by omega)
 |r+1,i,0,_,_,h,_,_,_,_=>absurd h (by omega)
 |0,i,k+1,out,hi,_,hd,hl,hz,hv=>by
  have hlen:(W a).mag.length=ln a:=rfl
  unfold F101_L1
  rw[dge (by omega)]
  simp only[cond_false]
  rw[List.take_of_length_le (show(dg 1000000000 (a.natAbs:Int)).length≤i by show ln a≤i;omega),W_val]at hv
  rw[whole_eq hd (by omega) (by omega),sb,hv]
  congr 2
  show sg (!(decide (a<0)==decide (b<0))) _=_
  have hn:(a.natAbs:Int)*(b.natAbs:Int)=((a*b).natAbs:Int):=by rw[Int.natAbs_mul];simp
  rw[hn]
  unfold sg
  by_cases h1:a<0<;>by_cases h2:b<0
  ·have:=Int.mul_pos_of_neg_of_neg h1 h2
   simp[h1,h2];omega
  ·have:=Int.mul_nonpos_of_nonpos_of_nonneg (show a≤0 by omega) (show 0≤b by omega)
   simp[h1,h2];omega
  ·have:=Int.mul_nonpos_of_nonneg_of_nonpos (show 0≤a by omega) (show b≤0 by omega)
   simp[h1,h2];omega
  ·have:=Int.mul_nonneg (show 0≤a by omega) (show 0≤b by omega)
   simp[h1,h2];omega
 |r+1,i,k+1,out,hi,hk,hd,hl,hz,hv=>by
  have hlen:(W a).mag.length=ln a:=rfl
  have hil:i<(dg 1000000000 (a.natAbs:Int)).length:=by show i<ln a;omega
  unfold F101_L1
  have hg:geti (W a).mag (i:Int)=some (dg 1000000000 (a.natAbs:Int))[i]:=geti_at hil
  rw[dlt (by omega),hg]
  obtain⟨a1,a2⟩:=dig9 (W_dig a) hil
  simp only[cond_true,sb]
  have hz0:out[i+ln b]'(by omega)=0:=by
   have:=congrArg (fun l=>l[0]?) hz
   simp only[List.getElem?_drop,Nat.add_zero]at this
   rw[List.getElem?_eq_getElem (by omega),List.getElem?_replicate,if_pos (by omega)]at this
   exact Option.some.inj this
  obtain⟨out',e1,e2,e3,e4,e5⟩:=mul_L2 (rec_:=F101_L1 fuel (W a) (W b) k) a1 a2 hb (by omega:i≤1073741820) (ln b) 0 fuel 0 out (by omega) (by omega) (by omega) (by omega) hd (by omega) hz0
  rw[show((0:Nat):Int)=(0:Int) from rfl]at e1
  rw[e1]
  refine mul_L1 ha hb hab hf r (i+1) k out' (by omega) (by omega) e2 (by omega) ?_ ?_
  ·rw[show i+1+ln b=i+ln b+1 by omega,e4,←List.drop_drop (i:=1),hz]
   simp
  ·rw[e5,hv,vtake hil,List.drop_zero,W_val,Nat.add_zero,Int.add_zero]
   generalize (1000000000:Int)^i=X at*
   grind
theorem mul_eq{fuel:Nat}{a b:Int}(hab:ln a+ln b≤1073741820)(hf:ln a+ln b+1<fuel):F101 fuel (W a) (W b)=some (W (a*b)):=by
 have h1:(W a).mag.length=ln a:=rfl
 have h2:(W b).mag.length=ln b:=rfl
 unfold F101
 rw[List.length_map,List.length_map,h1,h2,wi64 (by omega) (by omega),show(ln a:Int)+(ln b:Int)=((ln a+ln b:Nat):Int) by omega,mkL_n (by omega),sb]
 exact mul_L1 (by omega) (by omega) hab hf (ln a) 0 fuel _ (by omega) (by omega) (dig_zeros (by decide) _) (by simp) (by rw[List.drop_replicate];congr 1;omega) (by rw[val_zeros];simp[val])
end Go.Proofs.YtfgbhfphjmmiaaaGreatDoor
end
section
namespace Go.Proofs.YtfgbhfphjmmiaaaGreatDoor
open Go Go.RowKit Kx
set_option maxRecDepth 100000
theorem geti_drop{l:List Int}{p i:Nat}(h:p+i<l.length):geti (l.drop p) (i:Int)=some l[p+i]:=by
 rw[geti_k,List.getElem?_drop,List.getElem?_eq_getElem h]
theorem lose_L{p:Nat}{o:List Int}{t:Int}(ho:dig 1000000000 o)(t0:0≤t)(t1:t<1000000000)(hb:o.length≤1073741824):∀(r i k:Nat) (c bo:Int) (l:List Int),i+r=o.length+1→r<k→0≤c→c<1000000000→(r=0→c=0)→(bo=0∨bo=1)→dig 1000000000 l→p+o.length<l.length→
 ∃l' bo',F219_L1 p o t k c bo (i:Int) l=some (decide (bo'>0),l')∧dig 1000000000 l'∧l'.length=l.length∧l'.take p=l.take p∧l'.drop (p+o.length+1)=l.drop (p+o.length+1)∧(bo'=0∨bo'=1)∧val 1000000000 l'=val 1000000000 l-(t*val 1000000000 (o.drop i)+c+bo)*1000000000^(p+i)+bo'*1000000000^(p+o.length+1)
 |0,i,0,_,_,_,_,h,_,_,_,_,_,_=>absurd h (by omega)
 |r+1,i,0,_,_,_,_,h,_,_,_,_,_,_=>absurd h (by omega)
 |0,i,k+1,c,bo,l,hi,_,c0,c1,hc,hbo,hd,hl=>by
  unfold F219_L1
  rw[List.length_map,wi64 (i:=(o.length:Int)+1) (by omega) (by omega),decide_eq_false (by omega)]
  simp only[cond_false]
  refine⟨l,bo,rfl,hd,rfl,rfl,rfl,hbo,?_⟩
  rw[vdrop0 (by omega:o.length≤i),hc rfl,show p+i=p+o.length+1 by omega]
  simp
 |r+1,i,k+1,c,bo,l,hi,hk,c0,c1,hc,hbo,hd,hl=>by
  have hb0:0≤bo∧bo≤1:=by omega
  obtain⟨x0,x1⟩:=dig9 hd (show p+i<l.length by omega)
  have hset:∀z:Int,(l.set (0+p+i) z)=l.set (p+i) z:=fun z=>by rw[Nat.zero_add]
  --one step:the limb y of the product,the next carry
  have step:∀(N Y c':Int),0≤N→N/1000000000<1000000000→(r=0→N/1000000000=0)→c'=N/1000000000→t*val 1000000000 (o.drop i)+c=N+1000000000*(t*val 1000000000 (o.drop (i+1)))→Y=N%1000000000→
   ∃l' bo',(bif decide (l[p+i]-Y-bo<0) then Option.bind (some (l.set (p+i) (l[p+i]-Y-bo+1000000000))) (fun l11=>F219_L1 p o t k c' 1 ((i+1:Nat):Int) l11) else Option.bind (some (l.set (p+i) (l[p+i]-Y-bo))) (fun l12=>F219_L1 p o t k c' 0 ((i+1:Nat):Int) l12))=some (decide (bo'>0),l')∧dig 1000000000 l'∧l'.length=l.length∧l'.take p=l.take p∧l'.drop (p+o.length+1)=l.drop (p+o.length+1)∧(bo'=0∨bo'=1)∧val 1000000000 l'=val 1000000000 l-(t*val 1000000000 (o.drop i)+c+bo)*1000000000^(p+i)+bo'*1000000000^(p+o.length+1):=by
   intro N Y c' hN hN1 hN2 hc' hv hY
   have hq:=Int.emod_add_mul_ediv N 1000000000
   have hY0:0≤Y:=by omega
   have hY1:Y<1000000000:=by omega
   have fin:∀(z b1:Int),0≤z→z<1000000000→(b1=0∨b1=1)→z=l[p+i]-Y-bo+1000000000*b1→∃l' bo',Option.bind (some (l.set (p+i) z)) (fun l11=>F219_L1 p o t k c' b1 ((i+1:Nat):Int) l11)=some (decide (bo'>0),l')∧dig 1000000000 l'∧l'.length=l.length∧l'.take p=l.take p∧l'.drop (p+o.length+1)=l.drop (p+o.length+1)∧(bo'=0∨bo'=1)∧val 1000000000 l'=val 1000000000 l-(t*val 1000000000 (o.drop i)+c+bo)*1000000000^(p+i)+bo'*1000000000^(p+o.length+1):=by
    intro z b1 z0 z1 hb1 hz
    obtain⟨l',bo',e1,e2,e3,e4,e5,e6,e7⟩:=lose_L ho t0 t1 hb r (i+1) k c' b1 (l.set (p+i) z) (by omega) (by omega) (by omega) (by omega) (fun h=>by rw[hc'];exact hN2 h) hb1 (dig_set hd _ ⟨z0,z1⟩) (by simpa using hl)
    refine⟨l',bo',e1,e2,by simpa using e3,by rw[e4,List.take_set_of_le (by omega)],by rw[e5,List.drop_set_of_lt (by omega)],e6,?_⟩
    rw[e7,val_set _ _ (by omega),show p+(i+1)=p+i+1 by omega,Int.pow_succ,hv,hz,hc',hY]
    generalize N/1000000000=Q at*
    generalize N%1000000000=R at*
    generalize (1000000000:Int)^(p+i)=X at*
    generalize bo'*1000000000^(p+o.length+1)=Z at*
    grind
   by_cases hn:l[p+i]-Y-bo<0
   ·rw[decide_eq_true hn]
    exact fin _ 1 (by omega) (by omega) (.inr rfl) (by omega)
   ·rw[decide_eq_false hn]
    exact fin _ 0 (by omega) (by omega) (.inl rfl) (by omega)
  unfold F219_L1
  rw[List.length_map,wi64 (i:=(o.length:Int)+1) (by omega) (by omega),decide_eq_true (by omega)]
  simp only[cond_true]
  rw[geti_drop (by omega),wi i (by omega)]
  simp only[sb]
  rw[show p+Int.toNat (i:Int)=p+i by omega,wi64 (i:=l[p+i]) (by omega) (by omega)]
  by_cases hio:i<o.length
  ·obtain⟨y0,y1⟩:=dig9 ho hio
   obtain⟨p1,p2⟩:=mul_l9 t0 t1 y0 y1
   rw[decide_eq_true (by omega),geti_at hio]
   simp only[cond_true,sb]
   rw[wu64 (i:=o[i]) (by omega) (by omega),wu64 (i:=t*o[i]) (by omega) (by omega),wu64 (i:=c+t*o[i]) (by omega) (by omega),(tdm (show 0≤c+t*o[i] by omega)).1,(tdm (show 0≤c+t*o[i] by omega)).2,wu64 (i:=(c+t*o[i])/1000000000) (by omega) (by omega),wi64 (i:=(c+t*o[i])%1000000000) (by omega) (by omega),wi64 (i:=l[p+i]-(c+t*o[i])%1000000000) (by omega) (by omega),wi64 (i:=l[p+i]-(c+t*o[i])%1000000000-bo) (by omega) (by omega)]
   have hx:∀z:Int,-9223372036854775808≤z→z<9223372036854775808→IntKind.i64.wrap z=z:=fun z h h'=>wi64 h h'
   have hstep:=step (c+t*o[i]) _ _ (by omega) (by omega) (fun h=>by omega) rfl (by rw[vdrop hio,Int.mul_add];grind) rfl
   by_cases hn:l[p+i]-(c+t*o[i])%1000000000-bo<0
   ·rw[decide_eq_true hn]at hstep⊢
    simp only[cond_true]at hstep⊢
    rw[wi64 (by omega) (by omega),wu32 (by omega) (by omega)]
    exact hstep
   ·rw[decide_eq_false hn]at hstep⊢
    simp only[cond_false]at hstep⊢
    rw[wu32 (by omega) (by omega)]
    exact hstep
  ·rw[decide_eq_false (by omega)]
   simp only[cond_false]
   rw[(tdm c0).1,(tdm c0).2,wu64 (i:=c/1000000000) (by omega) (by omega),wi64 (i:=c%1000000000) (by omega) (by omega),wi64 (i:=l[p+i]-c%1000000000) (by omega) (by omega),wi64 (i:=l[p+i]-c%1000000000-bo) (by omega) (by omega)]
   have hstep:=step c _ _ (by omega) (by omega) (fun h=>by omega) rfl (by rw[vdrop0 (by omega:o.length≤i),vdrop0 (by omega:o.length≤i+1)];omega) rfl
   by_cases hn:l[p+i]-c%1000000000-bo<0
   ·rw[decide_eq_true hn]at hstep⊢
    simp only[cond_true]at hstep⊢
    rw[wi64 (by omega) (by omega),wu32 (by omega) (by omega)]
    exact hstep
   ·rw[decide_eq_false hn]at hstep⊢
    simp only[cond_false]at hstep⊢
    rw[wu32 (by omega) (by omega)]
    exact hstep
theorem gain_L{p:Nat}{o:List Int}(ho:dig 1000000000 o)(hb:o.length≤1073741824):∀(r i k:Nat) (c:Int) (l:List Int),i+r=o.length+1→r<k→(c=0∨c=1)→dig 1000000000 l→p+o.length<l.length→
 ∃l' c',F220_L1 p o k c (i:Int) l=some l'∧dig 1000000000 l'∧l'.length=l.length∧l'.take p=l.take p∧l'.drop (p+o.length+1)=l.drop (p+o.length+1)∧(c'=0∨c'=1)∧val 1000000000 l'=val 1000000000 l+(val 1000000000 (o.drop i)+c)*1000000000^(p+i)-c'*1000000000^(p+o.length+1)
 |0,i,0,_,_,_,h,_,_,_=>absurd h (by omega)
 |r+1,i,0,_,_,_,h,_,_,_=>absurd h (by omega)
 |0,i,k+1,c,l,hi,_,hc,hd,hl=>by
  unfold F220_L1
  rw[List.length_map,wi64 (i:=(o.length:Int)+1) (by omega) (by omega),decide_eq_false (by omega)]
  simp only[cond_false]
  refine⟨l,c,rfl,hd,rfl,rfl,rfl,hc,?_⟩
  rw[vdrop0 (by omega:o.length≤i),show p+i=p+o.length+1 by omega,Int.zero_add]
  omega
 |r+1,i,k+1,c,l,hi,hk,hc,hd,hl=>by
  obtain⟨x0,x1⟩:=dig9 hd (show p+i<l.length by omega)
  have step:∀(y:Int),0≤y→y<1000000000→val 1000000000 (o.drop i)=y+1000000000*val 1000000000 (o.drop (i+1))→
   ∃l' c',F220_L1 p o k ((l[p+i]+c+y)/1000000000) ((i+1:Nat):Int) (l.set (p+i) ((l[p+i]+c+y)%1000000000))=some l'∧dig 1000000000 l'∧l'.length=l.length∧l'.take p=l.take p∧l'.drop (p+o.length+1)=l.drop (p+o.length+1)∧(c'=0∨c'=1)∧val 1000000000 l'=val 1000000000 l+(val 1000000000 (o.drop i)+c)*1000000000^(p+i)-c'*1000000000^(p+o.length+1):=by
   intro y y0 y1 hv
   obtain⟨l',c',e1,e2,e3,e4,e5,e6,e7⟩:=gain_L ho hb r (i+1) k ((l[p+i]+c+y)/1000000000) (l.set (p+i) ((l[p+i]+c+y)%1000000000)) (by omega) (by omega) (by omega) (dig_set hd _ ⟨by omega,by omega⟩) (by simpa using hl)
   refine⟨l',c',e1,e2,by simpa using e3,by rw[e4,List.take_set_of_le (by omega)],by rw[e5,List.drop_set_of_lt (by omega)],e6,?_⟩
   have hq:=Int.emod_add_mul_ediv (l[p+i]+c+y) 1000000000
   rw[e7,val_set _ _ (by omega),show p+(i+1)=p+i+1 by omega,Int.pow_succ,hv]
   generalize (l[p+i]+c+y)/1000000000=Q at*
   generalize (l[p+i]+c+y)%1000000000=R at*
   generalize (1000000000:Int)^(p+i)=X at*
   generalize c'*1000000000^(p+o.length+1)=Z at*
   grind
  unfold F220_L1
  rw[List.length_map,wi64 (i:=(o.length:Int)+1) (by omega) (by omega),decide_eq_true (by omega)]
  simp only[cond_true]
  rw[geti_drop (by omega),wi i (by omega)]
  simp only[sb]
  rw[show p+Int.toNat (i:Int)=p+i by omega,wu32 (i:=l[p+i]+c) (by omega) (by omega)]
  by_cases hio:i<o.length
  ·obtain⟨y0,y1⟩:=dig9 ho hio
   rw[decide_eq_true (by omega),geti_at hio]
   simp only[cond_true,sb]
   rw[wu32 (i:=l[p+i]+c+o[i]) (by omega) (by omega),(tdm (show 0≤l[p+i]+c+o[i] by omega)).1,(tdm (show 0≤l[p+i]+c+o[i] by omega)).2,wu32 (by omega) (by omega)]
   exact step _ y0 y1 (vdrop hio)
  ·rw[decide_eq_false (by omega)]
   simp only[cond_false]
   rw[(tdm (show 0≤l[p+i]+c by omega)).1,(tdm (show 0≤l[p+i]+c by omega)).2,wu32 (by omega) (by omega)]
   have:=step 0 (by omega) (by omega) (by rw[vdrop0 (by omega:o.length≤i),vdrop0 (by omega:o.length≤i+1)];rfl)
   rw[Int.add_zero]at this
   exact this
theorem lose_eq{fuel p:Nat}{o l:List Int}{t:Int}(ho:dig 1000000000 o)(t0:0≤t)(t1:t<1000000000)(hb:o.length≤1073741824)(hd:dig 1000000000 l)(hl:p+o.length<l.length)(hf:o.length+1<fuel):
 ∃l' bo',F219 fuel p o t l=some (decide (bo'>0),l')∧dig 1000000000 l'∧l'.length=l.length∧l'.take p=l.take p∧l'.drop (p+o.length+1)=l.drop (p+o.length+1)∧(bo'=0∨bo'=1)∧val 1000000000 l'=val 1000000000 l-t*val 1000000000 o*1000000000^p+bo'*1000000000^(p+o.length+1):=by
 have:=lose_L ho t0 t1 hb (o.length+1) 0 fuel 0 0 l (by omega) hf (by omega) (by omega) (fun _=>rfl) (.inl rfl) hd hl
 rw[List.drop_zero]at this
 unfold F219
 simpa using this
theorem gain_eq{fuel p:Nat}{o l:List Int}(ho:dig 1000000000 o)(hb:o.length≤1073741824)(hd:dig 1000000000 l)(hl:p+o.length<l.length)(hf:o.length+1<fuel):
 ∃l' c',F220 fuel p o l=some l'∧dig 1000000000 l'∧l'.length=l.length∧l'.take p=l.take p∧l'.drop (p+o.length+1)=l.drop (p+o.length+1)∧(c'=0∨c'=1)∧val 1000000000 l'=val 1000000000 l+val 1000000000 o*1000000000^p-c'*1000000000^(p+o.length+1):=by
 have:=gain_L ho hb (o.length+1) 0 fuel 0 l (by omega) hf (.inl rfl) hd hl
 rw[List.drop_zero]at this
 unfold F220
 simpa using this
end Go.Proofs.YtfgbhfphjmmiaaaGreatDoor
end
section
namespace Go.Proofs.YtfgbhfphjmmiaaaGreatDoor
open Go Go.RowKit Kx
set_option maxRecDepth 100000
theorem guess_hi{A b T3 al bl X g h:Int}(hA:A=T3*X+al)(hb:b=h*X+bl)(hX:0<X)(al0:0≤al)(al1:al<X)(bl0:0≤bl)(bl1:bl<X)(g0:0≤g)(g1:g<1000000000)(hh:1000000000≤h)(he:g*h≤T3):g≤A/b+1:=by
 have hb0:0<b:=by
  have:=Int.mul_le_mul_of_nonneg_right (show 1≤h by omega) (Int.le_of_lt hX)
  omega
 have h1:(g-1)*b≤A:=by
  have e1:=Int.mul_le_mul_of_nonneg_right he (Int.le_of_lt hX)
  have e2:=Int.mul_le_mul_of_nonneg_left (Int.le_of_lt bl1) g0
  have e3:=Int.mul_le_mul_of_nonneg_right (show g≤h by omega) (Int.le_of_lt hX)
  have e4:(g-1)*b=g*h*X+g*bl-b:=by rw[hb];grind
  omega
 have:=Int.le_ediv_of_mul_le hb0 h1
 omega
theorem guess_lo{A b T3 al bl X g h:Int}(hA:A=T3*X+al)(hb:b=h*X+bl)(hX:0<X)(al1:al<X)(bl0:0≤bl)(g0:0≤g)(hb0:0<b)(he:T3<g*h):A/b<g:=by
 have h1:A<g*b:=by
  have e1:=Int.mul_le_mul_of_nonneg_right (show T3+1≤g*h by omega) (Int.le_of_lt hX)
  have e2:=Int.mul_nonneg g0 bl0
  have e3:g*b=g*h*X+g*bl:=by rw[hb];grind
  have e4:(T3+1)*X=T3*X+X:=by grind
  omega
 exact Int.ediv_lt_of_lt_mul hb0 h1
theorem guess_first{A b top al2 Y b1:Int}(hA:A=top*Y+al2)(al1:al2<Y)(hY:0<Y)(hb:b1*Y≤b)(hb1:0<b1)(hA0:0≤A):A/b≤top/b1:=by
 have hb0:0<b:=by
  have:=Int.mul_le_mul_of_nonneg_right (show 1≤b1 by omega) (Int.le_of_lt hY)
  omega
 have hq:=Int.ediv_mul_le A (show b≠0 by omega)
 have hq0:0≤A/b:=Int.ediv_nonneg hA0 (by omega)
 generalize A/b=Q at*
 refine Int.le_ediv_of_mul_le hb1 ?_
 have e1:=Int.mul_le_mul_of_nonneg_left hb hq0
 have e2:Q*(b1*Y)=Q*b1*Y:=by grind
 by_cases h:Q*b1≤top
 ·exact h
 ·exfalso
  have e3:=Int.mul_le_mul_of_nonneg_right (show top+1≤Q*b1 by omega) (Int.le_of_lt hY)
  have e4:(top+1)*Y=top*Y+Y:=by grind
  omega
theorem val_at(l:List Int)(i:Nat)(h:i≤l.length):val 1000000000 l=val 1000000000 (l.take i)+1000000000^i*val 1000000000 (l.drop i):=val_split l i h
theorem vlt{l:List Int}(h:dig 1000000000 l):val 1000000000 l<1000000000^l.length:=val_lt (by decide) h
theorem vnn{l:List Int}(h:dig 1000000000 l):0≤val 1000000000 l:=val_nonneg (by decide) h
theorem p9(n:Nat):(0:Int)<1000000000^n:=pow_pos' (by decide) n
theorem vtl{l:List Int}(h:dig 1000000000 l)(i:Nat)(hi:i≤l.length):val 1000000000 (l.take i)<1000000000^i:=by
 have:=vlt (dig_take h i)
 rwa [List.length_take,Nat.min_eq_left hi]at this
theorem top_zero{l:List Int}(h:dig 1000000000 l){n:Nat}(hn:n≤l.length)(hv:val 1000000000 l<1000000000^n):val 1000000000 (l.drop n)=0:=by
 rw[val_at l n hn]at hv
 have h1:=vnn (dig_take h n)
 have h2:=vnn (dig_drop h n)
 by_cases h0:val 1000000000 (l.drop n)=0
 ·exact h0
 ·exfalso
  have:=Int.mul_le_mul_of_nonneg_left (show 1≤val 1000000000 (l.drop n) by omega) (Int.le_of_lt (p9 n))
  omega
theorem place{al bl:List Int}{i:Nat}(ha:dig 1000000000 al)(hb:dig 1000000000 bl)(hn:2≤bl.length)(hi:i+bl.length<al.length)(hA:val 1000000000 (al.drop (i+1))<val 1000000000 bl):
 ∃X lo lob:Int,0<X∧0≤lo∧lo<X∧0≤lob∧lob<X∧val 1000000000 bl=(bl[bl.length-1]*1000000000+bl[bl.length-2])*X+lob∧
  val 1000000000 (al.drop i)=((al[i+bl.length]*1000000000+al[i+bl.length-1])*1000000000+al[i+bl.length-2])*X+lo∧
  val 1000000000 (al.drop (i+bl.length+1))=0∧val 1000000000 (al.drop i)<val 1000000000 bl*1000000000:=by
 have hz:val 1000000000 (al.drop (i+bl.length+1))=0:=by
  have:=top_zero (dig_drop ha (i+1)) (n:=bl.length) (by rw[List.length_drop];omega) (Int.lt_trans hA (vlt hb))
  rwa [List.drop_drop,show i+1+bl.length=i+bl.length+1 by omega]at this
 refine⟨1000000000^(bl.length-2),val 1000000000 ((al.drop i).take (bl.length-2)),val 1000000000 (bl.take (bl.length-2)),p9 _,vnn (dig_take (dig_drop ha i) _),vtl (dig_drop ha i) _ (by rw[List.length_drop];omega),vnn (dig_take hb _),vtl hb _ (by omega),?_,?_,hz,?_⟩
 ·have e1:=val_at bl (bl.length-2) (by omega)
  have e2:=vdrop (l:=bl) (i:=bl.length-2) (by omega)
  have e3:=vdrop (l:=bl) (i:=bl.length-2+1) (by omega)
  have e4:=vdrop0 (l:=bl) (i:=bl.length-2+1+1) (by omega)
  have e5:bl[bl.length-2+1]=bl[bl.length-1]:=by congr 1;omega
  rw[e5]at e3
  rw[e1,e2,e3,e4]
  generalize (1000000000:Int)^(bl.length-2)=X
  grind
 ·have e1:=val_at (al.drop i) (bl.length-2) (by rw[List.length_drop];omega)
  rw[List.drop_drop]at e1
  have e2:=vdrop (l:=al) (i:=i+(bl.length-2)) (by omega)
  have e3:=vdrop (l:=al) (i:=i+(bl.length-2)+1) (by omega)
  have e4:=vdrop (l:=al) (i:=i+(bl.length-2)+1+1) (by omega)
  have e5:al[i+(bl.length-2)]=al[i+bl.length-2]:=by congr 1;omega
  have e6:al[i+(bl.length-2)+1]=al[i+bl.length-1]:=by congr 1;omega
  have e7:al[i+(bl.length-2)+1+1]=al[i+bl.length]:=by congr 1;omega
  rw[show i+(bl.length-2)+1+1+1=i+bl.length+1 by omega,hz,e7]at e4
  rw[e6]at e3;rw[e5]at e2
  rw[e1,e2,e3,e4]
  generalize (1000000000:Int)^(bl.length-2)=X
  grind
 ·have e1:=vdrop (l:=al) (i:=i) (by omega)
  have e2:=(dig9 ha (show i<al.length by omega)).2
  rw[e1];omega
theorem slc_n{α:Type}{l:List α}{n:Nat}(h:n≤l.length):slc l 0 (n:Int)=some (l.take n):=by
 unfold slc
 simp only[Int.le_refl,decide_true,Bool.true_and,decide_eq_true (Int.natCast_nonneg n),decide_eq_true (show(n:Int)≤(l.length:Int) by omega),cond_true]
 simp
set_option maxHeartbeats 4000000 in
theorem limb{fuel:Nat}{bl ql:List Int}{rec_:Int→List Int→List Int→Option (List Int×List Int)}{al:List Int}{i:Nat}(hf:bl.length+1<fuel)(ha:dig 1000000000 al)(hb:dig 1000000000 bl)(hn:2≤bl.length)(hi:i+bl.length<al.length)(hlen:al.length≤1073741824)(hq:i<ql.length)(hA:val 1000000000 (al.drop (i+1))<val 1000000000 bl)(hb1:0<bl[bl.length-1]):
 ∃al',dig 1000000000 al'∧al'.length=al.length∧val 1000000000 al'=val 1000000000 al-val 1000000000 (al.drop i)/val 1000000000 bl*val 1000000000 bl*1000000000^i∧val 1000000000 (al'.drop i)<val 1000000000 bl∧
  ∀(k:Nat) (g:Int),0≤g→g.toNat<k→g<1000000000→g*bl[bl.length-1]≤al[i+bl.length]*1000000000+al[i+bl.length-1]→val 1000000000 (al.drop i)/val 1000000000 bl≤g→
   F178_L2 fuel bl ql al (i:Int) al[i+bl.length] al[i+bl.length-1] rec_ k g=rec_ ((i:Int)-1) (ql.set i (val 1000000000 (al.drop i)/val 1000000000 bl)) al':=by
 obtain⟨X,lo,lob,hX,lo0,lo1,lb0,lb1,eb,eA,ez,hAB⟩:=place ha hb hn hi hA
 obtain⟨t0,t1⟩:=dig9 ha hi
 obtain⟨s0,s1⟩:=dig9 ha (show i+bl.length-1<al.length by omega)
 obtain⟨u0,u1⟩:=dig9 ha (show i+bl.length-2<al.length by omega)
 obtain⟨b0,b1⟩:=dig9 hb (show bl.length-2<bl.length by omega)
 obtain⟨c0,c1⟩:=dig9 hb (show bl.length-1<bl.length by omega)
 have hbp:0<val 1000000000 bl:=by
  have:=Int.mul_le_mul_of_nonneg_right (show 1≤bl[bl.length-1]*1000000000+bl[bl.length-2] by omega) (Int.le_of_lt hX)
  omega
 have hA0:=vnn (dig_drop ha i)
 have hQ0:0≤val 1000000000 (al.drop i)/val 1000000000 bl:=Int.ediv_nonneg hA0 (by omega)
 have hQ1:val 1000000000 (al.drop i)/val 1000000000 bl<1000000000:=Int.ediv_lt_of_lt_mul hbp (by rw[Int.mul_comm];exact hAB)
 have hqr:=Int.emod_add_mul_ediv (val 1000000000 (al.drop i)) (val 1000000000 bl)
 have hr0:=Int.emod_nonneg (val 1000000000 (al.drop i)) (show val 1000000000 bl≠0 by omega)
 have hr1:=Int.emod_lt_of_pos (val 1000000000 (al.drop i)) hbp
 have hW:val 1000000000 (al.drop i)<1000000000^(bl.length+1):=by
  have:=Int.mul_le_mul_of_nonneg_right (Int.le_of_lt (vlt hb)) (show(0:Int)≤1000000000 by decide)
  rw[Int.pow_succ];omega
 have hbl:val 1000000000 bl<1000000000^(bl.length+1):=by
  have:=vlt hb;have:=p9 bl.length
  rw[Int.pow_succ];omega
 --the window's value
 have win:∀l:List Int,dig 1000000000 l→l.length=al.length→l.take i=al.take i→l.drop (i+bl.length+1)=al.drop (i+bl.length+1)→val 1000000000 l=val 1000000000 (al.take i)+1000000000^i*val 1000000000 (l.drop i)∧0≤val 1000000000 (l.drop i)∧val 1000000000 (l.drop i)<1000000000^(bl.length+1):=by
  intro l hd hl h1 h2
  refine⟨by rw[←h1];exact val_at l i (by omega),vnn (dig_drop hd i),?_⟩
  rw[val_at (l.drop i) (bl.length+1) (by rw[List.length_drop];omega),List.drop_drop,show i+(bl.length+1)=i+bl.length+1 by omega,h2,ez]
  have:=vtl (dig_drop hd i) (bl.length+1) (by rw[List.length_drop];omega)
  omega
 have canc:∀{x y:Int},1000000000^i*x=1000000000^i*y→x=y:=fun{x y} h=>Int.eq_of_mul_eq_mul_left (show(1000000000:Int)^i≠0 by have:=p9 i;omega) h
 have hal:=(win al ha rfl rfl rfl).1
 have epow:(1000000000:Int)^(i+bl.length+1)=1000000000^i*1000000000^(bl.length+1):=by rw[Nat.add_assoc,Int.pow_add]
 --what losing g times comes to
 have lose1:∀g:Int,0≤g→g<1000000000→∃l' bo',F219 fuel i bl g al=some (decide (bo'>0),l')∧dig 1000000000 l'∧l'.length=al.length∧l'.take i=al.take i∧l'.drop (i+bl.length+1)=al.drop (i+bl.length+1)∧(bo'=0∨bo'=1)∧val 1000000000 (l'.drop i)=val 1000000000 (al.drop i)-g*val 1000000000 bl+bo'*1000000000^(bl.length+1):=by
  intro g g0 g1
  obtain⟨l',bo',e1,e2,e3,e4,e5,e6,e7⟩:=lose_eq (p:=i) hb g0 g1 (by omega) ha hi hf
  refine⟨l',bo',e1,e2,e3,e4,e5,e6,canc ?_⟩
  have:=(win l' e2 e3 e4 e5).1
  rw[epow]at e7
  generalize (1000000000:Int)^(bl.length+1)=Y at*
  generalize (1000000000:Int)^i=Z at*
  grind
 --what is right with the true limb
 obtain⟨l1,bo1,e1,e2,e3,e4,e5,e6,e7⟩:=lose1 _ hQ0 hQ1
 have hbo1:bo1=0:=by
  rcases e6 with h|h
  ·exact h
  ·exfalso
   have:=(win l1 e2 e3 e4 e5).2.2
   rw[e7,h,Int.mul_comm _ (val 1000000000 bl)]at this
   omega
 have hl1:val 1000000000 (l1.drop i)=val 1000000000 (al.drop i)%val 1000000000 bl:=by
  rw[e7,hbo1,Int.mul_comm _ (val 1000000000 bl)];omega
 have uniq:∀l:List Int,dig 1000000000 l→l.length=al.length→l.take i=al.take i→l.drop (i+bl.length+1)=al.drop (i+bl.length+1)→val 1000000000 (l.drop i)=val 1000000000 (l1.drop i)→l=l1:=by
  intro l hd hl h1 h2 h3
  have:∀(x y:List Int),dig 1000000000 x→dig 1000000000 y→x.length=y.length→val 1000000000 x=val 1000000000 y→x=y:=by
   intro x
   induction x with
   |nil=>intro y _ _ hl _;cases y with|nil=>rfl|cons _ _=>simp at hl
   |cons a x ih=>
    intro y hx hy hl hv
    cases y with
    |nil=>simp at hl
    |cons b y=>
     have hx:=dig_cons.1 hx;have hy:=dig_cons.1 hy
     rw[vcons,vcons]at hv
     have e1:a=b:=by omega
     have e2:val 1000000000 x=val 1000000000 y:=by omega
     rw[e1,ih y hx.2 hy.2 (by simpa using hl) e2]
  refine this l l1 hd e2 (by omega) ?_
  rw[(win l hd hl h1 h2).1,(win l1 e2 e3 e4 e5).1,h3]
 refine⟨l1,e2,e3,?_,by rw[hl1];exact hr1,?_⟩
 ·have:=(win l1 e2 e3 e4 e5).1
  rw[this,hal,e7,hbo1]
  generalize val 1000000000 (al.drop i)/val 1000000000 bl*val 1000000000 bl=Q
  generalize (1000000000:Int)^i=Z
  grind
 intro k
 induction k with
 |zero=>intro g _ h;omega
 |succ k ih=>
  intro g g0 gk g1 hg1 hgQ
  unfold F178_L2
  have hT:=mul_l9 g0 g1 c0 c1
  have hU:=mul_l9 g0 g1 b0 b1
  rw[List.length_map]
  rw[wi64 (i:=(bl.length:Int)-2) (by omega) (by omega),wi64 (i:=(bl.length:Int)-1) (by omega) (by omega),wi64 (i:=(i:Int)+(bl.length:Int)) (by omega) (by omega),wi64 (i:=(i:Int)+(bl.length:Int)-2) (by omega) (by omega)]
  rw[show(bl.length:Int)-2=((bl.length-2:Nat):Int) by omega,show(bl.length:Int)-1=((bl.length-1:Nat):Int) by omega,show(i:Int)+(bl.length:Int)-2=((i+bl.length-2:Nat):Int) by omega,geti_at (l:=bl) (show bl.length-2<bl.length by omega),geti_at (l:=bl) (show bl.length-1<bl.length by omega),geti_at (l:=al) (show i+bl.length-2<al.length by omega)]
  simp only[sb]
  rw[wu64 (i:=bl[bl.length-2]) (by omega) (by omega),wu64 (i:=bl[bl.length-1]) (by omega) (by omega),wu64 (i:=al[i+bl.length]) (by omega) (by omega),wu64 (i:=al[i+bl.length-1]) (by omega) (by omega),wu64 (i:=al[i+bl.length-2]) (by omega) (by omega),wu64 (i:=g*bl[bl.length-2]) (by omega) (by omega),wu64 (i:=g*bl[bl.length-1]) (by omega) (by omega),wu64 (i:=al[i+bl.length]*1000000000) (by omega) (by omega),wu64 (i:=al[i+bl.length]*1000000000+al[i+bl.length-1]) (by omega) (by omega),wu64 (i:=al[i+bl.length]*1000000000+al[i+bl.length-1]-g*bl[bl.length-1]) (by omega) (by omega)]
  --the three upmost limbs
  have hcond:∀w:Int,(al[i+bl.length]*1000000000+al[i+bl.length-1]-g*bl[bl.length-1]<1000000000→w=(al[i+bl.length]*1000000000+al[i+bl.length-1]-g*bl[bl.length-1])*1000000000+al[i+bl.length-2])→
   (bif decide (g*bl[bl.length-2]>w) then some (decide (al[i+bl.length]*1000000000+al[i+bl.length-1]-g*bl[bl.length-1]<1000000000)) else some false)=some (decide (¬g*(bl[bl.length-1]*1000000000+bl[bl.length-2])≤(al[i+bl.length]*1000000000+al[i+bl.length-1])*1000000000+al[i+bl.length-2])):=by
   intro w hw
   have em:g*(bl[bl.length-1]*1000000000+bl[bl.length-2])=g*bl[bl.length-1]*1000000000+g*bl[bl.length-2]:=by grind
   rw[em]
   by_cases hs:al[i+bl.length]*1000000000+al[i+bl.length-1]-g*bl[bl.length-1]<1000000000
   ·rw[hw hs,decide_eq_true hs]
    by_cases hc:g*bl[bl.length-2]>(al[i+bl.length]*1000000000+al[i+bl.length-1]-g*bl[bl.length-1])*1000000000+al[i+bl.length-2]
    ·rw[decide_eq_true hc,decide_eq_true (by omega)];rfl
    ·rw[decide_eq_false hc,decide_eq_false (by omega)];rfl
   ·rw[decide_eq_false hs,decide_eq_false (show¬¬(g*bl[bl.length-1]*1000000000+g*bl[bl.length-2]≤(al[i+bl.length]*1000000000+al[i+bl.length-1])*1000000000+al[i+bl.length-2]) by omega)]
    cases decide (g*bl[bl.length-2]>w)<;>rfl
  rw[hcond _ (fun hs=>by rw[wu64 (i:=(al[i+bl.length]*1000000000+al[i+bl.length-1]-g*bl[bl.length-1])*1000000000) (by omega) (by omega),wu64 (by omega) (by omega)])]
  simp only[sb]
  by_cases hd:g*(bl[bl.length-1]*1000000000+bl[bl.length-2])≤(al[i+bl.length]*1000000000+al[i+bl.length-1])*1000000000+al[i+bl.length-2]
  ·rw[decide_eq_false (by simpa using hd)]
   simp only[cond_false]
   have hle:=guess_hi eA eb hX lo0 lo1 lb0 lb1 g0 g1 (by omega) hd
   rw[ass_t (by simp;omega)]
   rw[show 0+Int.toNat (i:Int)=i by omega]
   have hqg:geti ql (i:Int)=some ql[i]:=geti_at hq
   by_cases hgq:g=val 1000000000 (al.drop i)/val 1000000000 bl
   ·rw[hgq,e1,sb]
    dsimp only
    rw[hbo1]
    simp only[show decide ((0:Int)>0)=false from rfl,cond_false]
    simp only[hqg,sb]
    rw[wu32 (by omega) (by omega),wip i (by omega)]
   ·have hgq1:g=val 1000000000 (al.drop i)/val 1000000000 bl+1:=by omega
    obtain⟨l2,bo2,f1,f2,f3,f4,f5,f6,f7⟩:=lose1 g g0 g1
    have hmul:g*val 1000000000 bl=val 1000000000 bl*(val 1000000000 (al.drop i)/val 1000000000 bl)+val 1000000000 bl:=by
     rw[hgq1];generalize val 1000000000 (al.drop i)/val 1000000000 bl=Q;grind
    have hbo2:bo2=1:=by
     rcases f6 with h|h
     ·exfalso
      have:=(win l2 f2 f3 f4 f5).2.1
      rw[f7,h,hmul]at this
      omega
     ·exact h
    rw[f1,sb]
    dsimp only
    rw[hbo2]
    simp only[show decide ((1:Int)>0)=true from rfl,cond_true]
    rw[ass_t (by simp;omega)]
    obtain⟨l3,c3,g1',g2,g3,g4,g5,g6,g7⟩:=gain_eq (fuel:=fuel) (p:=i) hb (by omega) f2 (by omega) hf
    have hl3:l3=l1:=by
     refine uniq l3 g2 (by omega) (by rw[g4,f4]) (by rw[g5,f5]) ?_
     have h3:=win l3 g2 (by omega) (by rw[g4,f4]) (by rw[g5,f5])
     have h2:=win l2 f2 f3 f4 f5
     have hv:val 1000000000 (l3.drop i)=val 1000000000 (l2.drop i)+val 1000000000 bl-c3*1000000000^(bl.length+1):=by
      refine canc ?_
      have h3':=h3.1;have h2':=h2.1
      rw[epow]at g7
      generalize (1000000000:Int)^(bl.length+1)=Y at*
      generalize (1000000000:Int)^i=Z at*
      grind
     rw[hl1]
     rw[f7,hbo2,hmul]at hv
     rcases g6 with h|h<;>rw[h]at hv<;>omega
    simp only[g1',sb,hl3,hqg]
    rw[wu64 (i:=g-1) (by omega) (by omega),wu32 (i:=g-1) (by omega) (by omega),wip i (by omega),hgq1,show val 1000000000 (al.drop i)/val 1000000000 bl+1-1=val 1000000000 (al.drop i)/val 1000000000 bl by omega]
  ·rw[decide_eq_true hd]
   simp only[cond_true]
   have hlt:=guess_lo eA eb hX lo1 lb0 g0 hbp (show _<g*_ by omega)
   have hm:(g-1)*bl[bl.length-1]=g*bl[bl.length-1]-bl[bl.length-1]:=by grind
   rw[wu64 (i:=g-1) (by omega) (by omega)]
   exact ih (g-1) (by omega) (by omega) (by omega) (by omega) (by omega)
end Go.Proofs.YtfgbhfphjmmiaaaGreatDoor
end
section
namespace Go.Proofs.YtfgbhfphjmmiaaaGreatDoor
open Go Go.RowKit Kx
set_option maxRecDepth 100000
set_option maxHeartbeats 4000000 in
theorem div_L1{fuel:Nat}{bl:List Int}{y4 V u:Int}(hb:dig 1000000000 bl)(hn:2≤bl.length)(hb1:0<bl[bl.length-1])(hy0:0≤y4)(hy1:y4<1000000000)(hu:u=1000000000/(y4+1))(hu0:0<u)(hu1:u<1000000000):
 ∀(m k:Nat) (ql al:List Int),m<k→al.length+1000000000<fuel→dig 1000000000 al→dig 1000000000 ql→al.length≤1073741824→m+bl.length≤al.length→ql.length≤1073741824→m≤ql.length→ql.take m=List.replicate m 0→val 1000000000 (al.drop m)<val 1000000000 bl→val 1000000000 bl*val 1000000000 ql+val 1000000000 al=V→
 ∃q r,F178_L1 fuel bl y4 k ((m:Int)-1) ql al=some (q,r)∧dig 1000000000 q∧dig 1000000000 r∧q.length=ql.length∧r.length≤al.length∧val 1000000000 q=V/val 1000000000 bl∧val 1000000000 r=V%val 1000000000 bl/u
 |0,0,_,_,h,_,_,_,_,_,_,_,_,_,_=>absurd h (by omega)
 |m+1,0,_,_,h,_,_,_,_,_,_,_,_,_,_=>absurd h (by omega)
 |0,k+1,ql,al,_,hf,ha,hq,hal,hl,hql,_,_,hA,hV=>by
  rw[List.drop_zero]at hA
  unfold F178_L1
  rw[decide_eq_false (by omega)]
  simp only[cond_false]
  rw[List.length_map,slc_n (by omega),sb]
  have hz:=top_zero ha (n:=bl.length) (by omega) (Int.lt_trans hA (vlt hb))
  have hv:val 1000000000 (al.take bl.length)=val 1000000000 al:=by rw[val_at al bl.length (by omega),hz];omega
  have hv0:=vnn ha
  rw[whole_eq (dig_take ha _) (by rw[List.length_take];omega) (by rw[List.length_take];omega),sb,hv,W_sg hv0]
  dsimp only
  rw[wu64 (i:=y4) (by omega) (by omega),wu64 (i:=y4+1) (by omega) (by omega),(tdm (show(0:Int)≤1000000000 by decide)).1,←hu,wu64 (by omega) (by omega),wu32 (by omega) (by omega)]
  have hlen:(dg 1000000000 (val 1000000000 al)).length≤al.length:=dg_len_le hB1 (vlt ha)
  obtain⟨q,e1,e2,e3,e4⟩:=short_eq (fuel:=fuel) (dig_dg hB1 _ hv0) (by omega) hu0 hu1 (by omega)
  rw[e1,sb]
  have hpos:0<val 1000000000 bl:=by omega
  have d1:V/val 1000000000 bl=val 1000000000 ql:=by rw[←hV,Int.mul_add_ediv_left _ _ (by omega),Int.ediv_eq_zero_of_lt hv0 hA];omega
  have d2:V%val 1000000000 bl=val 1000000000 al:=by rw[←hV,Int.mul_add_emod_self_left];exact Int.emod_eq_of_lt hv0 hA
  exact⟨ql,q,rfl,hq,e2,rfl,by omega,d1.symm,by rw[e4,val_dg hB1 _ hv0,d2]⟩
 |m+1,k+1,ql,al,hk,hf,ha,hq,hal,hl,hql,hmq,hz,hA,hV=>by
  unfold F178_L1
  rw[show(((m+1:Nat):Int)-1)=(m:Int) by omega,decide_eq_true (by omega)]
  simp only[cond_true]
  obtain⟨al',e1,e2,e3,e4,e5⟩:=limb (fuel:=fuel) (rec_:=F178_L1 fuel bl y4 k) (ql:=ql) (i:=m) (by omega) ha hb hn (by omega) hal (by omega) hA hb1
  obtain⟨t0,t1⟩:=dig9 ha (show m+bl.length<al.length by omega)
  obtain⟨s0,s1⟩:=dig9 ha (show m+bl.length-1<al.length by omega)
  obtain⟨c0,c1⟩:=dig9 hb (show bl.length-1<bl.length by omega)
  obtain⟨X,lo,lob,hX,lo0,lo1,lb0,lb1,eb,eA,ez,hAB⟩:=place ha hb hn (show m+bl.length<al.length by omega) hA
  rw[List.length_map,wi64 (i:=(m:Int)+(bl.length:Int)) (by omega) (by omega),wi64 (i:=(m:Int)+(bl.length:Int)-1) (by omega) (by omega),wi64 (i:=(bl.length:Int)-1) (by omega) (by omega)]
  rw[show(m:Int)+(bl.length:Int)=((m+bl.length:Nat):Int) by omega,show((m+bl.length:Nat):Int)-1=((m+bl.length-1:Nat):Int) by omega,show(bl.length:Int)-1=((bl.length-1:Nat):Int) by omega,geti_at (show m+bl.length<al.length by omega),geti_at (show m+bl.length-1<al.length by omega),geti_at (show bl.length-1<bl.length by omega)]
  simp only[sb]
  have hT0:0≤al[m+bl.length]*1000000000+al[m+bl.length-1]:=by omega
  have hg0:0≤(al[m+bl.length]*1000000000+al[m+bl.length-1])/bl[bl.length-1]:=Int.ediv_nonneg hT0 (by omega)
  have hg1:(al[m+bl.length]*1000000000+al[m+bl.length-1])/bl[bl.length-1]≤al[m+bl.length]*1000000000+al[m+bl.length-1]:=Int.ediv_le_self _ hT0
  rw[wu64 (i:=bl[bl.length-1]) (by omega) (by omega),ass_t (by simp;omega),wu64 (i:=al[m+bl.length]) (by omega) (by omega),wu64 (i:=al[m+bl.length-1]) (by omega) (by omega),wu64 (i:=al[m+bl.length]*1000000000) (by omega) (by omega),wu64 (i:=al[m+bl.length]*1000000000+al[m+bl.length-1]) (by omega) (by omega),(tdm hT0).1,wu64 hg0 (by omega)]
  have hbp:0<val 1000000000 bl:=by
   have:=Int.mul_le_mul_of_nonneg_right (show 1≤bl[bl.length-1]*1000000000+bl[bl.length-2] by have:=(dig9 hb (show bl.length-2<bl.length by omega)).1;omega) (Int.le_of_lt hX)
   omega
  have hA0:=vnn (dig_drop ha m)
  have hQ0:0≤val 1000000000 (al.drop m)/val 1000000000 bl:=Int.ediv_nonneg hA0 (by omega)
  have hQ1:val 1000000000 (al.drop m)/val 1000000000 bl<1000000000:=Int.ediv_lt_of_lt_mul hbp (by rw[Int.mul_comm];exact hAB)
  have hfirst:val 1000000000 (al.drop m)/val 1000000000 bl≤(al[m+bl.length]*1000000000+al[m+bl.length-1])/bl[bl.length-1]:=by
   refine guess_first (al2:=al[m+bl.length-2]*X+lo) (Y:=1000000000*X) ?_ ?_ (by omega) ?_ (by omega) hA0
   ·rw[eA];grind
   ·have:=Int.mul_le_mul_of_nonneg_right (show al[m+bl.length-2]≤999999999 by have:=(dig9 ha (show m+bl.length-2<al.length by omega)).2;omega) (Int.le_of_lt hX)
    omega
   ·rw[eb]
    have:=Int.mul_nonneg (dig9 hb (show bl.length-2<bl.length by omega)).1 (Int.le_of_lt hX)
    have e:(bl[bl.length-1]*1000000000+bl[bl.length-2])*X=bl[bl.length-1]*(1000000000*X)+bl[bl.length-2]*X:=by grind
    omega
  have hmul:=Int.ediv_mul_le (al[m+bl.length]*1000000000+al[m+bl.length-1]) (show bl[bl.length-1]≠0 by omega)
  have hgl:∀g:Int,g=(bif decide (999999999<(al[m+bl.length]*1000000000+al[m+bl.length-1])/bl[bl.length-1]) then 999999999 else(al[m+bl.length]*1000000000+al[m+bl.length-1])/bl[bl.length-1])→0≤g∧g<1000000000∧g*bl[bl.length-1]≤al[m+bl.length]*1000000000+al[m+bl.length-1]∧val 1000000000 (al.drop m)/val 1000000000 bl≤g:=by
   intro g hg
   by_cases hc:999999999<(al[m+bl.length]*1000000000+al[m+bl.length-1])/bl[bl.length-1]
   ·rw[decide_eq_true hc]at hg
    simp only[cond_true]at hg
    have:=Int.mul_le_mul_of_nonneg_right (show g≤(al[m+bl.length]*1000000000+al[m+bl.length-1])/bl[bl.length-1] by omega) c0
    exact⟨by omega,by omega,by omega,by omega⟩
   ·rw[decide_eq_false hc]at hg
    simp only[cond_false]at hg
    rw[hg]
    exact⟨by omega,by omega,hmul,hfirst⟩
  obtain⟨g0,g1,g2,g3⟩:=hgl _ rfl
  rw[e5 fuel _ g0 (by omega) g1 g2 g3]
  have hqm:ql[m]=0:=by
   have:=congrArg (fun l=>l[m]?) hz
   simp only[List.getElem?_take_of_lt (show m<m+1 by omega)]at this
   rw[List.getElem?_eq_getElem (by omega),List.getElem?_replicate,if_pos (by omega)]at this
   exact Option.some.inj this
  obtain⟨q,r,f1,f2,f3,f4,f5,f6,f7⟩:=div_L1 (fuel:=fuel) (V:=V) hb hn hb1 hy0 hy1 hu hu0 hu1 m k (ql.set m (val 1000000000 (al.drop m)/val 1000000000 bl)) al' (by omega) (by omega) e1 (dig_set hq _ ⟨hQ0,hQ1⟩) (by omega) (by omega) (by simpa using hql) (by simp;omega) (by
   rw[List.take_set_of_le (Nat.le_refl _)]
   have:=congrArg (List.take m) hz
   rw[List.take_take,Nat.min_eq_left (by omega),List.take_replicate,Nat.min_eq_left (by omega)]at this
   exact this) e4 (by
   rw[val_set _ _ (by omega),e3,hqm,←hV]
   generalize val 1000000000 (al.drop m)/val 1000000000 bl=Q
   generalize (1000000000:Int)^m=Z
   grind)
  exact⟨q,r,f1,f2,f3,by simpa using f4,by omega,f6,f7⟩
theorem dg1{y:Int}(h0:0<y)(h1:y<1000000000):dg 1000000000 y=[y]:=by
 have:=dg_cons hB1 (x:=y) (v:=0) ⟨by omega,h1⟩ (Int.le_refl _) (by omega)
 rw[Int.mul_zero,Int.add_zero]at this
 rw[this,dg_zero (Int.le_refl _)]
set_option maxHeartbeats 4000000 in
theorem divided_eq{fuel:Nat}{a b:Int}(ha:0≤a)(hb:0<b)(hla:(dg 1000000000 a).length≤1073741820)(hlb:(dg 1000000000 b).length≤1073741820)(hf:(dg 1000000000 a).length+(dg 1000000000 b).length+1000000010<fuel):
 ∃q r,F178 fuel (dg 1000000000 a) (dg 1000000000 b)=some (q,r)∧dig 1000000000 q∧dig 1000000000 r∧q.length≤(dg 1000000000 a).length+1∧r.length≤(dg 1000000000 a).length+1∧val 1000000000 q=a/b∧val 1000000000 r=a%b:=by
 have da:=dig_dg hB1 a ha
 have db:=dig_dg hB1 b (by omega)
 have va:=val_dg hB1 a ha
 have vb:=val_dg hB1 b (by omega)
 unfold F178
 rw[compare_eq ha (by omega) (by omega) (by omega) (by omega),sb]
 by_cases hab:a<b
 ·rw[cmpI_lt hab]
  refine⟨[],dg 1000000000 a,rfl,dig_nil,da,by simp,by omega,?_,?_⟩
  ·rw[Int.ediv_eq_zero_of_lt ha hab];rfl
  ·rw[va,Int.emod_eq_of_lt ha hab]
 ·have h0:decide (cmpI a b<0)=false:=by
   apply decide_eq_false
   unfold cmpI
   rw[if_neg hab]
   split<;>omega
  rw[h0]
  simp only[cond_false]
  rw[List.length_map]
  have hbne:=dg_ne hB1 hb
  have hbl:=List.length_pos_iff.2 hbne
  by_cases h1:(dg 1000000000 b).length=1
  ·rw[show(((dg 1000000000 b).length:Int)==1)=true by rw[h1];rfl]
   simp only[cond_true]
   have hb9:b<1000000000:=by
    have:=dg_lt hB1 (show 0≤b by omega)
    rw[h1]at this;simpa using this
   rw[dg1 hb hb9]
   rw[show geti [b] 0=some b from rfl,sb]
   obtain⟨q,e1,e2,e3,e4⟩:=short_eq (fuel:=fuel) da (by omega) hb hb9 (by omega)
   rw[e1,sb]
   rw[va]at e4
   have hr0:=Int.emod_nonneg a (show b≠0 by omega)
   have hr1:=Int.emod_lt_of_pos a hb
   refine⟨q,[a%b],by rw[va],e2,dig_cons.2 ⟨⟨hr0,by omega⟩,dig_nil⟩,by omega,by simp,e4,by simp[val]⟩
  ·rw[show(((dg 1000000000 b).length:Int)==1)=false by simp;omega]
   simp only[cond_false]
   obtain⟨l0,y4,el,hy0,hy1⟩:=dg_last hB1 hb
   have hl0:(dg 1000000000 b).length=l0.length+1:=by rw[el];simp
   have hg:geti (dg 1000000000 b) (((dg 1000000000 b).length:Int)-1)=some y4:=by
    rw[show((dg 1000000000 b).length:Int)-1=((l0.length:Nat):Int) by omega,geti_k,el];simp
   have hu0:0<1000000000/(y4+1):=by
    have:=Int.le_ediv_of_mul_le (show 0<y4+1 by omega) (show 1*(y4+1)≤1000000000 by omega)
    omega
   have hu1:1000000000/(y4+1)<1000000000:=Int.ediv_lt_of_lt_mul (by omega) (by omega)
   have huy:=Int.ediv_mul_le 1000000000 (show y4+1≠0 by omega)
   rw[wi64 (i:=((dg 1000000000 b).length:Int)-1) (by omega) (by omega),hg]
   simp only[sb]
   rw[wu64 (i:=y4) (by omega) (by omega),wu64 (i:=y4+1) (by omega) (by omega),ass_t (by simp;omega),(tdm (show(0:Int)≤1000000000 by decide)).1,wu64 (i:=1000000000/(y4+1)) (by omega) (by omega),wu32 (i:=1000000000/(y4+1)) (by omega) (by omega)]
   rw[scaleda_eq]
   obtain⟨u,hu⟩:∃u,u=1000000000/(y4+1):=⟨_,rfl⟩
   rw[←hu]at hu0 hu1 huy⊢
   obtain⟨al,p1,p2,p3,p4⟩:=scaled_eq (fuel:=fuel) da (by omega) (by omega) hu1 (by omega)
   obtain⟨bl',r1,r2,r3,r4⟩:=scaled_eq (fuel:=fuel) db (by omega) (by omega) hu1 (by omega)
   rw[p1,sb,r1,sb,List.length_map,slc_n (by omega),sb]
   rw[va]at p4;rw[vb]at r4
   --the divisor,scaled:its upmost limb is 0
   have hbU:b<(y4+1)*1000000000^l0.length:=by
    have h1:=vb
    rw[el,val_app]at h1
    have h2:=val_lt (show(0:Int)<1000000000 by decide) (dig_app.1 (el▸db)).1
    have h3:val 1000000000 [y4]=y4:=by simp[val]
    rw[h3]at h1
    have h4:(y4+1)*1000000000^l0.length=1000000000^l0.length*y4+1000000000^l0.length:=by grind
    omega
   have hbuP:b*u<1000000000^(dg 1000000000 b).length:=by
    have h1:=Int.mul_lt_mul_of_pos_right hbU hu0
    have h2:=Int.mul_le_mul_of_nonneg_right huy (Int.le_of_lt (p9 l0.length))
    have h3:(y4+1)*1000000000^l0.length*u=u*(y4+1)*1000000000^l0.length:=by grind
    rw[hl0,Int.pow_succ]
    have h4:(1000000000:Int)^l0.length*1000000000=1000000000*1000000000^l0.length:=by grind
    omega
   have hbL:1000000000^l0.length≤b:=by
    have:=dg_ge hB1 hb
    rwa [hl0,Nat.add_sub_cancel]at this
   have hbz:=top_zero r2 (n:=(dg 1000000000 b).length) (by omega) (by rw[r4];exact hbuP)
   have hvb:val 1000000000 (bl'.take (dg 1000000000 b).length)=b*u:=by
    rw[←r4,val_at bl' (dg 1000000000 b).length (by omega),hbz];omega
   obtain⟨bl,ebl⟩:∃bl,bl=bl'.take (dg 1000000000 b).length:=⟨_,rfl⟩
   rw[←ebl]at hvb⊢
   have hbll:bl.length=(dg 1000000000 b).length:=by rw[ebl,List.length_take];omega
   have hbld:dig 1000000000 bl:=by rw[ebl];exact dig_take r2 _
   have hbu:b≤b*u:=by
    have:=Int.mul_le_mul_of_nonneg_left (show 1≤u by omega) (show 0≤b by omega)
    omega
   have hb1:0<bl[bl.length-1]'(by omega):=by
    have e1:=val_at bl (bl.length-1) (by omega)
    have e2:=vdrop (l:=bl) (i:=bl.length-1) (by omega)
    have e3:=vdrop0 (l:=bl) (i:=bl.length-1+1) (by omega)
    have e4:=vtl hbld (bl.length-1) (by omega)
    have e5:=(dig9 hbld (show bl.length-1<bl.length by omega)).1
    by_cases h0:bl[bl.length-1]'(by omega)=0
    ·exfalso
     rw[h0,e3]at e2
     rw[e2,hvb]at e1
     rw[show bl.length-1=l0.length by omega]at e1 e4
     omega
    ·omega
   have hla0:(dg 1000000000 b).length≤(dg 1000000000 a).length:=by
    rcases Nat.lt_or_ge (dg 1000000000 a).length (dg 1000000000 b).length with h|h
    ·have:=dg_len_lt hB1 ha (show 0≤b by omega) h;omega
    ·exact h
   rw[List.length_map,wi64 (by omega) (by omega),show(al.length:Int)-(bl.length:Int)=((al.length-bl.length:Nat):Int) by omega,mkL_n (by omega),sb,wip _ (by omega)]
   obtain⟨q,r,f1,f2,f3,f4,f5,f6,f7⟩:=div_L1 (fuel:=fuel) (V:=a*u) hbld (by omega) hb1 (by omega) hy1 hu hu0 hu1 (al.length-bl.length) fuel (List.replicate (al.length-bl.length) 0) al (by omega) (by omega) p2 (dig_zeros (by decide) _) (by omega) (by omega) (by simp;omega) (by simp) (by simp) (by
    --the upmost limbs are less than the divisor
    have e1:=val_at al (al.length-bl.length) (by omega)
    have e2:=vnn (dig_take p2 (al.length-bl.length))
    have e3:=dg_lt hB1 ha
    have e5:=Int.mul_lt_mul_of_pos_right e3 hu0
    have e6:(1000000000:Int)^(dg 1000000000 a).length=1000000000^(al.length-bl.length)*1000000000^l0.length:=by rw[←Int.pow_add];congr 1;omega
    have e7:=Int.mul_le_mul_of_nonneg_right hbL (Int.le_of_lt hu0)
    rw[hvb]
    have e8:1000000000^(al.length-bl.length)*val 1000000000 (al.drop (al.length-bl.length))<1000000000^(al.length-bl.length)*(1000000000^l0.length*u):=by
     rw[e6]at e5
     have:(1000000000:Int)^(al.length-bl.length)*1000000000^l0.length*u=1000000000^(al.length-bl.length)*(1000000000^l0.length*u):=Int.mul_assoc ..
     omega
    have e9:=Int.lt_of_mul_lt_mul_left e8 (Int.le_of_lt (p9 _))
    omega) (by rw[val_zeros,p4];omega)
   rw[f1]
   refine⟨q,r,rfl,f2,f3,by simp at f4;omega,by omega,?_,?_⟩
   ·rw[f6,hvb,Int.mul_ediv_mul_of_pos_left _ _ hu0]
   ·rw[f7,hvb,Int.mul_comm a u,Int.mul_comm b u,Int.mul_emod_mul_of_pos _ _ hu0,Int.mul_comm u,Int.mul_ediv_cancel _ (by omega)]
end Go.Proofs.YtfgbhfphjmmiaaaGreatDoor
end
