/- SandwichKnown holds: whatever the input, the call returns true, and what came in reads as it did. No condition. -/
import Derived.Test.YtdlnalepibeibaaGreatDoorRows
import Derived.Test.YtdlnalepibeibaaGreatDoorTie
import Derived.Test.YtdlnalepibeibaaGreatDoorCards
import Derived.WalkKit
import Derived.ShutString
import Derived.ChangeOld
import Derived.Test.YtdlnalepibeibaaGreatDoorSkd
section
set_option linter.unusedVariables false
set_option maxRecDepth 100000
namespace Go.Proofs.YtdlnalepibeibaaGreatDoor
open Go Go.RowKit Kx
section
theorem Dq8:A8 Tryz.prog 33:=Kx.A6 Tryz.func33 (by kernel_rfl) (by kernel_rfl)
theorem Dq7:A8 Tryz.prog 32:=Kx.A6 Tryz.func32 (by kernel_rfl) (by kernel_rfl)
theorem Dk9:A8 Tryz.prog 12:=Kx.A6 Tryz.func12 (by kernel_rfl) (by kernel_rfl)
theorem Eg8:A8 Tryz.prog 34:=Kx.A6 Tryz.func34 (by kernel_rfl) (by kernel_rfl)
theorem Eh5:A8 Tryz.prog 77:=Kx.A6 Tryz.func77 (by kernel_rfl) (by kernel_rfl)
theorem Db5:A8 Tryz.prog 183:=Kx.A6 Tryz.func183 (by kernel_rfl) (by kernel_rfl)
theorem Db2:A8 Tryz.prog 133:=Kx.A6 Tryz.func133 (by kernel_rfl) (by kernel_rfl)
theorem Dy9:A8 Tryz.prog 132:=Kx.A6 Tryz.func132 (by kernel_rfl) (by kernel_rfl)
theorem Dl1:A8 Tryz.prog 131:=Kx.A6 Tryz.func131 (by kernel_rfl) (by kernel_rfl)
theorem El9:A8 Tryz.prog 75:=Kx.A6 Tryz.func75 (by kernel_rfl) (by kernel_rfl)
theorem Dz0:A8 Tryz.prog 134:=Kx.A6 Tryz.func134 (by kernel_rfl) (by kernel_rfl)
theorem Dl2:A8 Tryz.prog 135:=Kx.A6 Tryz.func135 (by kernel_rfl) (by kernel_rfl)
theorem Eh4:A8 Tryz.prog 76:=Kx.A6 Tryz.func76 (by kernel_rfl) (by kernel_rfl)
theorem Eg9:A8 Tryz.prog 38:=Kx.A6 Tryz.func38 (by kernel_rfl) (by kernel_rfl)
theorem Dg3:A8 Tryz.prog 78:=Kx.A6 Tryz.func78 (by kernel_rfl) (by kernel_rfl)
theorem Dz1:A8 Tryz.prog 138:=Kx.A6 Tryz.func138 (by kernel_rfl) (by kernel_rfl)
theorem Dz5:A8 Tryz.prog 159:=Kx.A6 Tryz.func159 (by kernel_rfl) (by kernel_rfl)
theorem Dl9:A8 Tryz.prog 187:=Kx.A6 Tryz.func187 (by kernel_rfl) (by kernel_rfl)
theorem Eh2:A8 Tryz.prog 65:=Kx.A6 Tryz.func65 (by kernel_rfl) (by kernel_rfl)
theorem Db7:A8 Tryz.prog 186:=Kx.A6 Tryz.func186 (by kernel_rfl) (by kernel_rfl)
theorem Dl3:A8 Tryz.prog 137:=Kx.A6 Tryz.func137 (by kernel_rfl) (by kernel_rfl)
theorem Ea4:A8 Tryz.prog 188:=Kx.A6 Tryz.func188 (by kernel_rfl) (by kernel_rfl)
theorem Dz2:A8 Tryz.prog 139:=Kx.A6 Tryz.func139 (by kernel_rfl) (by kernel_rfl)
theorem Eh6:A8 Tryz.prog 79:=Kx.A6 Tryz.func79 (by kernel_rfl) (by kernel_rfl)
theorem Dr0:A8 Tryz.prog 41:=Kx.A6 Tryz.func41 (by kernel_rfl) (by kernel_rfl)
theorem Eh0:A8 Tryz.prog 39:=Kx.A6 Tryz.func39 (by kernel_rfl) (by kernel_rfl)
theorem Dl4:A8 Tryz.prog 14:=Kx.A6 Tryz.func14 (by kernel_rfl) (by kernel_rfl)
theorem Dq6:A8 Tryz.prog 30:=Kx.A6 Tryz.func30 (by kernel_rfl) (by kernel_rfl)
theorem Cc8:A8 Tryz.prog 15:=Kx.A6 Tryz.func15 (by kernel_rfl) (by kernel_rfl)
theorem El3:A8 Tryz.prog 11:=Kx.A6 Tryz.func11 (by kernel_rfl) (by kernel_rfl)
theorem El5:A8 Tryz.prog 35:=Kx.A6 Tryz.func35 (by kernel_rfl) (by kernel_rfl)
theorem El6:A8 Tryz.prog 37:=Kx.A6 Tryz.func37 (by kernel_rfl) (by kernel_rfl)
theorem Em0:A8 Tryz.prog 80:=Kx.A6 Tryz.func80 (by kernel_rfl) (by kernel_rfl)
theorem El7:A8 Tryz.prog 40:=Kx.A6 Tryz.func40 (by kernel_rfl) (by kernel_rfl)
theorem Cq6:A8 Tryz.prog 13:=Kx.A6 Tryz.func13 (by kernel_rfl) (by kernel_rfl)
theorem El4:A8 Tryz.prog 16:=Kx.A6 Tryz.func16 (by kernel_rfl) (by kernel_rfl)
def F33(d0:Int)(d1:Int):Option A2:=
 some (⟨[],[48],[(⟨d0,[49,47,50]⟩:B5),(⟨d1,[49,47,50]⟩:B5)]⟩:A2)
theorem Bk9{d0:Int}{d1:Int}{r:A2}(hF:F33 d0 d1=some r):
 C3 Tryz.prog 33 [.i d0,.i d1] (.agg [.s r.Act,.s r.Gain,.l 2 r.Next A7]):=by
 unfold F33 at hF
 refine cf 11 Tryz.func33 ?_
 cases hF
 exact jr 14
def F32(d0:Int):Option A2:=
 some (⟨[],[48],[(⟨d0,[49]⟩:B5)]⟩:A2)
theorem Bk8{d0:Int}{r:A2}(hF:F32 d0=some r):
 C3 Tryz.prog 32 [.i d0] (.agg [.s r.Act,.s r.Gain,.l 2 r.Next A7]):=by
 unfold F32 at hF
 refine cf 7 Tryz.func32 ?_
 cases hF
 exact jr 12
def F12:Option B6:=
 Option.bind (mkL 3 3 0) fun l2=>
 Option.bind (F33 0 1) fun y5=>
 Option.bind (F32 0) fun y6=>
 Option.bind (F33 1 2) fun y7=>
 Option.bind (F32 2) fun y8=>
 some (⟨l2,[[y5,y6],[y7],[y8]]⟩:B6)
theorem Dg9{r:B6}(hF:F12=some r):
 C3 Tryz.prog 12 [] (.agg [.l 1 r.Owner B1,.l 1 r.Choices A0]):=by
 unfold F12 at hF
 refine cf 17 Tryz.func12 ?_
 refine jd 13 ?_
 obtain⟨l2,e6,hF⟩:=bnd hF
 refine do2 0 (mm (f:=B1) e6) ?_
 refine dB 1 hF Dq8 Bk9 fun y5 hF=> ?_
 refine dB 1 hF Dq7 Bk8 fun y6 hF=> ?_
 refine dB 2 hF Dq8 Bk9 fun y7 hF=> ?_
 refine dB 2 hF Dq7 Bk8 fun y8 hF=> ?_
 refine je 4 ?_
 cases hF
 exact jr 0
structure B0 where
 Model:B6
 target:Int
 most:Bool
 zero:Int
 blocks:List Int
 deriving DecidableEq
def D4(x:Int):List Dat:=[.int .u64 x]
def As3(d0:A2)(d1:Int):Nat→Int→Option Bool
 |0,_=>none
 |nL1+1,v2=>
  bif decide (v2<((d0.Next.map A7).length:Int)) then
   (Option.bind (D6 d0.Next v2) fun y3=>
   ass (decide (0≤y3.To))<|
   bif (IntKind.u64.wrap (BitVec.ofInt IntKind.u64.bits (Int.fdiv d1 (2^(min (Int.toNat y3.To) IntKind.u64.bits)))&&&BitVec.ofInt IntKind.u64.bits 1).toNat)==0 then
    (some false)
   else
    ((As3 d0 d1 nL1) (IntKind.i64.wrap (v2+1))))
  else
   (some true)
def De9(fuel:Nat)(d0:A2)(d1:Int):Option Bool:=
 As3 d0 d1 fuel 0
noncomputable abbrev Ef3:=C1 Tryz.f183
abbrev Ei6(r:Bool):=J none Tryz.prog 21 [] (L3 Tryz.prog Tryz.f183 (.b r))
theorem Be5{fuel:Nat}{d0:A2}{d1:Int}{r:Bool}(hF:De9 fuel d0 d1=some r):
 C3 Tryz.prog 183 [.agg [.s d0.Act,.s d0.Gain,.l 2 d0.Next A7],.n d1] (.b r):=by
 unfold De9 at hF
 refine cf 21 Tryz.func183 ?_
 have hL1:∀(nL1:Nat) (v2:Int),As3 d0 d1 nL1 v2=some r→Ei6 r ⟨mkT [(1,.n d1),(8,.l 2 d0.Next A7),(9,.i ((d0.Next.map A7).length:Int)),(10,.i v2)],[],[kL Ef3 [1,0,1,0,0],.inBlock 0,kC Ef3 [1,1]]⟩:=by
  clear hF;intro nL1
  induction nL1 with
  |zero=>intro v2 hF;cases hF
  |succ nL1 iL1=>
   intro v2 hF
   rw[As3]at hF
   refine jI 6 11 hF ?_ ?_<;>intro hF
   ·obtain⟨y3,e3,hF⟩:=bnd hF
    refine jo1 6 (gm (f:=A7) e3) ?_
    obtain⟨hb8,hF⟩:=N1 hF
    refine jo1 9 (ck hb8) ?_
    refine jI 3 19 hF ?_ ?_<;>intro hF
    ·cases hF
     exact jr 5
    ·exact ja 7 (iL1 _ hF)
   ·cases hF
    exact jr 6
 exact ja 15 (hL1 _ _ hF)
def Bw7(v6:Int)(cL1:Int→Int→Option Int)(v7:Int):Option Int:=
 cL1 v7 (IntKind.i64.wrap (v6+1))
def Bw8(fuel:Nat)(d7:Int)(y1:List A2):Nat→Int→Int→Option Int
 |0,_,_=>none
 |nL1+1,v5,v6=>
  bif decide (v6<((y1.map B4).length:Int)) then
   (Option.bind (D6 y1 v6) fun y12=>
   Option.bind (De9 fuel y12 d7) fun y13=>
   bif y13 then
    (Bw7 v6 (Bw8 fuel d7 y1 nL1) (IntKind.i64.wrap (v5+1)))
   else
    (Bw7 v6 (Bw8 fuel d7 y1 nL1) v5))
  else
   (some v5)
noncomputable abbrev Dk2:=C1 Tryz.f133
noncomputable abbrev Am8:=C1 Tryz.f131
def Dp7(d0:List Int)(d1:List (List A2))(d2:Int)(d3:Bool)(d4:Int):Option Int:=
 ass (decide (0≤((d0.map B1).length:Int)))<|
 some (IntKind.u64.wrap ((IntKind.u64.wrap (1*2^(min (Int.toNat ((d0.map B1).length:Int)) IntKind.u64.bits)))-1))
theorem Bz1{d0:List Int}{d1:List (List A2)}{d2:Int}{d3:Bool}{d4:Int}{r:Int}(hF:Dp7 d0 d1 d2 d3 d4=some r):
 F4 Tryz.prog 77 [(2000,.box 139 [.l 1 d0 B1,.l 1 d1 A0,.n d2,.b d3,.n d4,.esl 1])] [.ptr 2000 0] [(2000,.box 139 [.l 1 d0 B1,.l 1 d1 A0,.n d2,.b d3,.n d4,.esl 1])] (.n r):=by
 unfold Dp7 at hF
 refine cr 11 Tryz.func77 ?_
 obtain⟨hb1,hF⟩:=N1 hF
 refine jo1 12 (ck hb1) ?_
 cases hF
 exact jrr 3
def Af7(v6:Int)(cL1:Int→Int→Option Int)(v7:Int):Option Int:=
 cL1 v7 (IntKind.i64.wrap (v6+1))
def U7(fuel:Nat)(d1:Int)(y1:List A2):Nat→Int→Int→Option Int
 |0,_,_=>none
 |nL1+1,v5,v6=>
  bif decide (v6<((y1.map B4).length:Int)) then
   (Option.bind (D6 y1 v6) fun y12=>
   Option.bind (De9 fuel y12 d1) fun y13=>
   bif y13 then
    (Af7 v6 (U7 fuel d1 y1 nL1) (IntKind.i64.wrap (v5+1)))
   else
    (Af7 v6 (U7 fuel d1 y1 nL1) v5))
  else
   (some v5)
def Bw9(fuel:Nat)(d0:Int)(d1:Int)(d2:List Int)(d3:List (List A2))(d4:Int)(d5:Bool)(d6:Int):Option Int:=
 Option.bind (D6 d3 d0) fun y1=>
 U7 fuel d1 y1 fuel 0 0
abbrev Di7(d2:List Int)(d3:List (List A2))(d4:Int)(d5:Bool)(d6:Int)(r:Int):=J none Tryz.prog 30 [] (Bd8 Tryz.prog Tryz.f133 [(2000,.box 139 [.l 1 d2 B1,.l 1 d3 A0,.n d4,.b d5,.n d6,.esl 1])] (.i r))
theorem Ar1{fuel:Nat}{d0:Int}{d1:Int}{d2:List Int}{d3:List (List A2)}{d4:Int}{d5:Bool}{d6:Int}{r:Int}(hF:Bw9 fuel d0 d1 d2 d3 d4 d5 d6=some r):
 F4 Tryz.prog 133 [(2000,.box 139 [.l 1 d2 B1,.l 1 d3 A0,.n d4,.b d5,.n d6,.esl 1])] [.ptr 2000 0,.i d0,.n d1] [(2000,.box 139 [.l 1 d2 B1,.l 1 d3 A0,.n d4,.b d5,.n d6,.esl 1])] (.i r):=by
 unfold Bw9 at hF
 refine cr 30 Tryz.func133 ?_
 obtain⟨y1,e1,hF⟩:=bnd hF
 refine jo1 17 (gm (f:=A0) e1) ?_
 have hL1:∀(nL1:Nat) (v5:Int) (v6:Int),U7 fuel d1 y1 nL1 v5 v6=some r→Di7 d2 d3 d4 d5 d6 r ⟨mkT [(2,.n d1),(7,.i v5),(17,.l 3 y1 B4),(18,.i ((y1.map B4).length:Int)),(19,.i v6)],[(2000,.box 139 [.l 1 d2 B1,.l 1 d3 A0,.n d4,.b d5,.n d6,.esl 1])],[kL Dk2 [1,1,0,1,0,0],.inBlock 0,kC Dk2 [1,1,1]]⟩:=by
  clear hF;intro nL1
  induction nL1 with
  |zero=>intro v5 v6 hF;cases hF
  |succ nL1 iL1=>
   intro v5 v6 hF
   rw[U7]at hF
   refine jI 6 20 hF ?_ ?_<;>intro hF
   ·have hA2:∀(v7:Int),Af7 v6 (U7 fuel d1 y1 nL1) v7=some r→Di7 d2 d3 d4 d5 d6 r ⟨mkT [(2,.n d1),(7,.i v7),(17,.l 3 y1 B4),(18,.i ((y1.map B4).length:Int)),(19,.i v6)],[(2000,.box 139 [.l 1 d2 B1,.l 1 d3 A0,.n d4,.b d5,.n d6,.esl 1])],[kC Dk2 [1,1,0,1,0,0,1,1,1],kL Dk2 [1,1,0,1,0,0],.inBlock 0,kC Dk2 [1,1,1]]⟩:=by
     intro v7 hF
     unfold Af7 at hF
     exact ja 4 (iL1 _ _ hF)
    obtain⟨y12,e12,hF⟩:=bnd hF
    refine jo1 6 (gm (f:=B4) e12) ?_
    refine jB 8 hF Db5 Be5 fun y13 hF=> ?_
    refine jI 1 25 hF ?_ ?_<;>intro hF
    ·exact ja 7 (hA2 _ hF)
    ·exact ja 3 (hA2 _ hF)
   ·cases hF
    exact jrr 7
 exact ja 6 (hL1 _ _ _ hF)
def Cs8(fuel:Nat)(d0:Int)(d1:Int)(d2:List Int)(d3:List (List A2))(d4:Int)(d5:Bool)(d6:Int):Option Bool:=
 bif d5 then
  (Option.bind (Bw9 fuel d0 d1 d2 d3 d4 d5 d6) fun y3=>
  Option.bind (D6 d3 d0) fun y4=>
  some (y3==((y4.map B4).length:Int)))
 else
  (Option.bind (Bw9 fuel d0 d1 d2 d3 d4 d5 d6) fun y5=>
  some (decide (y5>0)))
theorem Ci7{fuel:Nat}{d0:Int}{d1:Int}{d2:List Int}{d3:List (List A2)}{d4:Int}{d5:Bool}{d6:Int}{r:Bool}(hF:Cs8 fuel d0 d1 d2 d3 d4 d5 d6=some r):
 F4 Tryz.prog 132 [(2000,.box 88 [.ptr 2001 0]),(2001,.box 139 [.l 1 d2 B1,.l 1 d3 A0,.n d4,.b d5,.n d6,.esl 1])] [.i d0,.n d1,.ptr 2000 0] [(2000,.box 88 [.ptr 2001 0]),(2001,.box 139 [.l 1 d2 B1,.l 1 d3 A0,.n d4,.b d5,.n d6,.esl 1])] (.b r):=by
 unfold Cs8 at hF
 refine cr 29 Tryz.func132 ?_
 refine jI 12 9 hF ?_ ?_<;>intro hF
 ·refine jd 2 ?_
  obtain⟨y3,e3,hF⟩:=bnd hF
  refine dcs 3 [(2001,2000)] [2001] Db2 (Ar1 e3) ?_
  obtain⟨y4,e4,hF⟩:=bnd hF
  refine do1 6 (gm (f:=A0) e4) ?_
  refine je 4 ?_
  cases hF
  exact jrr 0
 ·obtain⟨y5,e5,hF⟩:=bnd hF
  refine jcr 7 [(2001,2000)] Db2 (Ar1 e5) ?_
  cases hF
  exact jrr 3
def Af5(fuel:Nat)(d1:List Int)(d2:List (List A2))(d3:Int)(d4:Bool)(d5:Int)(v6:Int)(cL1:Int→Option Int):Nat→Int→Option Int
 |0,_=>none
 |nL2+1,v8=>
  bif decide (v8<((d1.map B1).length:Int)) then
   (Option.bind (
    ass (decide (0≤v8))<|
    bif (IntKind.u64.wrap (BitVec.ofInt IntKind.u64.bits (Int.fdiv v6 (2^(min (Int.toNat v8) IntKind.u64.bits)))&&&BitVec.ofInt IntKind.u64.bits 1).toNat)==1 then
     (Option.bind (Cs8 fuel v8 v6 d1 d2 d3 d4 d5) fun y27=>
     some (!y27))
    else
     (some false)) fun o9=>
   bif o9 then
    (ass (decide (0≤v8))<|
    cL1 (IntKind.u64.wrap (BitVec.ofInt IntKind.u64.bits v6&&& ~~~BitVec.ofInt IntKind.u64.bits (IntKind.u64.wrap (1*2^(min (Int.toNat v8) IntKind.u64.bits)))).toNat))
   else
    ((Af5 fuel d1 d2 d3 d4 d5 v6 cL1 nL2) (IntKind.i64.wrap (v8+1))))
  else
   (some v6)
def Y4(fuel:Nat)(d1:List Int)(d2:List (List A2))(d3:Int)(d4:Bool)(d5:Int):Nat→Int→Option Int
 |0,_=>none
 |nL1+1,v6=>
  Af5 fuel d1 d2 d3 d4 d5 v6 (Y4 fuel d1 d2 d3 d4 d5 nL1) fuel 0
def Cs6(fuel:Nat)(d0:Int)(d1:List Int)(d2:List (List A2))(d3:Int)(d4:Bool)(d5:Int):Option Int:=
 Y4 fuel d1 d2 d3 d4 d5 fuel d0
abbrev Cx7(d1:List Int)(d2:List (List A2))(d3:Int)(d4:Bool)(d5:Int)(r:Int):=J none Tryz.prog 35 [] (Bd8 Tryz.prog Tryz.f131 [(2000,.box 139 [.l 1 d1 B1,.l 1 d2 A0,.n d3,.b d4,.n d5,.esl 1]),(2001,.box 88 [.ptr 2000 0])] (.n r))
theorem Ci5{fuel:Nat}{d0:Int}{d1:List Int}{d2:List (List A2)}{d3:Int}{d4:Bool}{d5:Int}{r:Int}(hF:Cs6 fuel d0 d1 d2 d3 d4 d5=some r):
 F4 Tryz.prog 131 [(2000,.box 139 [.l 1 d1 B1,.l 1 d2 A0,.n d3,.b d4,.n d5,.esl 1]),(2001,.box 88 [.ptr 2000 0])] [.ptr 2000 0,.n d0,.fn 132 [] [.ptr 2001 0]] [(2000,.box 139 [.l 1 d1 B1,.l 1 d2 A0,.n d3,.b d4,.n d5,.esl 1]),(2001,.box 88 [.ptr 2000 0])] (.n r):=by
 unfold Cs6 at hF
 refine cr 35 Tryz.func131 ?_
 have hL1:∀(nL1:Nat) (v6:Int),Y4 fuel d1 d2 d3 d4 d5 nL1 v6=some r→Cx7 d1 d2 d3 d4 d5 r ⟨mkT [(0,.ptr 2000 0),(1,.n v6),(2,.fn 132 [] [.ptr 2001 0])],[(2000,.box 139 [.l 1 d1 B1,.l 1 d2 A0,.n d3,.b d4,.n d5,.esl 1]),(2001,.box 88 [.ptr 2000 0])],[kC Am8 [1,0,1],.inScope (cAt Am8 [1,0])]⟩:=by
  clear hF;intro nL1
  induction nL1 with
  |zero=>intro v6 hF;cases hF
  |succ nL1 iL1=>
   intro v6 hF
   rw[Y4]at hF
   have hL2:∀(nL2:Nat) (v8:Int),Af5 fuel d1 d2 d3 d4 d5 v6 (Y4 fuel d1 d2 d3 d4 d5 nL1) nL2 v8=some r→Cx7 d1 d2 d3 d4 d5 r ⟨mkT [(0,.ptr 2000 0),(1,.n v6),(2,.fn 132 [] [.ptr 2001 0]),(13,.i ((d1.map B1).length:Int)),(14,.i v8)],[(2000,.box 139 [.l 1 d1 B1,.l 1 d2 A0,.n d3,.b d4,.n d5,.esl 1]),(2001,.box 88 [.ptr 2000 0])],[kL Am8 [1,0,1,0,1,0,0],.inBlock 0,kC Am8 [1,0,1,1],.inScope (cAt Am8 [1,0])]⟩:=by
    clear hF;intro nL2
    induction nL2 with
    |zero=>intro v8 hF;cases hF
    |succ nL2 iL2=>
     intro v8 hF
     rw[Af5]at hF
     refine jI 6 15 hF ?_ ?_<;>intro hF
     ·obtain⟨o9,hO,hF⟩:=bnd hF
      have hR9:Cx7 d1 d2 d3 d4 d5 r ⟨mkT [(0,.ptr 2000 0),(1,.n v6),(2,.fn 132 [] [.ptr 2001 0]),(7,.i v8),(13,.i ((d1.map B1).length:Int)),(14,.i v8),(28,.b o9)],[(2000,.box 139 [.l 1 d1 B1,.l 1 d2 A0,.n d3,.b d4,.n d5,.esl 1]),(2001,.box 88 [.ptr 2000 0])],[kO Am8 [1,0,1,0,1,0,0,1,1,0,0,1,0],kC Am8 [1,0,1,0,1,0,0,1,1,0,0,1,1],.inBlock 1,kC Am8 [1,0,1,0,1,0,0,1,1,1],kL Am8 [1,0,1,0,1,0,0],.inBlock 0,kC Am8 [1,0,1,1],.inScope (cAt Am8 [1,0])]⟩:=by
       clear hO
       refine jI 1 28 hF ?_ ?_<;>intro hF
       ·obtain⟨hb79,hF⟩:=N1 hF
        refine jo1 5 (ck hb79) ?_
        exact ja 6 (iL1 _ hF)
       ·exact ja 7 (iL2 _ hF)
      clear hF;rename _=some o9=>hF
      obtain⟨hb80,hF⟩:=N1 hF
      refine jo1 13 (ck hb80) ?_
      refine jI 3 22 hF ?_ ?_<;>intro hF
      ·obtain⟨y27,e27,hF⟩:=bnd hF
       refine jcr 3 [(2001,2000),(2000,2001)] Dy9 (Ci7 e27) ?_
       cases hF
       exact ja 2 hR9
      ·cases hF
       exact ja 6 hR9
     ·cases hF
      exact jrr 7
   exact ja 13 (hL2 _ _ hF)
 exact ja 7 (hL1 _ _ hF)
def Dv9(fuel:Nat)(d0:List Int)(d1:List (List A2))(d2:Int)(d3:Bool)(d4:Int):Option Int:=
 Option.bind (Dp7 d0 d1 d2 d3 d4) fun y3=>
 Option.bind (Cs6 fuel (IntKind.u64.wrap (BitVec.ofInt IntKind.u64.bits y3&&& ~~~BitVec.ofInt IntKind.u64.bits d2).toNat) d0 d1 d2 d3 d4) fun y4=>
 some y4
theorem Cx6{fuel:Nat}{d0:List Int}{d1:List (List A2)}{d2:Int}{d3:Bool}{d4:Int}{r:Int}(hF:Dv9 fuel d0 d1 d2 d3 d4=some r):
 F4 Tryz.prog 75 [(2000,.box 139 [.l 1 d0 B1,.l 1 d1 A0,.n d2,.b d3,.n d4,.esl 1])] [.ptr 2000 0] [(2000,.box 139 [.l 1 d0 B1,.l 1 d1 A0,.n d2,.b d3,.n d4,.esl 1])] (.n r):=by
 unfold Dv9 at hF
 refine cr 13 Tryz.func75 ?_
 refine jd 6 ?_
 obtain⟨y3,e3,hF⟩:=bnd hF
 refine dcs 2 [(2000,2000)] [2000] Eh5 (Bz1 e3) ?_
 obtain⟨y4,e4,hF⟩:=bnd hF
 refine dcs 6 [(2000,2000),(1,2001)] [2000,1] Dl1 (Ci5 e4) ?_
 refine je 1 ?_
 cases hF
 exact jrr 0
def Ds8(fuel:Nat)(d0:Int)(d1:Int)(d2:List Int)(d3:List (List A2))(d4:Int)(d5:Bool)(d6:Int):Option Bool:=
 Option.bind (Bw9 fuel d0 d1 d2 d3 d4 d5 d6) fun y1=>
 some (decide (y1>0))
theorem Cs9{fuel:Nat}{d0:Int}{d1:Int}{d2:List Int}{d3:List (List A2)}{d4:Int}{d5:Bool}{d6:Int}{r:Bool}(hF:Ds8 fuel d0 d1 d2 d3 d4 d5 d6=some r):
 F4 Tryz.prog 134 [(2000,.box 88 [.ptr 2001 0]),(2001,.box 139 [.l 1 d2 B1,.l 1 d3 A0,.n d4,.b d5,.n d6,.esl 1])] [.i d0,.n d1,.ptr 2000 0] [(2000,.box 88 [.ptr 2001 0]),(2001,.box 139 [.l 1 d2 B1,.l 1 d3 A0,.n d4,.b d5,.n d6,.esl 1])] (.b r):=by
 unfold Ds8 at hF
 refine cr 11 Tryz.func134 ?_
 obtain⟨y1,e1,hF⟩:=bnd hF
 refine jcr 9 [(2001,2000)] Db2 (Ar1 e1) ?_
 cases hF
 exact jrr 3
def Af6(fuel:Nat)(d1:List Int)(d2:List (List A2))(d3:Int)(d4:Bool)(d5:Int)(v6:Int)(cL1:Int→Option Int):Nat→Int→Option Int
 |0,_=>none
 |nL2+1,v8=>
  bif decide (v8<((d1.map B1).length:Int)) then
   (Option.bind (
    ass (decide (0≤v8))<|
    bif (IntKind.u64.wrap (BitVec.ofInt IntKind.u64.bits (Int.fdiv v6 (2^(min (Int.toNat v8) IntKind.u64.bits)))&&&BitVec.ofInt IntKind.u64.bits 1).toNat)==1 then
     (Option.bind (Ds8 fuel v8 v6 d1 d2 d3 d4 d5) fun y27=>
     some (!y27))
    else
     (some false)) fun o9=>
   bif o9 then
    (ass (decide (0≤v8))<|
    cL1 (IntKind.u64.wrap (BitVec.ofInt IntKind.u64.bits v6&&& ~~~BitVec.ofInt IntKind.u64.bits (IntKind.u64.wrap (1*2^(min (Int.toNat v8) IntKind.u64.bits)))).toNat))
   else
    ((Af6 fuel d1 d2 d3 d4 d5 v6 cL1 nL2) (IntKind.i64.wrap (v8+1))))
  else
   (some v6)
def Y5(fuel:Nat)(d1:List Int)(d2:List (List A2))(d3:Int)(d4:Bool)(d5:Int):Nat→Int→Option Int
 |0,_=>none
 |nL1+1,v6=>
  Af6 fuel d1 d2 d3 d4 d5 v6 (Y5 fuel d1 d2 d3 d4 d5 nL1) fuel 0
def Cs7(fuel:Nat)(d0:Int)(d1:List Int)(d2:List (List A2))(d3:Int)(d4:Bool)(d5:Int):Option Int:=
 Y5 fuel d1 d2 d3 d4 d5 fuel d0
abbrev Cx8(d1:List Int)(d2:List (List A2))(d3:Int)(d4:Bool)(d5:Int)(r:Int):=J none Tryz.prog 35 [] (Bd8 Tryz.prog Tryz.f131 [(2000,.box 139 [.l 1 d1 B1,.l 1 d2 A0,.n d3,.b d4,.n d5,.esl 1]),(2001,.box 88 [.ptr 2000 0])] (.n r))
theorem Ci6{fuel:Nat}{d0:Int}{d1:List Int}{d2:List (List A2)}{d3:Int}{d4:Bool}{d5:Int}{r:Int}(hF:Cs7 fuel d0 d1 d2 d3 d4 d5=some r):
 F4 Tryz.prog 131 [(2000,.box 139 [.l 1 d1 B1,.l 1 d2 A0,.n d3,.b d4,.n d5,.esl 1]),(2001,.box 88 [.ptr 2000 0])] [.ptr 2000 0,.n d0,.fn 134 [] [.ptr 2001 0]] [(2000,.box 139 [.l 1 d1 B1,.l 1 d2 A0,.n d3,.b d4,.n d5,.esl 1]),(2001,.box 88 [.ptr 2000 0])] (.n r):=by
 unfold Cs7 at hF
 refine cr 35 Tryz.func131 ?_
 have hL1:∀(nL1:Nat) (v6:Int),Y5 fuel d1 d2 d3 d4 d5 nL1 v6=some r→Cx8 d1 d2 d3 d4 d5 r ⟨mkT [(0,.ptr 2000 0),(1,.n v6),(2,.fn 134 [] [.ptr 2001 0])],[(2000,.box 139 [.l 1 d1 B1,.l 1 d2 A0,.n d3,.b d4,.n d5,.esl 1]),(2001,.box 88 [.ptr 2000 0])],[kC Am8 [1,0,1],.inScope (cAt Am8 [1,0])]⟩:=by
  clear hF;intro nL1
  induction nL1 with
  |zero=>intro v6 hF;cases hF
  |succ nL1 iL1=>
   intro v6 hF
   rw[Y5]at hF
   have hL2:∀(nL2:Nat) (v8:Int),Af6 fuel d1 d2 d3 d4 d5 v6 (Y5 fuel d1 d2 d3 d4 d5 nL1) nL2 v8=some r→Cx8 d1 d2 d3 d4 d5 r ⟨mkT [(0,.ptr 2000 0),(1,.n v6),(2,.fn 134 [] [.ptr 2001 0]),(13,.i ((d1.map B1).length:Int)),(14,.i v8)],[(2000,.box 139 [.l 1 d1 B1,.l 1 d2 A0,.n d3,.b d4,.n d5,.esl 1]),(2001,.box 88 [.ptr 2000 0])],[kL Am8 [1,0,1,0,1,0,0],.inBlock 0,kC Am8 [1,0,1,1],.inScope (cAt Am8 [1,0])]⟩:=by
    clear hF;intro nL2
    induction nL2 with
    |zero=>intro v8 hF;cases hF
    |succ nL2 iL2=>
     intro v8 hF
     rw[Af6]at hF
     refine jI 6 15 hF ?_ ?_<;>intro hF
     ·obtain⟨o9,hO,hF⟩:=bnd hF
      have hR9:Cx8 d1 d2 d3 d4 d5 r ⟨mkT [(0,.ptr 2000 0),(1,.n v6),(2,.fn 134 [] [.ptr 2001 0]),(7,.i v8),(13,.i ((d1.map B1).length:Int)),(14,.i v8),(28,.b o9)],[(2000,.box 139 [.l 1 d1 B1,.l 1 d2 A0,.n d3,.b d4,.n d5,.esl 1]),(2001,.box 88 [.ptr 2000 0])],[kO Am8 [1,0,1,0,1,0,0,1,1,0,0,1,0],kC Am8 [1,0,1,0,1,0,0,1,1,0,0,1,1],.inBlock 1,kC Am8 [1,0,1,0,1,0,0,1,1,1],kL Am8 [1,0,1,0,1,0,0],.inBlock 0,kC Am8 [1,0,1,1],.inScope (cAt Am8 [1,0])]⟩:=by
       clear hO
       refine jI 1 28 hF ?_ ?_<;>intro hF
       ·obtain⟨hb79,hF⟩:=N1 hF
        refine jo1 5 (ck hb79) ?_
        exact ja 6 (iL1 _ hF)
       ·exact ja 7 (iL2 _ hF)
      clear hF;rename _=some o9=>hF
      obtain⟨hb80,hF⟩:=N1 hF
      refine jo1 13 (ck hb80) ?_
      refine jI 3 22 hF ?_ ?_<;>intro hF
      ·obtain⟨y27,e27,hF⟩:=bnd hF
       refine jcr 3 [(2001,2000),(2000,2001)] Dz0 (Cs9 e27) ?_
       cases hF
       exact ja 2 hR9
      ·cases hF
       exact ja 6 hR9
     ·cases hF
      exact jrr 7
   exact ja 13 (hL2 _ _ hF)
 exact ja 7 (hL1 _ _ hF)
def Ar2(v424:Int)(cL2:Int→Int→Option Int)(v450:Int):Option Int:=
 cL2 v450 (IntKind.i64.wrap (v424+1))
def Ar3(v474:Int)(cL5:Int→Int→Option Int)(v475:Int):Option Int:=
 cL5 v475 (IntKind.i64.wrap (v474+1))
def Ab5(fuel:Nat)(d1:Int)(v468:Int)(y708:A2)(cL4:Int→Int→Option Int):Nat→Int→Int→Option Int
 |0,_,_=>none
 |nL5+1,v473,v474=>
  bif decide (v474<((y708.Next.map A7).length:Int)) then
   (Option.bind (D6 y708.Next v474) fun y719=>
   Option.bind (De9 fuel y708 d1) fun y720=>
   bif y720 then
    (ass (decide (0≤y719.To))<|
    Ar3 v474 (Ab5 fuel d1 v468 y708 cL4 nL5) (IntKind.u64.wrap (BitVec.ofInt IntKind.u64.bits v473|||BitVec.ofInt IntKind.u64.bits (IntKind.u64.wrap (1*2^(min (Int.toNat y719.To) IntKind.u64.bits)))).toNat))
   else
    (Ar3 v474 (Ab5 fuel d1 v468 y708 cL4 nL5) v473))
  else
   (cL4 v473 (IntKind.i64.wrap (v468+1)))
def Ab4(fuel:Nat)(d1:Int)(v424:Int)(y681:List A2)(cL2:Int→Int→Option Int):Nat→Int→Int→Option Int
 |0,_,_=>none
 |nL4+1,v467,v468=>
  bif decide (v468<((y681.map B4).length:Int)) then
   (Option.bind (D6 y681 v468) fun y708=>
   Ab5 fuel d1 v468 y708 (Ab4 fuel d1 v424 y681 cL2 nL4) fuel v467 0)
  else
   (Ar2 v424 cL2 v467)
def Q0(fuel:Nat)(d1:Int)(d2:List Int)(d3:List (List A2))(v317:Int)(cL1:Int→Int→Option Int):Nat→Int→Int→Option Int
 |0,_,_=>none
 |nL2+1,v423,v424=>
  bif decide (v424<((d2.map B1).length:Int)) then
   (ass (decide (0≤v424))<|
   bif (IntKind.u64.wrap (BitVec.ofInt IntKind.u64.bits (Int.fdiv v317 (2^(min (Int.toNat v424) IntKind.u64.bits)))&&&BitVec.ofInt IntKind.u64.bits 1).toNat)==0 then
    (Ar2 v424 (Q0 fuel d1 d2 d3 v317 cL1 nL2) v423)
   else
    (Option.bind (D6 d3 v424) fun y681=>
    Ab4 fuel d1 v424 y681 (Q0 fuel d1 d2 d3 v317 cL1 nL2) fuel v423 0))
  else
   (cL1 v423 v317)
def P9(fuel:Nat)(d1:Int)(d2:List Int)(d3:List (List A2)):Nat→Int→Int→Option Int
 |0,_,_=>none
 |nL1+1,v317,v318=>
  bif v318 !=v317 then
   (Q0 fuel d1 d2 d3 v317 (P9 fuel d1 d2 d3 nL1) fuel v317 0)
  else
   (some v317)
def Do3(fuel:Nat)(d0:Int)(d1:Int)(d2:List Int)(d3:List (List A2))(d4:Int)(d5:Bool)(d6:Int):Option Int:=
 ass (decide (0≤d0))<|
 P9 fuel d1 d2 d3 fuel (IntKind.u64.wrap (1*2^(min (Int.toNat d0) IntKind.u64.bits))) 0
noncomputable abbrev Z3:=C1 Tryz.f135
abbrev Df3(d2:List Int)(d3:List (List A2))(d4:Int)(d5:Bool)(d6:Int)(r:Int):=J none Tryz.prog 66 [] (Bd8 Tryz.prog Tryz.f135 [(2000,.box 139 [.l 1 d2 B1,.l 1 d3 A0,.n d4,.b d5,.n d6,.esl 1])] (.n r))
theorem Bx0{fuel:Nat}{d0:Int}{d1:Int}{d2:List Int}{d3:List (List A2)}{d4:Int}{d5:Bool}{d6:Int}{r:Int}(hF:Do3 fuel d0 d1 d2 d3 d4 d5 d6=some r):
 F4 Tryz.prog 135 [(2000,.box 139 [.l 1 d2 B1,.l 1 d3 A0,.n d4,.b d5,.n d6,.esl 1])] [.ptr 2000 0,.i d0,.n d1] [(2000,.box 139 [.l 1 d2 B1,.l 1 d3 A0,.n d4,.b d5,.n d6,.esl 1])] (.n r):=by
 unfold Do3 at hF
 refine cr 66 Tryz.func135 ?_
 obtain⟨hb1,hF⟩:=N1 hF
 refine jo1 7 (ck hb1) ?_
 have hL1:∀(nL1:Nat) (v317:Int) (v318:Int),P9 fuel d1 d2 d3 nL1 v317 v318=some r→Df3 d2 d3 d4 d5 d6 r ⟨mkT [(0,.ptr 2000 0),(2,.n d1),(7,.n v317),(8,.n v318)],[(2000,.box 139 [.l 1 d2 B1,.l 1 d3 A0,.n d4,.b d5,.n d6,.esl 1])],[kL Z3 [1,1,0,1,0,0],.inBlock 0,kC Z3 [1,1,1]]⟩:=by
  clear hF;intro nL1
  induction nL1 with
  |zero=>intro v317 v318 hF;cases hF
  |succ nL1 iL1=>
   intro v317 v318 hF
   rw[P9]at hF
   refine jI 8 18 hF ?_ ?_<;>intro hF
   ·have hL2:∀(nL2:Nat) (v423:Int) (v424:Int),Q0 fuel d1 d2 d3 v317 (P9 fuel d1 d2 d3 nL1) nL2 v423 v424=some r→Df3 d2 d3 d4 d5 d6 r ⟨mkT [(0,.ptr 2000 0),(2,.n d1),(7,.n v423),(8,.n v317),(25,.i ((d2.map B1).length:Int)),(26,.i v424)],[(2000,.box 139 [.l 1 d2 B1,.l 1 d3 A0,.n d4,.b d5,.n d6,.esl 1])],[kL Z3 [1,1,0,1,0,0,1,0,1,1,0,0],.inBlock 2,.inBlock 1,kL Z3 [1,1,0,1,0,0],.inBlock 0,kC Z3 [1,1,1]]⟩:=by
     clear hF;intro nL2
     induction nL2 with
     |zero=>intro v423 v424 hF;cases hF
     |succ nL2 iL2=>
      intro v423 v424 hF
      rw[Q0]at hF
      refine jI 6 27 hF ?_ ?_<;>intro hF
      ·have hA3:∀(v450:Int),Ar2 v424 (Q0 fuel d1 d2 d3 v317 (P9 fuel d1 d2 d3 nL1) nL2) v450=some r→Df3 d2 d3 d4 d5 d6 r ⟨mkT [(0,.ptr 2000 0),(2,.n d1),(7,.n v450),(8,.n v317),(25,.i ((d2.map B1).length:Int)),(26,.i v424)],[(2000,.box 139 [.l 1 d2 B1,.l 1 d3 A0,.n d4,.b d5,.n d6,.esl 1])],[kC Z3 [1,1,0,1,0,0,1,0,1,1,0,0,1,1,1],kL Z3 [1,1,0,1,0,0,1,0,1,1,0,0],.inBlock 2,.inBlock 1,kL Z3 [1,1,0,1,0,0],.inBlock 0,kC Z3 [1,1,1]]⟩:=by
        intro v450 hF
        unfold Ar2 at hF
        exact ja 4 (iL2 _ _ hF)
       obtain⟨hb864,hF⟩:=N1 hF
       refine jo1 14 (ck hb864) ?_
       refine jI 3 33 hF ?_ ?_<;>intro hF
       ·exact ja 2 (hA3 _ hF)
       ·obtain⟨y681,e681,hF⟩:=bnd hF
        refine jo1 10 (gm (f:=A0) e681) ?_
        have hL4:∀(nL4:Nat) (v467:Int) (v468:Int),Ab4 fuel d1 v424 y681 (Q0 fuel d1 d2 d3 v317 (P9 fuel d1 d2 d3 nL1) nL2) nL4 v467 v468=some r→Df3 d2 d3 d4 d5 d6 r ⟨mkT [(0,.ptr 2000 0),(2,.n d1),(7,.n v467),(8,.n v317),(25,.i ((d2.map B1).length:Int)),(26,.i v424),(41,.l 3 y681 B4),(42,.i ((y681.map B4).length:Int)),(43,.i v468)],[(2000,.box 139 [.l 1 d2 B1,.l 1 d3 A0,.n d4,.b d5,.n d6,.esl 1])],[kL Z3 [1,1,0,1,0,0,1,0,1,1,0,0,1,1,0,0,1,1,1,0,0],.inBlock 4,.inBlock 3,kC Z3 [1,1,0,1,0,0,1,0,1,1,0,0,1,1,1],kL Z3 [1,1,0,1,0,0,1,0,1,1,0,0],.inBlock 2,.inBlock 1,kL Z3 [1,1,0,1,0,0],.inBlock 0,kC Z3 [1,1,1]]⟩:=by
         clear hF;intro nL4
         induction nL4 with
         |zero=>intro v467 v468 hF;cases hF
         |succ nL4 iL4=>
          intro v467 v468 hF
          rw[Ab4]at hF
          refine jI 6 44 hF ?_ ?_<;>intro hF
          ·obtain⟨y708,e708,hF⟩:=bnd hF
           refine jo1 6 (gm (f:=B4) e708) ?_
           have hL5:∀(nL5:Nat) (v473:Int) (v474:Int),Ab5 fuel d1 v468 y708 (Ab4 fuel d1 v424 y681 (Q0 fuel d1 d2 d3 v317 (P9 fuel d1 d2 d3 nL1) nL2) nL4) nL5 v473 v474=some r→Df3 d2 d3 d4 d5 d6 r ⟨mkT [(0,.ptr 2000 0),(2,.n d1),(7,.n v473),(8,.n v317),(11,.ptr 11 0),(25,.i ((d2.map B1).length:Int)),(26,.i v424),(41,.l 3 y681 B4),(42,.i ((y681.map B4).length:Int)),(43,.i v468),(48,.l 2 y708.Next A7),(49,.i ((y708.Next.map A7).length:Int)),(50,.i v474)],[(11,.box 41 [.s y708.Act,.s y708.Gain,.l 2 y708.Next A7]),(2000,.box 139 [.l 1 d2 B1,.l 1 d3 A0,.n d4,.b d5,.n d6,.esl 1])],[kL Z3 [1,1,0,1,0,0,1,0,1,1,0,0,1,1,0,0,1,1,1,0,0,1,1,0,0,1,1,0,0],.inBlock 6,.inBlock 5,kC Z3 [1,1,0,1,0,0,1,0,1,1,0,0,1,1,0,0,1,1,1,0,0,1,1,1],kL Z3 [1,1,0,1,0,0,1,0,1,1,0,0,1,1,0,0,1,1,1,0,0],.inBlock 4,.inBlock 3,kC Z3 [1,1,0,1,0,0,1,0,1,1,0,0,1,1,1],kL Z3 [1,1,0,1,0,0,1,0,1,1,0,0],.inBlock 2,.inBlock 1,kL Z3 [1,1,0,1,0,0],.inBlock 0,kC Z3 [1,1,1]]⟩:=by
            clear hF;intro nL5
            induction nL5 with
            |zero=>intro v473 v474 hF;cases hF
            |succ nL5 iL5=>
             intro v473 v474 hF
             rw[Ab5]at hF
             refine jI 6 51 hF ?_ ?_<;>intro hF
             ·have hA6:∀(v475:Int),Ar3 v474 (Ab5 fuel d1 v468 y708 (Ab4 fuel d1 v424 y681 (Q0 fuel d1 d2 d3 v317 (P9 fuel d1 d2 d3 nL1) nL2) nL4) nL5) v475=some r→Df3 d2 d3 d4 d5 d6 r ⟨mkT [(0,.ptr 2000 0),(2,.n d1),(7,.n v475),(8,.n v317),(11,.ptr 11 0),(25,.i ((d2.map B1).length:Int)),(26,.i v424),(41,.l 3 y681 B4),(42,.i ((y681.map B4).length:Int)),(43,.i v468),(48,.l 2 y708.Next A7),(49,.i ((y708.Next.map A7).length:Int)),(50,.i v474)],[(11,.box 41 [.s y708.Act,.s y708.Gain,.l 2 y708.Next A7]),(2000,.box 139 [.l 1 d2 B1,.l 1 d3 A0,.n d4,.b d5,.n d6,.esl 1])],[kC Z3 [1,1,0,1,0,0,1,0,1,1,0,0,1,1,0,0,1,1,1,0,0,1,1,0,0,1,1,0,0,1,1,1],kL Z3 [1,1,0,1,0,0,1,0,1,1,0,0,1,1,0,0,1,1,1,0,0,1,1,0,0,1,1,0,0],.inBlock 6,.inBlock 5,kC Z3 [1,1,0,1,0,0,1,0,1,1,0,0,1,1,0,0,1,1,1,0,0,1,1,1],kL Z3 [1,1,0,1,0,0,1,0,1,1,0,0,1,1,0,0,1,1,1,0,0],.inBlock 4,.inBlock 3,kC Z3 [1,1,0,1,0,0,1,0,1,1,0,0,1,1,1],kL Z3 [1,1,0,1,0,0,1,0,1,1,0,0],.inBlock 2,.inBlock 1,kL Z3 [1,1,0,1,0,0],.inBlock 0,kC Z3 [1,1,1]]⟩:=by
               intro v475 hF
               unfold Ar3 at hF
               exact ja 4 (iL5 _ _ hF)
              obtain⟨y719,e719,hF⟩:=bnd hF
              refine jo1 6 (gm (f:=A7) e719) ?_
              refine jB 8 hF Db5 Be5 fun y720 hF=> ?_
              refine jI 1 56 hF ?_ ?_<;>intro hF
              ·obtain⟨hb913,hF⟩:=N1 hF
               refine jo1 5 (ck hb913) ?_
               exact ja 4 (hA6 _ hF)
              ·exact ja 3 (hA6 _ hF)
             ·exact ja 7 (iL4 _ _ hF)
           exact ja 13 (hL5 _ _ _ hF)
          ·exact ja 3 (hA3 _ hF)
        exact ja 6 (hL4 _ _ _ hF)
      ·exact ja 3 (iL1 _ _ hF)
    exact ja 20 (hL2 _ _ _ hF)
   ·cases hF
    exact jrr 7
 exact ja 9 (hL1 _ _ _ hF)
def Ao0(v34:Int)(cL1:Int→(List Int)→Option (List Int))(l10:List Int):Option (List Int):=
 cL1 (IntKind.i64.wrap (v34+1)) l10
def Bm0(v49:Int)(cL3:Int→Int→Option (List Int))(v50:Int):Option (List Int):=
 cL3 v50 (IntKind.i64.wrap (v49+1))
def Bm1(d1:List Int)(d2:List (List A2))(d3:Int)(d4:Bool)(d5:Int)(l8:List Int)(v34:Int)(v48:Int)(rec_F76:Int→(List Int)→(List (List A2))→Int→Bool→Int→Option (List Int))(cL1:Int→(List Int)→Option (List Int)):Nat→Int→Option (List Int)
 |0,_=>none
 |nL5+1,v52=>
  bif decide (v52<((l8.map D4).length:Int)) then
   (Option.bind (D6 l8 v52) fun y234=>
   ass (decide (0≤v34))<|
   bif (IntKind.u64.wrap (BitVec.ofInt IntKind.u64.bits (Int.fdiv y234 (2^(min (Int.toNat v34) IntKind.u64.bits)))&&&BitVec.ofInt IntKind.u64.bits 1).toNat)==1 then
    (Ao0 v34 cL1 l8)
   else
    ((Bm1 d1 d2 d3 d4 d5 l8 v34 v48 rec_F76 cL1 nL5) (IntKind.i64.wrap (v52+1))))
  else
   (ass (decide (0≤v34))<|
   bif (IntKind.u64.wrap (BitVec.ofInt IntKind.u64.bits v48&&&BitVec.ofInt IntKind.u64.bits (IntKind.u64.wrap ((IntKind.u64.wrap (1*2^(min (Int.toNat v34) IntKind.u64.bits)))-1))).toNat)==0 then
    (Option.bind (rec_F76 v48 d1 d2 d3 d4 d5) fun y235=>
    Option.bind (app l8 y235) fun l11=>
    Ao0 v34 cL1 l11)
   else
    (Ao0 v34 cL1 l8))
def Ao1(fuel:Nat)(d1:List Int)(d2:List (List A2))(d3:Int)(d4:Bool)(d5:Int)(l8:List Int)(v34:Int)(y1:Int)(rec_F76:Int→(List Int)→(List (List A2))→Int→Bool→Int→Option (List Int))(cL1:Int→(List Int)→Option (List Int)):Nat→Int→Int→Option (List Int)
 |0,_,_=>none
 |nL3+1,v48,v49=>
  bif decide (v49<((d1.map B1).length:Int)) then
   (Option.bind (
    ass (decide (0≤v49))<|
    bif (IntKind.u64.wrap (BitVec.ofInt IntKind.u64.bits (Int.fdiv y1 (2^(min (Int.toNat v49) IntKind.u64.bits)))&&&BitVec.ofInt IntKind.u64.bits 1).toNat)==1 then
     (Option.bind (Do3 fuel v34 y1 d1 d2 d3 d4 d5) fun y230=>
     ass (decide (0≤v49))<|
     bif (IntKind.u64.wrap (BitVec.ofInt IntKind.u64.bits (Int.fdiv y230 (2^(min (Int.toNat v49) IntKind.u64.bits)))&&&BitVec.ofInt IntKind.u64.bits 1).toNat)==1 then
      (Option.bind (Do3 fuel v49 y1 d1 d2 d3 d4 d5) fun y231=>
      ass (decide (0≤v34))<|
      some ((IntKind.u64.wrap (BitVec.ofInt IntKind.u64.bits (Int.fdiv y231 (2^(min (Int.toNat v34) IntKind.u64.bits)))&&&BitVec.ofInt IntKind.u64.bits 1).toNat)==1))
     else
      (some false))
    else
     (some false)) fun o36=>
   bif o36 then
    (ass (decide (0≤v49))<|
    Bm0 v49 (Ao1 fuel d1 d2 d3 d4 d5 l8 v34 y1 rec_F76 cL1 nL3) (IntKind.u64.wrap (BitVec.ofInt IntKind.u64.bits v48|||BitVec.ofInt IntKind.u64.bits (IntKind.u64.wrap (1*2^(min (Int.toNat v49) IntKind.u64.bits)))).toNat))
   else
    (Bm0 v49 (Ao1 fuel d1 d2 d3 d4 d5 l8 v34 y1 rec_F76 cL1 nL3) v48))
  else
   (bif v48==y1 then
    (some [y1])
   else
    (Bm1 d1 d2 d3 d4 d5 l8 v34 v48 rec_F76 cL1 fuel 0))
def Z0(fuel:Nat)(d1:List Int)(d2:List (List A2))(d3:Int)(d4:Bool)(d5:Int)(y1:Int)(rec_F76:Int→(List Int)→(List (List A2))→Int→Bool→Int→Option (List Int)):Nat→Int→(List Int)→Option (List Int)
 |0,_,_=>none
 |nL1+1,v34,l8=>
  bif decide (v34<((d1.map B1).length:Int)) then
   (ass (decide (0≤v34))<|
   bif (IntKind.u64.wrap (BitVec.ofInt IntKind.u64.bits (Int.fdiv y1 (2^(min (Int.toNat v34) IntKind.u64.bits)))&&&BitVec.ofInt IntKind.u64.bits 1).toNat)==0 then
    (Ao0 v34 (Z0 fuel d1 d2 d3 d4 d5 y1 rec_F76 nL1) l8)
   else
    (Ao1 fuel d1 d2 d3 d4 d5 l8 v34 y1 rec_F76 (Z0 fuel d1 d2 d3 d4 d5 y1 rec_F76 nL1) fuel 0 0))
  else
   (some l8)
def F76:Nat→Int→(List Int)→(List (List A2))→Int→Bool→Int→Option (List Int)
 |0,_,_,_,_,_,_=>none
 |fuel+1,d0,d1,d2,d3,d4,d5=>
  Option.bind (Cs7 fuel d0 d1 d2 d3 d4 d5) fun y1=>
  Z0 fuel d1 d2 d3 d4 d5 y1 (F76 fuel) fuel 0 []
noncomputable abbrev b76:=C1 Tryz.f76
abbrev G76(d1:List Int)(d2:List (List A2))(d3:Int)(d4:Bool)(d5:Int)(r:List Int):=J none Tryz.prog 98 [] (Bd8 Tryz.prog Tryz.f76 [(2000,.box 139 [.l 1 d1 B1,.l 1 d2 A0,.n d3,.b d4,.n d5,.esl 1])] (.l 1 r D4))
theorem Di4:∀{fuel:Nat} {d0:Int} {d1:List Int} {d2:List (List A2)} {d3:Int} {d4:Bool} {d5:Int} {r:List Int},F76 fuel d0 d1 d2 d3 d4 d5=some r→F4 Tryz.prog 76 [(2000,.box 139 [.l 1 d1 B1,.l 1 d2 A0,.n d3,.b d4,.n d5,.esl 1])] [.ptr 2000 0,.n d0] [(2000,.box 139 [.l 1 d1 B1,.l 1 d2 A0,.n d3,.b d4,.n d5,.esl 1])] (.l 1 r D4):=by
 intro fuel
 induction fuel with
 |zero=>intro _ _ _ _ _ _ r hF;cases hF
 |succ fuel ih=>
  intro d0 d1 d2 d3 d4 d5 r hF
  have ih_F76:∀(d0:Int) (d1:List Int) (d2:List (List A2)) (d3:Int) (d4:Bool) (d5:Int) (r:List Int),F76 fuel d0 d1 d2 d3 d4 d5=some r→F4 Tryz.prog 76 [(2000,.box 139 [.l 1 d1 B1,.l 1 d2 A0,.n d3,.b d4,.n d5,.esl 1])] [.ptr 2000 0,.n d0] [(2000,.box 139 [.l 1 d1 B1,.l 1 d2 A0,.n d3,.b d4,.n d5,.esl 1])] (.l 1 r D4):=fun d0 d1 d2 d3 d4 d5 r h=>ih h
  rw[F76]at hF
  refine cr 98 Tryz.func76 ?_
  obtain⟨y1,e1,hF⟩:=bnd hF
  refine jcr 11 [(2000,2000),(2,2001)] Dl1 (Ci6 e1) ?_
  have hL1:∀(nL1:Nat) (v34:Int) (l8:List Int),Z0 fuel d1 d2 d3 d4 d5 y1 (F76 fuel) nL1 v34 l8=some r→G76 d1 d2 d3 d4 d5 r ⟨mkT [(1,.n y1),(2,.ptr 2 0),(5,.suf 95 0 0),(20,.i ((d1.map B1).length:Int)),(21,.i v34)],[(2,.box 88 [.ptr 2000 0]),(95,.buf 0 33 1 (l8.map D4)),(2000,.box 139 [.l 1 d1 B1,.l 1 d2 A0,.n d3,.b d4,.n d5,.esl 1])],[kL b76 [1,0,1,1,1,0,1,0,0],.inBlock 0,kC b76 [1,0,1,1,1,1],.inScope (cAt b76 [1,0])]⟩:=by
   clear hF;intro nL1
   induction nL1 with
   |zero=>intro v34 l8 hF;cases hF
   |succ nL1 iL1=>
    intro v34 l8 hF
    rw[Z0]at hF
    refine jI 6 22 hF ?_ ?_<;>intro hF
    ·have hA2:∀(l10:List Int),Ao0 v34 (Z0 fuel d1 d2 d3 d4 d5 y1 (F76 fuel) nL1) l10=some r→G76 d1 d2 d3 d4 d5 r ⟨mkT [(1,.n y1),(2,.ptr 2 0),(5,.suf 95 0 0),(20,.i ((d1.map B1).length:Int)),(21,.i v34)],[(2,.box 88 [.ptr 2000 0]),(95,.buf 0 33 1 (l10.map D4)),(2000,.box 139 [.l 1 d1 B1,.l 1 d2 A0,.n d3,.b d4,.n d5,.esl 1])],[kC b76 [1,0,1,1,1,0,1,0,0,1,1,1],kL b76 [1,0,1,1,1,0,1,0,0],.inBlock 0,kC b76 [1,0,1,1,1,1],.inScope (cAt b76 [1,0])]⟩:=by
      intro l10 hF
      unfold Ao0 at hF
      exact ja 4 (iL1 _ _ hF)
     obtain⟨hb579,hF⟩:=N1 hF
     refine jo1 14 (ck hb579) ?_
     refine jI 3 28 hF ?_ ?_<;>intro hF
     ·exact ja 2 (hA2 _ hF)
     ·have hL3:∀(nL3:Nat) (v48:Int) (v49:Int),Ao1 fuel d1 d2 d3 d4 d5 l8 v34 y1 (F76 fuel) (Z0 fuel d1 d2 d3 d4 d5 y1 (F76 fuel) nL1) nL3 v48 v49=some r→G76 d1 d2 d3 d4 d5 r ⟨mkT [(1,.n y1),(2,.ptr 2 0),(5,.suf 95 0 0),(6,.i v34),(7,.n v48),(20,.i ((d1.map B1).length:Int)),(21,.i v34),(34,.i ((d1.map B1).length:Int)),(35,.i v49)],[(2,.box 88 [.ptr 2000 0]),(95,.buf 0 33 1 (l8.map D4)),(2000,.box 139 [.l 1 d1 B1,.l 1 d2 A0,.n d3,.b d4,.n d5,.esl 1])],[kL b76 [1,0,1,1,1,0,1,0,0,1,1,0,0,1,1,1,0,1,0,0],.inBlock 2,kC b76 [1,0,1,1,1,0,1,0,0,1,1,0,0,1,1,1,1],.inBlock 1,kC b76 [1,0,1,1,1,0,1,0,0,1,1,1],kL b76 [1,0,1,1,1,0,1,0,0],.inBlock 0,kC b76 [1,0,1,1,1,1],.inScope (cAt b76 [1,0])]⟩:=by
       clear hF;intro nL3
       induction nL3 with
       |zero=>intro v48 v49 hF;cases hF
       |succ nL3 iL3=>
        intro v48 v49 hF
        rw[Ao1]at hF
        refine jI 6 36 hF ?_ ?_<;>intro hF
        ·have hA4:∀(v50:Int),Bm0 v49 (Ao1 fuel d1 d2 d3 d4 d5 l8 v34 y1 (F76 fuel) (Z0 fuel d1 d2 d3 d4 d5 y1 (F76 fuel) nL1) nL3) v50=some r→G76 d1 d2 d3 d4 d5 r ⟨mkT [(1,.n y1),(2,.ptr 2 0),(5,.suf 95 0 0),(6,.i v34),(7,.n v50),(20,.i ((d1.map B1).length:Int)),(21,.i v34),(34,.i ((d1.map B1).length:Int)),(35,.i v49)],[(2,.box 88 [.ptr 2000 0]),(95,.buf 0 33 1 (l8.map D4)),(2000,.box 139 [.l 1 d1 B1,.l 1 d2 A0,.n d3,.b d4,.n d5,.esl 1])],[kC b76 [1,0,1,1,1,0,1,0,0,1,1,0,0,1,1,1,0,1,0,0,1,1,1],kL b76 [1,0,1,1,1,0,1,0,0,1,1,0,0,1,1,1,0,1,0,0],.inBlock 2,kC b76 [1,0,1,1,1,0,1,0,0,1,1,0,0,1,1,1,1],.inBlock 1,kC b76 [1,0,1,1,1,0,1,0,0,1,1,1],kL b76 [1,0,1,1,1,0,1,0,0],.inBlock 0,kC b76 [1,0,1,1,1,1],.inScope (cAt b76 [1,0])]⟩:=by
          intro v50 hF
          unfold Bm0 at hF
          exact ja 4 (iL3 _ _ hF)
         obtain⟨o36,hO,hF⟩:=bnd hF
         have hR36:G76 d1 d2 d3 d4 d5 r ⟨mkT [(1,.n y1),(2,.ptr 2 0),(5,.suf 95 0 0),(6,.i v34),(7,.n v48),(8,.i v49),(20,.i ((d1.map B1).length:Int)),(21,.i v34),(34,.i ((d1.map B1).length:Int)),(35,.i v49),(62,.b o36)],[(2,.box 88 [.ptr 2000 0]),(95,.buf 0 33 1 (l8.map D4)),(2000,.box 139 [.l 1 d1 B1,.l 1 d2 A0,.n d3,.b d4,.n d5,.esl 1])],[kO b76 [1,0,1,1,1,0,1,0,0,1,1,0,0,1,1,1,0,1,0,0,1,1,0,0,1,0],kC b76 [1,0,1,1,1,0,1,0,0,1,1,0,0,1,1,1,0,1,0,0,1,1,0,0,1,1],.inBlock 3,kC b76 [1,0,1,1,1,0,1,0,0,1,1,0,0,1,1,1,0,1,0,0,1,1,1],kL b76 [1,0,1,1,1,0,1,0,0,1,1,0,0,1,1,1,0,1,0,0],.inBlock 2,kC b76 [1,0,1,1,1,0,1,0,0,1,1,0,0,1,1,1,1],.inBlock 1,kC b76 [1,0,1,1,1,0,1,0,0,1,1,1],kL b76 [1,0,1,1,1,0,1,0,0],.inBlock 0,kC b76 [1,0,1,1,1,1],.inScope (cAt b76 [1,0])]⟩:=by
          clear hO
          refine jI 1 62 hF ?_ ?_<;>intro hF
          ·obtain⟨hb680,hF⟩:=N1 hF
           refine jo1 4 (ck hb680) ?_
           exact ja 4 (hA4 _ hF)
          ·exact ja 3 (hA4 _ hF)
         clear hF;rename _=some o36=>hF
         obtain⟨hb681,hF⟩:=N1 hF
         refine jo1 13 (ck hb681) ?_
         refine jI 3 43 hF ?_ ?_<;>intro hF
         ·obtain⟨y230,e235,hF⟩:=bnd hF
          refine jcr 3 [(2000,2000)] Dl2 (Bx0 e235) ?_
          obtain⟨hb683,hF⟩:=N1 hF
          refine jo1 1 (ck hb683) ?_
          refine jI 4 53 hF ?_ ?_<;>intro hF
          ·obtain⟨y231,e236,hF⟩:=bnd hF
           refine jcr 3 [(2000,2000)] Dl2 (Bx0 e236) ?_
           obtain⟨hb685,hF⟩:=N1 hF
           refine jo1 1 (ck hb685) ?_
           cases hF
           exact ja 3 hR36
          ·cases hF
           exact ja 9 hR36
         ·cases hF
          exact ja 19 hR36
        ·refine jI 9 70 hF ?_ ?_<;>intro hF
         ·cases hF
          exact jrr 7
         ·have hL5:∀(nL5:Nat) (v52:Int),Bm1 d1 d2 d3 d4 d5 l8 v34 v48 (F76 fuel) (Z0 fuel d1 d2 d3 d4 d5 y1 (F76 fuel) nL1) nL5 v52=some r→G76 d1 d2 d3 d4 d5 r ⟨mkT [(1,.n y1),(2,.ptr 2 0),(5,.suf 95 0 0),(6,.i v34),(7,.n v48),(20,.i ((d1.map B1).length:Int)),(21,.i v34),(73,.suf 95 0 0),(74,.i ((l8.map D4).length:Int)),(75,.i v52)],[(2,.box 88 [.ptr 2000 0]),(95,.buf 0 33 1 (l8.map D4)),(2000,.box 139 [.l 1 d1 B1,.l 1 d2 A0,.n d3,.b d4,.n d5,.esl 1])],[kL b76 [1,0,1,1,1,0,1,0,0,1,1,0,0,1,1,1,1,1,0,1,0,0],.inBlock 4,kC b76 [1,0,1,1,1,0,1,0,0,1,1,0,0,1,1,1,1,1,1],.inBlock 1,kC b76 [1,0,1,1,1,0,1,0,0,1,1,1],kL b76 [1,0,1,1,1,0,1,0,0],.inBlock 0,kC b76 [1,0,1,1,1,1],.inScope (cAt b76 [1,0])]⟩:=by
           clear hF;intro nL5
           induction nL5 with
           |zero=>intro v52 hF;cases hF
           |succ nL5 iL5=>
            intro v52 hF
            rw[Bm1]at hF
            refine jI 6 76 hF ?_ ?_<;>intro hF
            ·obtain⟨y234,e239,hF⟩:=bnd hF
             refine jo1 6 (gm (f:=D4) e239) ?_
             refine jo1 0 (gjm (f:=D4) (gj e239)) ?_
             obtain⟨hb694,hF⟩:=N1 hF
             refine jo1 6 (ck hb694) ?_
             refine jI 3 83 hF ?_ ?_<;>intro hF
             ·exact ja 2 (hA2 _ hF)
             ·exact ja 7 (iL5 _ hF)
            ·obtain⟨hb696,hF⟩:=N1 hF
             refine jo1 6 (ck hb696) ?_
             refine jI 4 90 hF ?_ ?_<;>intro hF
             ·obtain⟨y235,e240,hF⟩:=bnd hF
              refine jcr 5 [(2000,2000)] Eh4 (ih_F76 _ _ _ _ _ _ _ e240) ?_
              obtain⟨l11,e241,hF⟩:=bnd hF
              refine jo2 0 (am (f:=D4) e241) ?_
              exact ja 3 (hA2 _ hF)
             ·exact ja 3 (hA2 _ hF)
          exact ja 11 (hL5 _ _ hF)
      exact ja 19 (hL3 _ _ _ hF)
    ·cases hF
     exact jrr 7
  refine C5 21 (Dw7 (n:=1) 5 95 33 1 (by kernel_rfl) (by kernel_rfl) ?_)
  exact ja 0 (hL1 _ _ _ hF)
def F38(fuel:Nat)(d0:B6)(d1:Int)(d2:Bool):Option B0:=
 Option.bind (Dv9 fuel d0.Owner d0.Choices d1 d2 0) fun y1=>
 bif d2 then
  (Option.bind (Dp7 d0.Owner d0.Choices d1 d2 y1) fun y4=>
  Option.bind (F76 fuel (IntKind.u64.wrap (BitVec.ofInt IntKind.u64.bits y4&&& ~~~BitVec.ofInt IntKind.u64.bits (IntKind.u64.wrap (BitVec.ofInt IntKind.u64.bits d1|||BitVec.ofInt IntKind.u64.bits y1).toNat)).toNat) d0.Owner d0.Choices d1 d2 y1) fun y5=>
  some (⟨d0,d1,d2,y1,y5⟩:B0))
 else
  (some (⟨d0,d1,d2,y1,[]⟩:B0))
theorem Cp2{fuel:Nat}{d0:B6}{d1:Int}{d2:Bool}{r:B0}(hF:F38 fuel d0 d1 d2=some r):
 C3 Tryz.prog 38 [.agg [.l 1 d0.Owner B1,.l 1 d0.Choices A0],.n d1,.b d2] (.d (.pt [.sl 1 (r.Model.Owner.map B1),.sl 1 (r.Model.Choices.map A0),.int .u64 r.target,.bool r.most,.int .u64 r.zero,.sl 1 (r.blocks.map D4)])):=by
 unfold F38 at hF
 refine cf 37 Tryz.func38 ?_
 obtain⟨y1,e1,hF⟩:=bnd hF
 refine jcr 18 [(12,2000)] El9 (Cx6 e1) ?_
 refine jI 9 18 hF ?_ ?_<;>intro hF
 ·refine jd 1 ?_
  obtain⟨y4,e4,hF⟩:=bnd hF
  refine dcs 3 [(12,2000)] [12] Eh5 (Bz1 e4) ?_
  obtain⟨y5,e5,hF⟩:=bnd hF
  refine dcs 10 [(12,2000)] [12] Eh4 (Di4 e5) ?_
  refine je 3 ?_
  have hF:=oi hF;subst hF
  exact C5 5 (At5 (xs:=[.rp [.sl 1 (d0.Owner.map B1),.sl 1 (d0.Choices.map A0),.int .u64 d1,.bool d2,.int .u64 y1,.sl 1 (y5.map D4)] 0]) [.d (.pt [.sl 1 ((((⟨d0,d1,d2,y1,y5⟩:B0).Model).Owner).map B1),.sl 1 ((((⟨d0,d1,d2,y1,y5⟩:B0).Model).Choices).map A0),.int .u64 ((⟨d0,d1,d2,y1,y5⟩:B0).target),.bool ((⟨d0,d1,d2,y1,y5⟩:B0).most),.int .u64 ((⟨d0,d1,d2,y1,y5⟩:B0).zero),.sl 1 (((⟨d0,d1,d2,y1,y5⟩:B0).blocks).map D4)])] rfl rfl (by kernel_rfl) ⟨Re.pt _,trivial⟩ rfl)
 ·have hF:=oi hF;subst hF
  exact C5 7 (At5 (xs:=[.rp [.sl 1 (d0.Owner.map B1),.sl 1 (d0.Choices.map A0),.int .u64 d1,.bool d2,.int .u64 y1,.sl 1 ([].map D4)] 0]) [.d (.pt [.sl 1 ((((⟨d0,d1,d2,y1,[]⟩:B0).Model).Owner).map B1),.sl 1 ((((⟨d0,d1,d2,y1,[]⟩:B0).Model).Choices).map A0),.int .u64 ((⟨d0,d1,d2,y1,[]⟩:B0).target),.bool ((⟨d0,d1,d2,y1,[]⟩:B0).most),.int .u64 ((⟨d0,d1,d2,y1,[]⟩:B0).zero),.sl 1 (((⟨d0,d1,d2,y1,[]⟩:B0).blocks).map D4)])] rfl rfl (by kernel_rfl) ⟨Re.pt _,trivial⟩ rfl)
def Dt0(d0:A2):Option Bool:=
 some true
theorem Ct2{d0:A2}{r:Bool}(hF:Dt0 d0=some r):
 C3 Tryz.prog 138 [.agg [.s d0.Act,.s d0.Gain,.l 2 d0.Next A7]] (.b r):=by
 unfold Dt0 at hF
 refine cf 3 Tryz.func138 ?_
 cases hF
 exact jr 9
def As5(fuel:Nat)(d0:A2)(d1:List A1):Nat→Int→Bool→(List Int)→Bool→(List Int)→Option A1
 |0,_,_,_,_,_=>none
 |nL1+1,v2,t3,l3,t4,l4=>
  bif decide (v2<((d0.Next.map A7).length:Int)) then
   (Option.bind (D6 d0.Next v2) fun y20=>
   Option.bind (F36 fuel y20.P) fun y25=>
   Option.bind (D6 d1 y20.To) fun y26=>
   Option.bind (Dt4 fuel y25 y26) fun y27=>
   Option.bind (Do4 fuel (⟨(⟨t3,l3⟩:A3),(⟨t4,l4⟩:A3)⟩:A1) y27) fun y28=>
   (As5 fuel d0 d1 nL1) (IntKind.i64.wrap (v2+1)) y28.n_.neg y28.n_.mag y28.d.neg y28.d.mag)
  else
   (some (⟨(⟨t3,l3⟩:A3),(⟨t4,l4⟩:A3)⟩:A1))
def Do8(fuel:Nat)(d0:A2)(d1:List A1):Option A1:=
 Option.bind (F78 fuel 0 1) fun y1=>
 As5 fuel d0 d1 fuel 0 y1.n_.neg y1.n_.mag y1.d.neg y1.d.mag
noncomputable abbrev Ef4:=C1 Tryz.f187
abbrev Ei8(r:A1):=J none Tryz.prog 29 [] (L3 Tryz.prog Tryz.f187 (.agg [.b r.n_.neg,.l 1 r.n_.mag A5,.b r.d.neg,.l 1 r.d.mag A5]))
theorem Bx8{fuel:Nat}{d0:A2}{d1:List A1}{r:A1}(hF:Do8 fuel d0 d1=some r):
 C3 Tryz.prog 187 [.agg [.s d0.Act,.s d0.Gain,.l 2 d0.Next A7],.l 4 d1 A4] (.agg [.b r.n_.neg,.l 1 r.n_.mag A5,.b r.d.neg,.l 1 r.d.mag A5]):=by
 unfold Do8 at hF
 refine cf 29 Tryz.func187 ?_
 refine jB 7 hF Dg3 Ao2 fun y1 hF=> ?_
 have hL1:∀(nL1:Nat) (v2:Int) (t3:Bool) (l3:List Int) (t4:Bool) (l4:List Int),As5 fuel d0 d1 nL1 v2 t3 l3 t4 l4=some r→Ei8 r ⟨mkT [(1,.l 4 d1 A4),(4,.ptr 4 0),(5,.ptr 5 0),(10,.l 2 d0.Next A7),(11,.i ((d0.Next.map A7).length:Int)),(12,.i v2)],[(4,.box 84 [.b false,.esl 1,.b false,.esl 1]),(5,.box 84 [.b t3,.l 1 l3 A5,.b t4,.l 1 l4 A5])],[kL Ef4 [1,1,0,1,0,0],.inBlock 0,kC Ef4 [1,1,1]]⟩:=by
  clear hF;intro nL1
  induction nL1 with
  |zero=>intro v2 t3 l3 t4 l4 hF;cases hF
  |succ nL1 iL1=>
   intro v2 t3 l3 t4 l4 hF
   rw[As5]at hF
   refine jI 6 13 hF ?_ ?_<;>intro hF
   ·obtain⟨y20,e20,hF⟩:=bnd hF
    refine jo1 6 (gm (f:=A7) e20) ?_
    refine jd 4 ?_
    refine dB 3 hF Dq9 Bl0 fun y25 hF=> ?_
    obtain⟨y26,e26,hF⟩:=bnd hF
    refine do1 3 (gm (f:=A4) e26) ?_
    refine dB 1 hF Dz5 Ct7 fun y27 hF=> ?_
    refine dB 0 hF Dl5 Bx3 fun y28 hF=> ?_
    refine je 1 ?_
    exact ja 5 (iL1 _ _ _ _ _ hF)
   ·cases hF
    exact jr 7
 exact ja 13 (hL1 _ _ _ _ _ _ hF)
def Dh4(fuel:Nat)(d0:B0)(d1:A1)(d2:A1):Option A1:=
 Option.bind (F65 fuel d1 d2) fun y1=>
 bif (decide (y1<0))==d0.most then
  (some d2)
 else
  (some d1)
theorem Be7{fuel:Nat}{d0:B0}{d1:A1}{d2:A1}{r:A1}(hF:Dh4 fuel d0 d1 d2=some r):
 C3 Tryz.prog 186 [.d (.pt [.sl 1 (d0.Model.Owner.map B1),.sl 1 (d0.Model.Choices.map A0),.int .u64 d0.target,.bool d0.most,.int .u64 d0.zero,.sl 1 (d0.blocks.map D4)]),.agg [.b d1.n_.neg,.l 1 d1.n_.mag A5,.b d1.d.neg,.l 1 d1.d.mag A5],.agg [.b d2.n_.neg,.l 1 d2.n_.mag A5,.b d2.d.neg,.l 1 d2.d.mag A5]] (.agg [.b r.n_.neg,.l 1 r.n_.mag A5,.b r.d.neg,.l 1 r.d.mag A5]):=by
 unfold Dh4 at hF
 refine cf 18 Tryz.func186 ?_
 refine jd 8 ?_
 refine dB 2 hF Eh2 Cp5 fun y1 hF=> ?_
 refine je 6 ?_
 refine jI 0 15 hF ?_ ?_<;>intro hF
 ·cases hF
  exact jr 6
 ·cases hF
  exact jr 7
def Ah7(v2:Int)(cL1:Bool→Int→Bool→(List Int)→Bool→(List Int)→Option (A1×Bool))(t13:Bool)(t14:Bool)(l9:List Int)(t15:Bool)(l10:List Int):Option (A1×Bool):=
 cL1 t13 (IntKind.i64.wrap (v2+1)) t14 l9 t15 l10
def W9(fuel:Nat)(d0:B0)(d2:List A1)(y1:List A2):Nat→Bool→Int→Bool→(List Int)→Bool→(List Int)→Option (A1×Bool)
 |0,_,_,_,_,_,_=>none
 |nL1+1,t10,v2,t11,l7,t12,l8=>
  bif decide (v2<((y1.map B4).length:Int)) then
   (Option.bind (D6 y1 v2) fun y20=>
   Option.bind (Dt0 y20) fun y21=>
   bif !y21 then
    (Ah7 v2 (W9 fuel d0 d2 y1 nL1) t10 t11 l7 t12 l8)
   else
    (Option.bind (Do8 fuel y20 d2) fun y22=>
    bif t10 then
     (Option.bind (Dh4 fuel d0 (⟨(⟨t11,l7⟩:A3),(⟨t12,l8⟩:A3)⟩:A1) y22) fun y23=>
     Ah7 v2 (W9 fuel d0 d2 y1 nL1) true y23.n_.neg y23.n_.mag y23.d.neg y23.d.mag)
    else
     (Ah7 v2 (W9 fuel d0 d2 y1 nL1) true y22.n_.neg y22.n_.mag y22.d.neg y22.d.mag)))
  else
   (some ((⟨(⟨t11,l7⟩:A3),(⟨t12,l8⟩:A3)⟩:A1),t10))
def Ds9(fuel:Nat)(d0:B0)(d1:Int)(d2:List A1):Option (A1×Bool):=
 Option.bind (D6 d0.Model.Choices d1) fun y1=>
 W9 fuel d0 d2 y1 fuel false 0 false [] false []
noncomputable abbrev Ch8:=C1 Tryz.f137
abbrev Ee2(r:A1×Bool):=J none Tryz.prog 47 [] (L3 Tryz.prog Tryz.f137 (.tup [.agg [.b r.1.n_.neg,.l 1 r.1.n_.mag A5,.b r.1.d.neg,.l 1 r.1.d.mag A5],.b r.2]))
theorem Ct0{fuel:Nat}{d0:B0}{d1:Int}{d2:List A1}{r:A1×Bool}(hF:Ds9 fuel d0 d1 d2=some r):
 C3 Tryz.prog 137 [.d (.pt [.sl 1 (d0.Model.Owner.map B1),.sl 1 (d0.Model.Choices.map A0),.int .u64 d0.target,.bool d0.most,.int .u64 d0.zero,.sl 1 (d0.blocks.map D4)]),.i d1,.l 4 d2 A4,.d (.fnc 138)] (.tup [.agg [.b r.1.n_.neg,.l 1 r.1.n_.mag A5,.b r.1.d.neg,.l 1 r.1.d.mag A5],.b r.2]):=by
 unfold Ds9 at hF
 refine cf 47 Tryz.func137 ?_
 obtain⟨y1,e1,hF⟩:=bnd hF
 refine jo1 25 (gm (f:=A0) e1) ?_
 have hL1:∀(nL1:Nat) (t10:Bool) (v2:Int) (t11:Bool) (l7:List Int) (t12:Bool) (l8:List Int),W9 fuel d0 d2 y1 nL1 t10 v2 t11 l7 t12 l8=some r→Ee2 r ⟨mkT [(2,.l 4 d2 A4),(3,.d (.fnc 138)),(8,.ptr 8 0),(10,.ptr 10 0),(11,.b t10),(12,.fn 186 [.d (.pt [.sl 1 (d0.Model.Owner.map B1),.sl 1 (d0.Model.Choices.map A0),.int .u64 d0.target,.bool d0.most,.int .u64 d0.zero,.sl 1 (d0.blocks.map D4)])] []),(25,.l 3 y1 B4),(26,.i ((y1.map B4).length:Int)),(27,.i v2)],[(8,.box 84 [.b false,.esl 1,.b false,.esl 1]),(10,.box 84 [.b t11,.l 1 l7 A5,.b t12,.l 1 l8 A5])],[kL Ch8 [1,1,1,0,1,0,0],.inBlock 0,kC Ch8 [1,1,1,1]]⟩:=by
  clear hF;intro nL1
  induction nL1 with
  |zero=>intro t10 v2 t11 l7 t12 l8 hF;cases hF
  |succ nL1 iL1=>
   intro t10 v2 t11 l7 t12 l8 hF
   rw[W9]at hF
   refine jI 6 28 hF ?_ ?_<;>intro hF
   ·have hA2:∀(t13:Bool) (t14:Bool) (l9:List Int) (t15:Bool) (l10:List Int),Ah7 v2 (W9 fuel d0 d2 y1 nL1) t13 t14 l9 t15 l10=some r→Ee2 r ⟨mkT [(2,.l 4 d2 A4),(3,.d (.fnc 138)),(8,.ptr 8 0),(10,.ptr 10 0),(11,.b t13),(12,.fn 186 [.d (.pt [.sl 1 (d0.Model.Owner.map B1),.sl 1 (d0.Model.Choices.map A0),.int .u64 d0.target,.bool d0.most,.int .u64 d0.zero,.sl 1 (d0.blocks.map D4)])] []),(25,.l 3 y1 B4),(26,.i ((y1.map B4).length:Int)),(27,.i v2)],[(8,.box 84 [.b false,.esl 1,.b false,.esl 1]),(10,.box 84 [.b t14,.l 1 l9 A5,.b t15,.l 1 l10 A5])],[kC Ch8 [1,1,1,0,1,0,0,1,1,1],kL Ch8 [1,1,1,0,1,0,0],.inBlock 0,kC Ch8 [1,1,1,1]]⟩:=by
     intro t13 t14 l9 t15 l10 hF
     unfold Ah7 at hF
     exact ja 4 (iL1 _ _ _ _ _ _ hF)
    obtain⟨y20,e20,hF⟩:=bnd hF
    refine jo1 6 (gm (f:=B4) e20) ?_
    refine jB 9 hF Dz1 Ct2 fun y21 hF=> ?_
    refine jI 2 34 hF ?_ ?_<;>intro hF
    ·exact ja 2 (hA2 _ _ _ _ _ hF)
    ·refine jB 6 hF Dl9 Bx8 fun y22 hF=> ?_
     refine jI 8 38 hF ?_ ?_<;>intro hF
     ·refine jB 5 hF Db7 Be7 fun y23 hF=> ?_
      exact ja 8 (hA2 _ _ _ _ _ hF)
     ·exact ja 8 (hA2 _ _ _ _ _ hF)
   ·cases hF
    exact jr 9
 refine C5 6 (Bm4 (n:=1) 10 1 1 (by kernel_rfl) ?_)
 refine C5 0 (Bm4 (n:=1) 10 3 1 (by kernel_rfl) ?_)
 exact ja 0 (hL1 _ _ _ _ _ _ _ hF)
def Dt8(fuel:Nat)(d0:A2)(d1:Int):Option Bool:=
 Option.bind (De9 fuel d0 d1) fun y1=>
 some (!y1)
theorem Cv0{fuel:Nat}{d0:A2}{d1:Int}{r:Bool}(hF:Dt8 fuel d0 d1=some r):
 C3 Tryz.prog 188 [.agg [.s d0.Act,.s d0.Gain,.l 2 d0.Next A7],.rp [.int .u64 d1] 0] (.b r):=by
 unfold Dt8 at hF
 refine cf 8 Tryz.func188 ?_
 refine jB 9 hF Db5 Be5 fun y1 hF=> ?_
 cases hF
 exact jr 3
def Y6(v2:Int)(cL1:Bool→Int→Bool→(List Int)→Bool→(List Int)→Option (A1×Bool))(t13:Bool)(t14:Bool)(l9:List Int)(t15:Bool)(l10:List Int):Option (A1×Bool):=
 cL1 t13 (IntKind.i64.wrap (v2+1)) t14 l9 t15 l10
def Q1(fuel:Nat)(d0:B0)(d2:List A1)(d3:Int)(y1:List A2):Nat→Bool→Int→Bool→(List Int)→Bool→(List Int)→Option (A1×Bool)
 |0,_,_,_,_,_,_=>none
 |nL1+1,t10,v2,t11,l7,t12,l8=>
  bif decide (v2<((y1.map B4).length:Int)) then
   (Option.bind (D6 y1 v2) fun y20=>
   Option.bind (Dt8 fuel y20 d3) fun y21=>
   bif !y21 then
    (Y6 v2 (Q1 fuel d0 d2 d3 y1 nL1) t10 t11 l7 t12 l8)
   else
    (Option.bind (Do8 fuel y20 d2) fun y22=>
    bif t10 then
     (Option.bind (Dh4 fuel d0 (⟨(⟨t11,l7⟩:A3),(⟨t12,l8⟩:A3)⟩:A1) y22) fun y23=>
     Y6 v2 (Q1 fuel d0 d2 d3 y1 nL1) true y23.n_.neg y23.n_.mag y23.d.neg y23.d.mag)
    else
     (Y6 v2 (Q1 fuel d0 d2 d3 y1 nL1) true y22.n_.neg y22.n_.mag y22.d.neg y22.d.mag)))
  else
   (some ((⟨(⟨t11,l7⟩:A3),(⟨t12,l8⟩:A3)⟩:A1),t10))
def Ct1(fuel:Nat)(d0:B0)(d1:Int)(d2:List A1)(d3:Int):Option (A1×Bool):=
 Option.bind (D6 d0.Model.Choices d1) fun y1=>
 Q1 fuel d0 d2 d3 y1 fuel false 0 false [] false []
abbrev Di8(r:A1×Bool):=J none Tryz.prog 47 [] (L3 Tryz.prog Tryz.f137 (.tup [.agg [.b r.1.n_.neg,.l 1 r.1.n_.mag A5,.b r.1.d.neg,.l 1 r.1.d.mag A5],.b r.2]))
theorem Ci8{fuel:Nat}{d0:B0}{d1:Int}{d2:List A1}{d3:Int}{r:A1×Bool}(hF:Ct1 fuel d0 d1 d2 d3=some r):
 C3 Tryz.prog 137 [.d (.pt [.sl 1 (d0.Model.Owner.map B1),.sl 1 (d0.Model.Choices.map A0),.int .u64 d0.target,.bool d0.most,.int .u64 d0.zero,.sl 1 (d0.blocks.map D4)]),.i d1,.l 4 d2 A4,.fn 188 [] [.rp [.int .u64 d3] 0]] (.tup [.agg [.b r.1.n_.neg,.l 1 r.1.n_.mag A5,.b r.1.d.neg,.l 1 r.1.d.mag A5],.b r.2]):=by
 unfold Ct1 at hF
 refine cf 47 Tryz.func137 ?_
 obtain⟨y1,e1,hF⟩:=bnd hF
 refine jo1 25 (gm (f:=A0) e1) ?_
 have hL1:∀(nL1:Nat) (t10:Bool) (v2:Int) (t11:Bool) (l7:List Int) (t12:Bool) (l8:List Int),Q1 fuel d0 d2 d3 y1 nL1 t10 v2 t11 l7 t12 l8=some r→Di8 r ⟨mkT [(2,.l 4 d2 A4),(3,.fn 188 [] [.rp [.int .u64 d3] 0]),(8,.ptr 8 0),(10,.ptr 10 0),(11,.b t10),(12,.fn 186 [.d (.pt [.sl 1 (d0.Model.Owner.map B1),.sl 1 (d0.Model.Choices.map A0),.int .u64 d0.target,.bool d0.most,.int .u64 d0.zero,.sl 1 (d0.blocks.map D4)])] []),(25,.l 3 y1 B4),(26,.i ((y1.map B4).length:Int)),(27,.i v2)],[(8,.box 84 [.b false,.esl 1,.b false,.esl 1]),(10,.box 84 [.b t11,.l 1 l7 A5,.b t12,.l 1 l8 A5])],[kL Ch8 [1,1,1,0,1,0,0],.inBlock 0,kC Ch8 [1,1,1,1]]⟩:=by
  clear hF;intro nL1
  induction nL1 with
  |zero=>intro t10 v2 t11 l7 t12 l8 hF;cases hF
  |succ nL1 iL1=>
   intro t10 v2 t11 l7 t12 l8 hF
   rw[Q1]at hF
   refine jI 6 28 hF ?_ ?_<;>intro hF
   ·have hA2:∀(t13:Bool) (t14:Bool) (l9:List Int) (t15:Bool) (l10:List Int),Y6 v2 (Q1 fuel d0 d2 d3 y1 nL1) t13 t14 l9 t15 l10=some r→Di8 r ⟨mkT [(2,.l 4 d2 A4),(3,.fn 188 [] [.rp [.int .u64 d3] 0]),(8,.ptr 8 0),(10,.ptr 10 0),(11,.b t13),(12,.fn 186 [.d (.pt [.sl 1 (d0.Model.Owner.map B1),.sl 1 (d0.Model.Choices.map A0),.int .u64 d0.target,.bool d0.most,.int .u64 d0.zero,.sl 1 (d0.blocks.map D4)])] []),(25,.l 3 y1 B4),(26,.i ((y1.map B4).length:Int)),(27,.i v2)],[(8,.box 84 [.b false,.esl 1,.b false,.esl 1]),(10,.box 84 [.b t14,.l 1 l9 A5,.b t15,.l 1 l10 A5])],[kC Ch8 [1,1,1,0,1,0,0,1,1,1],kL Ch8 [1,1,1,0,1,0,0],.inBlock 0,kC Ch8 [1,1,1,1]]⟩:=by
     intro t13 t14 l9 t15 l10 hF
     unfold Y6 at hF
     exact ja 4 (iL1 _ _ _ _ _ _ hF)
    obtain⟨y20,e20,hF⟩:=bnd hF
    refine jo1 6 (gm (f:=B4) e20) ?_
    refine jB 9 hF Ea4 Cv0 fun y21 hF=> ?_
    refine jI 2 34 hF ?_ ?_<;>intro hF
    ·exact ja 2 (hA2 _ _ _ _ _ hF)
    ·refine jB 6 hF Dl9 Bx8 fun y22 hF=> ?_
     refine jI 8 38 hF ?_ ?_<;>intro hF
     ·refine jB 5 hF Db7 Be7 fun y23 hF=> ?_
      exact ja 8 (hA2 _ _ _ _ _ hF)
     ·exact ja 8 (hA2 _ _ _ _ _ hF)
   ·cases hF
    exact jr 9
 refine C5 6 (Bm4 (n:=1) 10 1 1 (by kernel_rfl) ?_)
 refine C5 0 (Bm4 (n:=1) 10 3 1 (by kernel_rfl) ?_)
 exact ja 0 (hL1 _ _ _ _ _ _ _ hF)
def Ah8(v12:Int)(cL2:Int→Bool→(List Int)→Bool→(List Int)→Option (List A1))(t29:Bool)(l53:List Int)(t30:Bool)(l54:List Int):Option (List A1):=
 cL2 (IntKind.i64.wrap (v12+1)) t29 l53 t30 l54
def Ar4(v14:Int)(cL4:Int→(List A1)→Option (List A1))(l64:List A1):Option (List A1):=
 cL4 (IntKind.i64.wrap (v14+1)) l64
def Ab6(d1:List A1)(l51:List Int)(l52:List Int)(t27:Bool)(t28:Bool)(v10:Int)(y41:Int)(cL1:Int→(List A1)→Option (List A1)):Nat→Int→(List A1)→Option (List A1)
 |0,_,_=>none
 |nL4+1,v14,l62=>
  bif decide (v14<((d1.map A4).length:Int)) then
   (ass (decide (0≤v14))<|
   bif (IntKind.u64.wrap (BitVec.ofInt IntKind.u64.bits (Int.fdiv y41 (2^(min (Int.toNat v14) IntKind.u64.bits)))&&&BitVec.ofInt IntKind.u64.bits 1).toNat)==1 then
    (Option.bind (D6 l62 v14) fun y60=>
    Option.bind (some (l62.set (0+Int.toNat v14) (⟨(⟨t27,l51⟩:A3),(⟨t28,l52⟩:A3)⟩:A1))) fun l65=>
    Ar4 v14 (Ab6 d1 l51 l52 t27 t28 v10 y41 cL1 nL4) l65)
   else
    (Ar4 v14 (Ab6 d1 l51 l52 t27 t28 v10 y41 cL1 nL4) l62))
  else
   (cL1 (IntKind.i64.wrap (v10+1)) l62)
def X0(fuel:Nat)(d0:B0)(d1:List A1)(l44:List A1)(v10:Int)(y41:Int)(cL1:Int→(List A1)→Option (List A1)):Nat→Int→Bool→(List Int)→Bool→(List Int)→Option (List A1)
 |0,_,_,_,_,_=>none
 |nL2+1,v12,t27,l51,t28,l52=>
  bif decide (v12<((d1.map A4).length:Int)) then
   (ass (decide (0≤v12))<|
   bif (IntKind.u64.wrap (BitVec.ofInt IntKind.u64.bits (Int.fdiv y41 (2^(min (Int.toNat v12) IntKind.u64.bits)))&&&BitVec.ofInt IntKind.u64.bits 1).toNat)==0 then
    (Ah8 v12 (X0 fuel d0 d1 l44 v10 y41 cL1 nL2) t27 l51 t28 l52)
   else
    (Option.bind (Ct1 fuel d0 v12 d1 y41) fun y53=>
    bif y53.2 then
     (Option.bind (Dh4 fuel d0 (⟨(⟨t27,l51⟩:A3),(⟨t28,l52⟩:A3)⟩:A1) y53.1) fun y54=>
     Ah8 v12 (X0 fuel d0 d1 l44 v10 y41 cL1 nL2) y54.n_.neg y54.n_.mag y54.d.neg y54.d.mag)
    else
     (Ah8 v12 (X0 fuel d0 d1 l44 v10 y41 cL1 nL2) t27 l51 t28 l52)))
  else
   (Ab6 d1 l51 l52 t27 t28 v10 y41 cL1 fuel 0 l44)
def S7(fuel:Nat)(d0:B0)(d1:List A1):Nat→Int→(List A1)→Option (List A1)
 |0,_,_=>none
 |nL1+1,v10,l44=>
  bif decide (v10<((d0.blocks.map D4).length:Int)) then
   (Option.bind (D6 d0.blocks v10) fun y41=>
   Option.bind (F78 fuel 0 1) fun y42=>
   X0 fuel d0 d1 l44 v10 y41 (S7 fuel d0 d1 nL1) fuel 0 y42.n_.neg y42.n_.mag y42.d.neg y42.d.mag)
  else
   (some l44)
def Dt1(fuel:Nat)(d0:B0)(d1:List A1)(d2:List A1):Option (List A1):=
 S7 fuel d0 d1 fuel 0 d2
noncomputable abbrev Ay6:=C1 Tryz.f139
abbrev Di9(r:List A1):=J none Tryz.prog 63 [] (Bd8 Tryz.prog Tryz.f139 [(2000,.buf 0 84 4 (r.map A4))] (.tup []))
theorem Ct3{fuel:Nat}{d0:B0}{d1:List A1}{d2:List A1}{r:List A1}(hF:Dt1 fuel d0 d1 d2=some r):
 F4 Tryz.prog 139 [(2000,.buf 0 84 4 (d2.map A4))] [.d (.pt [.sl 1 (d0.Model.Owner.map B1),.sl 1 (d0.Model.Choices.map A0),.int .u64 d0.target,.bool d0.most,.int .u64 d0.zero,.sl 1 (d0.blocks.map D4)]),.l 4 d1 A4,.suf 2000 0 0] [(2000,.buf 0 84 4 (r.map A4))] (.tup []):=by
 unfold Dt1 at hF
 refine cr 63 Tryz.func139 ?_
 have hL1:∀(nL1:Nat) (v10:Int) (l44:List A1),S7 fuel d0 d1 nL1 v10 l44=some r→Di9 r ⟨mkT [(0,.d (.pt [.sl 1 (d0.Model.Owner.map B1),.sl 1 (d0.Model.Choices.map A0),.int .u64 d0.target,.bool d0.most,.int .u64 d0.zero,.sl 1 (d0.blocks.map D4)])),(1,.l 4 d1 A4),(2,.suf 2000 0 0),(16,.l 1 d0.blocks D4),(17,.i ((d0.blocks.map D4).length:Int)),(18,.i v10)],[(2000,.buf 0 84 4 (l44.map A4))],[kL Ay6 [1,0,0],.inBlock 0]⟩:=by
  clear hF;intro nL1
  induction nL1 with
  |zero=>intro v10 l44 hF;cases hF
  |succ nL1 iL1=>
   intro v10 l44 hF
   rw[S7]at hF
   refine jI 6 19 hF ?_ ?_<;>intro hF
   ·obtain⟨y41,e53,hF⟩:=bnd hF
    refine jo1 6 (gm (f:=D4) e53) ?_
    refine jB 6 hF Dg3 Ao2 fun y42 hF=> ?_
    have hL2:∀(nL2:Nat) (v12:Int) (t27:Bool) (l51:List Int) (t28:Bool) (l52:List Int),X0 fuel d0 d1 l44 v10 y41 (S7 fuel d0 d1 nL1) nL2 v12 t27 l51 t28 l52=some r→Di9 r ⟨mkT [(0,.d (.pt [.sl 1 (d0.Model.Owner.map B1),.sl 1 (d0.Model.Choices.map A0),.int .u64 d0.target,.bool d0.most,.int .u64 d0.zero,.sl 1 (d0.blocks.map D4)])),(1,.l 4 d1 A4),(2,.suf 2000 0 0),(7,.ptr 7 0),(8,.ptr 8 0),(16,.l 1 d0.blocks D4),(17,.i ((d0.blocks.map D4).length:Int)),(18,.i v10),(24,.i ((d1.map A4).length:Int)),(25,.i v12)],[(7,.fzb [.n y41]),(8,.box 84 [.b t27,.l 1 l51 A5,.b t28,.l 1 l52 A5]),(2000,.buf 0 84 4 (l44.map A4))],[kL Ay6 [1,0,0,1,1,0,0,1,1,0,1,0,0],.inBlock 2,kC Ay6 [1,0,0,1,1,0,0,1,1,1],.inBlock 1,kC Ay6 [1,0,0,1,1,1],kL Ay6 [1,0,0],.inBlock 0]⟩:=by
     clear hF;intro nL2
     induction nL2 with
     |zero=>intro v12 t27 l51 t28 l52 hF;cases hF
     |succ nL2 iL2=>
      intro v12 t27 l51 t28 l52 hF
      rw[X0]at hF
      refine jI 6 26 hF ?_ ?_<;>intro hF
      ·have hA3:∀(t29:Bool) (l53:List Int) (t30:Bool) (l54:List Int),Ah8 v12 (X0 fuel d0 d1 l44 v10 y41 (S7 fuel d0 d1 nL1) nL2) t29 l53 t30 l54=some r→Di9 r ⟨mkT [(0,.d (.pt [.sl 1 (d0.Model.Owner.map B1),.sl 1 (d0.Model.Choices.map A0),.int .u64 d0.target,.bool d0.most,.int .u64 d0.zero,.sl 1 (d0.blocks.map D4)])),(1,.l 4 d1 A4),(2,.suf 2000 0 0),(7,.ptr 7 0),(8,.ptr 8 0),(16,.l 1 d0.blocks D4),(17,.i ((d0.blocks.map D4).length:Int)),(18,.i v10),(24,.i ((d1.map A4).length:Int)),(25,.i v12)],[(7,.fzb [.n y41]),(8,.box 84 [.b t29,.l 1 l53 A5,.b t30,.l 1 l54 A5]),(2000,.buf 0 84 4 (l44.map A4))],[kC Ay6 [1,0,0,1,1,0,0,1,1,0,1,0,0,1,1,1],kL Ay6 [1,0,0,1,1,0,0,1,1,0,1,0,0],.inBlock 2,kC Ay6 [1,0,0,1,1,0,0,1,1,1],.inBlock 1,kC Ay6 [1,0,0,1,1,1],kL Ay6 [1,0,0],.inBlock 0]⟩:=by
        intro t29 l53 t30 l54 hF
        unfold Ah8 at hF
        exact ja 4 (iL2 _ _ _ _ _ hF)
       obtain⟨hb94,hF⟩:=N1 hF
       refine jo1 14 (ck hb94) ?_
       refine jI 3 32 hF ?_ ?_<;>intro hF
       ·exact ja 2 (hA3 _ _ _ _ hF)
       ·refine jB 8 hF Dl3 Ci8 fun y53 hF=> ?_
        refine jI 11 41 hF ?_ ?_<;>intro hF
        ·refine jB 5 hF Db7 Be7 fun y54 hF=> ?_
         exact ja 3 (hA3 _ _ _ _ hF)
        ·exact ja 3 (hA3 _ _ _ _ hF)
      ·have hL4:∀(nL4:Nat) (v14:Int) (l62:List A1),Ab6 d1 l51 l52 t27 t28 v10 y41 (S7 fuel d0 d1 nL1) nL4 v14 l62=some r→Di9 r ⟨mkT [(0,.d (.pt [.sl 1 (d0.Model.Owner.map B1),.sl 1 (d0.Model.Choices.map A0),.int .u64 d0.target,.bool d0.most,.int .u64 d0.zero,.sl 1 (d0.blocks.map D4)])),(1,.l 4 d1 A4),(2,.suf 2000 0 0),(7,.ptr 7 0),(8,.ptr 8 0),(16,.l 1 d0.blocks D4),(17,.i ((d0.blocks.map D4).length:Int)),(18,.i v10),(48,.i ((d1.map A4).length:Int)),(49,.i v14)],[(7,.fzb [.n y41]),(8,.box 84 [.b t27,.l 1 l51 A5,.b t28,.l 1 l52 A5]),(2000,.buf 0 84 4 (l62.map A4))],[kL Ay6 [1,0,0,1,1,0,0,1,1,1,1,0,0],.inBlock 4,.inBlock 1,kC Ay6 [1,0,0,1,1,1],kL Ay6 [1,0,0],.inBlock 0]⟩:=by
        clear hF;intro nL4
        induction nL4 with
        |zero=>intro v14 l62 hF;cases hF
        |succ nL4 iL4=>
         intro v14 l62 hF
         rw[Ab6]at hF
         refine jI 6 50 hF ?_ ?_<;>intro hF
         ·have hA5:∀(l64:List A1),Ar4 v14 (Ab6 d1 l51 l52 t27 t28 v10 y41 (S7 fuel d0 d1 nL1) nL4) l64=some r→Di9 r ⟨mkT [(0,.d (.pt [.sl 1 (d0.Model.Owner.map B1),.sl 1 (d0.Model.Choices.map A0),.int .u64 d0.target,.bool d0.most,.int .u64 d0.zero,.sl 1 (d0.blocks.map D4)])),(1,.l 4 d1 A4),(2,.suf 2000 0 0),(7,.ptr 7 0),(8,.ptr 8 0),(16,.l 1 d0.blocks D4),(17,.i ((d0.blocks.map D4).length:Int)),(18,.i v10),(48,.i ((d1.map A4).length:Int)),(49,.i v14)],[(7,.fzb [.n y41]),(8,.box 84 [.b t27,.l 1 l51 A5,.b t28,.l 1 l52 A5]),(2000,.buf 0 84 4 (l64.map A4))],[kC Ay6 [1,0,0,1,1,0,0,1,1,1,1,0,0,1,1,1],kL Ay6 [1,0,0,1,1,0,0,1,1,1,1,0,0],.inBlock 4,.inBlock 1,kC Ay6 [1,0,0,1,1,1],kL Ay6 [1,0,0],.inBlock 0]⟩:=by
           intro l64 hF
           unfold Ar4 at hF
           exact ja 4 (iL4 _ _ hF)
          obtain⟨hb110,hF⟩:=N1 hF
          refine jo1 13 (ck hb110) ?_
          refine jI 3 56 hF ?_ ?_<;>intro hF
          ·obtain⟨y60,e77,hF⟩:=bnd hF
           refine jo1 5 (gm (f:=A4) e77) ?_
           obtain⟨l65,e78,hF⟩:=bnd hF
           have hst:=stm (f:=A4) (z:=(⟨(⟨t27,l51⟩:A3),(⟨t28,l52⟩:A3)⟩:A1)) (k:=0) (xs:=[.bool t27,.sl 1 (l51.map A5),.bool t28,.sl 1 (l52.map A5)]) (gj e77) rfl
           refine C5 0 (H6 (o:=(match(l62.map A4)[0+Int.toNat v14]? with|some old=>some ((l62.map A4).set (0+Int.toNat v14) (Ad4 old 0 [.bool t27,.sl 1 (l51.map A5),.bool t28,.sl 1 (l52.map A5)]))|none=>none)) (l65.map A4) (by kernel_rfl) (by cases e78;exact hst) ?_)
           exact ja 2 (hA5 _ hF)
          ·exact ja 3 (hA5 _ hF)
         ·exact ja 7 (iL1 _ _ hF)
       exact ja 10 (hL4 _ _ _ hF)
    refine C5 12 (Dw6 (te:=33) 7 [.n y41] (by kernel_rfl) (by kernel_rfl) ?_)
    exact ja 0 (hL2 _ _ _ _ _ _ hF)
   ·cases hF
    exact jrr 2
 exact ja 11 (hL1 _ _ _ hF)
def Ax8(v2:Int)(cL1:Int→(List A1)→Option (List A1))(l21:List A1):Option (List A1):=
 cL1 (IntKind.i64.wrap (v2+1)) l21
def Aj0(fuel:Nat)(d0:B0)(d1:List A1)(d2:Bool):Nat→Int→(List A1)→Option (List A1)
 |0,_,_=>none
 |nL1+1,v2,l17=>
  bif decide (v2<((d1.map A4).length:Int)) then
   (ass (decide (0≤v2))<|
   bif (IntKind.u64.wrap (BitVec.ofInt IntKind.u64.bits (Int.fdiv d0.target (2^(min (Int.toNat v2) IntKind.u64.bits)))&&&BitVec.ofInt IntKind.u64.bits 1).toNat)==1 then
    (Option.bind (F78 fuel 1 1) fun y31=>
    Option.bind (D6 l17 v2) fun y32=>
    Option.bind (some (l17.set (0+Int.toNat v2) y31)) fun l22=>
    Ax8 v2 (Aj0 fuel d0 d1 d2 nL1) l22)
   else
    (Option.bind (
     bif d2 then
      (ass (decide (0≤v2))<|
      some ((IntKind.u64.wrap (BitVec.ofInt IntKind.u64.bits (Int.fdiv d0.zero (2^(min (Int.toNat v2) IntKind.u64.bits)))&&&BitVec.ofInt IntKind.u64.bits 1).toNat)==1))
     else
      (some false)) fun o6=>
    bif o6 then
     (Option.bind (F78 fuel 0 1) fun y33=>
     Option.bind (D6 l17 v2) fun y34=>
     Option.bind (some (l17.set (0+Int.toNat v2) y33)) fun l23=>
     Ax8 v2 (Aj0 fuel d0 d1 d2 nL1) l23)
    else
     (Option.bind (Ds9 fuel d0 v2 d1) fun y35=>
     Option.bind (D6 l17 v2) fun y36=>
     Option.bind (some (l17.set (0+Int.toNat v2) y35.1)) fun l24=>
     Ax8 v2 (Aj0 fuel d0 d1 d2 nL1) l24)))
  else
   (bif d2 then
    (Option.bind (Dt1 fuel d0 d1 l17) fun y37=>
    some y37)
   else
    (some l17))
def F79(fuel:Nat)(d0:B0)(d1:List A1)(d2:Bool):Option (List A1):=
 Option.bind (mkL ((d1.map A4).length:Int) ((d1.map A4).length:Int) (⟨(⟨false,[]⟩:A3),(⟨false,[]⟩:A3)⟩:A1)) fun l1=>
 Aj0 fuel d0 d1 d2 fuel 0 l1
noncomputable abbrev b79:=C1 Tryz.f79
abbrev G79(r:List A1):=J none Tryz.prog 63 [] (L3 Tryz.prog Tryz.f79 (.l 4 r A4))
theorem Cp7{fuel:Nat}{d0:B0}{d1:List A1}{d2:Bool}{r:List A1}(hF:F79 fuel d0 d1 d2=some r):
 C3 Tryz.prog 79 [.d (.pt [.sl 1 (d0.Model.Owner.map B1),.sl 1 (d0.Model.Choices.map A0),.int .u64 d0.target,.bool d0.most,.int .u64 d0.zero,.sl 1 (d0.blocks.map D4)]),.l 4 d1 A4,.b d2] (.l 4 r A4):=by
 unfold F79 at hF
 refine cf 63 Tryz.func79 ?_
 obtain⟨l1,e1,hF⟩:=bnd hF
 refine jo2 8 (mm (f:=A4) e1) ?_
 have hL1:∀(nL1:Nat) (v2:Int) (l17:List A1),Aj0 fuel d0 d1 d2 nL1 v2 l17=some r→G79 r ⟨mkT [(0,.d (.pt [.sl 1 (d0.Model.Owner.map B1),.sl 1 (d0.Model.Choices.map A0),.int .u64 d0.target,.bool d0.most,.int .u64 d0.zero,.sl 1 (d0.blocks.map D4)])),(1,.l 4 d1 A4),(2,.b d2),(7,.suf 11 0 0),(13,.i ((d1.map A4).length:Int)),(14,.i v2)],[(11,.buf 0 84 4 (l17.map A4))],[kL b79 [1,1,0,1,0,0],.inBlock 0,kC b79 [1,1,1]]⟩:=by
  clear hF;intro nL1
  induction nL1 with
  |zero=>intro v2 l17 hF;cases hF
  |succ nL1 iL1=>
   intro v2 l17 hF
   rw[Aj0]at hF
   refine jI 6 15 hF ?_ ?_<;>intro hF
   ·have hA2:∀(l21:List A1),Ax8 v2 (Aj0 fuel d0 d1 d2 nL1) l21=some r→G79 r ⟨mkT [(0,.d (.pt [.sl 1 (d0.Model.Owner.map B1),.sl 1 (d0.Model.Choices.map A0),.int .u64 d0.target,.bool d0.most,.int .u64 d0.zero,.sl 1 (d0.blocks.map D4)])),(1,.l 4 d1 A4),(2,.b d2),(7,.suf 11 0 0),(13,.i ((d1.map A4).length:Int)),(14,.i v2)],[(11,.buf 0 84 4 (l21.map A4))],[kC b79 [1,1,0,1,0,0,1,1,1],kL b79 [1,1,0,1,0,0],.inBlock 0,kC b79 [1,1,1]]⟩:=by
     intro l21 hF
     unfold Ax8 at hF
     exact ja 4 (iL1 _ _ hF)
    obtain⟨hb49,hF⟩:=N1 hF
    refine jo1 17 (ck hb49) ?_
    refine jI 4 27 hF ?_ ?_<;>intro hF
    ·refine jB 4 hF Dg3 Ao2 fun y31 hF=> ?_
     obtain⟨y32,e48,hF⟩:=bnd hF
     refine jo1 0 (gm (f:=A4) e48) ?_
     obtain⟨l22,e49,hF⟩:=bnd hF
     have hst:=stm (f:=A4) (z:=y31) (k:=0) (xs:=[.bool y31.n_.neg,.sl 1 (y31.n_.mag.map A5),.bool y31.d.neg,.sl 1 (y31.d.mag.map A5)]) (gj e48) rfl
     refine C5 0 (H6 (o:=(match(l17.map A4)[0+Int.toNat v2]? with|some old=>some ((l17.map A4).set (0+Int.toNat v2) (Ad4 old 0 [.bool y31.n_.neg,.sl 1 (y31.n_.mag.map A5),.bool y31.d.neg,.sl 1 (y31.d.mag.map A5)]))|none=>none)) (l22.map A4) (by kernel_rfl) (by cases e49;exact hst) ?_)
     exact ja 3 (hA2 _ hF)
    ·obtain⟨o6,hO,hF⟩:=bnd hF
     have hR6:G79 r ⟨mkT [(0,.d (.pt [.sl 1 (d0.Model.Owner.map B1),.sl 1 (d0.Model.Choices.map A0),.int .u64 d0.target,.bool d0.most,.int .u64 d0.zero,.sl 1 (d0.blocks.map D4)])),(1,.l 4 d1 A4),(2,.b d2),(7,.suf 11 0 0),(8,.i v2),(13,.i ((d1.map A4).length:Int)),(14,.i v2),(40,.b o6)],[(11,.buf 0 84 4 (l17.map A4))],[kO b79 [1,1,0,1,0,0,1,1,0,0,1,0,1,1,0],kC b79 [1,1,0,1,0,0,1,1,0,0,1,0,1,1,1],.inBlock 2,.inBlock 1,kC b79 [1,1,0,1,0,0,1,1,1],kL b79 [1,1,0,1,0,0],.inBlock 0,kC b79 [1,1,1]]⟩:=by
      clear hO
      refine jI 1 40 hF ?_ ?_<;>intro hF
      ·refine jB 4 hF Dg3 Ao2 fun y33 hF=> ?_
       obtain⟨y34,e51,hF⟩:=bnd hF
       refine jo1 0 (gm (f:=A4) e51) ?_
       obtain⟨l23,e52,hF⟩:=bnd hF
       have hst:=stm (f:=A4) (z:=y33) (k:=0) (xs:=[.bool y33.n_.neg,.sl 1 (y33.n_.mag.map A5),.bool y33.d.neg,.sl 1 (y33.d.mag.map A5)]) (gj e51) rfl
       refine C5 0 (H6 (o:=(match(l17.map A4)[0+Int.toNat v2]? with|some old=>some ((l17.map A4).set (0+Int.toNat v2) (Ad4 old 0 [.bool y33.n_.neg,.sl 1 (y33.n_.mag.map A5),.bool y33.d.neg,.sl 1 (y33.d.mag.map A5)]))|none=>none)) (l23.map A4) (by kernel_rfl) (by cases e52;exact hst) ?_)
       exact ja 3 (hA2 _ hF)
      ·refine jB 7 hF Dl3 Ct0 fun y35 hF=> ?_
       obtain⟨y36,e54,hF⟩:=bnd hF
       refine jo1 3 (gm (f:=A4) e54) ?_
       obtain⟨l24,e55,hF⟩:=bnd hF
       have hst:=stm (f:=A4) (z:=y35.1) (k:=0) (xs:=[.bool y35.1.n_.neg,.sl 1 (y35.1.n_.mag.map A5),.bool y35.1.d.neg,.sl 1 (y35.1.d.mag.map A5)]) (gj e54) rfl
       refine C5 0 (H6 (o:=(match(l17.map A4)[0+Int.toNat v2]? with|some old=>some ((l17.map A4).set (0+Int.toNat v2) (Ad4 old 0 [.bool y35.1.n_.neg,.sl 1 (y35.1.n_.mag.map A5),.bool y35.1.d.neg,.sl 1 (y35.1.d.mag.map A5)]))|none=>none)) (l24.map A4) (by kernel_rfl) (by cases e55;exact hst) ?_)
       exact ja 3 (hA2 _ hF)
     clear hF;rename _=some o6=>hF
     refine jI 5 42 hF ?_ ?_<;>intro hF
     ·obtain⟨hb57,hF⟩:=N1 hF
      refine jo1 5 (ck hb57) ?_
      cases hF
      exact ja 4 hR6
     ·cases hF
      exact ja 10 hR6
   ·refine jI 7 57 hF ?_ ?_<;>intro hF
    ·obtain⟨y37,e56,hF⟩:=bnd hF
     refine jcr 5 [(11,2000)] Dz2 (Ct3 e56) ?_
     cases hF
     exact jr 6
    ·cases hF
     exact jr 7
 exact ja 11 (hL1 _ _ _ hF)
def C2(x:(List A1)×(List A1)):List Kx.V:=[.d (.sl 4 (x.1.map A4)),.d (.sl 4 (x.2.map A4))]
def Bl2(fuel:Nat)(d0:B0):Nat→(List A1)→(List A1)→Option (List ((List A1)×(List A1)))
 |0,_,_=>some []
 |nL2+1,l17,l18=>
  Option.bind (
   Option.bind (F79 fuel d0 l17 false) fun y17=>
   Option.bind (F79 fuel d0 l18 true) fun y18=>
   (Bl2 fuel d0 nL2) y17 y18) fun l19=>
  some ((l17,l18)::l19)
def Bl1(fuel:Nat)(d0:B0)(l1:List A1):Nat→Int→(List A1)→(List A1)→Option (List ((List A1)×(List A1)))
 |0,_,_,_=>none
 |nL1+1,v2,l9,l10=>
  bif decide (v2<((l1.map A4).length:Int)) then
   (ass (decide (0≤v2))<|
   Option.bind (F78 fuel (IntKind.i64.wrap (IntKind.u64.wrap (BitVec.ofInt IntKind.u64.bits (Int.fdiv d0.target (2^(min (Int.toNat v2) IntKind.u64.bits)))&&&BitVec.ofInt IntKind.u64.bits 1).toNat)) 1) fun y9=>
   ass (decide (0≤v2))<|
   Option.bind (F78 fuel (IntKind.i64.wrap (IntKind.u64.wrap (BitVec.ofInt IntKind.u64.bits 1&&& ~~~BitVec.ofInt IntKind.u64.bits (Int.fdiv d0.zero (2^(min (Int.toNat v2) IntKind.u64.bits)))).toNat)) 1) fun y10=>
   Option.bind (D6 l10 v2) fun y11=>
   Option.bind (some (l10.set (0+Int.toNat v2) y9)) fun l11=>
   Option.bind (D6 l9 v2) fun y12=>
   Option.bind (some (l9.set (0+Int.toNat v2) y10)) fun l12=>
   (Bl1 fuel d0 l1 nL1) (IntKind.i64.wrap (v2+1)) l12 l11)
  else
   (Bl2 fuel d0 (fuel-200) l10 l9)
def F39(fuel:Nat)(d0:B0):Option (List ((List A1)×(List A1))):=
 Option.bind (mkL ((d0.Model.Owner.map B1).length:Int) ((d0.Model.Owner.map B1).length:Int) (⟨(⟨false,[]⟩:A3),(⟨false,[]⟩:A3)⟩:A1)) fun l1=>
 Option.bind (mkL ((d0.Model.Owner.map B1).length:Int) ((d0.Model.Owner.map B1).length:Int) (⟨(⟨false,[]⟩:A3),(⟨false,[]⟩:A3)⟩:A1)) fun l2=>
 Bl1 fuel d0 l1 fuel 0 l2 l1
noncomputable abbrev b39:=C1 Tryz.f39
theorem Cp3{fuel:Nat}{d0:B0}{r:List ((List A1)×(List A1))}(hF:F39 fuel d0=some r):
 Ck1 Tryz.prog 39 [(2000,.frn 2000)] [.d (.pt [.sl 1 (d0.Model.Owner.map B1),.sl 1 (d0.Model.Choices.map A0),.int .u64 d0.target,.bool d0.most,.int .u64 d0.zero,.sl 1 (d0.blocks.map D4)]),.yl 2000] (r.map C2) false:=by
 unfold F39 at hF
 refine Cn0 (N:=61) (b:=C1 Tryz.f39) Tryz.func39 (by kernel_rfl) rfl rfl (fun yl_ Inv_ Stop_ Pan_ hR_ hE_=> ?_)
 refine jd 1 ?_
 obtain⟨l1,e1,hF⟩:=bnd hF
 refine do2 6 (mm (f:=A4) e1) ?_
 obtain⟨l2,e2,hF⟩:=bnd hF
 refine do2 6 (mm (f:=A4) e2) ?_
 refine je 2 ?_
 have hL1:∀(nL1:Nat) (r:List ((List A1)×(List A1))) (v2:Int) (l9:List A1) (l10:List A1),Bl1 fuel d0 l1 nL1 v2 l9 l10=some r→J none Tryz.prog 61 [] (Bu0 Tryz.prog Tryz.f39 yl_ Inv_ Stop_ Pan_ false (some (r.map C2))) ⟨mkT [(0,.d (.pt [.sl 1 (d0.Model.Owner.map B1),.sl 1 (d0.Model.Choices.map A0),.int .u64 d0.target,.bool d0.most,.int .u64 d0.zero,.sl 1 (d0.blocks.map D4)])),(1,.yl 2000),(4,.suf 13 0 0),(5,.suf 20 0 0),(22,.i ((l1.map A4).length:Int)),(23,.i v2)],[(13,.buf 0 84 4 (l10.map A4)),(20,.buf 0 84 4 (l9.map A4)),(2000,.frn 2000)],[kL b39 [1,0,1,0,0],.inBlock 0,kC b39 [1,1]]⟩:=by
  clear hF;intro nL1
  induction nL1 with
  |zero=>intro r v2 l9 l10 hF;cases hF
  |succ nL1 iL1=>
   intro r v2 l9 l10 hF
   rw[Bl1]at hF
   refine jI 6 24 hF ?_ ?_<;>intro hF
   ·refine jd 9 ?_
    obtain⟨hb8,hF⟩:=N1 hF
    refine do1 9 (ck hb8) ?_
    refine dB 2 hF Dg3 Ao2 fun y9 hF=> ?_
    obtain⟨hb9,hF⟩:=N1 hF
    refine do1 5 (ck hb9) ?_
    refine dB 2 hF Dg3 Ao2 fun y10 hF=> ?_
    obtain⟨y11,e17,hF⟩:=bnd hF
    refine do1 0 (gm (f:=A4) e17) ?_
    obtain⟨l11,e18,hF⟩:=bnd hF
    have hst:=stm (f:=A4) (z:=y9) (k:=0) (xs:=[.bool y9.n_.neg,.sl 1 (y9.n_.mag.map A5),.bool y9.d.neg,.sl 1 (y9.d.mag.map A5)]) (gj e17) rfl
    refine R7 0 (At4 (o:=(match(l10.map A4)[0+Int.toNat v2]? with|some old=>some ((l10.map A4).set (0+Int.toNat v2) (Ad4 old 0 [.bool y9.n_.neg,.sl 1 (y9.n_.mag.map A5),.bool y9.d.neg,.sl 1 (y9.d.mag.map A5)]))|none=>none)) (l11.map A4) (by kernel_rfl) (by kernel_rfl) (by cases e18;exact hst) ?_)
    obtain⟨y12,e19,hF⟩:=bnd hF
    refine do1 0 (gm (f:=A4) e19) ?_
    obtain⟨l12,e20,hF⟩:=bnd hF
    have hst:=stm (f:=A4) (z:=y10) (k:=0) (xs:=[.bool y10.n_.neg,.sl 1 (y10.n_.mag.map A5),.bool y10.d.neg,.sl 1 (y10.d.mag.map A5)]) (gj e19) rfl
    refine R7 0 (At4 (o:=(match(l9.map A4)[0+Int.toNat v2]? with|some old=>some ((l9.map A4).set (0+Int.toNat v2) (Ad4 old 0 [.bool y10.n_.neg,.sl 1 (y10.n_.mag.map A5),.bool y10.d.neg,.sl 1 (y10.d.mag.map A5)]))|none=>none)) (l12.map A4) (by kernel_rfl) (by kernel_rfl) (by cases e20;exact hst) ?_)
    refine je 0 ?_
    exact ja 5 (iL1 _ _ _ _ hF)
   ·have hL2:∀(nL2:Nat) (r:List ((List A1)×(List A1))) (l17:List A1) (l18:List A1),Bl2 fuel d0 nL2 l17 l18=some r→J none Tryz.prog 61 [] (Bu0 Tryz.prog Tryz.f39 yl_ Inv_ Stop_ Pan_ false (some (r.map C2))) ⟨mkT [(0,.d (.pt [.sl 1 (d0.Model.Owner.map B1),.sl 1 (d0.Model.Choices.map A0),.int .u64 d0.target,.bool d0.most,.int .u64 d0.zero,.sl 1 (d0.blocks.map D4)])),(1,.yl 2000),(4,.l 4 l17 A4),(5,.l 4 l18 A4)],[(2000,.frn 2000)],[kL b39 [1,1,0,0],.inBlock 2]⟩:=by
     clear hF;intro nL2
     induction nL2 with
     |zero=>intro r l17 l18 hF;have hr_:=Option.some.inj hF;subst hr_;exact Bz4 hE_ (by kernel_rfl)
     |succ nL2 iL2=>
      intro r l17 l18 hF
      rw[Bl2]at hF
      obtain⟨l19,hY_,hr_⟩:=bnd hF
      clear hF;have hr_:=Option.some.inj hr_;subst hr_;have hF:=hY_;clear hY_
      refine C5 7 (Bf6 hR_ (xs:=[.l 4 l17 A4,.l 4 l18 A4]) [.l 4 l17 A4,.l 4 l18 A4] (ys:=l19.map C2) (by kernel_rfl) (by kernel_rfl) (H9.refl _) ?_ ?_)
      rotate_left
      ·exact C5 3 (Aj3 hR_ (.inr rfl) rfl rfl (by kernel_rfl))
      ·refine jB 7 hF Eh6 Cp7 fun y17 hF=> ?_
       refine jB 2 hF Eh6 Cp7 fun y18 hF=> ?_
       exact ja 4 (iL2 _ _ _ hF)
    refine C5 4 (Bz6 4 (by kernel_rfl) (by kernel_rfl) ?_)
    refine C5 0 (Bz6 5 (by kernel_rfl) (by kernel_rfl) ?_)
    exact ja 0 (hL2 _ _ _ _ hF)
 exact ja 9 (hL1 _ _ _ _ _ hF)
def Bx5(l1:List (List UInt8))(l2:List (List UInt8))(v3:Int):Option (List (List UInt8)×List (List UInt8)×Int):=
 some (l2,l1,0)
def Ax6(fuel:Nat):List ((List A1)×(List A1))→Int→Option (List (List UInt8)×List (List UInt8)×Int)
 |[],v2=>
  none
 |y9::ys_F14_L1,v2=>
  bif v2==0 then
   (Option.bind (F41 fuel y9.1) fun y10=>
   Option.bind (F41 fuel y9.2) fun y11=>
   Bx5 y11.1 y10.1 v2)
  else
   ((Ax6 fuel ys_F14_L1) (IntKind.i64.wrap (v2-1)))
def F14(fuel:Nat)(d0:B6)(d1:Int)(d2:Bool)(d3:Int):Option (List (List UInt8)×List (List UInt8)×Int):=
 Option.bind (F34 fuel d0 d1) fun y1=>
 bif y1 !=0 then
  (some ([],[],y1))
 else
  (Option.bind (
   bif decide (d3<0) then
    (some true)
   else
    (some (decide (d3>60)))) fun o1=>
  bif o1 then
   (some ([],[],2))
  else
   (Option.bind (F38 fuel d0 d1 d2) fun y2=>
   Option.bind (F39 fuel y2) fun ys1=>
   Ax6 fuel ys1 d3))
noncomputable abbrev b14:=C1 Tryz.f14
theorem Ax7{fuel:Nat}{d0:B6}{d1:Int}{d2:Bool}{d3:Int}{r:List (List UInt8)×List (List UInt8)×Int}(hF:F14 fuel d0 d1 d2 d3=some r):
 C3 Tryz.prog 14 [.agg [.l 1 d0.Owner B1,.l 1 d0.Choices A0],.n d1,.b d2,.i d3] (.tup [.l 1 r.1 e_s,.l 1 r.2.1 e_s,.i r.2.2]):=by
 unfold F14 at hF
 refine Ag3 (N:=49) (b:=C1 Tryz.f14) Tryz.func14 (by kernel_rfl) rfl rfl (fun w00_ M00_=> ?_)
 refine jB 13 hF Eg8 Cp1 fun y1 hF=> ?_
 refine jI 7 18 hF ?_ ?_<;>intro hF
 ·have hF:=oi hF;subst hF
  exact C5 8 (W0 (xs:=[.l 1 [] e_s,.l 1 [] e_s,.i y1]) [.l 1 [] e_s,.l 1 [] e_s,.i y1] rfl rfl (by kernel_rfl) (H9.refl _) rfl (by kernel_rfl))
 ·obtain⟨o1,hO,hF⟩:=bnd hF
  have hR1:J none Tryz.prog 49 (dfs []) (Dr5 Tryz.prog Tryz.f14 (.tup [.l 1 r.1 e_s,.l 1 r.2.1 e_s,.i r.2.2]) w00_ M00_ []) ⟨mkT [(1,.n d1),(2,.b d2),(4,.ptr 4 0),(7,.ptr 7 0),(8,.ptr 8 0),(9,.ptr 9 0),(25,.b o1)],[(4,.box 26 [.l 1 d0.Owner B1,.l 1 d0.Choices A0]),(7,.box 3 [.i d3]),(8,.box 28 [.esl 1]),(9,.box 28 [.esl 1])],[kO b14 [1,1,0,0],kC b14 [1,1,0,1],kC b14 [1,1,1]]⟩:=by
   clear hO
   refine jI 1 25 hF ?_ ?_<;>intro hF
   ·have hF:=oi hF;subst hF
    exact C5 7 (W0 (xs:=[.l 1 [] e_s,.l 1 [] e_s,.i 2]) [.l 1 [] e_s,.l 1 [] e_s,.i 2] rfl rfl (by kernel_rfl) (H9.refl _) rfl (by kernel_rfl))
   ·refine jB 8 hF Eg9 Cp2 fun y2 hF=> ?_
    refine ja 3 (S0:=[(7,.ptr 7 0),(8,.ptr 8 0),(9,.ptr 9 0),(30,.fn 39 [.d (.pt [.sl 1 (y2.Model.Owner.map B1),.sl 1 (y2.Model.Choices.map A0),.int .u64 y2.target,.bool y2.most,.int .u64 y2.zero,.sl 1 (y2.blocks.map D4)])] [])]) (O0:=[(7,.box 3 [.i d3]),(8,.box 28 [.esl 1]),(9,.box 28 [.esl 1])]) (T0:=[kC b14 [1,1,1,0,1,0],.inBlock 0,kC b14 [1,1,1,1]]) ?_
    refine Ab8 [(7,2100),(8,2101),(9,2102)] (by kernel_rfl) (by kernel_rfl) (by kernel_rfl) (by kernel_rfl) ?_
    refine Bf5 (S0:=[(7,.ptr 2100 0),(8,.ptr 2101 0),(9,.ptr 2102 0),(30,.fn 39 [.d (.pt [.sl 1 (y2.Model.Owner.map B1),.sl 1 (y2.Model.Choices.map A0),.int .u64 y2.target,.bool y2.most,.int .u64 y2.zero,.sl 1 (y2.blocks.map D4)])] [])]) (O0:=[(2100,.box 3 [.i d3]),(2101,.box 28 [.esl 1]),(2102,.box 28 [.esl 1])]) (T0:=[kC b14 [1,1,1,0,1,0],.inBlock 0,kC b14 [1,1,1,1]]) [7,8,9,30] [2100,2101,2102] (by kernel_rfl) rfl ?_
    obtain⟨ys1,e3,hF⟩:=bnd hF
    obtain⟨G_,hG_⟩:∃G:List (List Kx.V)→List (Nat×B7)→Prop,G=(fun yv ob=>∃(yl_:List ((List A1)×(List A1))) (v2:Int),yv=yl_.map C2∧ob=[(2100,.box 3 [.i v2]),(2101,.box 28 [.esl 1]),(2102,.box 28 [.esl 1])]∧Ax6 fuel yl_ v2=some r):=⟨_,rfl⟩
    obtain⟨GX_,hGX_⟩:∃G:Code→List (Nat×B7)→Prop,G=(fun j ob=>(∃(l1:List (List UInt8)) (l2:List (List UInt8)) (v3:Int),j= .exit 0∧ob=[(2100,.box 3 [.i v3]),(2101,.box 28 [.l 1 l2 e_s]),(2102,.box 28 [.l 1 l1 e_s])]∧Bx5 l1 l2 v3=some r)):=⟨_,rfl⟩
    refine Bm7 (P:=Tryz.prog) (g:=(.tmp 30)) (ps:= #[31,32]) (asg:=(cAt b14 [1,1,1,0,1,0,0])) (bo:=(cAt b14 [1,1,1,0,1,0,1])) (k:=[.inBlock 0,kC b14 [1,1,1,1]]) (gf:=39) (first:=[.d (.pt [.sl 1 (y2.Model.Owner.map B1),.sl 1 (y2.Model.Choices.map A0),.int .u64 y2.target,.bool y2.most,.int .u64 y2.zero,.sl 1 (y2.blocks.map D4)])]) (cap:=[]) (xs:=[.d (.pt [.sl 1 (y2.Model.Owner.map B1),.sl 1 (y2.Model.Choices.map A0),.int .u64 y2.target,.bool y2.most,.int .u64 y2.zero,.sl 1 (y2.blocks.map D4)])]) (os:=[]) (S1:=[(7,.ptr 2100 0),(8,.ptr 2101 0),(9,.ptr 2102 0)]) (ob0:=[(2100,.box 3 [.i d3]),(2101,.box 28 [.esl 1]),(2102,.box 28 [.esl 1])]) [] [7,8,9] [2100,2101,2102] [.d (.pt [.sl 1 (y2.Model.Owner.map B1),.sl 1 (y2.Model.Choices.map A0),.int .u64 y2.target,.bool y2.most,.int .u64 y2.zero,.sl 1 (y2.blocks.map D4)])] (ysAll:=ys1.map C2) [2100,2101,2102] G_ GX_ rfl (by kernel_rfl) rfl (by kernel_rfl) rfl (by kernel_rfl) (H9.refl _) Eh0 (Cp3 e3) (by kernel_rfl) (by kernel_rfl) (by kernel_rfl) ?_ ?_ ?_ ⟨by kernel_rfl,by kernel_rfl⟩ ?_ ?_ ?_
    ·rw[hG_];exact⟨ys1,d3,rfl,by kernel_rfl,hF⟩
    ·intro yv_ ob_ h_;rw[hG_]at h_;obtain⟨_,_,_,rfl,_⟩:=h_;kernel_rfl
    ·intro j_ ob_ h_;rw[hGX_]at h_;rcases h_ with⟨_,_,_,_,rfl,_⟩<;>kernel_rfl
    ·intro x_ hxa_ hxb_ hxp_ yv_ ysv_ ob_ h_;rw[hG_]at h_
     obtain⟨yl_,v2,hy_,rfl,hF⟩:=h_
     cases yl_ with
     |nil=>cases hy_
     |cons y9 ys_F14_L1=>
      cases hy_;rw[Ax6]at hF
      refine Bi4 (by kernel_rfl) ?_
      refine Bf5 (S0:=[(7,.ptr 2100 0),(8,.ptr 2101 0),(9,.ptr 2102 0),(31,.l 4 y9.1 A4),(32,.l 4 y9.2 A4)]) (O0:=[(3000,.raw x_.D (.deferred (some []))),(3001,.raw x_.L (.loop (E0 x_ .ready none))),(2100,.box 3 [.i v2]),(2101,.box 28 [.esl 1]),(2102,.box 28 [.esl 1])]) (T0:=[kC b14 [1,1,1,0,1,0,0],.begR x_.L,kC b14 [1,1,1,0,1,0,1]]) [7,8,9,31,32] [3000,3001,2100,2101,2102] (by kernel_rfl) rfl ?_
      refine ja 7 (S0:=[(7,.ptr 2100 0),(8,.ptr 2101 0),(9,.ptr 2102 0),(12,.l 4 y9.1 A4),(13,.l 4 y9.2 A4),(31,.l 4 y9.1 A4),(32,.l 4 y9.2 A4)]) (O0:=[(3000,.raw x_.D (.deferred (some []))),(3001,.raw x_.L (.loop (E0 x_ .ready none))),(2100,.box 3 [.i v2]),(2101,.box 28 [.esl 1]),(2102,.box 28 [.esl 1])]) (T0:=[.begR x_.L,kC b14 [1,1,1,0,1,0,1]]) ?_
      refine Aj2 (l:=x_.L) (q:=3001) (k:=[kC b14 [1,1,1,0,1,0,1]]) (rec:=E0 x_ .ready none) rfl rfl rfl ?_
      refine jI 7 34 hF ?_ ?_<;>intro hF
      ·refine jB 4 hF Dr0 Bl5 fun y10 hF=> ?_
       refine jB 8 hF Dr0 Bl5 fun y11 hF=> ?_
       refine ja 5 (S0:=[]) (O0:=rob x_ .busy none [(2100,.box 3 [.i v2]),(2101,.box 28 [.l 1 y10.1 e_s]),(2102,.box 28 [.l 1 y11.1 e_s])]) (T0:=[.code (.exit 0),kC b14 [1,1,1,0,1,0,1,0,1],.inBlock 1]) ?_
       exact Bz5 rfl [(2100,.box 3 [.i v2]),(2101,.box 28 [.l 1 y10.1 e_s]),(2102,.box 28 [.l 1 y11.1 e_s])] (k:=[kC b14 [1,1,1,0,1,0,1,0,1],.inBlock 1]) rfl rfl rfl (by kernel_rfl) (by rw[hGX_];exact⟨y11.1,y10.1,v2,rfl,rfl,hF⟩)
      ·refine ja 8 (S0:=[]) (O0:=rob x_ .busy none [(2100,.box 3 [.i (IntKind.i64.wrap (v2-1))]),(2101,.box 28 [.esl 1]),(2102,.box 28 [.esl 1])]) (T0:=[]) ?_
       exact Aj4 rfl [(2100,.box 3 [.i (IntKind.i64.wrap (v2-1))]),(2101,.box 28 [.esl 1]),(2102,.box 28 [.esl 1])] rfl rfl (by kernel_rfl) (by rw[hG_];exact⟨ys_F14_L1,IntKind.i64.wrap (v2-1),rfl,rfl,hF⟩)
    ·intro ob_ h_;rw[hG_]at h_
     obtain⟨yl_,v2,hy_,rfl,hF⟩:=h_
     cases yl_ with
     |cons _ _=>cases hy_
     |nil=>rw[Ax6]at hF;cases hF
    ·intro D_ ob_ j_ h_;rw[hGX_]at h_
     rcases h_ with⟨l1,l2,v3,rfl,rfl,hF⟩
     ·unfold Bx5 at hF
      refine Ax9 [(2100,7),(2101,8),(2102,9)] (by kernel_rfl) (by kernel_rfl) (by kernel_rfl) ?_
      refine ja 0 (S0:=[(8,.ptr 8 0),(9,.ptr 9 0)]) (O0:=[(8,.box 28 [.l 1 l2 e_s]),(9,.box 28 [.l 1 l1 e_s])]) (T0:=[.code (.exit 0),.inBlock 0,kC b14 [1,1,1,1]]) ?_
      refine jd 2 ?_
      refine je 5 ?_
      have hF:=oi hF;subst hF
      exact C5 0 (W0 (xs:=[.l 1 l2 e_s,.l 1 l1 e_s,.i 0]) [.l 1 l2 e_s,.l 1 l1 e_s,.i 0] rfl rfl (by kernel_rfl) (H9.refl _) rfl (by kernel_rfl))
  clear hF;rename _=some o1=>hF
  refine jI 8 22 hF ?_ ?_<;>intro hF
  ·cases hF
   exact ja 3 hR1
  ·cases hF
   exact ja 3 hR1
def F15(fuel:Nat)(d0:B6)(d1:Int)(d2:Bool)(d3:Int)(d4:List (List UInt8))(d5:List (List UInt8)):Option Bool:=
 Option.bind (F14 fuel d0 d1 d2 d3) fun y1=>
 Option.bind (
  bif y1.2.2==0 then
   (Option.bind (F30 fuel y1.1 d4) fun y6=>
   bif y6 then
    (Option.bind (F30 fuel y1.2.1 d5) fun y7=>
    some y7)
   else
    (some false))
  else
   (some false)) fun o1=>
 some o1
noncomputable abbrev b15:=C1 Tryz.f15
abbrev G15(r:Bool):=J none Tryz.prog 37 [] (L3 Tryz.prog Tryz.f15 (.b r))
theorem S8{fuel:Nat}{d0:B6}{d1:Int}{d2:Bool}{d3:Int}{d4:List (List UInt8)}{d5:List (List UInt8)}{r:Bool}(hF:F15 fuel d0 d1 d2 d3 d4 d5=some r):
 C3 Tryz.prog 15 [.agg [.l 1 d0.Owner B1,.l 1 d0.Choices A0],.n d1,.b d2,.i d3,.l 1 d4 e_s,.l 1 d5 e_s] (.b r):=by
 unfold F15 at hF
 refine cf 37 Tryz.func15 ?_
 refine jB 11 hF Dl4 Ax7 fun y1 hF=> ?_
 obtain⟨o1,hO,hF⟩:=bnd hF
 have hR1:G15 r ⟨mkT [(12,.b o1)],[],[kO b15 [1,1,0],kC b15 [1,1,1]]⟩:=by
  clear hO
  cases hF
  exact jr 1
 clear hF;rename _=some o1=>hF
 refine jI 13 27 hF ?_ ?_<;>intro hF
 ·refine jB 2 hF Dq6 Bk7 fun y6 hF=> ?_
  refine jI 2 32 hF ?_ ?_<;>intro hF
  ·refine jB 2 hF Dq6 Bk7 fun y7 hF=> ?_
   cases hF
   exact ja 2 hR1
  ·cases hF
   exact ja 5 hR1
 ·cases hF
  exact ja 10 hR1
def F11(fuel:Nat):Option Bool:=
 Option.bind (F12) fun y1=>
 Option.bind (
  Option.bind (F15 fuel y1 4 true 0 [[48],[48],[49]] [[49],[49],[49]]) fun y10=>
  bif y10 then
   (Option.bind (F15 fuel y1 4 true 1 [[48],[49,47,50],[49]] [[49],[49],[49]]) fun y11=>
   bif y11 then
    (Option.bind (F15 fuel y1 4 false 2 [[48],[51,47,52],[49]] [[48],[49],[49]]) fun y12=>
    bif y12 then
     (Option.bind (F15 fuel y1 1 true 5 [[49],[48],[48]] [[49],[48],[48]]) fun y13=>
     some y13)
    else
     (some false))
   else
    (some false))
  else
   (some false)) fun o1=>
 some o1
noncomputable abbrev b11:=C1 Tryz.f11
abbrev G11(r:Bool):=J none Tryz.prog 27 [] (L3 Tryz.prog Tryz.f11 (.b r))
theorem Dg6{fuel:Nat}{r:Bool}(hF:F11 fuel=some r):
 C3 Tryz.prog 11 [] (.b r):=by
 unfold F11 at hF
 refine cf 27 Tryz.func11 ?_
 refine jB 6 hF Dk9 Dg9 fun y1 hF=> ?_
 obtain⟨o1,hO,hF⟩:=bnd hF
 have hR1:G11 r ⟨mkT [(0,.b o1)],[],[kO b11 [1,1,1,0],kC b11 [1,1,1,1]]⟩:=by
  clear hO
  cases hF
  exact jr 1
 clear hF;rename _=some o1=>hF
 refine jB 13 hF Cc8 S8 fun y10 hF=> ?_
 refine jI 1 9 hF ?_ ?_<;>intro hF
 ·refine jB 3 hF Cc8 S8 fun y11 hF=> ?_
  refine jI 2 15 hF ?_ ?_<;>intro hF
  ·refine jB 3 hF Cc8 S8 fun y12 hF=> ?_
   refine jI 2 21 hF ?_ ?_<;>intro hF
   ·refine jB 3 hF Cc8 S8 fun y13 hF=> ?_
    cases hF
    exact ja 2 hR1
   ·cases hF
    exact ja 6 hR1
  ·cases hF
   exact ja 12 hR1
 ·cases hF
  exact ja 18 hR1
def De7:Option (List Int×List (List A2)):=
 Option.bind (mkL 3 3 0) fun l2=>
 Option.bind (F33 0 1) fun y5=>
 Option.bind (F32 0) fun y6=>
 Option.bind (F33 1 2) fun y7=>
 Option.bind (F32 2) fun y8=>
 some (l2,[[y5,y6],[y7],[y8]])
noncomputable abbrev b12:=C1 Tryz.f12
theorem Aq9{r:List Int×List (List A2)}(hF:De7=some r):
 F4 Tryz.prog 12 [] [] [(2000,.box 26 [.suf 2001 0 0,.suf 2002 0 0]),(2001,.buf 0 3 1 (r.1.map B1)),(2002,.buf 0 42 1 (r.2.map A0))] (.agg [.suf 2001 0 0,.suf 2002 0 0]):=by
 unfold De7 at hF
 refine cr 17 Tryz.func12 ?_
 refine jd 13 ?_
 obtain⟨l2,e6,hF⟩:=bnd hF
 refine do2 0 (mm (f:=B1) e6) ?_
 refine dB 1 hF Dq8 Bk9 fun y5 hF=> ?_
 refine dB 1 hF Dq7 Bk8 fun y6 hF=> ?_
 refine dB 2 hF Dq8 Bk9 fun y7 hF=> ?_
 refine dB 2 hF Dq7 Bk8 fun y8 hF=> ?_
 refine je 4 ?_
 refine ja 0 (S0:=[(0,.ptr 0 0)]) (O0:=[(0,.box 26 [.suf 3 0 0,.suf 15 0 0]),(3,.buf 0 3 1 (l2.map B1)),(15,.buf 0 42 1 ([[y5,y6],[y7],[y8]].map A0))]) (T0:=[kC b12 [1,1,1,1]]) ?_
 refine C5 0 (Ab8 [(0,2000),(3,2001),(15,2002)] (by kernel_rfl) (by kernel_rfl) (by kernel_rfl) (by kernel_rfl) ?_)
 have hF:=oi hF;subst hF
 exact C5 0 (At6 (xs:=[.agg [.suf 2001 0 0,.suf 2002 0 0]]) [.agg [.suf 2001 0 0,.suf 2002 0 0]] rfl (by kernel_rfl) (by kernel_rfl) (H9.refl _) rfl)
def Bl3(fuel:Nat)(d0:List A1)(d1:List A1)(d2:A1):Nat→Int→Option Bool
 |0,_=>none
 |nL1+1,v2=>
  bif decide (v2<((d0.map A4).length:Int)) then
   (Option.bind (D6 d0 v2) fun y15=>
   Option.bind (D6 d1 v2) fun y19=>
   Option.bind (F80 fuel y19 y15) fun y20=>
   Option.bind (F65 fuel y20 d2) fun y21=>
   bif decide (y21>0) then
    (some false)
   else
    ((Bl3 fuel d0 d1 d2 nL1) (IntKind.i64.wrap (v2+1))))
  else
   (some true)
def F40(fuel:Nat)(d0:List A1)(d1:List A1)(d2:A1):Option Bool:=
 Bl3 fuel d0 d1 d2 fuel 0
noncomputable abbrev b40:=C1 Tryz.f40
abbrev G40(r:Bool):=J none Tryz.prog 26 [] (L3 Tryz.prog Tryz.f40 (.b r))
theorem Di2{fuel:Nat}{d0:List A1}{d1:List A1}{d2:A1}{r:Bool}(hF:F40 fuel d0 d1 d2=some r):
 C3 Tryz.prog 40 [.l 4 d0 A4,.l 4 d1 A4,.agg [.b d2.n_.neg,.l 1 d2.n_.mag A5,.b d2.d.neg,.l 1 d2.d.mag A5]] (.b r):=by
 unfold F40 at hF
 refine cf 26 Tryz.func40 ?_
 have hL1:∀(nL1:Nat) (v2:Int),Bl3 fuel d0 d1 d2 nL1 v2=some r→G40 r ⟨mkT [(1,.l 4 d1 A4),(5,.ptr 5 0),(9,.l 4 d0 A4),(10,.i ((d0.map A4).length:Int)),(11,.i v2)],[(5,.box 84 [.b d2.n_.neg,.l 1 d2.n_.mag A5,.b d2.d.neg,.l 1 d2.d.mag A5])],[kL b40 [1,0,1,0,0],.inBlock 0,kC b40 [1,1]]⟩:=by
  clear hF;intro nL1
  induction nL1 with
  |zero=>intro v2 hF;cases hF
  |succ nL1 iL1=>
   intro v2 hF
   rw[Bl3]at hF
   refine jI 6 12 hF ?_ ?_<;>intro hF
   ·obtain⟨y15,e15,hF⟩:=bnd hF
    refine jo1 7 (gm (f:=A4) e15) ?_
    refine jd 6 ?_
    obtain⟨y19,e19,hF⟩:=bnd hF
    refine do1 2 (gm (f:=A4) e19) ?_
    refine dB 2 hF Em0 Di5 fun y20 hF=> ?_
    refine dB 1 hF Eh2 Cp5 fun y21 hF=> ?_
    refine je 1 ?_
    refine jI 0 24 hF ?_ ?_<;>intro hF
    ·cases hF
     exact jr 5
    ·exact ja 7 (iL1 _ hF)
   ·cases hF
    exact jr 6
 exact ja 14 (hL1 _ _ hF)
def Bx1(v3:Int)(l1:List (List UInt8))(l2:List (List UInt8)):Option (List (List UInt8)×List (List UInt8)×Int×Int):=
 some (l2,l1,v3,0)
def Bx2(v4:Int):Option (List (List UInt8)×List (List UInt8)×Int×Int):=
 some ([],[],0,4)
def Ax5(fuel:Nat)(d4:Int)(y3:A1):List ((List A1)×(List A1))→Int→Option (List (List UInt8)×List (List UInt8)×Int×Int)
 |[],v2=>
  none
 |y15::ys_F13_L1,v2=>
  Option.bind (F40 fuel y15.1 y15.2 y3) fun y16=>
  bif y16 then
   (Option.bind (F41 fuel y15.1) fun y17=>
   Option.bind (F41 fuel y15.2) fun y18=>
   Bx1 v2 y18.1 y17.1)
  else
   (bif v2==d4 then
    (Bx2 v2)
   else
    ((Ax5 fuel d4 y3 ys_F13_L1) (IntKind.i64.wrap (v2+1))))
def F13(fuel:Nat)(d0:B6)(d1:Int)(d2:Bool)(d3:List UInt8)(d4:Int):Option (List (List UInt8)×List (List UInt8)×Int×Int):=
 Option.bind (F34 fuel d0 d1) fun y1=>
 bif y1 !=0 then
  (some ([],[],0,y1))
 else
  (Option.bind (F35 fuel d3) fun y2=>
  bif y2 !=0 then
   (some ([],[],0,5))
  else
   (Option.bind (F36 fuel d3) fun y3=>
   Option.bind (
    Option.bind (F37 y3) fun y19=>
    bif decide (y19<1) then
     (some true)
    else
     (bif decide (d4<0) then
      (some true)
     else
      (some (decide (d4>60))))) fun o1=>
   bif o1 then
    (some ([],[],0,2))
   else
    (Option.bind (F38 fuel d0 d1 d2) fun y6=>
    Option.bind (F39 fuel y6) fun ys1=>
    Ax5 fuel d4 y3 ys1 0)))
noncomputable abbrev b13:=C1 Tryz.f13
theorem Ad8{fuel:Nat}{d0:B6}{d1:Int}{d2:Bool}{d3:List UInt8}{d4:Int}{r:List (List UInt8)×List (List UInt8)×Int×Int}(hF:F13 fuel d0 d1 d2 d3 d4=some r):
 C3 Tryz.prog 13 [.agg [.l 1 d0.Owner B1,.l 1 d0.Choices A0],.n d1,.b d2,.s d3,.i d4] (.tup [.l 1 r.1 e_s,.l 1 r.2.1 e_s,.i r.2.2.1,.i r.2.2.2]):=by
 unfold F13 at hF
 refine Ag3 (N:=69) (b:=C1 Tryz.f13) Tryz.func13 (by kernel_rfl) rfl rfl (fun w00_ M00_=> ?_)
 refine jB 14 hF Eg8 Cp1 fun y1 hF=> ?_
 refine jI 7 22 hF ?_ ?_<;>intro hF
 ·have hF:=oi hF;subst hF
  exact C5 9 (W0 (xs:=[.l 1 [] e_s,.l 1 [] e_s,.i 0,.i y1]) [.l 1 [] e_s,.l 1 [] e_s,.i 0,.i y1] rfl rfl (by kernel_rfl) (H9.refl _) rfl (by kernel_rfl))
 ·refine jB 6 hF El5 Di0 fun y2 hF=> ?_
  refine jI 2 26 hF ?_ ?_<;>intro hF
  ·have hF:=oi hF;subst hF
   exact C5 8 (W0 (xs:=[.l 1 [] e_s,.l 1 [] e_s,.i 0,.i 5]) [.l 1 [] e_s,.l 1 [] e_s,.i 0,.i 5] rfl rfl (by kernel_rfl) (H9.refl _) rfl (by kernel_rfl))
  ·refine jB 5 hF Dq9 Bl0 fun y3 hF=> ?_
   obtain⟨o1,hO,hF⟩:=bnd hF
   have hR1:J none Tryz.prog 69 (dfs []) (Dr5 Tryz.prog Tryz.f13 (.tup [.l 1 r.1 e_s,.l 1 r.2.1 e_s,.i r.2.2.1,.i r.2.2.2]) w00_ M00_ []) ⟨mkT [(1,.n d1),(2,.b d2),(5,.ptr 5 0),(9,.ptr 9 0),(10,.ptr 10 0),(11,.ptr 11 0),(12,.ptr 12 0),(13,.ptr 13 0),(15,.ptr 15 0),(39,.b o1)],[(5,.box 26 [.l 1 d0.Owner B1,.l 1 d0.Choices A0]),(9,.box 3 [.i d4]),(10,.box 28 [.esl 1]),(11,.box 28 [.esl 1]),(12,.box 3 [.i 0]),(13,.box 29 [.i 0]),(15,.box 84 [.b y3.n_.neg,.l 1 y3.n_.mag A5,.b y3.d.neg,.l 1 y3.d.mag A5])],[kO b13 [1,1,1,1,0,0],kC b13 [1,1,1,1,0,1],kC b13 [1,1,1,1,1]]⟩:=by
    clear hO
    refine jI 1 39 hF ?_ ?_<;>intro hF
    ·have hF:=oi hF;subst hF
     exact C5 8 (W0 (xs:=[.l 1 [] e_s,.l 1 [] e_s,.i 0,.i 2]) [.l 1 [] e_s,.l 1 [] e_s,.i 0,.i 2] rfl rfl (by kernel_rfl) (H9.refl _) rfl (by kernel_rfl))
    ·refine jB 8 hF Eg9 Cp2 fun y6 hF=> ?_
     refine ja 3 (S0:=[(9,.ptr 9 0),(10,.ptr 10 0),(11,.ptr 11 0),(12,.ptr 12 0),(13,.ptr 13 0),(15,.ptr 15 0),(44,.fn 39 [.d (.pt [.sl 1 (y6.Model.Owner.map B1),.sl 1 (y6.Model.Choices.map A0),.int .u64 y6.target,.bool y6.most,.int .u64 y6.zero,.sl 1 (y6.blocks.map D4)])] [])]) (O0:=[(9,.box 3 [.i d4]),(10,.box 28 [.esl 1]),(11,.box 28 [.esl 1]),(12,.box 3 [.i 0]),(13,.box 29 [.i 0]),(15,.box 84 [.b y3.n_.neg,.l 1 y3.n_.mag A5,.b y3.d.neg,.l 1 y3.d.mag A5])]) (T0:=[kC b13 [1,1,1,1,1,0,1,0],.inBlock 0,kC b13 [1,1,1,1,1,1]]) ?_
     refine Ab8 [(9,2100),(10,2101),(11,2102),(12,2103),(13,2104),(15,2105)] (by kernel_rfl) (by kernel_rfl) (by kernel_rfl) (by kernel_rfl) ?_
     refine Bf5 (S0:=[(9,.ptr 2100 0),(10,.ptr 2101 0),(11,.ptr 2102 0),(12,.ptr 2103 0),(13,.ptr 2104 0),(15,.ptr 2105 0),(44,.fn 39 [.d (.pt [.sl 1 (y6.Model.Owner.map B1),.sl 1 (y6.Model.Choices.map A0),.int .u64 y6.target,.bool y6.most,.int .u64 y6.zero,.sl 1 (y6.blocks.map D4)])] [])]) (O0:=[(2100,.box 3 [.i d4]),(2101,.box 28 [.esl 1]),(2102,.box 28 [.esl 1]),(2103,.box 3 [.i 0]),(2104,.box 29 [.i 0]),(2105,.box 84 [.b y3.n_.neg,.l 1 y3.n_.mag A5,.b y3.d.neg,.l 1 y3.d.mag A5])]) (T0:=[kC b13 [1,1,1,1,1,0,1,0],.inBlock 0,kC b13 [1,1,1,1,1,1]]) [9,10,11,12,13,15,44] [2100,2101,2102,2103,2104,2105] (by kernel_rfl) rfl ?_
     obtain⟨ys1,e7,hF⟩:=bnd hF
     obtain⟨G_,hG_⟩:∃G:List (List Kx.V)→List (Nat×B7)→Prop,G=(fun yv ob=>∃(yl_:List ((List A1)×(List A1))) (v2:Int),yv=yl_.map C2∧ob=[(2100,.box 3 [.i d4]),(2101,.box 28 [.esl 1]),(2102,.box 28 [.esl 1]),(2103,.box 3 [.i v2]),(2104,.box 29 [.i 0]),(2105,.box 84 [.b y3.n_.neg,.l 1 y3.n_.mag A5,.b y3.d.neg,.l 1 y3.d.mag A5])]∧Ax5 fuel d4 y3 yl_ v2=some r):=⟨_,rfl⟩
     obtain⟨GX_,hGX_⟩:∃G:Code→List (Nat×B7)→Prop,G=(fun j ob=>(∃(v3:Int) (l1:List (List UInt8)) (l2:List (List UInt8)),j= .ret∧ob=[(2100,.box 3 [.i d4]),(2101,.box 28 [.l 1 l2 e_s]),(2102,.box 28 [.l 1 l1 e_s]),(2103,.box 3 [.i v3]),(2104,.box 29 [.i 0]),(2105,.box 84 [.b y3.n_.neg,.l 1 y3.n_.mag A5,.b y3.d.neg,.l 1 y3.d.mag A5])]∧Bx1 v3 l1 l2=some r)∨(∃(v4:Int),j= .exit 0∧ob=[(2100,.box 3 [.i d4]),(2101,.box 28 [.esl 1]),(2102,.box 28 [.esl 1]),(2103,.box 3 [.i v4]),(2104,.box 29 [.i 0]),(2105,.box 84 [.b y3.n_.neg,.l 1 y3.n_.mag A5,.b y3.d.neg,.l 1 y3.d.mag A5])]∧Bx2 v4=some r)):=⟨_,rfl⟩
     refine Bm7 (P:=Tryz.prog) (g:=(.tmp 44)) (ps:= #[45,46]) (asg:=(cAt b13 [1,1,1,1,1,0,1,0,0])) (bo:=(cAt b13 [1,1,1,1,1,0,1,0,1])) (k:=[.inBlock 0,kC b13 [1,1,1,1,1,1]]) (gf:=39) (first:=[.d (.pt [.sl 1 (y6.Model.Owner.map B1),.sl 1 (y6.Model.Choices.map A0),.int .u64 y6.target,.bool y6.most,.int .u64 y6.zero,.sl 1 (y6.blocks.map D4)])]) (cap:=[]) (xs:=[.d (.pt [.sl 1 (y6.Model.Owner.map B1),.sl 1 (y6.Model.Choices.map A0),.int .u64 y6.target,.bool y6.most,.int .u64 y6.zero,.sl 1 (y6.blocks.map D4)])]) (os:=[]) (S1:=[(9,.ptr 2100 0),(10,.ptr 2101 0),(11,.ptr 2102 0),(12,.ptr 2103 0),(13,.ptr 2104 0),(15,.ptr 2105 0)]) (ob0:=[(2100,.box 3 [.i d4]),(2101,.box 28 [.esl 1]),(2102,.box 28 [.esl 1]),(2103,.box 3 [.i 0]),(2104,.box 29 [.i 0]),(2105,.box 84 [.b y3.n_.neg,.l 1 y3.n_.mag A5,.b y3.d.neg,.l 1 y3.d.mag A5])]) [] [9,10,11,12,13,15] [2100,2101,2102,2103,2104,2105] [.d (.pt [.sl 1 (y6.Model.Owner.map B1),.sl 1 (y6.Model.Choices.map A0),.int .u64 y6.target,.bool y6.most,.int .u64 y6.zero,.sl 1 (y6.blocks.map D4)])] (ysAll:=ys1.map C2) [2100,2101,2102,2103,2104,2105] G_ GX_ rfl (by kernel_rfl) rfl (by kernel_rfl) rfl (by kernel_rfl) (H9.refl _) Eh0 (Cp3 e7) (by kernel_rfl) (by kernel_rfl) (by kernel_rfl) ?_ ?_ ?_ ⟨by kernel_rfl,by kernel_rfl⟩ ?_ ?_ ?_
     ·rw[hG_];exact⟨ys1,0,rfl,by kernel_rfl,hF⟩
     ·intro yv_ ob_ h_;rw[hG_]at h_;obtain⟨_,_,_,rfl,_⟩:=h_;kernel_rfl
     ·intro j_ ob_ h_;rw[hGX_]at h_;rcases h_ with⟨_,_,_,_,rfl,_⟩|⟨_,_,rfl,_⟩<;>kernel_rfl
     ·intro x_ hxa_ hxb_ hxp_ yv_ ysv_ ob_ h_;rw[hG_]at h_
      obtain⟨yl_,v2,hy_,rfl,hF⟩:=h_
      cases yl_ with
      |nil=>cases hy_
      |cons y15 ys_F13_L1=>
       cases hy_;rw[Ax5]at hF
       refine Bi4 (by kernel_rfl) ?_
       refine Bf5 (S0:=[(9,.ptr 2100 0),(10,.ptr 2101 0),(11,.ptr 2102 0),(12,.ptr 2103 0),(13,.ptr 2104 0),(15,.ptr 2105 0),(45,.l 4 y15.1 A4),(46,.l 4 y15.2 A4)]) (O0:=[(3000,.raw x_.D (.deferred (some []))),(3001,.raw x_.L (.loop (E0 x_ .ready none))),(2100,.box 3 [.i d4]),(2101,.box 28 [.esl 1]),(2102,.box 28 [.esl 1]),(2103,.box 3 [.i v2]),(2104,.box 29 [.i 0]),(2105,.box 84 [.b y3.n_.neg,.l 1 y3.n_.mag A5,.b y3.d.neg,.l 1 y3.d.mag A5])]) (T0:=[kC b13 [1,1,1,1,1,0,1,0,0],.begR x_.L,kC b13 [1,1,1,1,1,0,1,0,1]]) [9,10,11,12,13,15,45,46] [3000,3001,2100,2101,2102,2103,2104,2105] (by kernel_rfl) rfl ?_
       refine ja 7 (S0:=[(9,.ptr 2100 0),(10,.ptr 2101 0),(11,.ptr 2102 0),(12,.ptr 2103 0),(13,.ptr 2104 0),(15,.ptr 2105 0),(16,.l 4 y15.1 A4),(17,.l 4 y15.2 A4),(45,.l 4 y15.1 A4),(46,.l 4 y15.2 A4)]) (O0:=[(3000,.raw x_.D (.deferred (some []))),(3001,.raw x_.L (.loop (E0 x_ .ready none))),(2100,.box 3 [.i d4]),(2101,.box 28 [.esl 1]),(2102,.box 28 [.esl 1]),(2103,.box 3 [.i v2]),(2104,.box 29 [.i 0]),(2105,.box 84 [.b y3.n_.neg,.l 1 y3.n_.mag A5,.b y3.d.neg,.l 1 y3.d.mag A5])]) (T0:=[.begR x_.L,kC b13 [1,1,1,1,1,0,1,0,1]]) ?_
       refine Aj2 (l:=x_.L) (q:=3001) (k:=[kC b13 [1,1,1,1,1,0,1,0,1]]) (rec:=E0 x_ .ready none) rfl rfl rfl ?_
       refine jB 7 hF El7 Di2 fun y16 hF=> ?_
       refine jI 1 50 hF ?_ ?_<;>intro hF
       ·refine jB 4 hF Dr0 Bl5 fun y17 hF=> ?_
        refine jB 8 hF Dr0 Bl5 fun y18 hF=> ?_
        refine jd 6 ?_
        refine je 7 ?_
        refine ja 0 (S0:=[]) (O0:=rob x_ .busy none [(2100,.box 3 [.i d4]),(2101,.box 28 [.l 1 y17.1 e_s]),(2102,.box 28 [.l 1 y18.1 e_s]),(2103,.box 3 [.i v2]),(2104,.box 29 [.i 0]),(2105,.box 84 [.b y3.n_.neg,.l 1 y3.n_.mag A5,.b y3.d.neg,.l 1 y3.d.mag A5])]) (T0:=[.code (.ret),kC b13 [1,1,1,1,1,0,1,0,1,0,1],.inBlock 1]) ?_
        exact Bm8 rfl [(2100,.box 3 [.i d4]),(2101,.box 28 [.l 1 y17.1 e_s]),(2102,.box 28 [.l 1 y18.1 e_s]),(2103,.box 3 [.i v2]),(2104,.box 29 [.i 0]),(2105,.box 84 [.b y3.n_.neg,.l 1 y3.n_.mag A5,.b y3.d.neg,.l 1 y3.d.mag A5])] (k:=[kC b13 [1,1,1,1,1,0,1,0,1,0,1],.inBlock 1]) rfl rfl rfl (by kernel_rfl) (by rw[hGX_];exact(.inl ⟨v2,y18.1,y17.1,rfl,rfl,hF⟩))
       ·refine jI 9 66 hF ?_ ?_<;>intro hF
        ·refine ja 1 (S0:=[]) (O0:=rob x_ .busy none [(2100,.box 3 [.i d4]),(2101,.box 28 [.esl 1]),(2102,.box 28 [.esl 1]),(2103,.box 3 [.i v2]),(2104,.box 29 [.i 0]),(2105,.box 84 [.b y3.n_.neg,.l 1 y3.n_.mag A5,.b y3.d.neg,.l 1 y3.d.mag A5])]) (T0:=[.code (.exit 0),kC b13 [1,1,1,1,1,0,1,0,1,0,1,1],.inBlock 1]) ?_
         exact Bz5 rfl [(2100,.box 3 [.i d4]),(2101,.box 28 [.esl 1]),(2102,.box 28 [.esl 1]),(2103,.box 3 [.i v2]),(2104,.box 29 [.i 0]),(2105,.box 84 [.b y3.n_.neg,.l 1 y3.n_.mag A5,.b y3.d.neg,.l 1 y3.d.mag A5])] (k:=[kC b13 [1,1,1,1,1,0,1,0,1,0,1,1],.inBlock 1]) rfl rfl rfl (by kernel_rfl) (by rw[hGX_];exact(.inr (⟨v2,rfl,rfl,hF⟩)))
        ·refine ja 8 (S0:=[]) (O0:=rob x_ .busy none [(2100,.box 3 [.i d4]),(2101,.box 28 [.esl 1]),(2102,.box 28 [.esl 1]),(2103,.box 3 [.i (IntKind.i64.wrap (v2+1))]),(2104,.box 29 [.i 0]),(2105,.box 84 [.b y3.n_.neg,.l 1 y3.n_.mag A5,.b y3.d.neg,.l 1 y3.d.mag A5])]) (T0:=[]) ?_
         exact Aj4 rfl [(2100,.box 3 [.i d4]),(2101,.box 28 [.esl 1]),(2102,.box 28 [.esl 1]),(2103,.box 3 [.i (IntKind.i64.wrap (v2+1))]),(2104,.box 29 [.i 0]),(2105,.box 84 [.b y3.n_.neg,.l 1 y3.n_.mag A5,.b y3.d.neg,.l 1 y3.d.mag A5])] rfl rfl (by kernel_rfl) (by rw[hG_];exact⟨ys_F13_L1,IntKind.i64.wrap (v2+1),rfl,rfl,hF⟩)
     ·intro ob_ h_;rw[hG_]at h_
      obtain⟨yl_,v2,hy_,rfl,hF⟩:=h_
      cases yl_ with
      |cons _ _=>cases hy_
      |nil=>rw[Ax5]at hF;cases hF
     ·intro D_ ob_ j_ h_;rw[hGX_]at h_
      rcases h_ with⟨v3,l1,l2,rfl,rfl,hF⟩|⟨v4,rfl,rfl,hF⟩
      ·unfold Bx1 at hF
       refine Ax9 [(2100,9),(2101,10),(2102,11),(2103,12),(2104,13),(2105,15)] (by kernel_rfl) (by kernel_rfl) (by kernel_rfl) ?_
       refine ja 0 (S0:=[(10,.ptr 10 0),(11,.ptr 11 0),(12,.ptr 12 0),(13,.ptr 13 0)]) (O0:=[(10,.box 28 [.l 1 l2 e_s]),(11,.box 28 [.l 1 l1 e_s]),(12,.box 3 [.i v3]),(13,.box 29 [.i 0])]) (T0:=[.code (.ret),.inBlock 0,kC b13 [1,1,1,1,1,1]]) ?_
       have hF:=oi hF;subst hF
       exact C5 0 (W0 (xs:=[.l 1 l2 e_s,.l 1 l1 e_s,.i v3,.i 0]) [.l 1 l2 e_s,.l 1 l1 e_s,.i v3,.i 0] rfl rfl (by kernel_rfl) (H9.refl _) rfl (by kernel_rfl))
      ·unfold Bx2 at hF
       refine Ax9 [(2100,9),(2101,10),(2102,11),(2103,12),(2104,13),(2105,15)] (by kernel_rfl) (by kernel_rfl) (by kernel_rfl) ?_
       refine ja 0 (S0:=[(10,.ptr 10 0),(11,.ptr 11 0),(12,.ptr 12 0),(13,.ptr 13 0)]) (O0:=[(10,.box 28 [.esl 1]),(11,.box 28 [.esl 1]),(12,.box 3 [.i v4]),(13,.box 29 [.i 0])]) (T0:=[.code (.exit 0),.inBlock 0,kC b13 [1,1,1,1,1,1]]) ?_
       have hF:=oi hF;subst hF
       exact C5 8 (W0 (xs:=[.l 1 [] e_s,.l 1 [] e_s,.i 0,.i 4]) [.l 1 [] e_s,.l 1 [] e_s,.i 0,.i 4] rfl rfl (by kernel_rfl) (H9.refl _) rfl (by kernel_rfl))
   clear hF;rename _=some o1=>hF
   refine jB 7 hF El6 Di1 fun y19 hF=> ?_
   refine jI 2 32 hF ?_ ?_<;>intro hF
   ·cases hF
    exact ja 7 hR1
   ·refine jI 4 36 hF ?_ ?_<;>intro hF
    ·cases hF
     exact ja 3 hR1
    ·cases hF
     exact ja 3 hR1
def F16(fuel:Nat)(d0:List (List UInt8))(d1:List (List UInt8))(d2:List (List UInt8))(d3:List (List UInt8)):Option Bool:=
 Option.bind (
  Option.bind (F30 fuel d0 d2) fun y5=>
  bif y5 then
   (Option.bind (F30 fuel d1 d3) fun y6=>
   some y6)
  else
   (some false)) fun o1=>
 some o1
noncomputable abbrev b16:=C1 Tryz.f16
abbrev G16(r:Bool):=J none Tryz.prog 17 [] (L3 Tryz.prog Tryz.f16 (.b r))
theorem Dh1{fuel:Nat}{d0:List (List UInt8)}{d1:List (List UInt8)}{d2:List (List UInt8)}{d3:List (List UInt8)}{r:Bool}(hF:F16 fuel d0 d1 d2 d3=some r):
 C3 Tryz.prog 16 [.l 1 d0 e_s,.l 1 d1 e_s,.l 1 d2 e_s,.l 1 d3 e_s] (.b r):=by
 unfold F16 at hF
 refine cf 17 Tryz.func16 ?_
 obtain⟨o1,hO,hF⟩:=bnd hF
 have hR1:G16 r ⟨mkT [(8,.b o1)],[],[kO b16 [1,0],kC b16 [1,1]]⟩:=by
  clear hO
  cases hF
  exact jr 1
 clear hF;rename _=some o1=>hF
 refine jB 8 hF Dq6 Bk7 fun y5 hF=> ?_
 refine jI 1 12 hF ?_ ?_<;>intro hF
 ·refine jB 2 hF Dq6 Bk7 fun y6 hF=> ?_
  cases hF
  exact ja 2 hR1
 ·cases hF
  exact ja 5 hR1
def F3(fuel:Nat):Option Bool:=
 Option.bind (F11 fuel) fun y1=>
 bif !y1 then
  (some false)
 else
  (Option.bind (De7) fun y2=>
  Option.bind (F13 fuel (⟨y2.1,y2.2⟩:B6) 1 true [49,47,57] 0) fun y3=>
  Option.bind (F13 fuel (⟨y2.1,y2.2⟩:B6) 4 true [49,47,57] 3) fun y4=>
  Option.bind (F13 fuel (⟨y2.1,y2.2⟩:B6) 4 true [48] 3) fun y5=>
  Option.bind (F13 fuel (⟨y2.1,y2.2⟩:B6) 4 true [45,49] 3) fun y6=>
  Option.bind (F13 fuel (⟨y2.1,y2.2⟩:B6) 4 true [50,47,52] 99) fun y7=>
  Option.bind (F13 fuel (⟨y2.1,y2.2⟩:B6) 4 true [49] 61) fun y8=>
  Option.bind (F13 fuel (⟨y2.1,y2.2⟩:B6) 4 true [49] (-1)) fun y9=>
  Option.bind (F13 fuel (⟨y2.1,y2.2⟩:B6) 4 true [49] 60) fun y10=>
  Option.bind (F14 fuel (⟨y2.1,y2.2⟩:B6) 8 true 0) fun y11=>
  Option.bind (F14 fuel (⟨y2.1,y2.2⟩:B6) 4 true 61) fun y12=>
  Option.bind (De7) fun y13=>
  Option.bind (D6 y13.1 1) fun y14=>
  Option.bind (some (y13.1.set (0+Int.toNat 1) 1)) fun l1=>
  Option.bind (F14 fuel (⟨l1,y13.2⟩:B6) 8 true 61) fun y15=>
  Option.bind (F14 fuel (⟨[],[]⟩:B6) 8 true 61) fun y16=>
  Option.bind (De7) fun y17=>
  Option.bind (F15 fuel (⟨y2.1,y2.2⟩:B6) 4 true 3 [[49,47,50],[55,47,56],[49]] [[49],[49],[49]]) fun y18=>
  Option.bind (
   Option.bind (F15 fuel (⟨y17.1,[[(⟨[],[48],[(⟨1,[49]⟩:B5)]⟩:A2),(⟨[],[48],[(⟨1,[49,47,50]⟩:B5),(⟨2,[49,47,50]⟩:B5)]⟩:A2)],[(⟨[],[48],[(⟨0,[49]⟩:B5)]⟩:A2)],[(⟨[],[48],[(⟨2,[49]⟩:B5)]⟩:A2)]]⟩:B6) 4 true 1 [[49,47,50],[48],[49]] [[49],[49],[49]]) fun y37=>
   bif y37 then
    (Option.bind (F15 fuel (⟨y17.1,[[(⟨[],[48],[(⟨1,[49]⟩:B5)]⟩:A2),(⟨[],[48],[(⟨1,[49,47,50]⟩:B5),(⟨2,[49,47,50]⟩:B5)]⟩:A2)],[(⟨[],[48],[(⟨0,[49]⟩:B5)]⟩:A2)],[(⟨[],[48],[(⟨2,[49]⟩:B5)]⟩:A2)]]⟩:B6) 4 false 3 [[48],[48],[49]] [[48],[48],[49]]) fun y38=>
    bif y38 then
     (Option.bind (F15 fuel (⟨y17.1,[[(⟨[],[48],[(⟨1,[49]⟩:B5)]⟩:A2),(⟨[],[48],[(⟨1,[49,47,50]⟩:B5),(⟨2,[49,47,50]⟩:B5)]⟩:A2)],[(⟨[],[48],[(⟨0,[49]⟩:B5)]⟩:A2)],[(⟨[],[48],[(⟨2,[49]⟩:B5)]⟩:A2)]]⟩:B6) 0 true 2 [[48],[48],[48]] [[48],[48],[48]]) fun y39=>
     bif y39 then
      (Option.bind (F15 fuel (⟨y17.1,[[(⟨[],[48],[(⟨1,[49]⟩:B5)]⟩:A2),(⟨[],[48],[(⟨1,[49,47,50]⟩:B5),(⟨2,[49,47,50]⟩:B5)]⟩:A2)],[(⟨[],[48],[(⟨0,[49]⟩:B5)]⟩:A2)],[(⟨[],[48],[(⟨2,[49]⟩:B5)]⟩:A2)]]⟩:B6) 7 true 2 [[49],[49],[49]] [[49],[49],[49]]) fun y40=>
      some y40)
     else
      (some false))
    else
     (some false))
   else
    (some false)) fun o1=>
  Option.bind (De7) fun y27=>
  Option.bind (mkL 4 4 0) fun l2=>
  Option.bind (
   Option.bind (F15 fuel (⟨l2,[[(⟨[],[48],[(⟨0,[49]⟩:B5)]⟩:A2),(⟨[],[48],[(⟨1,[49,47,50]⟩:B5),(⟨3,[49,47,50]⟩:B5)]⟩:A2)],[(⟨[],[48],[(⟨2,[49]⟩:B5)]⟩:A2)],[(⟨[],[48],[(⟨2,[49]⟩:B5)]⟩:A2)],[(⟨[],[48],[(⟨3,[49]⟩:B5)]⟩:A2)]]⟩:B6) 4 true 1 [[48],[49],[49],[48]] [[49,47,50],[49],[49],[48]]) fun y35=>
   bif y35 then
    (Option.bind (F15 fuel (⟨l2,[[(⟨[],[48],[(⟨0,[49]⟩:B5)]⟩:A2),(⟨[],[48],[(⟨1,[49,47,50]⟩:B5),(⟨3,[49,47,50]⟩:B5)]⟩:A2)],[(⟨[],[48],[(⟨2,[49]⟩:B5)]⟩:A2)],[(⟨[],[48],[(⟨2,[49]⟩:B5)]⟩:A2)],[(⟨[],[48],[(⟨3,[49]⟩:B5)]⟩:A2)]]⟩:B6) 4 true 2 [[49,47,50],[49],[49],[48]] [[49,47,50],[49],[49],[48]]) fun y36=>
    some y36)
   else
    (some false)) fun o2=>
  Option.bind (
   bif y4.2.2.2==4 then
    (bif y5.2.2.2==2 then
     (bif y6.2.2.2==2 then
      (bif y7.2.2.2==5 then
       (bif y8.2.2.2==2 then
        (bif y9.2.2.2==2 then
         (bif y11.2.2==2 then
          (bif y12.2.2==2 then
           (bif y15.2.2==111 then
            (some (y16.2.2==110))
           else
            (some false))
          else
           (some false))
         else
          (some false))
        else
         (some false))
       else
        (some false))
      else
       (some false))
     else
      (some false))
    else
     (some false))
   else
    (some false)) fun o3=>
  Option.bind (
   bif o3 then
    (bif y3.2.2.2==0 then
     (bif y3.2.2.1==0 then
      (Option.bind (F16 fuel y3.1 y3.2.1 [[49],[48],[48]] [[49],[48],[48]]) fun y34=>
      bif y34 then
       (bif y10.2.2.2==0 then
        (bif y10.2.2.1==0 then
         (bif y18 then
          (bif o1 then
           (some o2)
          else
           (some false))
         else
          (some false))
        else
         (some false))
       else
        (some false))
      else
       (some false))
     else
      (some false))
    else
     (some false))
   else
    (some false)) fun o4=>
  some o4)
noncomputable abbrev b3:=C1 Tryz.f3
abbrev G3(r:Bool):=J none Tryz.prog 291 [] (L3 Tryz.prog Tryz.f3 (.b r))
theorem Dv8{fuel:Nat}{r:Bool}(hF:F3 fuel=some r):
 C3 Tryz.prog 3 [] (.b r):=by
 unfold F3 at hF
 refine cf 291 Tryz.func3 ?_
 refine jB 7 hF El3 Dg6 fun y1 hF=> ?_
 refine jI 2 54 hF ?_ ?_<;>intro hF
 ·cases hF
  exact jr 5
 ·obtain⟨y2,e2,hF⟩:=bnd hF
  refine jcr 4 [(55,2000),(1100,2001),(1101,2002)] Dk9 (Aq9 e2) ?_
  refine jB 6 hF Cq6 Ad8 fun y3 hF=> ?_
  refine jB 13 hF Cq6 Ad8 fun y4 hF=> ?_
  refine jB 13 hF Cq6 Ad8 fun y5 hF=> ?_
  refine jB 13 hF Cq6 Ad8 fun y6 hF=> ?_
  refine jB 13 hF Cq6 Ad8 fun y7 hF=> ?_
  refine jB 13 hF Cq6 Ad8 fun y8 hF=> ?_
  refine jB 13 hF Cq6 Ad8 fun y9 hF=> ?_
  refine jB 13 hF Cq6 Ad8 fun y10 hF=> ?_
  refine jB 13 hF Dl4 Ax7 fun y11 hF=> ?_
  refine jB 11 hF Dl4 Ax7 fun y12 hF=> ?_
  obtain⟨y13,e13,hF⟩:=bnd hF
  refine jcr 10 [(124,2000),(1102,2001),(1103,2002)] Dk9 (Aq9 e13) ?_
  obtain⟨y14,e14,hF⟩:=bnd hF
  refine jo1 7 (gm (f:=B1) e14) ?_
  obtain⟨l1,e15,hF⟩:=bnd hF
  have hst:=stm (f:=B1) (z:=1) (k:=0) (xs:=[.int .i64 1]) (gj e14) rfl
  refine C5 0 (H6 (o:=(match(y13.1.map B1)[0+Int.toNat 1]? with|some old=>some ((y13.1.map B1).set (0+Int.toNat 1) (Ad4 old 0 [.int .i64 1]))|none=>none)) (l1.map B1) (by kernel_rfl) (by cases e15;exact hst) ?_)
  refine jB 4 hF Dl4 Ax7 fun y15 hF=> ?_
  refine jB 11 hF Dl4 Ax7 fun y16 hF=> ?_
  obtain⟨y17,e18,hF⟩:=bnd hF
  refine jcr 10 [(140,2000),(1104,2001),(1105,2002)] Dk9 (Aq9 e18) ?_
  refine jB 30 hF Cc8 S8 fun y18 hF=> ?_
  obtain⟨o1,hO,hF⟩:=bnd hF
  have hR1:G3 r ⟨mkT [(2,.l 1 y3.1 e_s),(3,.l 1 y3.2.1 e_s),(4,.i y3.2.2.1),(5,.i y3.2.2.2),(9,.i y4.2.2.2),(13,.i y5.2.2.2),(17,.i y6.2.2.2),(21,.i y7.2.2.2),(25,.i y8.2.2.2),(29,.i y9.2.2.2),(32,.i y10.2.2.1),(33,.i y10.2.2.2),(36,.i y11.2.2),(39,.i y12.2.2),(43,.i y15.2.2),(46,.i y16.2.2),(48,.b y18),(49,.b o1)],[],[kO b3 [1,1,1,1,1,1,1,1,1,1,1,1,1,1,1,1,1,1,1,1,0],kC b3 [1,1,1,1,1,1,1,1,1,1,1,1,1,1,1,1,1,1,1,1,1]]⟩:=by
   clear hO
   obtain⟨y27,e28,hF⟩:=bnd hF
   refine jcr 3 [(185,2000),(1100,2001),(1101,2002)] Dk9 (Aq9 e28) ?_
   obtain⟨l2,e29,hF⟩:=bnd hF
   refine jo2 5 (mm (f:=B1) e29) ?_
   obtain⟨o2,hO,hF⟩:=bnd hF
   have hR2:G3 r ⟨mkT [(2,.l 1 y3.1 e_s),(3,.l 1 y3.2.1 e_s),(4,.i y3.2.2.1),(5,.i y3.2.2.2),(9,.i y4.2.2.2),(13,.i y5.2.2.2),(17,.i y6.2.2.2),(21,.i y7.2.2.2),(25,.i y8.2.2.2),(29,.i y9.2.2.2),(32,.i y10.2.2.1),(33,.i y10.2.2.2),(36,.i y11.2.2),(39,.i y12.2.2),(43,.i y15.2.2),(46,.i y16.2.2),(48,.b y18),(49,.b o1),(51,.b o2)],[],[kO b3 [1,1,1,1,1,1,1,1,1,1,1,1,1,1,1,1,1,1,1,1,1,1,1,1,0],kC b3 [1,1,1,1,1,1,1,1,1,1,1,1,1,1,1,1,1,1,1,1,1,1,1,1,1]]⟩:=by
    clear hO
    obtain⟨o3,hO,hF⟩:=bnd hF
    have hR3:G3 r ⟨mkT [(2,.l 1 y3.1 e_s),(3,.l 1 y3.2.1 e_s),(4,.i y3.2.2.1),(5,.i y3.2.2.2),(32,.i y10.2.2.1),(33,.i y10.2.2.2),(48,.b y18),(49,.b o1),(51,.b o2),(52,.b o3)],[],[kO b3 [1,1,1,1,1,1,1,1,1,1,1,1,1,1,1,1,1,1,1,1,1,1,1,1,1,0],kC b3 [1,1,1,1,1,1,1,1,1,1,1,1,1,1,1,1,1,1,1,1,1,1,1,1,1,1]]⟩:=by
     clear hO
     obtain⟨o4,hO,hF⟩:=bnd hF
     have hR4:G3 r ⟨mkT [(0,.b o4)],[],[kO b3 [1,1,1,1,1,1,1,1,1,1,1,1,1,1,1,1,1,1,1,1,1,1,1,1,1,1,0],kC b3 [1,1,1,1,1,1,1,1,1,1,1,1,1,1,1,1,1,1,1,1,1,1,1,1,1,1,1]]⟩:=by
      clear hO
      cases hF
      exact jr 1
     clear hF;rename _=some o4=>hF
     refine jI 5 259 hF ?_ ?_<;>intro hF
     ·refine jI 4 263 hF ?_ ?_<;>intro hF
      ·refine jI 4 267 hF ?_ ?_<;>intro hF
       ·refine jB 4 hF El4 Dh1 fun y34 hF=> ?_
        refine jI 2 274 hF ?_ ?_<;>intro hF
        ·refine jI 4 278 hF ?_ ?_<;>intro hF
         ·refine jI 4 282 hF ?_ ?_<;>intro hF
          ·refine jI 3 285 hF ?_ ?_<;>intro hF
           ·refine jI 3 288 hF ?_ ?_<;>intro hF
            ·cases hF
             exact ja 3 hR4
            ·cases hF
             exact ja 3 hR4
           ·cases hF
            exact ja 6 hR4
          ·cases hF
           exact ja 9 hR4
         ·cases hF
          exact ja 13 hR4
        ·cases hF
         exact ja 17 hR4
       ·cases hF
        exact ja 24 hR4
      ·cases hF
       exact ja 28 hR4
     ·cases hF
      exact ja 32 hR4
    clear hF;rename _=some o3=>hF
    refine jI 6 222 hF ?_ ?_<;>intro hF
    ·refine jI 4 226 hF ?_ ?_<;>intro hF
     ·refine jI 4 230 hF ?_ ?_<;>intro hF
      ·refine jI 4 234 hF ?_ ?_<;>intro hF
       ·refine jI 4 238 hF ?_ ?_<;>intro hF
        ·refine jI 4 242 hF ?_ ?_<;>intro hF
         ·refine jI 4 246 hF ?_ ?_<;>intro hF
          ·refine jI 4 250 hF ?_ ?_<;>intro hF
           ·refine jI 4 254 hF ?_ ?_<;>intro hF
            ·cases hF
             exact ja 4 hR3
            ·cases hF
             exact ja 4 hR3
           ·cases hF
            exact ja 8 hR3
          ·cases hF
           exact ja 12 hR3
         ·cases hF
          exact ja 16 hR3
        ·cases hF
         exact ja 20 hR3
       ·cases hF
        exact ja 24 hR3
      ·cases hF
       exact ja 28 hR3
     ·cases hF
      exact ja 32 hR3
    ·cases hF
     exact ja 36 hR3
   clear hF;rename _=some o2=>hF
   refine jB 34 hF Cc8 S8 fun y35 hF=> ?_
   refine jI 1 214 hF ?_ ?_<;>intro hF
   ·refine jB 3 hF Cc8 S8 fun y36 hF=> ?_
    cases hF
    exact ja 2 hR2
   ·cases hF
    exact ja 6 hR2
  clear hF;rename _=some o1=>hF
  refine jB 7 hF Cc8 S8 fun y37 hF=> ?_
  refine jI 1 167 hF ?_ ?_<;>intro hF
  ·refine jB 3 hF Cc8 S8 fun y38 hF=> ?_
   refine jI 2 173 hF ?_ ?_<;>intro hF
   ·refine jB 3 hF Cc8 S8 fun y39 hF=> ?_
    refine jI 2 179 hF ?_ ?_<;>intro hF
    ·refine jB 3 hF Cc8 S8 fun y40 hF=> ?_
     cases hF
     exact ja 2 hR1
    ·cases hF
     exact ja 6 hR1
   ·cases hF
    exact ja 12 hR1
  ·cases hF
   exact ja 18 hR1
end
end Go.Proofs.YtdlnalepibeibaaGreatDoor
end
section
namespace Go.Proofs.YtdlnalepibeibaaGreatDoor.sandwichKnown
open Go.ChangeShapes Go.WideShapes Go.ChangeAt Go.RowKit Kx
open Go.ChangeMaps (open_string shut_string)
set_option linter.unusedVariables false
set_option maxRecDepth 100000
section
theorem law:∃fuel,F3 fuel=some true:=⟨206,by kernel_rfl⟩
theorem own:ownKnob Tryz.prog.godebug=none:=by kernel_rfl
theorem Em3{W:World}(h0:laidMetH Tryz.prog Rows.sandwichKnownRow.laid W)(hs:W.ShapedOpen Tryz.prog):GlA (O6 W) W:=by
 have h:laidMet Tryz.prog Rows.sandwichKnownRow.laid W:=by
  rw[MakeChecks.laidMetH_plain _ _ _ (by kernel_rfl)]at h0
  exact h0
 have all:∀n cs,gl n=some cs→(∃us,O5 (O6 W) n 0 us∧D1 (O6 W) cs us)∧∃c e z,W.heap[n]? =some (.cells c e z)∧c.size=cs.length:=fun n cs e=>by
  refine Bo9 (Q:=fun n cs=>(∃us,O5 (O6 W) n 0 us∧D1 (O6 W) cs us)∧∃c e z,W.heap[n]? =some (.cells c e z)∧c.size=cs.length) ?_ e
  show _∧_∧_∧_∧_∧True
  exact⟨Cd2 h 0 (g:=4) (t:=340) (e:=5) rfl (by kernel_rfl) (by kernel_rfl) Tryz.underlying340 (by kernel_rfl) (by kernel_rfl) (by kernel_rfl) (by kernel_rfl),
   Cd2 h 1 (g:=5) (t:=341) (e:=5) rfl (by kernel_rfl) (by kernel_rfl) Tryz.underlying341 (by kernel_rfl) (by kernel_rfl) (by kernel_rfl) (by kernel_rfl),
   Cd2 h 2 (g:=3) (t:=320) (e:=32) rfl (by kernel_rfl) (by kernel_rfl) Tryz.underlying320 (by kernel_rfl) (by kernel_rfl) (by kernel_rfl) (by kernel_rfl),
   Cr0 h 4 (g:=1) (t:=189) rfl (by kernel_rfl) (by kernel_rfl) (by kernel_rfl) rfl,
   Cr0 h 3 (g:=2) (t:=189) rfl (by kernel_rfl) (by kernel_rfl) (by kernel_rfl) rfl,
   trivial⟩
 refine⟨⟨fun n cs e=>(all n cs e).1,fun n k e=> ?_⟩,fun n cs e=>(all n cs e).2⟩
 ·simp only[gxT,List.mem_cons,List.mem_nil_iff,or_false,Prod.mk.injEq]at e
  obtain⟨rfl,rfl⟩:=e
  exact Em2 hs (zero:= #[.int .i64 0]) (t:=3) (of_decide_eq_true (by kernel_rfl)) (by kernel_rfl) (by kernel_rfl) (by kernel_rfl) Tryz.underlying3 (by kernel_rfl)
theorem Dn1(os:Os)(started:os.Started)(H:Type)(enc:TypeId×Value→H):
 ReturnsInHanded {} Tryz.checked os 3 .any (fun w args=>(Rows.sandwichKnownSpec.pre enc Tryz.prog Tryz.f3 Rows.sandwichKnownRow.domain false w args∧laidMetH Tryz.prog Rows.sandwichKnownRow.laid w)∧sizedMet enc Tryz.prog Tryz.f3 (OpenSpec.ofChange Rows.sandwichKnownSpec) false w args)
  (Rows.sandwichKnownSpec.post enc Tryz.prog Tryz.f3 false true false false):=by
 refine S5 (C:=Tryz.checked) (X:=fun w _=>laidMetH Tryz.prog Rows.sandwichKnownRow.laid w) (fun _ _ _ hh h=>h.of_heap hh) own started (by kernel_rfl) Tryz.func3
  (ChangeSpec.witness_shaped (enc:=enc) (C:=Tryz.checked) (os:=os) (X:=fun w _=>laidMetH Tryz.prog Rows.sandwichKnownRow.laid w) false (World.laidAll Tryz.prog os Rows.sandwichKnownRow.laid) #[] 8 (World.laidAll_os _ _ _)
   (World.shaped_of_ZipB (by kernel_rfl) (by kernel_rfl)) (by kernel_rfl) (by kernel_rfl) (by kernel_rfl)
   (by rw[MakeChecks.laidMetH_plain _ _ _ (by kernel_rfl)];exact laidMet_laidAll _ (by kernel_rfl) (by kernel_rfl))) ?_
 intro W base args ds gs before hval0 hW hcnd hlaid hshape
 have hgl:GlA (O6 W) W:=Em3 hlaid hshape
 have hval:∀(j:Nat) t v,Tryz.f3.params[j]? =some t→args[j]? =some v→Value.okWide Tryz.prog W .any base t v:=hval0
 have hW':=hW
 obtain⟨p,q,hA0,hV,rfl,hfz,hnd⟩:=hW
 have hA:DataW.TrodAll enc Tryz.prog W 0 (fun _=>true) true Tryz.f3.params.toList args.toList ds p:=hA0
 rw[Tryz.params3]at hA hval
 obtain⟨rfl,rfl,rfl⟩:=trodAll_none hA
 obtain⟨rfl,rfl⟩:=trodVars_none hV
 obtain⟨fuel,hF⟩:=law
 clear hA0 hval0
 refine(Dv8 hF (O6 W) W [] (Br9 W) hgl (by simp only[B2])).mono fun e W' hE=> ?_
 obtain⟨u,M',rfl,hext,hv⟩:=hE
 have bel:=hext.below
 have hv:=F1 hv
 cases hv
 exact⟨_,rfl,_,_,_,[],_,[],hW',trodAll_mk1 (shut_bool Tryz.underlying4 _),trodAll_mk0,rfl,bel.frame _,fun h=>by cases h⟩
theorem Ce5:(Rows.sandwichKnownRow.inPlace==Tryz.pinned.checked.prog.inPlace 3)=true:=by kernel_rfl
theorem Bb9:(Rows.sandwichKnownRow.unfollowed==Tryz.pinned.checked.prog.unfollowed 3)=true:=by kernel_rfl
theorem Bu8:(Rows.sandwichKnownRow.recurses==Tryz.pinned.checked.prog.recurses 3)=true:=by kernel_rfl
theorem Dd2:(Rows.sandwichKnownRow.named==Tryz.pinned.checked.prog.varsNamed 3)=true:=by kernel_rfl
theorem Cz7:joinedFacts Tryz.pinned.checked.prog 3 Tryz.f3 Rows.sandwichKnownSpec Rows.sandwichKnownRow=true:=by
 unfold joinedFacts
 rw[Ce5,Bb9,Bu8,Dd2]
 kernel_rfl
theorem Em5:Rows.sandwichKnownRow.holds Tryz.pinned (OpenSpec.ofChange Rows.sandwichKnownSpec):=
 OpenClaim.holds_of_wide 3 Tryz.f3 rfl rfl rfl rfl rfl rfl rfl ⟨rfl,rfl,rfl,rfl,rfl⟩ rfl rfl rfl rfl rfl (by kernel_rfl) Tryz.func3 Cz7
  (of_decide_eq_true (by kernel_rfl)) (by unfold Func.isWrapper;first|(rw[if_pos (by decide+kernel)];kernel_rfl)|(rw[if_neg (by decide+kernel)];exact⟨rfl,rfl⟩))
  (fun os started H enc _=>Dn1 os started H enc)
theorem proved:Rows.SandwichKnownCardSaid:=
 Claim7.holds_tied_plain_at .later [] [.data,.data,.data,.sentinel,.sentinel] true (true, "576ca53fc8fd8aa78b63b083a81e19658d4bc94738a8f63b5d4a81637d3c6a55") true Em5 (fun _ h=>by cases h) (by kernel_rfl) (fun _ h=>by cases h) sandwichKnown_row_tie rfl ⟨rfl,rfl⟩ (by kernel_rfl) rfl
  (fun f fn hf hfn=>by
   obtain rfl:f=3:=Option.some.inj ((show Tryz.prog.funcNamed "croupier/croupierlaw22.SandwichKnown" =some 3 by kernel_rfl).symm.trans hf)|>.symm
   obtain rfl:fn=Tryz.f3:=(Option.some.inj (Tryz.func3.symm.trans hfn)).symm
   exact⟨by kernel_rfl,fun j t ht=>by
    rw[Tryz.params3]at ht
    simp at ht⟩)
  (by kernel_rfl)
#print axioms proved
end
end Go.Proofs.YtdlnalepibeibaaGreatDoor.sandwichKnown
end
