/- One part of the texts that lead to the theorem; it claims nothing by itself. -/
import Derived.Test.YtfgbhfphjmmiaaaGreatDoorKne
section
set_option linter.unusedVariables false
set_option maxRecDepth 100000
namespace Go.Proofs.YtfgbhfphjmmiaaaGreatDoor
open Go Go.RowKit Kx
/- croupier/croupierref01.Of -/
/- strconv.Atoi -/
/- croupier/croupierref01.little -/
/- croupier/croupierref01.negative -/
def F113 (d0 : List UInt8) : Option Bool :=
  Option.bind (geti d0 0) fun y1 =>
  some ((y1.toNat : Int) == 45)
def e_i64 (x : Int) : List Dat := [.int .i64 x]
/- croupier/croupierref01.cut -/
def F152_L1 : Nat → (List Int) → Option (List Int)
  | 0, _ => none
  | n_F152_L1 + 1, l4 =>
    Option.bind (
      bif decide (((l4.map e_i64).length : Int) > 0) then
        (Option.bind (geti l4 (IntKind.i64.wrap (((l4.map e_i64).length : Int) - 1))) fun y9 =>
        some (y9 == 0))
      else
        (some false)) fun o3 =>
    bif o3 then
      (Option.bind (slc l4 0 (IntKind.i64.wrap (((l4.map e_i64).length : Int) - 1))) fun l5 =>
      (F152_L1 n_F152_L1) l5)
    else
      (some l4)
def F152 (fuel : Nat) (d0 : List Int) : Option (List Int) :=
  F152_L1 fuel d0
/- croupier/croupierref01.read -/
def F115_L2 (d0 : List UInt8) (l4 : List Int) (v10 : Int) (rec_F115_L1 : Int → (List Int) → Option (List Int)) : Nat → Int → Int → Option (List Int)
  | 0, _, _ => none
  | n_F115_L2 + 1, v13, v14 =>
    bif decide (v14 < v10) then
      (Option.bind (geti ((d0.drop (Int.toNat 1)).take (Int.toNat ((d0.length : Int) - 1))) v14) fun y10 =>
      (F115_L2 d0 l4 v10 rec_F115_L1 n_F115_L2) (IntKind.i64.wrap ((IntKind.i64.wrap (10 * v13)) + (IntKind.i64.wrap (IntKind.u8.wrap ((y10.toNat : Int) - 48))))) (IntKind.i64.wrap (v14 + 1)))
    else
      (Option.bind (app l4 [v13]) fun l5 =>
      rec_F115_L1 (IntKind.i64.wrap (v10 - 4)) l5)
def F115_L1 (fuel : Nat) (d0 : List UInt8) : Nat → Int → (List Int) → Option (List Int)
  | 0, _, _ => none
  | n_F115_L1 + 1, v10, l4 =>
    bif decide (v10 > 0) then
      (F115_L2 d0 l4 v10 (F115_L1 fuel d0 n_F115_L1) fuel 0 (bif decide ((IntKind.i64.wrap (v10 - 4)) > 0) then (IntKind.i64.wrap (v10 - 4)) else 0))
    else
      (Option.bind (F152 fuel l4) fun y11 =>
      some y11)
def F115_L4 (d0 : List UInt8) (l9 : List Int) (v24 : Int) (rec_F115_L3 : Int → (List Int) → Option (List Int)) : Nat → Int → Int → Option (List Int)
  | 0, _, _ => none
  | n_F115_L4 + 1, v27, v28 =>
    bif decide (v28 < v24) then
      (Option.bind (geti d0 v28) fun y20 =>
      (F115_L4 d0 l9 v24 rec_F115_L3 n_F115_L4) (IntKind.i64.wrap ((IntKind.i64.wrap (10 * v27)) + (IntKind.i64.wrap (IntKind.u8.wrap ((y20.toNat : Int) - 48))))) (IntKind.i64.wrap (v28 + 1)))
    else
      (Option.bind (app l9 [v27]) fun l10 =>
      rec_F115_L3 (IntKind.i64.wrap (v24 - 4)) l10)
def F115_L3 (fuel : Nat) (d0 : List UInt8) : Nat → Int → (List Int) → Option (List Int)
  | 0, _, _ => none
  | n_F115_L3 + 1, v24, l9 =>
    bif decide (v24 > 0) then
      (F115_L4 d0 l9 v24 (F115_L3 fuel d0 n_F115_L3) fuel 0 (bif decide ((IntKind.i64.wrap (v24 - 4)) > 0) then (IntKind.i64.wrap (v24 - 4)) else 0))
    else
      (Option.bind (F152 fuel l9) fun y21 =>
      some y21)
def F115 (fuel : Nat) (d0 : List UInt8) : Option (List Int) :=
  Option.bind (geti d0 0) fun y1 =>
  bif (y1.toNat : Int) == 45 then
    (ass (decide (0 ≤ 1) && decide (1 ≤ (d0.length : Int)) && decide ((d0.length : Int) ≤ d0.length)) <|
    F115_L1 fuel d0 fuel (((d0.drop (Int.toNat 1)).take (Int.toNat ((d0.length : Int) - 1))).length : Int) [])
  else
    (F115_L3 fuel d0 fuel (d0.length : Int) [])
/- croupier/croupierref01.times -/
/- croupier/croupierref01.write -/
/- croupier/croupierref01.Mul -/
/- croupier/croupierref01.Sign -/
def F92 (d0 : List UInt8) : Option Int :=
  bif d0 == [48] then
    (some 0)
  else
    (Option.bind (F113 d0) fun y1 =>
    bif y1 then
      (some (-1))
    else
      (some 1))
/- croupier/croupierref01.compare -/
def F118_L1 (d0 : List Int) (d1 : List Int) : Nat → Int → Option Int
  | 0, _ => none
  | n_F118_L1 + 1, v2 =>
    bif decide (v2 ≥ 0) then
      (Option.bind (geti d0 v2) fun y9 =>
      Option.bind (geti d1 v2) fun y10 =>
      bif y9 != y10 then
        (Option.bind (geti d0 v2) fun y11 =>
        Option.bind (geti d1 v2) fun y12 =>
        bif decide (y11 < y12) then
          (some (-1))
        else
          (some 1))
      else
        ((F118_L1 d0 d1 n_F118_L1) (IntKind.i64.wrap (v2 - 1))))
    else
      (some 0)
def F118 (fuel : Nat) (d0 : List Int) (d1 : List Int) : Option Int :=
  bif ((d0.map e_i64).length : Int) != ((d1.map e_i64).length : Int) then
    (bif decide (((d0.map e_i64).length : Int) < ((d1.map e_i64).length : Int)) then
      (some (-1))
    else
      (some 1))
  else
    (F118_L1 d0 d1 fuel (IntKind.i64.wrap (((d0.map e_i64).length : Int) - 1)))
/- croupier/croupierref01.Cmp -/
def F72 (fuel : Nat) (d0 : List UInt8) (d1 : List UInt8) : Option Int :=
  Option.bind (F92 d0) fun y1 =>
  Option.bind (F92 d1) fun y2 =>
  bif y1 != y2 then
    (Option.bind (F92 d0) fun y3 =>
    Option.bind (F92 d1) fun y4 =>
    bif decide (y3 < y4) then
      (some (-1))
    else
      (some 1))
  else
    (Option.bind (F113 d0) fun y5 =>
    bif y5 then
      (Option.bind (F115 fuel d1) fun y6 =>
      Option.bind (F115 fuel d0) fun y7 =>
      Option.bind (F118 fuel y6 y7) fun y8 =>
      some y8)
    else
      (Option.bind (F115 fuel d0) fun y9 =>
      Option.bind (F115 fuel d1) fun y10 =>
      Option.bind (F118 fuel y9 y10) fun y11 =>
      some y11))
/- croupier/croupierref01.plus -/
/- croupier/croupierref01.minus -/
/- croupier/croupierref01.Add -/
/- croupier/croupierref01.divide -/
/- croupier/croupierref01.Neg -/
/- croupier/croupierref01.Sub -/
/- croupier/croupierref01.Div -/
/- croupier/croupierref01.Gcd -/
/- croupier/croupierref01.Int -/
def F149_A2 (v6 : Int) (rec_F149_L1 : Int → Int → Option (Int × Bool)) (v7 : Int) : Option (Int × Bool) :=
  rec_F149_L1 v7 (IntKind.i64.wrap (v6 + 1))
def F149_L1 (d0 : List UInt8) : Nat → Int → Int → Option (Int × Bool)
  | 0, _, _ => none
  | n_F149_L1 + 1, v5, v6 =>
    bif decide (v6 < (d0.length : Int)) then
      (Option.bind (geti d0 v6) fun y15 =>
      bif (y15.toNat : Int) != 45 then
        (Option.bind (geti d0 v6) fun y16 =>
        F149_A2 v6 (F149_L1 d0 n_F149_L1) (IntKind.i64.wrap ((IntKind.i64.wrap (10 * v5)) - (IntKind.i64.wrap (IntKind.u8.wrap ((y16.toNat : Int) - 48))))))
      else
        (F149_A2 v6 (F149_L1 d0 n_F149_L1) v5))
    else
      (Option.bind (F113 d0) fun y17 =>
      bif !y17 then
        (some (IntKind.i64.wrap (0 - v5), true))
      else
        (some (v5, true)))
def F149 (fuel : Nat) (d0 : List UInt8) : Option (Int × Bool) :=
  Option.bind (
    Option.bind (F72 fuel d0 [45, 57, 50, 50, 51, 51, 55, 50, 48, 51, 54, 56, 53, 52, 55, 55, 53, 56, 48, 56]) fun y18 =>
    bif decide (y18 < 0) then
      (some true)
    else
      (Option.bind (F72 fuel d0 [57, 50, 50, 51, 51, 55, 50, 48, 51, 54, 56, 53, 52, 55, 55, 53, 56, 48, 55]) fun y19 =>
      some (decide (y19 > 0)))) fun o1 =>
  bif o1 then
    (some (0, false))
  else
    (F149_L1 d0 fuel 0 0)
/- croupier/croupierref01.Right -/
/- croupier/croupierref01.Digits -/
/- croupier/croupierref02.cut -/
def F117_L1 (d0 : List UInt8) : Nat → Int → Option (List UInt8 × List UInt8 × Bool)
  | 0, _ => none
  | n_F117_L1 + 1, v2 =>
    bif decide (v2 < (d0.length : Int)) then
      (Option.bind (geti d0 v2) fun y3 =>
      bif (y3.toNat : Int) == 47 then
        (ass (decide (0 ≤ 0) && decide (0 ≤ v2) && decide (v2 ≤ d0.length)) <|
        ass (decide (0 ≤ (IntKind.i64.wrap (v2 + 1))) && decide ((IntKind.i64.wrap (v2 + 1)) ≤ (d0.length : Int)) && decide ((d0.length : Int) ≤ d0.length)) <|
        some ((d0.drop (Int.toNat 0)).take (Int.toNat (v2 - 0)), (d0.drop (Int.toNat (IntKind.i64.wrap (v2 + 1)))).take (Int.toNat ((d0.length : Int) - (IntKind.i64.wrap (v2 + 1)))), true))
      else
        ((F117_L1 d0 n_F117_L1) (IntKind.i64.wrap (v2 + 1))))
    else
      (some (d0, [49], false))
def F117 (fuel : Nat) (d0 : List UInt8) : Option (List UInt8 × List UInt8 × Bool) :=
  F117_L1 d0 fuel 0
/- croupier/croupierref02.Parts -/
def F71 (fuel : Nat) (d0 : List UInt8) : Option (List UInt8 × List UInt8) :=
  Option.bind (F117 fuel d0) fun y1 =>
  some (y1.1, y1.2.1)
/- croupier/croupierref02.Right -/
/- croupier/croupierref02.Fits -/
/- croupier/croupierref02.Check -/
/- croupier/croupierref02.Short -/
/- croupier/croupierref02.Make -/
/- croupier/croupierref02.Add -/
/- croupier/croupierref02.Mul -/
/- croupier/croupierref02.Of -/
/- croupier/croupierref02.Sign -/
/- croupier/croupierref02.Cmp -/
/- croupier/croupierref02.Min -/
/- croupier/croupierref02.Max -/
def e_s (x : List UInt8) : List Dat := [.str x]
/- croupier/croupierref02.Same -/
/- croupier/croupierref12.Times -/
end Go.Proofs.YtfgbhfphjmmiaaaGreatDoor
end
section
set_option linter.unusedVariables false
set_option maxRecDepth 100000
namespace Go.Proofs.YtfgbhfphjmmiaaaGreatDoor
open Go Go.RowKit Kx
theorem en191 : entersT Tryz.prog 191 := Kx.enters_of Tryz.func191 (by kernel_rfl) (by kernel_rfl)
theorem en251 : entersT Tryz.prog 251 := Kx.enters_of Tryz.func251 (by kernel_rfl) (by kernel_rfl)
theorem en252 : entersT Tryz.prog 252 := Kx.enters_of Tryz.func252 (by kernel_rfl) (by kernel_rfl)
theorem en209 : entersT Tryz.prog 209 := Kx.enters_of Tryz.func209 (by kernel_rfl) (by kernel_rfl)
theorem en190 : entersT Tryz.prog 190 := Kx.enters_of Tryz.func190 (by kernel_rfl) (by kernel_rfl)
theorem en156 : entersT Tryz.prog 156 := Kx.enters_of Tryz.func156 (by kernel_rfl) (by kernel_rfl)
theorem en173 : entersT Tryz.prog 173 := Kx.enters_of Tryz.func173 (by kernel_rfl) (by kernel_rfl)
theorem en211 : entersT Tryz.prog 211 := Kx.enters_of Tryz.func211 (by kernel_rfl) (by kernel_rfl)
theorem en249 : entersT Tryz.prog 249 := Kx.enters_of Tryz.func249 (by kernel_rfl) (by kernel_rfl)
theorem en210 : entersT Tryz.prog 210 := Kx.enters_of Tryz.func210 (by kernel_rfl) (by kernel_rfl)
theorem en174 : entersT Tryz.prog 174 := Kx.enters_of Tryz.func174 (by kernel_rfl) (by kernel_rfl)
theorem en196 : entersT Tryz.prog 196 := Kx.enters_of Tryz.func196 (by kernel_rfl) (by kernel_rfl)
theorem en213 : entersT Tryz.prog 213 := Kx.enters_of Tryz.func213 (by kernel_rfl) (by kernel_rfl)
theorem en250 : entersT Tryz.prog 250 := Kx.enters_of Tryz.func250 (by kernel_rfl) (by kernel_rfl)
theorem en212 : entersT Tryz.prog 212 := Kx.enters_of Tryz.func212 (by kernel_rfl) (by kernel_rfl)
theorem en240 : entersT Tryz.prog 240 := Kx.enters_of Tryz.func240 (by kernel_rfl) (by kernel_rfl)
theorem en175 : entersT Tryz.prog 175 := Kx.enters_of Tryz.func175 (by kernel_rfl) (by kernel_rfl)
theorem en214 : entersT Tryz.prog 214 := Kx.enters_of Tryz.func214 (by kernel_rfl) (by kernel_rfl)
theorem en253 : entersT Tryz.prog 253 := Kx.enters_of Tryz.func253 (by kernel_rfl) (by kernel_rfl)
theorem en215 : entersT Tryz.prog 215 := Kx.enters_of Tryz.func215 (by kernel_rfl) (by kernel_rfl)
theorem en176 : entersT Tryz.prog 176 := Kx.enters_of Tryz.func176 (by kernel_rfl) (by kernel_rfl)
theorem en216 : entersT Tryz.prog 216 := Kx.enters_of Tryz.func216 (by kernel_rfl) (by kernel_rfl)
theorem en177 : entersT Tryz.prog 177 := Kx.enters_of Tryz.func177 (by kernel_rfl) (by kernel_rfl)
theorem en132 : entersT Tryz.prog 132 := Kx.enters_of Tryz.func132 (by kernel_rfl) (by kernel_rfl)
/- croupier/croupierref11.act -/
def F147_L1 (d0 : List UInt8) : Nat → Int → Option Bool
  | 0, _ => none
  | n_F147_L1 + 1, v2 =>
    bif decide (v2 < (d0.length : Int)) then
      (Option.bind (
        Option.bind (geti d0 v2) fun y17 =>
        bif decide ((y17.toNat : Int) < 97) then
          (some true)
        else
          (Option.bind (geti d0 v2) fun y18 =>
          some (decide ((y18.toNat : Int) > 122)))) fun o3 =>
      bif o3 then
        (some false)
      else
        ((F147_L1 d0 n_F147_L1) (IntKind.i64.wrap (v2 + 1))))
    else
      (some (decide ((d0.length : Int) ≤ 8)))
def F147 (fuel : Nat) (d0 : List UInt8) : Option Bool :=
  F147_L1 d0 fuel 0
theorem F147_ok {fuel : Nat} {d0 : List UInt8} {r : Bool} (hF : F147 fuel d0 = some r) :
    CallF Tryz.prog 147 [.d (.str d0)] (.d (.bool r)) := by
  unfold F147 at hF
  refine callF_of (N := 23) (b := bodyOf Tryz.f147) Tryz.func147 (by kernel_rfl) rfl rfl ?_
  have hF147_L1 : ∀ (n_F147_L1 : Nat) (v2 : Int), F147_L1 d0 n_F147_L1 v2 = some r → J none Tryz.prog 23 [] (finF Tryz.prog Tryz.f147 (.d (.bool r))) ⟨mkT [(0, .d (.str d0)), (3, .d (.int .i64 v2))], [], [.inLoop (cAt (bodyOf Tryz.f147) [1, 0, 1, 0, 0]), .inBlock 0, .code (cAt (bodyOf Tryz.f147) [1, 1])]⟩ := by
    clear hF; intro n_F147_L1
    induction n_F147_L1 with
    | zero => intro v2 hF; cases hF
    | succ n_F147_L1 ih_F147_L1 =>
      intro v2 hF
      rw [F147_L1] at hF
      refine J_adv 9 (J_bool 7 (b := decide (v2 < (d0.length : Int))) (by kernel_rfl) (fun hb11 => ?_) (fun hb11 => ?_))
      · replace hF := ift hb11 hF
        obtain ⟨o3, hO, hF⟩ := bnd hF
        have hR3 : J none Tryz.prog 23 [] (finF Tryz.prog Tryz.f147 (.d (.bool r))) ⟨mkT [(0, .d (.str d0)), (3, .d (.int .i64 v2)), (19, .d (.bool o3))], [], [.ops (opsOf (cAt (bodyOf Tryz.f147) [1, 0, 1, 0, 0, 1, 0, 0, 0])) [], .code (cAt (bodyOf Tryz.f147) [1, 0, 1, 0, 0, 1, 0, 0, 1]), .inBlock 1, .code (cAt (bodyOf Tryz.f147) [1, 0, 1, 0, 0, 1, 1]), .inLoop (cAt (bodyOf Tryz.f147) [1, 0, 1, 0, 0]), .inBlock 0, .code (cAt (bodyOf Tryz.f147) [1, 1])]⟩ := by
          clear hO
          refine J_adv 1 (J_bool 19 (b := o3) (by kernel_rfl) (fun hb14 => ?_) (fun hb14 => ?_))
          · replace hF := ift hb14 hF
            have hr_ := Option.some.inj hF; subst hr_
            exact J_adv 5 (J_ret (xs := [.d (.bool false)]) [.d (.bool false)] rfl rfl (by kernel_rfl) (Res'.refl _) rfl)
          · replace hF := iff' hb14 hF
            exact J_adv 8 (J_at [0, 3] [] (T0 := [.inLoop (cAt (bodyOf Tryz.f147) [1, 0, 1, 0, 0]), .inBlock 0, .code (cAt (bodyOf Tryz.f147) [1, 1])]) (by kernel_rfl) rfl (ih_F147_L1 (IntKind.i64.wrap (v2 + 1)) hF))
        clear hF; rename _ = some o3 => hF
        obtain ⟨y17, e17, hF⟩ := bnd hF
        refine J_adv 8 (J_opt1 (o := (match geti d0 v2 with | some c => some [.int .u8 c.toNat] | none => none)) [.int .u8 y17.toNat] (by kernel_rfl) (by rw [e17]) ?_)
        refine J_adv 2 (J_bool 14 (b := decide ((y17.toNat : Int) < 97)) (by kernel_rfl) (fun hb15 => ?_) (fun hb15 => ?_))
        · replace hF := ift hb15 hF
          have hr_ := Option.some.inj hF; subst hr_
          exact J_adv 5 (J_at [0, 3, 19] [] (T0 := [.ops (opsOf (cAt (bodyOf Tryz.f147) [1, 0, 1, 0, 0, 1, 0, 0, 0])) [], .code (cAt (bodyOf Tryz.f147) [1, 0, 1, 0, 0, 1, 0, 0, 1]), .inBlock 1, .code (cAt (bodyOf Tryz.f147) [1, 0, 1, 0, 0, 1, 1]), .inLoop (cAt (bodyOf Tryz.f147) [1, 0, 1, 0, 0]), .inBlock 0, .code (cAt (bodyOf Tryz.f147) [1, 1])]) (by kernel_rfl) rfl hR3)
        · replace hF := iff' hb15 hF
          obtain ⟨y18, e18, hF⟩ := bnd hF
          refine J_adv 2 (J_opt1 (o := (match geti d0 v2 with | some c => some [.int .u8 c.toNat] | none => none)) [.int .u8 y18.toNat] (by kernel_rfl) (by rw [e18]) ?_)
          have hr_ := Option.some.inj hF; subst hr_
          exact J_adv 2 (J_at [0, 3, 19] [] (T0 := [.ops (opsOf (cAt (bodyOf Tryz.f147) [1, 0, 1, 0, 0, 1, 0, 0, 0])) [], .code (cAt (bodyOf Tryz.f147) [1, 0, 1, 0, 0, 1, 0, 0, 1]), .inBlock 1, .code (cAt (bodyOf Tryz.f147) [1, 0, 1, 0, 0, 1, 1]), .inLoop (cAt (bodyOf Tryz.f147) [1, 0, 1, 0, 0]), .inBlock 0, .code (cAt (bodyOf Tryz.f147) [1, 1])]) (by kernel_rfl) rfl hR3)
      · replace hF := iff' hb11 hF
        have hr_ := Option.some.inj hF; subst hr_
        exact J_adv 9 (J_ret (xs := [.d (.bool (decide ((d0.length : Int) ≤ 8)))]) [.d (.bool (decide ((d0.length : Int) ≤ 8)))] rfl rfl (by kernel_rfl) (Res'.refl _) rfl)
  exact J_adv 11 (J_at [0, 3] [] (T0 := [.inLoop (cAt (bodyOf Tryz.f147) [1, 0, 1, 0, 0]), .inBlock 0, .code (cAt (bodyOf Tryz.f147) [1, 1])]) (by kernel_rfl) rfl (hF147_L1 fuel 0 hF))
structure T_api_Branch where
  To : Int
  P : List UInt8
  deriving DecidableEq
structure T_api_Choice where
  Act : List UInt8
  Gain : List UInt8
  Next : List T_api_Branch
  deriving DecidableEq
def e_T_api_Branch (x : T_api_Branch) : List Dat := [.int .i64 x.To, .str x.P]
/- croupier/croupierref11.chosen -/
structure T_api_Model where
  Owner : List Int
  Choices : List (List T_api_Choice)
  deriving DecidableEq
def e_T_api_Choice (x : T_api_Choice) : List Dat := [.str x.Act, .str x.Gain, .sl 2 (x.Next.map e_T_api_Branch)]
def e_lT_api_Choice (x : List T_api_Choice) : List Dat := [.sl 3 (x.map e_T_api_Choice)]
/- croupier/croupierref11.numbers -/
/- croupier/croupierref11.common -/
def F109_L2 (v7 : Int) (v8 : Int) (y9 : Int × Bool) (rec_F109_L1 : Int → Int → Option Int) : Nat → Int → Option Int
  | 0, _ => none
  | n_F109_L2 + 1, v10 =>
    ass (decide (y9.1 ≠ 0)) <|
    bif (Int.tmod v10 y9.1) != 0 then
      ((F109_L2 v7 v8 y9 rec_F109_L1 n_F109_L2) (IntKind.i64.wrap (v10 + v7)))
    else
      (bif decide (v10 > 9999) then
        (some 0)
      else
        (rec_F109_L1 v10 (IntKind.i64.wrap (v8 + 1))))
def F109_L1 (fuel : Nat) (d1 : List (List UInt8)) : Nat → Int → Int → Option Int
  | 0, _, _ => none
  | n_F109_L1 + 1, v7, v8 =>
    Option.bind (
      bif decide (v8 < ((d1.map e_s).length : Int)) then
        (some (decide (v7 > 0)))
      else
        (some false)) fun o5 =>
    bif o5 then
      (Option.bind (geti d1 v8) fun y7 =>
      Option.bind (F71 fuel y7) fun y8 =>
      Option.bind (F149 fuel y8.2) fun y9 =>
      Option.bind (
        bif !y9.2 then
          (some true)
        else
          (some (decide (y9.1 > 9999)))) fun o6 =>
      bif o6 then
        (some 0)
      else
        (F109_L2 v7 v8 y9 (F109_L1 fuel d1 n_F109_L1) fuel v7))
    else
      (some v7)
/- croupier/croupierref11.Grains -/
/- croupier/croupierref11.Right -/
/- (croupier/croupierref11.Draft).Count -/
/- (croupier/croupierref11.Draft).choice -/
/- (croupier/croupierref11.Draft).Model -/
/- croupier/croupierref14.Whole -/
/- croupier/croupierref11.Set -/
/- croupier/croupierref14.Has -/
/- croupier/model.number -/
def F252_L1 (d0 : List UInt8) : Nat → Int → Int → Option Int
  | 0, _, _ => none
  | n_F252_L1 + 1, v3, v4 =>
    bif decide (v4 < (d0.length : Int)) then
      (Option.bind (geti d0 v4) fun y5 =>
      (F252_L1 d0 n_F252_L1) (IntKind.i64.wrap ((IntKind.i64.wrap (10 * v3)) + (IntKind.i64.wrap (IntKind.u8.wrap ((y5.toNat : Int) - 48))))) (IntKind.i64.wrap (v4 + 1)))
    else
      (some v3)
def F252 : Nat → (List UInt8) → Option Int
  | 0, _ => none
  | fuel + 1, d0 =>
    Option.bind (geti d0 0) fun y1 =>
    bif (y1.toNat : Int) == 45 then
      (ass (decide (0 ≤ 1) && decide (1 ≤ (d0.length : Int)) && decide ((d0.length : Int) ≤ d0.length)) <|
      Option.bind ((F252 fuel) ((d0.drop (Int.toNat 1)).take (Int.toNat ((d0.length : Int) - 1)))) fun y2 =>
      some (IntKind.i64.wrap (0 - y2)))
    else
      (F252_L1 d0 fuel 0 0)
theorem F252_ok : ∀ {fuel : Nat} {d0 : List UInt8} {r : Int}, F252 fuel d0 = some r → CallF Tryz.prog 252 [.d (.str d0)] (.d (.int .i64 r)) := by
  intro fuel
  induction fuel with
  | zero => intro _ r hF; cases hF
  | succ fuel ih =>
    intro d0 r hF
    have ih_F252 : ∀ (d0 : List UInt8) (r : Int), F252 fuel d0 = some r → CallF Tryz.prog 252 [.d (.str d0)] (.d (.int .i64 r)) := fun d0 r h => ih h
    rw [F252] at hF
    refine callF_of (N := 27) (b := bodyOf Tryz.f252) Tryz.func252 (by kernel_rfl) rfl rfl ?_
    obtain ⟨y1, e1, hF⟩ := bnd hF
    refine J_adv 8 (J_opt1 (o := (match geti d0 0 with | some c => some [.int .u8 c.toNat] | none => none)) [.int .u8 y1.toNat] (by kernel_rfl) (by rw [e1]) ?_)
    refine J_adv 2 (J_bool 7 (b := (y1.toNat : Int) == 45) (by kernel_rfl) (fun hb1 => ?_) (fun hb1 => ?_))
    · replace hF := ift hb1 hF
      obtain ⟨hb2, hF⟩ := assd hF
      refine J_adv 4 (J_opt1 (o := chk (decide (0 ≤ 1) && decide (1 ≤ (d0.length : Int)) && decide ((d0.length : Int) ≤ d0.length))) [] (by kernel_rfl) (ck hb2) ?_)
      obtain ⟨y2, e2, hF⟩ := bnd hF
      refine J_adv 0 (J_callF (xs := [.d (.str ((d0.drop (Int.toNat 1)).take (Int.toNat ((d0.length : Int) - 1))))]) [.d (.str ((d0.drop (Int.toNat 1)).take (Int.toNat ((d0.length : Int) - 1))))] (.d (.int .i64 y2)) (by kernel_rfl) en252 (Res'.refl _) (ih_F252 _ _ e2) ?_)
      have hr_ := Option.some.inj hF; subst hr_
      exact J_adv 3 (J_ret (xs := [.d (.int .i64 (IntKind.i64.wrap (0 - y2)))]) [.d (.int .i64 (IntKind.i64.wrap (0 - y2)))] rfl rfl (by kernel_rfl) (Res'.refl _) rfl)
    · replace hF := iff' hb1 hF
      have hF252_L1 : ∀ (n_F252_L1 : Nat) (v3 : Int) (v4 : Int), F252_L1 d0 n_F252_L1 v3 v4 = some r → J none Tryz.prog 27 [] (finF Tryz.prog Tryz.f252 (.d (.int .i64 r))) ⟨mkT [(0, .d (.str d0)), (3, .d (.int .i64 v3)), (13, .d (.int .i64 (d0.length : Int))), (14, .d (.int .i64 v4))], [], [.inLoop (cAt (bodyOf Tryz.f252) [1, 1, 1, 0, 1, 0, 0]), .inBlock 0, .code (cAt (bodyOf Tryz.f252) [1, 1, 1, 1])]⟩ := by
        clear hF; intro n_F252_L1
        induction n_F252_L1 with
        | zero => intro v3 v4 hF; cases hF
        | succ n_F252_L1 ih_F252_L1 =>
          intro v3 v4 hF
          rw [F252_L1] at hF
          refine J_adv 6 (J_bool 15 (b := decide (v4 < (d0.length : Int))) (by kernel_rfl) (fun hb5 => ?_) (fun hb5 => ?_))
          · replace hF := ift hb5 hF
            obtain ⟨y5, e5, hF⟩ := bnd hF
            refine J_adv 14 (J_opt1 (o := (match geti d0 v4 with | some c => some [.int .u8 c.toNat] | none => none)) [.int .u8 y5.toNat] (by kernel_rfl) (by rw [e5]) ?_)
            exact J_adv 10 (J_at [0, 3, 13, 14] [] (T0 := [.inLoop (cAt (bodyOf Tryz.f252) [1, 1, 1, 0, 1, 0, 0]), .inBlock 0, .code (cAt (bodyOf Tryz.f252) [1, 1, 1, 1])]) (by kernel_rfl) rfl (ih_F252_L1 (IntKind.i64.wrap ((IntKind.i64.wrap (10 * v3)) + (IntKind.i64.wrap (IntKind.u8.wrap ((y5.toNat : Int) - 48))))) (IntKind.i64.wrap (v4 + 1)) hF))
          · replace hF := iff' hb5 hF
            have hr_ := Option.some.inj hF; subst hr_
            exact J_adv 7 (J_ret (xs := [.d (.int .i64 v3)]) [.d (.int .i64 v3)] rfl rfl (by kernel_rfl) (Res'.refl _) rfl)
      exact J_adv 15 (J_at [0, 3, 13, 14] [] (T0 := [.inLoop (cAt (bodyOf Tryz.f252) [1, 1, 1, 0, 1, 0, 0]), .inBlock 0, .code (cAt (bodyOf Tryz.f252) [1, 1, 1, 1])]) (by kernel_rfl) rfl (hF252_L1 fuel 0 0 hF))
/- croupier/model.small -/
def F214 (fuel : Nat) (d0 : List UInt8) : Option (Int × Int × Bool) :=
  Option.bind (F191 fuel d0) fun y1 =>
  bif !y1 then
    (some (0, 0, false))
  else
    (Option.bind (F251 fuel d0) fun y2 =>
    Option.bind (F252 fuel y2.1) fun y3 =>
    Option.bind (F252 fuel y2.2.1) fun y4 =>
    some (y3, y4, y2.2.2 == 0))
theorem F214_ok {fuel : Nat} {d0 : List UInt8} {r : Int × Int × Bool} (hF : F214 fuel d0 = some r) :
    CallF Tryz.prog 214 [.d (.str d0)] (.tup [.d (.int .i64 r.1), .d (.int .i64 r.2.1), .d (.bool r.2.2)]) := by
  unfold F214 at hF
  refine callF_of (N := 23) (b := bodyOf Tryz.f214) Tryz.func214 (by kernel_rfl) rfl rfl ?_
  obtain ⟨y1, e1, hF⟩ := bnd hF
  refine J_adv 10 (J_callF (xs := [.d (.str d0)]) [.d (.str d0)] (.d (.bool y1)) (by kernel_rfl) en191 (Res'.refl _) (F191_ok e1) ?_)
  refine J_adv 2 (J_bool 10 (b := !y1) (by kernel_rfl) (fun hb1 => ?_) (fun hb1 => ?_))
  · replace hF := ift hb1 hF
    have hr_ := Option.some.inj hF; subst hr_
    exact J_adv 7 (J_ret (xs := [.d (.int .i64 0), .d (.int .i64 0), .d (.bool false)]) [.d (.int .i64 0), .d (.int .i64 0), .d (.bool false)] rfl rfl (by kernel_rfl) (Res'.refl _) rfl)
  · replace hF := iff' hb1 hF
    obtain ⟨y2, e2, hF⟩ := bnd hF
    refine J_adv 5 (J_callF (xs := [.d (.str d0)]) [.d (.str d0)] (.tup [.d (.str y2.1), .d (.str y2.2.1), .d (.int .i64 y2.2.2)]) (by kernel_rfl) en251 (Res'.refl _) (F251_ok e2) ?_)
    obtain ⟨y3, e3, hF⟩ := bnd hF
    refine J_adv 11 (J_callF (xs := [.d (.str y2.1)]) [.d (.str y2.1)] (.d (.int .i64 y3)) (by kernel_rfl) en252 (Res'.refl _) (F252_ok e3) ?_)
    obtain ⟨y4, e4, hF⟩ := bnd hF
    refine J_adv 1 (J_callF (xs := [.d (.str y2.2.1)]) [.d (.str y2.2.1)] (.d (.int .i64 y4)) (by kernel_rfl) en252 (Res'.refl _) (F252_ok e4) ?_)
    have hr_ := Option.some.inj hF; subst hr_
    exact J_adv 6 (J_ret (xs := [.d (.int .i64 y3), .d (.int .i64 y4), .d (.bool (y2.2.2 == 0))]) [.d (.int .i64 y3), .d (.int .i64 y4), .d (.bool (y2.2.2 == 0))] rfl rfl (by kernel_rfl) (Res'.refl _) rfl)
/- croupier/model.gcd -/
def F253_L1 : Nat → Int → Int → Option Int
  | 0, _, _ => none
  | n_F253_L1 + 1, v3, v4 =>
    bif decide (v4 > 0) then
      (ass (decide (v4 ≠ 0)) <|
      (F253_L1 n_F253_L1) v4 (Int.tmod v3 v4))
    else
      (some v3)
def F253 (fuel : Nat) (d0 : Int) (d1 : Int) : Option Int :=
  F253_L1 fuel d0 d1
theorem F253_ok {fuel : Nat} {d0 : Int} {d1 : Int} {r : Int} (hF : F253 fuel d0 d1 = some r) :
    CallF Tryz.prog 253 [.d (.int .i64 d0), .d (.int .i64 d1)] (.d (.int .i64 r)) := by
  unfold F253 at hF
  refine callF_of (N := 12) (b := bodyOf Tryz.f253) Tryz.func253 (by kernel_rfl) rfl rfl ?_
  have hF253_L1 : ∀ (n_F253_L1 : Nat) (v3 : Int) (v4 : Int), F253_L1 n_F253_L1 v3 v4 = some r → J none Tryz.prog 12 [] (finF Tryz.prog Tryz.f253 (.d (.int .i64 r))) ⟨mkT [(0, .d (.int .i64 v3)), (1, .d (.int .i64 v4))], [], [.inLoop (cAt (bodyOf Tryz.f253) [1, 0, 0, 0]), .inBlock 0, .code (cAt (bodyOf Tryz.f253) [1, 1])]⟩ := by
    clear hF; intro n_F253_L1
    induction n_F253_L1 with
    | zero => intro v3 v4 hF; cases hF
    | succ n_F253_L1 ih_F253_L1 =>
      intro v3 v4 hF
      rw [F253_L1] at hF
      refine J_adv 7 (J_bool 6 (b := decide (v4 > 0)) (by kernel_rfl) (fun hb5 => ?_) (fun hb5 => ?_))
      · replace hF := ift hb5 hF
        refine J_adv 3 (J_draw (by kernel_rfl) (by kernel_rfl) ?_)
        obtain ⟨hb6, hF⟩ := assd hF
        refine JD_adv 3 (JD_opt1 (o := chk (decide (v4 ≠ 0))) [] (by kernel_rfl) (by kernel_rfl) (ck hb6) ?_)
        refine JD_adv 2 (JD_end (by kernel_rfl) ?_)
        exact J_adv 1 (J_at [0, 1] [] (T0 := [.inLoop (cAt (bodyOf Tryz.f253) [1, 0, 0, 0]), .inBlock 0, .code (cAt (bodyOf Tryz.f253) [1, 1])]) (by kernel_rfl) rfl (ih_F253_L1 v4 (Int.tmod v3 v4) hF))
      · replace hF := iff' hb5 hF
        have hr_ := Option.some.inj hF; subst hr_
        exact J_adv 7 (J_ret (xs := [.d (.int .i64 v3)]) [.d (.int .i64 v3)] rfl rfl (by kernel_rfl) (Res'.refl _) rfl)
  exact J_adv 7 (J_at [0, 1] [] (T0 := [.inLoop (cAt (bodyOf Tryz.f253) [1, 0, 0, 0]), .inBlock 0, .code (cAt (bodyOf Tryz.f253) [1, 1])]) (by kernel_rfl) rfl (hF253_L1 fuel d0 d1 hF))
structure T_model_checker where
  Model : T_api_Model
  p : Int
  gains : Int
  deriving DecidableEq
/- (*croupier/model.checker).sized$1 -/
def F209 (d0 : List T_api_Choice) : Option Bool :=
  Option.bind (
    bif decide (((d0.map e_T_api_Choice).length : Int) < 1) then
      (some true)
    else
      (some (decide (((d0.map e_T_api_Choice).length : Int) > 4)))) fun o1 =>
  some o1
theorem F209_ok {d0 : List T_api_Choice} {r : Bool} (hF : F209 d0 = some r) :
    CallF Tryz.prog 209 [.d (.sl 3 (d0.map e_T_api_Choice))] (.d (.bool r)) := by
  unfold F209 at hF
  refine callF_of (N := 11) (b := bodyOf Tryz.f209) Tryz.func209 (by kernel_rfl) rfl rfl ?_
  obtain ⟨o1, hO, hF⟩ := bnd hF
  have hR1 : J none Tryz.prog 11 [] (finF Tryz.prog Tryz.f209 (.d (.bool r))) ⟨mkT [(2, .d (.bool o1))], [], [.ops (opsOf (cAt (bodyOf Tryz.f209) [1, 0])) [], .code (cAt (bodyOf Tryz.f209) [1, 1])]⟩ := by
    clear hO
    have hr_ := Option.some.inj hF; subst hr_
    exact J_adv 1 (J_ret (xs := [.d (.bool o1)]) [.d (.bool o1)] rfl rfl (by kernel_rfl) (Res'.refl _) rfl)
  clear hF; rename _ = some o1 => hF
  refine J_adv 10 (J_bool 6 (b := decide (((d0.map e_T_api_Choice).length : Int) < 1)) (by kernel_rfl) (fun hb3 => ?_) (fun hb3 => ?_))
  · replace hF := ift hb3 hF
    have hr_ := Option.some.inj hF; subst hr_
    exact J_adv 5 (J_at [2] [] (T0 := [.ops (opsOf (cAt (bodyOf Tryz.f209) [1, 0])) [], .code (cAt (bodyOf Tryz.f209) [1, 1])]) (by kernel_rfl) rfl hR1)
  · replace hF := iff' hb3 hF
    have hr_ := Option.some.inj hF; subst hr_
    exact J_adv 5 (J_at [2] [] (T0 := [.ops (opsOf (cAt (bodyOf Tryz.f209) [1, 0])) [], .code (cAt (bodyOf Tryz.f209) [1, 1])]) (by kernel_rfl) rfl hR1)
/- slices.IndexFunc(()()croupier/api.Choice,()croupier/api.Choice) -/
def F190_L1 (d0 : List (List T_api_Choice)) : Nat → Int → Option Int
  | 0, _ => none
  | n_F190_L1 + 1, v2 =>
    bif decide (v2 < ((d0.map e_lT_api_Choice).length : Int)) then
      (Option.bind (geti d0 v2) fun y5 =>
      Option.bind (F209 y5) fun y6 =>
      bif y6 then
        (some v2)
      else
        ((F190_L1 d0 n_F190_L1) (IntKind.i64.wrap (v2 + 1))))
    else
      (some (-1))
def F190 (fuel : Nat) (d0 : List (List T_api_Choice)) : Option Int :=
  F190_L1 d0 fuel 0
theorem F190_ok {fuel : Nat} {d0 : List (List T_api_Choice)} {r : Int} (hF : F190 fuel d0 = some r) :
    CallF Tryz.prog 190 [.d (.sl 1 (d0.map e_lT_api_Choice)), .d (.fnc 209)] (.d (.int .i64 r)) := by
  unfold F190 at hF
  refine callF_of (N := 19) (b := bodyOf Tryz.f190) Tryz.func190 (by kernel_rfl) rfl rfl ?_
  have hF190_L1 : ∀ (n_F190_L1 : Nat) (v2 : Int), F190_L1 d0 n_F190_L1 v2 = some r → J none Tryz.prog 19 [] (finF Tryz.prog Tryz.f190 (.d (.int .i64 r))) ⟨mkT [(0, .d (.sl 1 (d0.map e_lT_api_Choice))), (1, .d (.fnc 209)), (7, .d (.int .i64 ((d0.map e_lT_api_Choice).length : Int))), (8, .d (.int .i64 v2))], [], [.inLoop (cAt (bodyOf Tryz.f190) [1, 0, 1, 0, 0]), .inBlock 0, .code (cAt (bodyOf Tryz.f190) [1, 1])]⟩ := by
    clear hF; intro n_F190_L1
    induction n_F190_L1 with
    | zero => intro v2 hF; cases hF
    | succ n_F190_L1 ih_F190_L1 =>
      intro v2 hF
      rw [F190_L1] at hF
      refine J_adv 6 (J_bool 9 (b := decide (v2 < ((d0.map e_lT_api_Choice).length : Int))) (by kernel_rfl) (fun hb5 => ?_) (fun hb5 => ?_))
      · replace hF := ift hb5 hF
        obtain ⟨y5, e5, hF⟩ := bnd hF
        refine J_adv 14 (J_opt1 (o := geti (d0.map e_lT_api_Choice) v2) (e_lT_api_Choice y5) (by kernel_rfl) (gm e5) ?_)
        obtain ⟨y6, e6, hF⟩ := bnd hF
        refine J_adv 1 (J_callF (xs := [.d (.sl 3 (y5.map e_T_api_Choice))]) [.d (.sl 3 (y5.map e_T_api_Choice))] (.d (.bool y6)) (by kernel_rfl) en209 (Res'.refl _) (F209_ok e6) ?_)
        refine J_adv 1 (J_bool 16 (b := y6) (by kernel_rfl) (fun hb6 => ?_) (fun hb6 => ?_))
        · replace hF := ift hb6 hF
          have hr_ := Option.some.inj hF; subst hr_
          exact J_adv 6 (J_ret (xs := [.d (.int .i64 v2)]) [.d (.int .i64 v2)] rfl rfl (by kernel_rfl) (Res'.refl _) rfl)
        · replace hF := iff' hb6 hF
          exact J_adv 7 (J_at [0, 1, 7, 8] [] (T0 := [.inLoop (cAt (bodyOf Tryz.f190) [1, 0, 1, 0, 0]), .inBlock 0, .code (cAt (bodyOf Tryz.f190) [1, 1])]) (by kernel_rfl) rfl (ih_F190_L1 (IntKind.i64.wrap (v2 + 1)) hF))
      · replace hF := iff' hb5 hF
        have hr_ := Option.some.inj hF; subst hr_
        exact J_adv 6 (J_ret (xs := [.d (.int .i64 (-1))]) [.d (.int .i64 (-1))] rfl rfl (by kernel_rfl) (Res'.refl _) rfl)
  exact J_adv 13 (J_at [0, 1, 7, 8] [] (T0 := [.inLoop (cAt (bodyOf Tryz.f190) [1, 0, 1, 0, 0]), .inBlock 0, .code (cAt (bodyOf Tryz.f190) [1, 1])]) (by kernel_rfl) rfl (hF190_L1 fuel 0 hF))
/- slices.ContainsFunc(()()croupier/api.Choice,()croupier/api.Choice) -/
def F156 (fuel : Nat) (d0 : List (List T_api_Choice)) : Option Bool :=
  Option.bind (F190 fuel d0) fun y1 =>
  some (decide (y1 ≥ 0))
theorem F156_ok {fuel : Nat} {d0 : List (List T_api_Choice)} {r : Bool} (hF : F156 fuel d0 = some r) :
    CallF Tryz.prog 156 [.d (.sl 1 (d0.map e_lT_api_Choice)), .d (.fnc 209)] (.d (.bool r)) := by
  unfold F156 at hF
  refine callF_of (N := 9) (b := bodyOf Tryz.f156) Tryz.func156 (by kernel_rfl) rfl rfl ?_
  obtain ⟨y1, e1, hF⟩ := bnd hF
  refine J_adv 8 (J_callF (xs := [.d (.sl 1 (d0.map e_lT_api_Choice)), .d (.fnc 209)]) [.d (.sl 1 (d0.map e_lT_api_Choice)), .d (.fnc 209)] (.d (.int .i64 y1)) (by kernel_rfl) en190 (Res'.refl _) (F190_ok e1) ?_)
  have hr_ := Option.some.inj hF; subst hr_
  exact J_adv 3 (J_ret (xs := [.d (.bool (decide (y1 ≥ 0)))]) [.d (.bool (decide (y1 ≥ 0)))] rfl rfl (by kernel_rfl) (Res'.refl _) rfl)
/- (*croupier/model.checker).sized -/
/- (*croupier/model.checker).owned$1 -/
def F211 (d0 : Int) : Option Bool :=
  Option.bind (
    bif d0 != 0 then
      (some (d0 != 1))
    else
      (some false)) fun o1 =>
  some o1
theorem F211_ok {d0 : Int} {r : Bool} (hF : F211 d0 = some r) :
    CallF Tryz.prog 211 [.d (.int .i64 d0)] (.d (.bool r)) := by
  unfold F211 at hF
  refine callF_of (N := 9) (b := bodyOf Tryz.f211) Tryz.func211 (by kernel_rfl) rfl rfl ?_
  obtain ⟨o1, hO, hF⟩ := bnd hF
  have hR1 : J none Tryz.prog 9 [] (finF Tryz.prog Tryz.f211 (.d (.bool r))) ⟨mkT [(2, .d (.bool o1))], [], [.ops (opsOf (cAt (bodyOf Tryz.f211) [1, 0])) [], .code (cAt (bodyOf Tryz.f211) [1, 1])]⟩ := by
    clear hO
    have hr_ := Option.some.inj hF; subst hr_
    exact J_adv 1 (J_ret (xs := [.d (.bool o1)]) [.d (.bool o1)] rfl rfl (by kernel_rfl) (Res'.refl _) rfl)
  clear hF; rename _ = some o1 => hF
  refine J_adv 9 (J_bool 5 (b := d0 != 0) (by kernel_rfl) (fun hb3 => ?_) (fun hb3 => ?_))
  · replace hF := ift hb3 hF
    have hr_ := Option.some.inj hF; subst hr_
    exact J_adv 4 (J_at [2] [] (T0 := [.ops (opsOf (cAt (bodyOf Tryz.f211) [1, 0])) [], .code (cAt (bodyOf Tryz.f211) [1, 1])]) (by kernel_rfl) rfl hR1)
  · replace hF := iff' hb3 hF
    have hr_ := Option.some.inj hF; subst hr_
    exact J_adv 4 (J_at [2] [] (T0 := [.ops (opsOf (cAt (bodyOf Tryz.f211) [1, 0])) [], .code (cAt (bodyOf Tryz.f211) [1, 1])]) (by kernel_rfl) rfl hR1)
/- slices.IndexFunc(()int,int) -/
def F249_L1 (d0 : List Int) : Nat → Int → Option Int
  | 0, _ => none
  | n_F249_L1 + 1, v2 =>
    bif decide (v2 < ((d0.map e_i64).length : Int)) then
      (Option.bind (geti d0 v2) fun y5 =>
      Option.bind (F211 y5) fun y6 =>
      bif y6 then
        (some v2)
      else
        ((F249_L1 d0 n_F249_L1) (IntKind.i64.wrap (v2 + 1))))
    else
      (some (-1))
def F249 (fuel : Nat) (d0 : List Int) : Option Int :=
  F249_L1 d0 fuel 0
theorem F249_ok {fuel : Nat} {d0 : List Int} {r : Int} (hF : F249 fuel d0 = some r) :
    CallF Tryz.prog 249 [.d (.sl 1 (d0.map e_i64)), .d (.fnc 211)] (.d (.int .i64 r)) := by
  unfold F249 at hF
  refine callF_of (N := 19) (b := bodyOf Tryz.f249) Tryz.func249 (by kernel_rfl) rfl rfl ?_
  have hF249_L1 : ∀ (n_F249_L1 : Nat) (v2 : Int), F249_L1 d0 n_F249_L1 v2 = some r → J none Tryz.prog 19 [] (finF Tryz.prog Tryz.f249 (.d (.int .i64 r))) ⟨mkT [(0, .d (.sl 1 (d0.map e_i64))), (1, .d (.fnc 211)), (7, .d (.int .i64 ((d0.map e_i64).length : Int))), (8, .d (.int .i64 v2))], [], [.inLoop (cAt (bodyOf Tryz.f249) [1, 0, 1, 0, 0]), .inBlock 0, .code (cAt (bodyOf Tryz.f249) [1, 1])]⟩ := by
    clear hF; intro n_F249_L1
    induction n_F249_L1 with
    | zero => intro v2 hF; cases hF
    | succ n_F249_L1 ih_F249_L1 =>
      intro v2 hF
      rw [F249_L1] at hF
      refine J_adv 6 (J_bool 9 (b := decide (v2 < ((d0.map e_i64).length : Int))) (by kernel_rfl) (fun hb5 => ?_) (fun hb5 => ?_))
      · replace hF := ift hb5 hF
        obtain ⟨y5, e5, hF⟩ := bnd hF
        refine J_adv 14 (J_opt1 (o := geti (d0.map e_i64) v2) (e_i64 y5) (by kernel_rfl) (gm e5) ?_)
        obtain ⟨y6, e6, hF⟩ := bnd hF
        refine J_adv 1 (J_callF (xs := [.d (.int .i64 y5)]) [.d (.int .i64 y5)] (.d (.bool y6)) (by kernel_rfl) en211 (Res'.refl _) (F211_ok e6) ?_)
        refine J_adv 1 (J_bool 16 (b := y6) (by kernel_rfl) (fun hb6 => ?_) (fun hb6 => ?_))
        · replace hF := ift hb6 hF
          have hr_ := Option.some.inj hF; subst hr_
          exact J_adv 6 (J_ret (xs := [.d (.int .i64 v2)]) [.d (.int .i64 v2)] rfl rfl (by kernel_rfl) (Res'.refl _) rfl)
        · replace hF := iff' hb6 hF
          exact J_adv 7 (J_at [0, 1, 7, 8] [] (T0 := [.inLoop (cAt (bodyOf Tryz.f249) [1, 0, 1, 0, 0]), .inBlock 0, .code (cAt (bodyOf Tryz.f249) [1, 1])]) (by kernel_rfl) rfl (ih_F249_L1 (IntKind.i64.wrap (v2 + 1)) hF))
      · replace hF := iff' hb5 hF
        have hr_ := Option.some.inj hF; subst hr_
        exact J_adv 6 (J_ret (xs := [.d (.int .i64 (-1))]) [.d (.int .i64 (-1))] rfl rfl (by kernel_rfl) (Res'.refl _) rfl)
  exact J_adv 13 (J_at [0, 1, 7, 8] [] (T0 := [.inLoop (cAt (bodyOf Tryz.f249) [1, 0, 1, 0, 0]), .inBlock 0, .code (cAt (bodyOf Tryz.f249) [1, 1])]) (by kernel_rfl) rfl (hF249_L1 fuel 0 hF))
/- slices.ContainsFunc(()int,int) -/
def F210 (fuel : Nat) (d0 : List Int) : Option Bool :=
  Option.bind (F249 fuel d0) fun y1 =>
  some (decide (y1 ≥ 0))
theorem F210_ok {fuel : Nat} {d0 : List Int} {r : Bool} (hF : F210 fuel d0 = some r) :
    CallF Tryz.prog 210 [.d (.sl 1 (d0.map e_i64)), .d (.fnc 211)] (.d (.bool r)) := by
  unfold F210 at hF
  refine callF_of (N := 9) (b := bodyOf Tryz.f210) Tryz.func210 (by kernel_rfl) rfl rfl ?_
  obtain ⟨y1, e1, hF⟩ := bnd hF
  refine J_adv 8 (J_callF (xs := [.d (.sl 1 (d0.map e_i64)), .d (.fnc 211)]) [.d (.sl 1 (d0.map e_i64)), .d (.fnc 211)] (.d (.int .i64 y1)) (by kernel_rfl) en249 (Res'.refl _) (F249_ok e1) ?_)
  have hr_ := Option.some.inj hF; subst hr_
  exact J_adv 3 (J_ret (xs := [.d (.bool (decide (y1 ≥ 0)))]) [.d (.bool (decide (y1 ≥ 0)))] rfl rfl (by kernel_rfl) (Res'.refl _) rfl)
/- (*croupier/model.checker).owned -/
/- croupier/model.all -/
def F196 (d0 : T_api_Model) : Option (List Int × List (List T_api_Choice)) :=
  some (d0.Owner, d0.Choices)
theorem F196_ok {d0 : T_api_Model} {r : List Int × List (List T_api_Choice)} (hF : F196 d0 = some r) :
    CallR Tryz.prog 196 [] [.agg [.d (.sl 1 (d0.Owner.map e_i64)), .d (.sl 1 (d0.Choices.map e_lT_api_Choice))]] [(2000, .box 34 [.d (.sl 1 (r.1.map e_i64)), .d (.sl 1 (r.2.map e_lT_api_Choice))])] (.fn 240 [] [.ptr 2000 0]) := by
  unfold F196 at hF
  refine callR_of (N := 4) (b := bodyOf Tryz.f196) Tryz.func196 (by kernel_rfl) rfl rfl ?_
  refine J_adv 10 (J_at (S0 := [(2, .fn 240 [] [.ptr 1 0])]) (O0 := [(1, .box 34 [.d (.sl 1 (d0.Owner.map e_i64)), .d (.sl 1 (d0.Choices.map e_lT_api_Choice))])]) (T0 := [.code (cAt (bodyOf Tryz.f196) [1, 1])]) [2] [1] (by kernel_rfl) rfl ?_)
  refine J_adv 0 (J_ren [(1, 2000)] (by kernel_rfl) (by kernel_rfl) (by kernel_rfl) (by kernel_rfl) ?_)
  have hr_ := Option.some.inj hF; subst hr_
  exact J_adv 0 (J_retRR (xs := [.fn 240 [] [.ptr 2000 0]]) [.fn 240 [] [.ptr 2000 0]] rfl (by kernel_rfl) (by kernel_rfl) (Res'.refl _) rfl)
def y_i64_T_api_Choice (x : Int × T_api_Choice) : List Kx.V := [.d (.int .i64 x.1), .agg [.d (.str x.2.Act), .d (.str x.2.Gain), .d (.sl 2 (x.2.Next.map e_T_api_Branch))]]
/- croupier/model.all$1 -/
def F240_L2 (v6 : Int) (y9 : List T_api_Choice) (rec_F240_L1 : Int → Option (List (Int × T_api_Choice))) : Nat → Int → Option (List (Int × T_api_Choice))
  | 0, _ => none
  | n_F240_L2 + 1, v8 =>
    bif decide (v8 < ((y9.map e_T_api_Choice).length : Int)) then
      (Option.bind (geti y9 v8) fun y12 =>
      Option.bind (
        (F240_L2 v6 y9 rec_F240_L1 n_F240_L2) (IntKind.i64.wrap (v8 + 1))) fun l9 =>
      some ((v6, y12) :: l9))
    else
      (rec_F240_L1 (IntKind.i64.wrap (v6 + 1)))
def F240_L1 (fuel : Nat) (d1 : List (List T_api_Choice)) : Nat → Int → Option (List (Int × T_api_Choice))
  | 0, _ => none
  | n_F240_L1 + 1, v6 =>
    bif decide (v6 < ((d1.map e_lT_api_Choice).length : Int)) then
      (Option.bind (geti d1 v6) fun y9 =>
      F240_L2 v6 y9 (F240_L1 fuel d1 n_F240_L1) fuel 0)
    else
      (some [])
def F240 (fuel : Nat) (d0 : List Int) (d1 : List (List T_api_Choice)) : Option (List (Int × T_api_Choice)) :=
  F240_L1 fuel d1 fuel 0
theorem F240_ok {fuel : Nat} {d0 : List Int} {d1 : List (List T_api_Choice)} {r : List (Int × T_api_Choice)} (hF : F240 fuel d0 d1 = some r) :
    IterC Tryz.prog 240 [(2000, .frn 2000)] [.yl 2000, .rp [.sl 1 (d0.map e_i64), .sl 1 (d1.map e_lT_api_Choice)] 0] (r.map y_i64_T_api_Choice) false := by
  unfold F240 at hF
  refine iterC_of (N := 28) (b := bodyOf Tryz.f240) Tryz.func240 (by kernel_rfl) rfl rfl (fun yl_ Inv_ Stop_ Pan_ hR_ => ?_)
  have hF240_L1 : ∀ (n_F240_L1 : Nat) (r : List (Int × T_api_Choice)) (v6 : Int), F240_L1 fuel d1 n_F240_L1 v6 = some r → J none Tryz.prog 28 [] (finI Tryz.prog Tryz.f240 yl_ Inv_ Stop_ Pan_ false (some (r.map y_i64_T_api_Choice))) ⟨mkT [(0, .yl 2000), (8, .d (.sl 1 (d1.map e_lT_api_Choice))), (9, .d (.int .i64 ((d1.map e_lT_api_Choice).length : Int))), (10, .d (.int .i64 v6))], [(2000, .frn 2000)], [.inLoop (cAt (bodyOf Tryz.f240) [1, 0, 0]), .inBlock 0]⟩ := by
    clear hF; intro n_F240_L1
    induction n_F240_L1 with
    | zero => intro r v6 hF; cases hF
    | succ n_F240_L1 ih_F240_L1 =>
      intro r v6 hF
      rw [F240_L1] at hF
      refine J_adv 6 (J_bool 11 (b := decide (v6 < ((d1.map e_lT_api_Choice).length : Int))) (by kernel_rfl) (fun hb9 => ?_) (fun hb9 => ?_))
      · replace hF := ift hb9 hF
        obtain ⟨y9, e9, hF⟩ := bnd hF
        refine J_adv 7 (J_opt1 (o := geti (d1.map e_lT_api_Choice) v6) (e_lT_api_Choice y9) (by kernel_rfl) (gm e9) ?_)
        have hF240_L2 : ∀ (n_F240_L2 : Nat) (r : List (Int × T_api_Choice)) (v8 : Int), F240_L2 v6 y9 (F240_L1 fuel d1 n_F240_L1) n_F240_L2 v8 = some r → J none Tryz.prog 28 [] (finI Tryz.prog Tryz.f240 yl_ Inv_ Stop_ Pan_ false (some (r.map y_i64_T_api_Choice))) ⟨mkT [(0, .yl 2000), (3, .d (.int .i64 v6)), (8, .d (.sl 1 (d1.map e_lT_api_Choice))), (9, .d (.int .i64 ((d1.map e_lT_api_Choice).length : Int))), (10, .d (.int .i64 v6)), (15, .d (.sl 3 (y9.map e_T_api_Choice))), (16, .d (.int .i64 ((y9.map e_T_api_Choice).length : Int))), (17, .d (.int .i64 v8))], [(2000, .frn 2000)], [.inLoop (cAt (bodyOf Tryz.f240) [1, 0, 0, 1, 1, 0, 0, 1, 1, 0, 0]), .inBlock 2, .inBlock 1, .code (cAt (bodyOf Tryz.f240) [1, 0, 0, 1, 1, 1]), .inLoop (cAt (bodyOf Tryz.f240) [1, 0, 0]), .inBlock 0]⟩ := by
          clear hF; intro n_F240_L2
          induction n_F240_L2 with
          | zero => intro r v8 hF; cases hF
          | succ n_F240_L2 ih_F240_L2 =>
            intro r v8 hF
            rw [F240_L2] at hF
            refine J_adv 6 (J_bool 18 (b := decide (v8 < ((y9.map e_T_api_Choice).length : Int))) (by kernel_rfl) (fun hb12 => ?_) (fun hb12 => ?_))
            · replace hF := ift hb12 hF
              obtain ⟨y12, e12, hF⟩ := bnd hF
              refine J_adv 6 (J_opt1 (o := geti (y9.map e_T_api_Choice) v8) (e_T_api_Choice y12) (by kernel_rfl) (gm e12) ?_)
              obtain ⟨l9, hY_, hr_⟩ := bnd hF
              clear hF; have hr_ := Option.some.inj hr_; subst hr_; have hF := hY_; clear hY_
              refine J_adv 9 (J_yield hR_ (xs := [.d (.int .i64 v6), .agg [.d (.str y12.Act), .d (.str y12.Gain), .d (.sl 2 (y12.Next.map e_T_api_Branch))]]) [.d (.int .i64 v6), .agg [.d (.str y12.Act), .d (.str y12.Gain), .d (.sl 2 (y12.Next.map e_T_api_Branch))]] (ys := l9.map y_i64_T_api_Choice) (by kernel_rfl) (by kernel_rfl) (Res'.refl _) ?_ ?_)
              rotate_left
              ·
                exact J_adv 3 (J_doneI hR_ (.inr rfl) rfl rfl (by kernel_rfl))
              ·
                exact J_adv 9 (J_at [0, 3, 8, 9, 10, 15, 16, 17] [2000] (T0 := [.inLoop (cAt (bodyOf Tryz.f240) [1, 0, 0, 1, 1, 0, 0, 1, 1, 0, 0]), .inBlock 2, .inBlock 1, .code (cAt (bodyOf Tryz.f240) [1, 0, 0, 1, 1, 1]), .inLoop (cAt (bodyOf Tryz.f240) [1, 0, 0]), .inBlock 0]) (by kernel_rfl) rfl (ih_F240_L2 _ (IntKind.i64.wrap (v8 + 1)) hF))
            · replace hF := iff' hb12 hF
              exact J_adv 7 (J_at [0, 8, 9, 10] [2000] (T0 := [.inLoop (cAt (bodyOf Tryz.f240) [1, 0, 0]), .inBlock 0]) (by kernel_rfl) rfl (ih_F240_L1 _ (IntKind.i64.wrap (v6 + 1)) hF))
        exact J_adv 12 (J_at [0, 3, 8, 9, 10, 15, 16, 17] [2000] (T0 := [.inLoop (cAt (bodyOf Tryz.f240) [1, 0, 0, 1, 1, 0, 0, 1, 1, 0, 0]), .inBlock 2, .inBlock 1, .code (cAt (bodyOf Tryz.f240) [1, 0, 0, 1, 1, 1]), .inLoop (cAt (bodyOf Tryz.f240) [1, 0, 0]), .inBlock 0]) (by kernel_rfl) rfl (hF240_L2 fuel _ 0 hF))
      · replace hF := iff' hb9 hF
        have hr_ := Option.some.inj hF; subst hr_
        exact J_adv 2 (J_doneI hR_ (.inl ⟨rfl, rfl⟩) rfl rfl (by kernel_rfl))
  exact J_adv 9 (J_at [0, 8, 9, 10] [2000] (T0 := [.inLoop (cAt (bodyOf Tryz.f240) [1, 0, 0]), .inBlock 0]) (by kernel_rfl) rfl (hF240_L1 fuel _ 0 hF))
/- (*croupier/model.checker).named$1 -/
def F213 (d0 : Int) : Option Bool :=
  Option.bind (
    bif decide (d0 < 97) then
      (some true)
    else
      (some (decide (d0 > 122)))) fun o1 =>
  some o1
theorem F213_ok {d0 : Int} {r : Bool} (hF : F213 d0 = some r) :
    CallF Tryz.prog 213 [.d (.int .u8 d0)] (.d (.bool r)) := by
  unfold F213 at hF
  refine callF_of (N := 9) (b := bodyOf Tryz.f213) Tryz.func213 (by kernel_rfl) rfl rfl ?_
  obtain ⟨o1, hO, hF⟩ := bnd hF
  have hR1 : J none Tryz.prog 9 [] (finF Tryz.prog Tryz.f213 (.d (.bool r))) ⟨mkT [(2, .d (.bool o1))], [], [.ops (opsOf (cAt (bodyOf Tryz.f213) [1, 0])) [], .code (cAt (bodyOf Tryz.f213) [1, 1])]⟩ := by
    clear hO
    have hr_ := Option.some.inj hF; subst hr_
    exact J_adv 1 (J_ret (xs := [.d (.bool o1)]) [.d (.bool o1)] rfl rfl (by kernel_rfl) (Res'.refl _) rfl)
  clear hF; rename _ = some o1 => hF
  refine J_adv 9 (J_bool 5 (b := decide (d0 < 97)) (by kernel_rfl) (fun hb3 => ?_) (fun hb3 => ?_))
  · replace hF := ift hb3 hF
    have hr_ := Option.some.inj hF; subst hr_
    exact J_adv 4 (J_at [2] [] (T0 := [.ops (opsOf (cAt (bodyOf Tryz.f213) [1, 0])) [], .code (cAt (bodyOf Tryz.f213) [1, 1])]) (by kernel_rfl) rfl hR1)
  · replace hF := iff' hb3 hF
    have hr_ := Option.some.inj hF; subst hr_
    exact J_adv 4 (J_at [2] [] (T0 := [.ops (opsOf (cAt (bodyOf Tryz.f213) [1, 0])) [], .code (cAt (bodyOf Tryz.f213) [1, 1])]) (by kernel_rfl) rfl hR1)
/- slices.IndexFunc(()byte,byte) -/
def F250_L1 (d0 : List Int) : Nat → Int → Option Int
  | 0, _ => none
  | n_F250_L1 + 1, v2 =>
    bif decide (v2 < ((d0.map e_u8).length : Int)) then
      (Option.bind (geti d0 v2) fun y5 =>
      Option.bind (F213 y5) fun y6 =>
      bif y6 then
        (some v2)
      else
        ((F250_L1 d0 n_F250_L1) (IntKind.i64.wrap (v2 + 1))))
    else
      (some (-1))
def F250 (fuel : Nat) (d0 : List Int) : Option Int :=
  F250_L1 d0 fuel 0
theorem F250_ok {fuel : Nat} {d0 : List Int} {r : Int} (hF : F250 fuel d0 = some r) :
    CallF Tryz.prog 250 [.d (.sl 1 (d0.map e_u8)), .d (.fnc 213)] (.d (.int .i64 r)) := by
  unfold F250 at hF
  refine callF_of (N := 19) (b := bodyOf Tryz.f250) Tryz.func250 (by kernel_rfl) rfl rfl ?_
  have hF250_L1 : ∀ (n_F250_L1 : Nat) (v2 : Int), F250_L1 d0 n_F250_L1 v2 = some r → J none Tryz.prog 19 [] (finF Tryz.prog Tryz.f250 (.d (.int .i64 r))) ⟨mkT [(0, .d (.sl 1 (d0.map e_u8))), (1, .d (.fnc 213)), (7, .d (.int .i64 ((d0.map e_u8).length : Int))), (8, .d (.int .i64 v2))], [], [.inLoop (cAt (bodyOf Tryz.f250) [1, 0, 1, 0, 0]), .inBlock 0, .code (cAt (bodyOf Tryz.f250) [1, 1])]⟩ := by
    clear hF; intro n_F250_L1
    induction n_F250_L1 with
    | zero => intro v2 hF; cases hF
    | succ n_F250_L1 ih_F250_L1 =>
      intro v2 hF
      rw [F250_L1] at hF
      refine J_adv 6 (J_bool 9 (b := decide (v2 < ((d0.map e_u8).length : Int))) (by kernel_rfl) (fun hb5 => ?_) (fun hb5 => ?_))
      · replace hF := ift hb5 hF
        obtain ⟨y5, e5, hF⟩ := bnd hF
        refine J_adv 14 (J_opt1 (o := geti (d0.map e_u8) v2) (e_u8 y5) (by kernel_rfl) (gm e5) ?_)
        obtain ⟨y6, e6, hF⟩ := bnd hF
        refine J_adv 1 (J_callF (xs := [.d (.int .u8 y5)]) [.d (.int .u8 y5)] (.d (.bool y6)) (by kernel_rfl) en213 (Res'.refl _) (F213_ok e6) ?_)
        refine J_adv 1 (J_bool 16 (b := y6) (by kernel_rfl) (fun hb6 => ?_) (fun hb6 => ?_))
        · replace hF := ift hb6 hF
          have hr_ := Option.some.inj hF; subst hr_
          exact J_adv 6 (J_ret (xs := [.d (.int .i64 v2)]) [.d (.int .i64 v2)] rfl rfl (by kernel_rfl) (Res'.refl _) rfl)
        · replace hF := iff' hb6 hF
          exact J_adv 7 (J_at [0, 1, 7, 8] [] (T0 := [.inLoop (cAt (bodyOf Tryz.f250) [1, 0, 1, 0, 0]), .inBlock 0, .code (cAt (bodyOf Tryz.f250) [1, 1])]) (by kernel_rfl) rfl (ih_F250_L1 (IntKind.i64.wrap (v2 + 1)) hF))
      · replace hF := iff' hb5 hF
        have hr_ := Option.some.inj hF; subst hr_
        exact J_adv 6 (J_ret (xs := [.d (.int .i64 (-1))]) [.d (.int .i64 (-1))] rfl rfl (by kernel_rfl) (Res'.refl _) rfl)
  exact J_adv 13 (J_at [0, 1, 7, 8] [] (T0 := [.inLoop (cAt (bodyOf Tryz.f250) [1, 0, 1, 0, 0]), .inBlock 0, .code (cAt (bodyOf Tryz.f250) [1, 1])]) (by kernel_rfl) rfl (hF250_L1 fuel 0 hF))
/- slices.ContainsFunc(()byte,byte) -/
def F212 (fuel : Nat) (d0 : List Int) : Option Bool :=
  Option.bind (F250 fuel d0) fun y1 =>
  some (decide (y1 ≥ 0))
theorem F212_ok {fuel : Nat} {d0 : List Int} {r : Bool} (hF : F212 fuel d0 = some r) :
    CallF Tryz.prog 212 [.d (.sl 1 (d0.map e_u8)), .d (.fnc 213)] (.d (.bool r)) := by
  unfold F212 at hF
  refine callF_of (N := 9) (b := bodyOf Tryz.f212) Tryz.func212 (by kernel_rfl) rfl rfl ?_
  obtain ⟨y1, e1, hF⟩ := bnd hF
  refine J_adv 8 (J_callF (xs := [.d (.sl 1 (d0.map e_u8)), .d (.fnc 213)]) [.d (.sl 1 (d0.map e_u8)), .d (.fnc 213)] (.d (.int .i64 y1)) (by kernel_rfl) en250 (Res'.refl _) (F250_ok e1) ?_)
  have hr_ := Option.some.inj hF; subst hr_
  exact J_adv 3 (J_ret (xs := [.d (.bool (decide (y1 ≥ 0)))]) [.d (.bool (decide (y1 ≥ 0)))] rfl rfl (by kernel_rfl) (Res'.refl _) rfl)
/- (*croupier/model.checker).named -/
def F175_A2 : Option Bool :=
  some false
def F175_L1 (fuel : Nat) : List (Int × T_api_Choice) → Option Bool
  | [] =>
    some true
  | y6 :: ys_F175_L1 =>
    Option.bind (
      bif decide ((y6.2.Act.length : Int) > 8) then
        (some true)
      else
        (Option.bind (F212 fuel (y6.2.Act.map toI)) fun y9 =>
        some y9)) fun o2 =>
    bif o2 then
      (F175_A2)
    else
      ((F175_L1 fuel ys_F175_L1))
/- croupier/model.meet -/
def F215 (fuel : Nat) (d0 : Int) (d1 : List Int) (d2 : List (List T_api_Choice)) (d3 : Int) (d4 : Int) : Option (Bool × Int) :=
  Option.bind (F253 fuel d4 d0) fun y1 =>
  ass (decide (y1 ≠ 0)) <|
  some (decide ((IntKind.i64.wrap ((IntKind.i64.wrap (Int.tdiv d4 y1)) * d0)) ≤ 9999), IntKind.i64.wrap ((IntKind.i64.wrap (Int.tdiv d4 y1)) * d0))
/- (*croupier/model.checker).gained -/
def F176_A2 (v5 : Int) : Option (Bool × Int) :=
  some (false, v5)
def F176_L1 (fuel : Nat) (d0 : List Int) (d1 : List (List T_api_Choice)) (d2 : Int) : List (Int × T_api_Choice) → Int → Option (Bool × Int)
  | [], v4 =>
    some (true, v4)
  | y12 :: ys_F176_L1, v4 =>
    Option.bind (F214 fuel y12.2.Gain) fun y13 =>
    Option.bind (
      bif !y13.2.2 then
        (some (true, v4))
      else
        (bif decide (y13.1 < 0) then
          (some (true, v4))
        else
          (Option.bind (F215 fuel y13.2.1 d0 d1 d2 v4) fun y16 =>
          some (!y16.1, y16.2)))) fun o3 =>
    bif o3.1 then
      (F176_A2 o3.2)
    else
      ((F176_L1 fuel d0 d1 d2 ys_F176_L1) o3.2)
/- croupier/model.meet -/
def F215a (fuel : Nat) (d0 : Int) (d1 : List Int) (d2 : List (List T_api_Choice)) (d3 : Int) (d4 : Int) : Option (Bool × Int) :=
  Option.bind (F253 fuel d3 d0) fun y1 =>
  ass (decide (y1 ≠ 0)) <|
  some (decide ((IntKind.i64.wrap ((IntKind.i64.wrap (Int.tdiv d3 y1)) * d0)) ≤ 9999), IntKind.i64.wrap ((IntKind.i64.wrap (Int.tdiv d3 y1)) * d0))
/- (*croupier/model.checker).spread -/
def F216_L2 (fuel : Nat) (d0 : List T_api_Branch) (v8 : Int) : Nat → Int → Int → Option (Bool × Int)
  | 0, _, _ => none
  | n_F216_L2 + 1, v12, v13 =>
    bif decide (v13 < ((d0.map e_T_api_Branch).length : Int)) then
      (Option.bind (geti d0 v13) fun y20 =>
      Option.bind (F214 fuel y20.P) fun y21 =>
      ass (decide (y21.2.1 ≠ 0)) <|
      (F216_L2 fuel d0 v8 n_F216_L2) (IntKind.i64.wrap (v12 + (IntKind.i64.wrap (y21.1 * (IntKind.i64.wrap (Int.tdiv v8 y21.2.1)))))) (IntKind.i64.wrap (v13 + 1)))
    else
      (some (v12 == v8, v8))
def F216_L1 (fuel : Nat) (d0 : List T_api_Branch) (d1 : List Int) (d2 : List (List T_api_Choice)) (d4 : Int) : Nat → Int → Int → Int → Option (Bool × Int)
  | 0, _, _, _ => none
  | n_F216_L1 + 1, v6, v7, v8 =>
    bif decide (v7 < ((d0.map e_T_api_Branch).length : Int)) then
      (Option.bind (geti d0 v7) fun y11 =>
      Option.bind (F214 fuel y11.P) fun y12 =>
      Option.bind (
        bif decide (y11.To ≤ v6) then
          (some (true, v8))
        else
          (bif decide (y11.To ≥ ((d1.map e_i64).length : Int)) then
            (some (true, v8))
          else
            (bif !y12.2.2 then
              (some (true, v8))
            else
              (bif decide (y12.1 < 1) then
                (some (true, v8))
              else
                (Option.bind (F215a fuel y12.2.1 d1 d2 v8 d4) fun y15 =>
                some (!y15.1, y15.2)))))) fun o3 =>
      bif o3.1 then
        (some (false, o3.2))
      else
        ((F216_L1 fuel d0 d1 d2 d4 n_F216_L1) y11.To (IntKind.i64.wrap (v7 + 1)) o3.2))
    else
      (F216_L2 fuel d0 v8 fuel 0 0)
/- (*croupier/model.checker).branched -/
/- (*croupier/model.checker).sized -/
def F173a (fuel : Nat) (d0 : List Int) (d1 : List (List T_api_Choice)) (d2 : Int) (d3 : Int) : Option Bool :=
  Option.bind (
    bif decide (((d0.map e_i64).length : Int) ≥ 1) then
      (bif decide (((d0.map e_i64).length : Int) ≤ 12) then
        (bif ((d1.map e_lT_api_Choice).length : Int) == ((d0.map e_i64).length : Int) then
          (Option.bind (F156 fuel d1) fun y3 =>
          some (!y3))
        else
          (some false))
      else
        (some false))
    else
      (some false)) fun o1 =>
  some o1
theorem F173a_ok {fuel : Nat} {d0 : List Int} {d1 : List (List T_api_Choice)} {d2 : Int} {d3 : Int} {r : Bool} (hF : F173a fuel d0 d1 d2 d3 = some r) :
    CallR Tryz.prog 173 [(2000, .box 238 [.d (.sl 1 (d0.map e_i64)), .d (.sl 1 (d1.map e_lT_api_Choice)), .d (.int .i64 d2), .d (.int .i64 d3)])] [.ptr 2000 0] [(2000, .box 238 [.d (.sl 1 (d0.map e_i64)), .d (.sl 1 (d1.map e_lT_api_Choice)), .d (.int .i64 d2), .d (.int .i64 d3)])] (.d (.bool r)) := by
  unfold F173a at hF
  refine callR_of (N := 43) (b := bodyOf Tryz.f173) Tryz.func173 (by kernel_rfl) rfl rfl ?_
  obtain ⟨o1, hO, hF⟩ := bnd hF
  have hR1 : J none Tryz.prog 43 [] (finR Tryz.prog Tryz.f173 [(2000, .box 238 [.d (.sl 1 (d0.map e_i64)), .d (.sl 1 (d1.map e_lT_api_Choice)), .d (.int .i64 d2), .d (.int .i64 d3)])] (.d (.bool r))) ⟨mkT [(2, .d (.bool o1))], [(2000, .box 238 [.d (.sl 1 (d0.map e_i64)), .d (.sl 1 (d1.map e_lT_api_Choice)), .d (.int .i64 d2), .d (.int .i64 d3)])], [.code (cAt (bodyOf Tryz.f173) [1, 1])]⟩ := by
    clear hO
    have hr_ := Option.some.inj hF; subst hr_
    exact J_adv 0 (J_retR (xs := [.d (.bool o1)]) [.d (.bool o1)] rfl (by kernel_rfl) (by kernel_rfl) (Res'.refl _) rfl)
  clear hF; rename _ = some o1 => hF
  refine J_adv 5 (J_draw (by kernel_rfl) (by kernel_rfl) ?_)
  refine JD_adv 8 (JD_bool 10 (b := decide (((d0.map e_i64).length : Int) ≥ 1)) (by kernel_rfl) (fun hb7 => ?_) (fun hb7 => ?_))
  · replace hF := ift hb7 hF
    refine JD_adv 9 (JD_bool 19 (b := decide (((d0.map e_i64).length : Int) ≤ 12)) (by kernel_rfl) (fun hb8 => ?_) (fun hb8 => ?_))
    · replace hF := ift hb8 hF
      refine JD_adv 15 (JD_bool 34 (b := ((d1.map e_lT_api_Choice).length : Int) == ((d0.map e_i64).length : Int)) (by kernel_rfl) (fun hb9 => ?_) (fun hb9 => ?_))
      · replace hF := ift hb9 hF
        obtain ⟨y3, e3, hF⟩ := bnd hF
        refine JD_adv 5 (JD_callF (xs := [.d (.sl 1 (d1.map e_lT_api_Choice)), .d (.fnc 209)]) [.d (.sl 1 (d1.map e_lT_api_Choice)), .d (.fnc 209)] (.d (.bool y3)) (by kernel_rfl) (by kernel_rfl) en156 (Res'.refl _) (F156_ok e3) ?_)
        refine JD_adv 3 (JD_end (by kernel_rfl) ?_)
        have hr_ := Option.some.inj hF; subst hr_
        exact J_adv 0 (J_at [2] [2000] (T0 := [.code (cAt (bodyOf Tryz.f173) [1, 1])]) (by kernel_rfl) rfl hR1)
      · replace hF := iff' hb9 hF
        refine JD_adv 9 (JD_end (by kernel_rfl) ?_)
        have hr_ := Option.some.inj hF; subst hr_
        exact J_adv 0 (J_at [2] [2000] (T0 := [.code (cAt (bodyOf Tryz.f173) [1, 1])]) (by kernel_rfl) rfl hR1)
    · replace hF := iff' hb8 hF
      refine JD_adv 24 (JD_end (by kernel_rfl) ?_)
      have hr_ := Option.some.inj hF; subst hr_
      exact J_adv 0 (J_at [2] [2000] (T0 := [.code (cAt (bodyOf Tryz.f173) [1, 1])]) (by kernel_rfl) rfl hR1)
  · replace hF := iff' hb7 hF
    refine JD_adv 33 (JD_end (by kernel_rfl) ?_)
    have hr_ := Option.some.inj hF; subst hr_
    exact J_adv 0 (J_at [2] [2000] (T0 := [.code (cAt (bodyOf Tryz.f173) [1, 1])]) (by kernel_rfl) rfl hR1)
/- (*croupier/model.checker).owned -/
def F174a (fuel : Nat) (d0 : List Int) (d1 : List (List T_api_Choice)) (d2 : Int) (d3 : Int) : Option Bool :=
  Option.bind (F210 fuel d0) fun y1 =>
  some (!y1)
theorem F174a_ok {fuel : Nat} {d0 : List Int} {d1 : List (List T_api_Choice)} {d2 : Int} {d3 : Int} {r : Bool} (hF : F174a fuel d0 d1 d2 d3 = some r) :
    CallR Tryz.prog 174 [(2000, .box 238 [.d (.sl 1 (d0.map e_i64)), .d (.sl 1 (d1.map e_lT_api_Choice)), .d (.int .i64 d2), .d (.int .i64 d3)])] [.ptr 2000 0] [(2000, .box 238 [.d (.sl 1 (d0.map e_i64)), .d (.sl 1 (d1.map e_lT_api_Choice)), .d (.int .i64 d2), .d (.int .i64 d3)])] (.d (.bool r)) := by
  unfold F174a at hF
  refine callR_of (N := 10) (b := bodyOf Tryz.f174) Tryz.func174 (by kernel_rfl) rfl rfl ?_
  obtain ⟨y1, e1, hF⟩ := bnd hF
  refine J_adv 11 (J_callF (xs := [.d (.sl 1 (d0.map e_i64)), .d (.fnc 211)]) [.d (.sl 1 (d0.map e_i64)), .d (.fnc 211)] (.d (.bool y1)) (by kernel_rfl) en210 (Res'.refl _) (F210_ok e1) ?_)
  have hr_ := Option.some.inj hF; subst hr_
  exact J_adv 3 (J_retR (xs := [.d (.bool (!y1))]) [.d (.bool (!y1))] rfl (by kernel_rfl) (by kernel_rfl) (Res'.refl _) rfl)
/- (*croupier/model.checker).named -/
def F175a_A2 : Option Bool :=
  some false
def F175a_L1 (fuel : Nat) : List (Int × T_api_Choice) → Option Bool
  | [] =>
    some true
  | y6 :: ys_F175a_L1 =>
    Option.bind (
      bif decide ((y6.2.Act.length : Int) > 8) then
        (some true)
      else
        (Option.bind (F212 fuel (y6.2.Act.map toI)) fun y9 =>
        some y9)) fun o2 =>
    bif o2 then
      (F175a_A2)
    else
      ((F175a_L1 fuel ys_F175a_L1))
def F175a (fuel : Nat) (d0 : List Int) (d1 : List (List T_api_Choice)) (d2 : Int) (d3 : Int) : Option Bool :=
  Option.bind (F196 (⟨d0, d1⟩ : T_api_Model)) fun y1 =>
  Option.bind (F240 fuel y1.1 y1.2) fun ys1 =>
  F175a_L1 fuel ys1
theorem F175a_ok {fuel : Nat} {d0 : List Int} {d1 : List (List T_api_Choice)} {d2 : Int} {d3 : Int} {r : Bool} (hF : F175a fuel d0 d1 d2 d3 = some r) :
    CallR Tryz.prog 175 [(2000, .box 238 [.d (.sl 1 (d0.map e_i64)), .d (.sl 1 (d1.map e_lT_api_Choice)), .d (.int .i64 d2), .d (.int .i64 d3)])] [.ptr 2000 0] [(2000, .box 238 [.d (.sl 1 (d0.map e_i64)), .d (.sl 1 (d1.map e_lT_api_Choice)), .d (.int .i64 d2), .d (.int .i64 d3)])] (.d (.bool r)) := by
  unfold F175a at hF
  refine callH_of (N := 22) (b := bodyOf Tryz.f175) Tryz.func175 (by kernel_rfl) rfl rfl (by kernel_rfl) (fun s_ r0_ w00_ M00_ st_ => ?_)
  obtain ⟨y1, e1, hF⟩ := bnd hF
  refine J_adv 11 (J_callR (os := []) (xs := [.agg [.d (.sl 1 (d0.map e_i64)), .d (.sl 1 (d1.map e_lT_api_Choice))]]) [(9, 2000)] [.agg [.d (.sl 1 (d0.map e_i64)), .d (.sl 1 (d1.map e_lT_api_Choice))]] [(2000, .box 34 [.d (.sl 1 (y1.1.map e_i64)), .d (.sl 1 (y1.2.map e_lT_api_Choice))])] (.fn 240 [] [.ptr 2000 0]) (by kernel_rfl) (by kernel_rfl) en196 (Res'.refl _) (F196_ok e1) ?_)
  refine J_adv 2 (J_at (S0 := [(2, .ptr 2 0), (9, .fn 240 [] [.ptr 9 0])]) (O0 := [(2, .box 4 [.d (.bool false)]), (9, .box 34 [.d (.sl 1 (y1.1.map e_i64)), .d (.sl 1 (y1.2.map e_lT_api_Choice))]), (2000, .box 238 [.d (.sl 1 (d0.map e_i64)), .d (.sl 1 (d1.map e_lT_api_Choice)), .d (.int .i64 d2), .d (.int .i64 d3)])]) (T0 := [.code (cAt (bodyOf Tryz.f175) [1, 0, 1, 0]), .inBlock 0, .code (cAt (bodyOf Tryz.f175) [1, 1])]) [2, 9] [2, 9, 2000] (by kernel_rfl) rfl ?_)
  refine J_ren [(9, 9), (2000, 2000), (2, 2100)] (by kernel_rfl) (by kernel_rfl) (by kernel_rfl) (by kernel_rfl) ?_
  refine J_at (S0 := [(2, .ptr 2100 0), (9, .fn 240 [] [.ptr 9 0])]) (O0 := [(9, .box 34 [.d (.sl 1 (y1.1.map e_i64)), .d (.sl 1 (y1.2.map e_lT_api_Choice))]), (2000, .box 238 [.d (.sl 1 (d0.map e_i64)), .d (.sl 1 (d1.map e_lT_api_Choice)), .d (.int .i64 d2), .d (.int .i64 d3)]), (2100, .box 4 [.d (.bool false)])]) (T0 := [.code (cAt (bodyOf Tryz.f175) [1, 0, 1, 0]), .inBlock 0, .code (cAt (bodyOf Tryz.f175) [1, 1])]) [2, 9] [9, 2000, 2100] (by kernel_rfl) rfl ?_
  obtain ⟨ys1, e2, hF⟩ := bnd hF
  obtain ⟨G_, hG_⟩ : ∃ G : List (List Kx.V) → List (Nat × IObj) → Prop, G = (fun yv ob => ∃ (yl_ : List (Int × T_api_Choice)), yv = yl_.map y_i64_T_api_Choice ∧ ob = [(2000, .box 238 [.d (.sl 1 (d0.map e_i64)), .d (.sl 1 (d1.map e_lT_api_Choice)), .d (.int .i64 d2), .d (.int .i64 d3)]), (2100, .box 4 [.d (.bool false)])] ∧ F175a_L1 fuel yl_ = some r) := ⟨_, rfl⟩
  obtain ⟨GX_, hGX_⟩ : ∃ G : Code → List (Nat × IObj) → Prop, G = (fun j ob => (∃ (_ : Unit), j = .ret ∧ ob = [(2000, .box 238 [.d (.sl 1 (d0.map e_i64)), .d (.sl 1 (d1.map e_lT_api_Choice)), .d (.int .i64 d2), .d (.int .i64 d3)]), (2100, .box 4 [.d (.bool false)])] ∧ F175a_A2 = some r)) := ⟨_, rfl⟩
  refine J_range (P := Tryz.prog) (g := (.tmp 9)) (ps := #[10, 11]) (asg := (cAt (bodyOf Tryz.f175) [1, 0, 1, 0, 0])) (bo := (cAt (bodyOf Tryz.f175) [1, 0, 1, 0, 1])) (k := [.inBlock 0, .code (cAt (bodyOf Tryz.f175) [1, 1])]) (gf := 240) (first := []) (cap := [.ptr 9 0]) (xs := [.rp [.sl 1 (y1.1.map e_i64), .sl 1 (y1.2.map e_lT_api_Choice)] 0]) (os := []) (S1 := [(2, .ptr 2100 0)]) (ob0 := [(2000, .box 238 [.d (.sl 1 (d0.map e_i64)), .d (.sl 1 (d1.map e_lT_api_Choice)), .d (.int .i64 d2), .d (.int .i64 d3)]), (2100, .box 4 [.d (.bool false)])]) [] [2] [2000, 2100] [.rp [.sl 1 (y1.1.map e_i64), .sl 1 (y1.2.map e_lT_api_Choice)] 0] (ysAll := ys1.map y_i64_T_api_Choice) [2000, 2100] G_ GX_ rfl (by kernel_rfl) rfl (by kernel_rfl) rfl (by kernel_rfl) (Res'.refl _) en240 (F240_ok e2) (by kernel_rfl) (by kernel_rfl) (by kernel_rfl) ?_ ?_ ?_ ⟨by kernel_rfl, by kernel_rfl⟩ ?_ ?_ ?_
  · rw [hG_]; exact ⟨ys1, rfl, by kernel_rfl, hF⟩
  · intro yv_ ob_ h_; rw [hG_] at h_; obtain ⟨_, _, rfl, _⟩ := h_; kernel_rfl
  · intro j_ ob_ h_; rw [hGX_] at h_; rcases h_ with ⟨_, _, rfl, _⟩ <;> kernel_rfl
  · intro x_ hxa_ hxb_ hxp_ yv_ ysv_ ob_ h_; rw [hG_] at h_
    obtain ⟨yl_, hy_, rfl, hF⟩ := h_
    cases yl_ with
    | nil => cases hy_
    | cons y6 ys_F175a_L1 =>
      cases hy_; rw [F175a_L1] at hF
      refine hJ_of (by kernel_rfl) ?_
      refine J_at (S0 := [(2, .ptr 2100 0), (10, .d (.int .i64 y6.1)), (11, .agg [.d (.str y6.2.Act), .d (.str y6.2.Gain), .d (.sl 2 (y6.2.Next.map e_T_api_Branch))])]) (O0 := [(3000, .raw x_.D (.deferred (some []))), (3001, .raw x_.L (.loop (recOf x_ .ready none))), (2000, .box 238 [.d (.sl 1 (d0.map e_i64)), .d (.sl 1 (d1.map e_lT_api_Choice)), .d (.int .i64 d2), .d (.int .i64 d3)]), (2100, .box 4 [.d (.bool false)])]) (T0 := [.code (cAt (bodyOf Tryz.f175) [1, 0, 1, 0, 0]), .begR x_.L, .code (cAt (bodyOf Tryz.f175) [1, 0, 1, 0, 1])]) [2, 10, 11] [3000, 3001, 2000, 2100] (by kernel_rfl) rfl ?_
      refine J_adv 4 (J_at (S0 := [(2, .ptr 2100 0), (4, .ptr 4 0), (10, .d (.int .i64 y6.1)), (11, .agg [.d (.str y6.2.Act), .d (.str y6.2.Gain), .d (.sl 2 (y6.2.Next.map e_T_api_Branch))])]) (O0 := [(3000, .raw x_.D (.deferred (some []))), (3001, .raw x_.L (.loop (recOf x_ .ready none))), (4, .box 26 [.d (.str y6.2.Act), .d (.str y6.2.Gain), .d (.sl 2 (y6.2.Next.map e_T_api_Branch))]), (2000, .box 238 [.d (.sl 1 (d0.map e_i64)), .d (.sl 1 (d1.map e_lT_api_Choice)), .d (.int .i64 d2), .d (.int .i64 d3)]), (2100, .box 4 [.d (.bool false)])]) (T0 := [.begR x_.L, .code (cAt (bodyOf Tryz.f175) [1, 0, 1, 0, 1])]) [2, 4, 10, 11] [3000, 3001, 4, 2000, 2100] (by kernel_rfl) rfl ?_)
      refine J_begR (l := x_.L) (q := 3001) (k := [.code (cAt (bodyOf Tryz.f175) [1, 0, 1, 0, 1])]) (rec := recOf x_ .ready none) rfl rfl rfl ?_
      obtain ⟨o2, hO, hF⟩ := bnd hF
      have hR2 : J (some x_.L) Tryz.prog 22 [] (finB x_ G_ GX_ (fun _ => False) (ys_F175a_L1.map y_i64_T_api_Choice)) ⟨mkT [(2, .ptr 2100 0), (21, .d (.bool o2))], [(3000, .raw x_.D (.deferred (some []))), (3001, .raw x_.L (.loop (recOf x_ .busy none))), (2000, .box 238 [.d (.sl 1 (d0.map e_i64)), .d (.sl 1 (d1.map e_lT_api_Choice)), .d (.int .i64 d2), .d (.int .i64 d3)]), (2100, .box 4 [.d (.bool false)])], [.ops (opsOf (cAt (bodyOf Tryz.f175) [1, 0, 1, 0, 1, 0, 0])) [], .code (cAt (bodyOf Tryz.f175) [1, 0, 1, 0, 1, 0, 1]), .inBlock 1]⟩ := by
        clear hO
        refine J_adv 1 (J_bool 21 (b := o2) (by kernel_rfl) (fun hb7 => ?_) (fun hb7 => ?_))
        · replace hF := ift hb7 hF
          refine J_adv 5 (J_at (S0 := []) (O0 := rob x_ .busy none [(2000, .box 238 [.d (.sl 1 (d0.map e_i64)), .d (.sl 1 (d1.map e_lT_api_Choice)), .d (.int .i64 d2), .d (.int .i64 d3)]), (2100, .box 4 [.d (.bool false)])]) (T0 := [.code (.ret), .inBlock 1]) [] [3000, 3001, 2000, 2100] (by kernel_rfl) rfl ?_)
          exact J_retB rfl [(2000, .box 238 [.d (.sl 1 (d0.map e_i64)), .d (.sl 1 (d1.map e_lT_api_Choice)), .d (.int .i64 d2), .d (.int .i64 d3)]), (2100, .box 4 [.d (.bool false)])] (k := [.inBlock 1]) rfl rfl rfl (by kernel_rfl) (by rw [hGX_]; exact ⟨(), rfl, rfl, hF⟩)
        · replace hF := iff' hb7 hF
          refine J_adv 3 (J_at (S0 := []) (O0 := rob x_ .busy none [(2000, .box 238 [.d (.sl 1 (d0.map e_i64)), .d (.sl 1 (d1.map e_lT_api_Choice)), .d (.int .i64 d2), .d (.int .i64 d3)]), (2100, .box 4 [.d (.bool false)])]) (T0 := []) [] [3000, 3001, 2000, 2100] (by kernel_rfl) rfl ?_)
          exact J_endB rfl [(2000, .box 238 [.d (.sl 1 (d0.map e_i64)), .d (.sl 1 (d1.map e_lT_api_Choice)), .d (.int .i64 d2), .d (.int .i64 d3)]), (2100, .box 4 [.d (.bool false)])] rfl rfl (by kernel_rfl) (by rw [hG_]; exact ⟨ys_F175a_L1, rfl, rfl, hF⟩)
      clear hF; rename _ = some o2 => hF
      refine J_adv 8 (J_bool 16 (b := decide ((y6.2.Act.length : Int) > 8)) (by kernel_rfl) (fun hb8 => ?_) (fun hb8 => ?_))
      · replace hF := ift hb8 hF
        have hr_ := Option.some.inj hF; subst hr_
        exact J_adv 5 (J_at [2, 21] [3000, 3001, 2000, 2100] (T0 := [.ops (opsOf (cAt (bodyOf Tryz.f175) [1, 0, 1, 0, 1, 0, 0])) [], .code (cAt (bodyOf Tryz.f175) [1, 0, 1, 0, 1, 0, 1]), .inBlock 1]) (by kernel_rfl) rfl hR2)
      · replace hF := iff' hb8 hF
        refine J_adv 2 (J_opt2 (o := some (y6.2.Act.map byteD)) ((y6.2.Act.map toI).map e_u8) (by kernel_rfl) (bym (f := e_u8) (fun _ => rfl)) ?_)
        obtain ⟨y9, e8, hF⟩ := bnd hF
        refine J_adv 0 (J_callF (xs := [.d (.sl 1 ((y6.2.Act.map toI).map e_u8)), .d (.fnc 213)]) [.d (.sl 1 ((y6.2.Act.map toI).map e_u8)), .d (.fnc 213)] (.d (.bool y9)) (by kernel_rfl) en212 (Res'.refl _) (F212_ok e8) ?_)
        have hr_ := Option.some.inj hF; subst hr_
        exact J_adv 1 (J_at [2, 21] [3000, 3001, 2000, 2100] (T0 := [.ops (opsOf (cAt (bodyOf Tryz.f175) [1, 0, 1, 0, 1, 0, 0])) [], .code (cAt (bodyOf Tryz.f175) [1, 0, 1, 0, 1, 0, 1]), .inBlock 1]) (by kernel_rfl) rfl hR2)
  · intro D_ ob_ h_; rw [hG_] at h_
    obtain ⟨yl_, hy_, rfl, hF⟩ := h_
    cases yl_ with
    | cons _ _ => cases hy_
    | nil =>
      clear hy_; rw [F175a_L1] at hF
      refine J_renG st_ [(2100, 2), (2000, 2000)] (by kernel_rfl) (by kernel_rfl) (by kernel_rfl) (by kernel_rfl) ?_
      refine J_adv 0 (J_at (S0 := [(2, .ptr 2 0)]) (O0 := [(2, .box 4 [.d (.bool false)]), (2000, .box 238 [.d (.sl 1 (d0.map e_i64)), .d (.sl 1 (d1.map e_lT_api_Choice)), .d (.int .i64 d2), .d (.int .i64 d3)])]) (T0 := [.inBlock 0, .code (cAt (bodyOf Tryz.f175) [1, 1])]) [2] [2, 2000] (by kernel_rfl) rfl ?_)
      have hr_ := Option.some.inj hF; subst hr_
      exact J_adv 5 (J_retH (xs := [.d (.bool true)]) st_ [.d (.bool true)] rfl rfl (by kernel_rfl) (Res'.refl _) rfl (by kernel_rfl))
  · intro D_ ob_ j_ h_; rw [hGX_] at h_
    rcases h_ with ⟨_, rfl, rfl, hF⟩
    ·
      unfold F175a_A2 at hF
      refine J_renG st_ [(2100, 2), (2000, 2000)] (by kernel_rfl) (by kernel_rfl) (by kernel_rfl) (by kernel_rfl) ?_
      refine J_adv 0 (J_at (S0 := [(2, .ptr 2 0)]) (O0 := [(2, .box 4 [.d (.bool false)]), (2000, .box 238 [.d (.sl 1 (d0.map e_i64)), .d (.sl 1 (d1.map e_lT_api_Choice)), .d (.int .i64 d2), .d (.int .i64 d3)])]) (T0 := [.code (.ret), .inBlock 0, .code (cAt (bodyOf Tryz.f175) [1, 1])]) [2] [2, 2000] (by kernel_rfl) rfl ?_)
      have hr_ := Option.some.inj hF; subst hr_
      exact J_adv 0 (J_retH (xs := [.d (.bool false)]) st_ [.d (.bool false)] rfl rfl (by kernel_rfl) (Res'.refl _) rfl (by kernel_rfl))
/- croupier/model.meet -/
def F215b (fuel : Nat) (d0 : Int) (d1 : List Int) (d2 : List (List T_api_Choice)) (d3 : Int) (d4 : Int) : Option (Bool × Int) :=
  Option.bind (F253 fuel d4 d0) fun y1 =>
  ass (decide (y1 ≠ 0)) <|
  some (decide ((IntKind.i64.wrap ((IntKind.i64.wrap (Int.tdiv d4 y1)) * d0)) ≤ 9999), IntKind.i64.wrap ((IntKind.i64.wrap (Int.tdiv d4 y1)) * d0))
theorem F215b_ok {fuel : Nat} {d0 : Int} {d1 : List Int} {d2 : List (List T_api_Choice)} {d3 : Int} {d4 : Int} {r : Bool × Int} (hF : F215b fuel d0 d1 d2 d3 d4 = some r) :
    CallR Tryz.prog 215 [(2000, .box 238 [.d (.sl 1 (d1.map e_i64)), .d (.sl 1 (d2.map e_lT_api_Choice)), .d (.int .i64 d3), .d (.int .i64 d4)])] [.ptr 2000 3, .d (.int .i64 d0)] [(2000, .box 238 [.d (.sl 1 (d1.map e_i64)), .d (.sl 1 (d2.map e_lT_api_Choice)), .d (.int .i64 d3), .d (.int .i64 r.2)])] (.d (.bool r.1)) := by
  unfold F215b at hF
  refine callR_of (N := 22) (b := bodyOf Tryz.f215) Tryz.func215 (by kernel_rfl) rfl rfl ?_
  refine J_adv 5 (J_draw (by kernel_rfl) (by kernel_rfl) ?_)
  obtain ⟨y1, e1, hF⟩ := bnd hF
  refine JD_adv 8 (JD_callF (xs := [.d (.int .i64 d4), .d (.int .i64 d0)]) [.d (.int .i64 d4), .d (.int .i64 d0)] (.d (.int .i64 y1)) (by kernel_rfl) (by kernel_rfl) en253 (Res'.refl _) (F253_ok e1) ?_)
  obtain ⟨hb1, hF⟩ := assd hF
  refine JD_adv 0 (JD_opt1 (o := chk (decide (y1 ≠ 0))) [] (by kernel_rfl) (by kernel_rfl) (ck hb1) ?_)
  refine JD_adv 4 (JD_end (by kernel_rfl) ?_)
  have hr_ := Option.some.inj hF; subst hr_
  exact J_adv 8 (J_retR (xs := [.d (.bool (decide ((IntKind.i64.wrap ((IntKind.i64.wrap (Int.tdiv d4 y1)) * d0)) ≤ 9999)))]) [.d (.bool (decide ((IntKind.i64.wrap ((IntKind.i64.wrap (Int.tdiv d4 y1)) * d0)) ≤ 9999)))] rfl (by kernel_rfl) (by kernel_rfl) (Res'.refl _) rfl)
/- (*croupier/model.checker).gained -/
def F176a_A2 (v5 : Int) : Option (Bool × Int) :=
  some (false, v5)
def F176a_L1 (fuel : Nat) (d0 : List Int) (d1 : List (List T_api_Choice)) (d2 : Int) : List (Int × T_api_Choice) → Int → Option (Bool × Int)
  | [], v4 =>
    some (true, v4)
  | y12 :: ys_F176a_L1, v4 =>
    Option.bind (F214 fuel y12.2.Gain) fun y13 =>
    Option.bind (
      bif !y13.2.2 then
        (some (true, v4))
      else
        (bif decide (y13.1 < 0) then
          (some (true, v4))
        else
          (Option.bind (F215b fuel y13.2.1 d0 d1 d2 v4) fun y16 =>
          some (!y16.1, y16.2)))) fun o3 =>
    bif o3.1 then
      (F176a_A2 o3.2)
    else
      ((F176a_L1 fuel d0 d1 d2 ys_F176a_L1) o3.2)
def F176a (fuel : Nat) (d0 : List Int) (d1 : List (List T_api_Choice)) (d2 : Int) (d3 : Int) : Option (Bool × Int) :=
  Option.bind (F196 (⟨d0, d1⟩ : T_api_Model)) fun y1 =>
  Option.bind (F240 fuel y1.1 y1.2) fun ys1 =>
  F176a_L1 fuel d0 d1 d2 ys1 1
theorem F176a_ok {fuel : Nat} {d0 : List Int} {d1 : List (List T_api_Choice)} {d2 : Int} {d3 : Int} {r : Bool × Int} (hF : F176a fuel d0 d1 d2 d3 = some r) :
    CallR Tryz.prog 176 [(2000, .box 238 [.d (.sl 1 (d0.map e_i64)), .d (.sl 1 (d1.map e_lT_api_Choice)), .d (.int .i64 d2), .d (.int .i64 d3)])] [.ptr 2000 0] [(2000, .box 238 [.d (.sl 1 (d0.map e_i64)), .d (.sl 1 (d1.map e_lT_api_Choice)), .d (.int .i64 d2), .d (.int .i64 r.2)])] (.d (.bool r.1)) := by
  unfold F176a at hF
  refine callH_of (N := 39) (b := bodyOf Tryz.f176) Tryz.func176 (by kernel_rfl) rfl rfl (by kernel_rfl) (fun s_ r0_ w00_ M00_ st_ => ?_)
  obtain ⟨y1, e1, hF⟩ := bnd hF
  refine J_adv 19 (J_callR (os := []) (xs := [.agg [.d (.sl 1 (d0.map e_i64)), .d (.sl 1 (d1.map e_lT_api_Choice))]]) [(15, 2000)] [.agg [.d (.sl 1 (d0.map e_i64)), .d (.sl 1 (d1.map e_lT_api_Choice))]] [(2000, .box 34 [.d (.sl 1 (y1.1.map e_i64)), .d (.sl 1 (y1.2.map e_lT_api_Choice))])] (.fn 240 [] [.ptr 2000 0]) (by kernel_rfl) (by kernel_rfl) en196 (Res'.refl _) (F196_ok e1) ?_)
  refine J_adv 2 (J_at (S0 := [(1, .ptr 1 0), (2, .ptr 2 0), (15, .fn 240 [] [.ptr 15 0])]) (O0 := [(1, .box 195 [.ptr 2000 0]), (2, .box 4 [.d (.bool false)]), (15, .box 34 [.d (.sl 1 (y1.1.map e_i64)), .d (.sl 1 (y1.2.map e_lT_api_Choice))]), (2000, .box 238 [.d (.sl 1 (d0.map e_i64)), .d (.sl 1 (d1.map e_lT_api_Choice)), .d (.int .i64 d2), .d (.int .i64 1)])]) (T0 := [.code (cAt (bodyOf Tryz.f176) [1, 1, 0, 1, 0]), .inBlock 0, .code (cAt (bodyOf Tryz.f176) [1, 1, 1])]) [1, 2, 15] [1, 2, 15, 2000] (by kernel_rfl) rfl ?_)
  refine J_ren [(15, 15), (2000, 2000), (1, 2100), (2, 2101)] (by kernel_rfl) (by kernel_rfl) (by kernel_rfl) (by kernel_rfl) ?_
  refine J_at (S0 := [(1, .ptr 2100 0), (2, .ptr 2101 0), (15, .fn 240 [] [.ptr 15 0])]) (O0 := [(15, .box 34 [.d (.sl 1 (y1.1.map e_i64)), .d (.sl 1 (y1.2.map e_lT_api_Choice))]), (2000, .box 238 [.d (.sl 1 (d0.map e_i64)), .d (.sl 1 (d1.map e_lT_api_Choice)), .d (.int .i64 d2), .d (.int .i64 1)]), (2100, .box 195 [.ptr 2000 0]), (2101, .box 4 [.d (.bool false)])]) (T0 := [.code (cAt (bodyOf Tryz.f176) [1, 1, 0, 1, 0]), .inBlock 0, .code (cAt (bodyOf Tryz.f176) [1, 1, 1])]) [1, 2, 15] [15, 2000, 2100, 2101] (by kernel_rfl) rfl ?_
  obtain ⟨ys1, e2, hF⟩ := bnd hF
  obtain ⟨G_, hG_⟩ : ∃ G : List (List Kx.V) → List (Nat × IObj) → Prop, G = (fun yv ob => ∃ (yl_ : List (Int × T_api_Choice)) (v4 : Int), yv = yl_.map y_i64_T_api_Choice ∧ ob = [(2000, .box 238 [.d (.sl 1 (d0.map e_i64)), .d (.sl 1 (d1.map e_lT_api_Choice)), .d (.int .i64 d2), .d (.int .i64 v4)]), (2100, .box 195 [.ptr 2000 0]), (2101, .box 4 [.d (.bool false)])] ∧ F176a_L1 fuel d0 d1 d2 yl_ v4 = some r) := ⟨_, rfl⟩
  obtain ⟨GX_, hGX_⟩ : ∃ G : Code → List (Nat × IObj) → Prop, G = (fun j ob => (∃ (v5 : Int), j = .ret ∧ ob = [(2000, .box 238 [.d (.sl 1 (d0.map e_i64)), .d (.sl 1 (d1.map e_lT_api_Choice)), .d (.int .i64 d2), .d (.int .i64 v5)]), (2100, .box 195 [.ptr 2000 0]), (2101, .box 4 [.d (.bool false)])] ∧ F176a_A2 v5 = some r)) := ⟨_, rfl⟩
  refine J_range (P := Tryz.prog) (g := (.tmp 15)) (ps := #[16, 17]) (asg := (cAt (bodyOf Tryz.f176) [1, 1, 0, 1, 0, 0])) (bo := (cAt (bodyOf Tryz.f176) [1, 1, 0, 1, 0, 1])) (k := [.inBlock 0, .code (cAt (bodyOf Tryz.f176) [1, 1, 1])]) (gf := 240) (first := []) (cap := [.ptr 15 0]) (xs := [.rp [.sl 1 (y1.1.map e_i64), .sl 1 (y1.2.map e_lT_api_Choice)] 0]) (os := []) (S1 := [(1, .ptr 2100 0), (2, .ptr 2101 0)]) (ob0 := [(2000, .box 238 [.d (.sl 1 (d0.map e_i64)), .d (.sl 1 (d1.map e_lT_api_Choice)), .d (.int .i64 d2), .d (.int .i64 1)]), (2100, .box 195 [.ptr 2000 0]), (2101, .box 4 [.d (.bool false)])]) [] [1, 2] [2000, 2100, 2101] [.rp [.sl 1 (y1.1.map e_i64), .sl 1 (y1.2.map e_lT_api_Choice)] 0] (ysAll := ys1.map y_i64_T_api_Choice) [2000, 2100, 2101] G_ GX_ rfl (by kernel_rfl) rfl (by kernel_rfl) rfl (by kernel_rfl) (Res'.refl _) en240 (F240_ok e2) (by kernel_rfl) (by kernel_rfl) (by kernel_rfl) ?_ ?_ ?_ ⟨by kernel_rfl, by kernel_rfl⟩ ?_ ?_ ?_
  · rw [hG_]; exact ⟨ys1, 1, rfl, by kernel_rfl, hF⟩
  · intro yv_ ob_ h_; rw [hG_] at h_; obtain ⟨_, _, _, rfl, _⟩ := h_; kernel_rfl
  · intro j_ ob_ h_; rw [hGX_] at h_; rcases h_ with ⟨_, _, rfl, _⟩ <;> kernel_rfl
  · intro x_ hxa_ hxb_ hxp_ yv_ ysv_ ob_ h_; rw [hG_] at h_
    obtain ⟨yl_, v4, hy_, rfl, hF⟩ := h_
    cases yl_ with
    | nil => cases hy_
    | cons y12 ys_F176a_L1 =>
      cases hy_; rw [F176a_L1] at hF
      refine hJ_of (by kernel_rfl) ?_
      refine J_at (S0 := [(1, .ptr 2100 0), (2, .ptr 2101 0), (16, .d (.int .i64 y12.1)), (17, .agg [.d (.str y12.2.Act), .d (.str y12.2.Gain), .d (.sl 2 (y12.2.Next.map e_T_api_Branch))])]) (O0 := [(3000, .raw x_.D (.deferred (some []))), (3001, .raw x_.L (.loop (recOf x_ .ready none))), (2000, .box 238 [.d (.sl 1 (d0.map e_i64)), .d (.sl 1 (d1.map e_lT_api_Choice)), .d (.int .i64 d2), .d (.int .i64 v4)]), (2100, .box 195 [.ptr 2000 0]), (2101, .box 4 [.d (.bool false)])]) (T0 := [.code (cAt (bodyOf Tryz.f176) [1, 1, 0, 1, 0, 0]), .begR x_.L, .code (cAt (bodyOf Tryz.f176) [1, 1, 0, 1, 0, 1])]) [1, 2, 16, 17] [3000, 3001, 2000, 2100, 2101] (by kernel_rfl) rfl ?_
      refine J_adv 4 (J_at (S0 := [(1, .ptr 2100 0), (2, .ptr 2101 0), (4, .ptr 4 0), (16, .d (.int .i64 y12.1)), (17, .agg [.d (.str y12.2.Act), .d (.str y12.2.Gain), .d (.sl 2 (y12.2.Next.map e_T_api_Branch))])]) (O0 := [(3000, .raw x_.D (.deferred (some []))), (3001, .raw x_.L (.loop (recOf x_ .ready none))), (4, .box 26 [.d (.str y12.2.Act), .d (.str y12.2.Gain), .d (.sl 2 (y12.2.Next.map e_T_api_Branch))]), (2000, .box 238 [.d (.sl 1 (d0.map e_i64)), .d (.sl 1 (d1.map e_lT_api_Choice)), .d (.int .i64 d2), .d (.int .i64 v4)]), (2100, .box 195 [.ptr 2000 0]), (2101, .box 4 [.d (.bool false)])]) (T0 := [.begR x_.L, .code (cAt (bodyOf Tryz.f176) [1, 1, 0, 1, 0, 1])]) [1, 2, 4, 16, 17] [3000, 3001, 4, 2000, 2100, 2101] (by kernel_rfl) rfl ?_)
      refine J_begR (l := x_.L) (q := 3001) (k := [.code (cAt (bodyOf Tryz.f176) [1, 1, 0, 1, 0, 1])]) (rec := recOf x_ .ready none) rfl rfl rfl ?_
      obtain ⟨y13, e11, hF⟩ := bnd hF
      refine J_adv 5 (J_callF (xs := [.d (.str y12.2.Gain)]) [.d (.str y12.2.Gain)] (.tup [.d (.int .i64 y13.1), .d (.int .i64 y13.2.1), .d (.bool y13.2.2)]) (by kernel_rfl) en214 (Res'.refl _) (F214_ok e11) ?_)
      obtain ⟨o3, hO, hF⟩ := bnd hF
      have hR3 : J (some x_.L) Tryz.prog 39 [] (finB x_ G_ GX_ (fun _ => False) (ys_F176a_L1.map y_i64_T_api_Choice)) ⟨mkT [(2, .ptr 2101 0), (38, .d (.bool o3.1))], [(3000, .raw x_.D (.deferred (some []))), (3001, .raw x_.L (.loop (recOf x_ .busy none))), (2000, .box 238 [.d (.sl 1 (d0.map e_i64)), .d (.sl 1 (d1.map e_lT_api_Choice)), .d (.int .i64 d2), .d (.int .i64 o3.2)]), (2100, .box 195 [.ptr 2000 0]), (2101, .box 4 [.d (.bool false)])], [.ops (opsOf (cAt (bodyOf Tryz.f176) [1, 1, 0, 1, 0, 1, 0, 1, 0])) [], .code (cAt (bodyOf Tryz.f176) [1, 1, 0, 1, 0, 1, 0, 1, 1]), .inBlock 1]⟩ := by
        clear hO
        refine J_adv 1 (J_bool 38 (b := o3.1) (by kernel_rfl) (fun hb19 => ?_) (fun hb19 => ?_))
        · replace hF := ift hb19 hF
          refine J_adv 5 (J_at (S0 := []) (O0 := rob x_ .busy none [(2000, .box 238 [.d (.sl 1 (d0.map e_i64)), .d (.sl 1 (d1.map e_lT_api_Choice)), .d (.int .i64 d2), .d (.int .i64 o3.2)]), (2100, .box 195 [.ptr 2000 0]), (2101, .box 4 [.d (.bool false)])]) (T0 := [.code (.ret), .inBlock 1]) [] [3000, 3001, 2000, 2100, 2101] (by kernel_rfl) rfl ?_)
          exact J_retB rfl [(2000, .box 238 [.d (.sl 1 (d0.map e_i64)), .d (.sl 1 (d1.map e_lT_api_Choice)), .d (.int .i64 d2), .d (.int .i64 o3.2)]), (2100, .box 195 [.ptr 2000 0]), (2101, .box 4 [.d (.bool false)])] (k := [.inBlock 1]) rfl rfl rfl (by kernel_rfl) (by rw [hGX_]; exact ⟨o3.2, rfl, rfl, hF⟩)
        · replace hF := iff' hb19 hF
          refine J_adv 3 (J_at (S0 := []) (O0 := rob x_ .busy none [(2000, .box 238 [.d (.sl 1 (d0.map e_i64)), .d (.sl 1 (d1.map e_lT_api_Choice)), .d (.int .i64 d2), .d (.int .i64 o3.2)]), (2100, .box 195 [.ptr 2000 0]), (2101, .box 4 [.d (.bool false)])]) (T0 := []) [] [3000, 3001, 2000, 2100, 2101] (by kernel_rfl) rfl ?_)
          exact J_endB rfl [(2000, .box 238 [.d (.sl 1 (d0.map e_i64)), .d (.sl 1 (d1.map e_lT_api_Choice)), .d (.int .i64 d2), .d (.int .i64 o3.2)]), (2100, .box 195 [.ptr 2000 0]), (2101, .box 4 [.d (.bool false)])] rfl rfl (by kernel_rfl) (by rw [hG_]; exact ⟨ys_F176a_L1, o3.2, rfl, rfl, hF⟩)
      clear hF; rename _ = some o3 => hF
      refine J_adv 13 (J_bool 27 (b := !y13.2.2) (by kernel_rfl) (fun hb20 => ?_) (fun hb20 => ?_))
      · replace hF := ift hb20 hF
        have hr_ := Option.some.inj hF; subst hr_
        exact J_adv 11 (J_at [2, 38] [3000, 3001, 2000, 2100, 2101] (T0 := [.ops (opsOf (cAt (bodyOf Tryz.f176) [1, 1, 0, 1, 0, 1, 0, 1, 0])) [], .code (cAt (bodyOf Tryz.f176) [1, 1, 0, 1, 0, 1, 0, 1, 1]), .inBlock 1]) (by kernel_rfl) rfl hR3)
      · replace hF := iff' hb20 hF
        refine J_adv 4 (J_bool 31 (b := decide (y13.1 < 0)) (by kernel_rfl) (fun hb21 => ?_) (fun hb21 => ?_))
        · replace hF := ift hb21 hF
          have hr_ := Option.some.inj hF; subst hr_
          exact J_adv 7 (J_at [2, 38] [3000, 3001, 2000, 2100, 2101] (T0 := [.ops (opsOf (cAt (bodyOf Tryz.f176) [1, 1, 0, 1, 0, 1, 0, 1, 0])) [], .code (cAt (bodyOf Tryz.f176) [1, 1, 0, 1, 0, 1, 0, 1, 1]), .inBlock 1]) (by kernel_rfl) rfl hR3)
        · replace hF := iff' hb21 hF
          obtain ⟨y16, e14, hF⟩ := bnd hF
          refine J_adv 4 (J_callR (os := [(2000, .box 238 [.d (.sl 1 (d0.map e_i64)), .d (.sl 1 (d1.map e_lT_api_Choice)), .d (.int .i64 d2), .d (.int .i64 v4)])]) (xs := [.ptr 2000 3, .d (.int .i64 y13.2.1)]) [(2000, 2000)] [.ptr 2000 3, .d (.int .i64 y13.2.1)] [(2000, .box 238 [.d (.sl 1 (d0.map e_i64)), .d (.sl 1 (d1.map e_lT_api_Choice)), .d (.int .i64 d2), .d (.int .i64 y16.2)])] (.d (.bool y16.1)) (by kernel_rfl) (by kernel_rfl) en215 (Res'.refl _) (F215b_ok e14) ?_)
          have hr_ := Option.some.inj hF; subst hr_
          exact J_adv 2 (J_at [2, 38] [3000, 3001, 2000, 2100, 2101] (T0 := [.ops (opsOf (cAt (bodyOf Tryz.f176) [1, 1, 0, 1, 0, 1, 0, 1, 0])) [], .code (cAt (bodyOf Tryz.f176) [1, 1, 0, 1, 0, 1, 0, 1, 1]), .inBlock 1]) (by kernel_rfl) rfl hR3)
  · intro D_ ob_ h_; rw [hG_] at h_
    obtain ⟨yl_, v4, hy_, rfl, hF⟩ := h_
    cases yl_ with
    | cons _ _ => cases hy_
    | nil =>
      clear hy_; rw [F176a_L1] at hF
      refine J_renG st_ [(2100, 1), (2101, 2), (2000, 2000)] (by kernel_rfl) (by kernel_rfl) (by kernel_rfl) (by kernel_rfl) ?_
      refine J_adv 0 (J_at (S0 := [(2, .ptr 2 0)]) (O0 := [(2, .box 4 [.d (.bool false)]), (2000, .box 238 [.d (.sl 1 (d0.map e_i64)), .d (.sl 1 (d1.map e_lT_api_Choice)), .d (.int .i64 d2), .d (.int .i64 v4)])]) (T0 := [.inBlock 0, .code (cAt (bodyOf Tryz.f176) [1, 1, 1])]) [2] [2, 2000] (by kernel_rfl) rfl ?_)
      have hr_ := Option.some.inj hF; subst hr_
      exact J_adv 5 (J_retH (xs := [.d (.bool true)]) st_ [.d (.bool true)] rfl rfl (by kernel_rfl) (Res'.refl _) rfl (by kernel_rfl))
  · intro D_ ob_ j_ h_; rw [hGX_] at h_
    rcases h_ with ⟨v5, rfl, rfl, hF⟩
    ·
      unfold F176a_A2 at hF
      refine J_renG st_ [(2100, 1), (2101, 2), (2000, 2000)] (by kernel_rfl) (by kernel_rfl) (by kernel_rfl) (by kernel_rfl) ?_
      refine J_adv 0 (J_at (S0 := [(2, .ptr 2 0)]) (O0 := [(2, .box 4 [.d (.bool false)]), (2000, .box 238 [.d (.sl 1 (d0.map e_i64)), .d (.sl 1 (d1.map e_lT_api_Choice)), .d (.int .i64 d2), .d (.int .i64 v5)])]) (T0 := [.code (.ret), .inBlock 0, .code (cAt (bodyOf Tryz.f176) [1, 1, 1])]) [2] [2, 2000] (by kernel_rfl) rfl ?_)
      have hr_ := Option.some.inj hF; subst hr_
      exact J_adv 0 (J_retH (xs := [.d (.bool false)]) st_ [.d (.bool false)] rfl rfl (by kernel_rfl) (Res'.refl _) rfl (by kernel_rfl))
/- croupier/model.meet -/
def F215c (fuel : Nat) (d0 : Int) (d1 : List Int) (d2 : List (List T_api_Choice)) (d3 : Int) (d4 : Int) : Option (Bool × Int) :=
  Option.bind (F253 fuel d3 d0) fun y1 =>
  ass (decide (y1 ≠ 0)) <|
  some (decide ((IntKind.i64.wrap ((IntKind.i64.wrap (Int.tdiv d3 y1)) * d0)) ≤ 9999), IntKind.i64.wrap ((IntKind.i64.wrap (Int.tdiv d3 y1)) * d0))
theorem F215c_ok {fuel : Nat} {d0 : Int} {d1 : List Int} {d2 : List (List T_api_Choice)} {d3 : Int} {d4 : Int} {r : Bool × Int} (hF : F215c fuel d0 d1 d2 d3 d4 = some r) :
    CallR Tryz.prog 215 [(2000, .box 238 [.d (.sl 1 (d1.map e_i64)), .d (.sl 1 (d2.map e_lT_api_Choice)), .d (.int .i64 d3), .d (.int .i64 d4)])] [.ptr 2000 2, .d (.int .i64 d0)] [(2000, .box 238 [.d (.sl 1 (d1.map e_i64)), .d (.sl 1 (d2.map e_lT_api_Choice)), .d (.int .i64 r.2), .d (.int .i64 d4)])] (.d (.bool r.1)) := by
  unfold F215c at hF
  refine callR_of (N := 22) (b := bodyOf Tryz.f215) Tryz.func215 (by kernel_rfl) rfl rfl ?_
  refine J_adv 5 (J_draw (by kernel_rfl) (by kernel_rfl) ?_)
  obtain ⟨y1, e1, hF⟩ := bnd hF
  refine JD_adv 8 (JD_callF (xs := [.d (.int .i64 d3), .d (.int .i64 d0)]) [.d (.int .i64 d3), .d (.int .i64 d0)] (.d (.int .i64 y1)) (by kernel_rfl) (by kernel_rfl) en253 (Res'.refl _) (F253_ok e1) ?_)
  obtain ⟨hb1, hF⟩ := assd hF
  refine JD_adv 0 (JD_opt1 (o := chk (decide (y1 ≠ 0))) [] (by kernel_rfl) (by kernel_rfl) (ck hb1) ?_)
  refine JD_adv 4 (JD_end (by kernel_rfl) ?_)
  have hr_ := Option.some.inj hF; subst hr_
  exact J_adv 8 (J_retR (xs := [.d (.bool (decide ((IntKind.i64.wrap ((IntKind.i64.wrap (Int.tdiv d3 y1)) * d0)) ≤ 9999)))]) [.d (.bool (decide ((IntKind.i64.wrap ((IntKind.i64.wrap (Int.tdiv d3 y1)) * d0)) ≤ 9999)))] rfl (by kernel_rfl) (by kernel_rfl) (Res'.refl _) rfl)
/- (*croupier/model.checker).spread -/
def F216a_L2 (fuel : Nat) (d0 : List T_api_Branch) (v8 : Int) : Nat → Int → Int → Option (Bool × Int)
  | 0, _, _ => none
  | n_F216a_L2 + 1, v12, v13 =>
    bif decide (v13 < ((d0.map e_T_api_Branch).length : Int)) then
      (Option.bind (geti d0 v13) fun y20 =>
      Option.bind (F214 fuel y20.P) fun y21 =>
      ass (decide (y21.2.1 ≠ 0)) <|
      (F216a_L2 fuel d0 v8 n_F216a_L2) (IntKind.i64.wrap (v12 + (IntKind.i64.wrap (y21.1 * (IntKind.i64.wrap (Int.tdiv v8 y21.2.1)))))) (IntKind.i64.wrap (v13 + 1)))
    else
      (some (v12 == v8, v8))
def F216a_L1 (fuel : Nat) (d0 : List T_api_Branch) (d1 : List Int) (d2 : List (List T_api_Choice)) (d4 : Int) : Nat → Int → Int → Int → Option (Bool × Int)
  | 0, _, _, _ => none
  | n_F216a_L1 + 1, v6, v7, v8 =>
    bif decide (v7 < ((d0.map e_T_api_Branch).length : Int)) then
      (Option.bind (geti d0 v7) fun y11 =>
      Option.bind (F214 fuel y11.P) fun y12 =>
      Option.bind (
        bif decide (y11.To ≤ v6) then
          (some (true, v8))
        else
          (bif decide (y11.To ≥ ((d1.map e_i64).length : Int)) then
            (some (true, v8))
          else
            (bif !y12.2.2 then
              (some (true, v8))
            else
              (bif decide (y12.1 < 1) then
                (some (true, v8))
              else
                (Option.bind (F215c fuel y12.2.1 d1 d2 v8 d4) fun y15 =>
                some (!y15.1, y15.2)))))) fun o3 =>
      bif o3.1 then
        (some (false, o3.2))
      else
        ((F216a_L1 fuel d0 d1 d2 d4 n_F216a_L1) y11.To (IntKind.i64.wrap (v7 + 1)) o3.2))
    else
      (F216a_L2 fuel d0 v8 fuel 0 0)
def F216a (fuel : Nat) (d0 : List T_api_Branch) (d1 : List Int) (d2 : List (List T_api_Choice)) (d3 : Int) (d4 : Int) : Option (Bool × Int) :=
  F216a_L1 fuel d0 d1 d2 d4 fuel (-1) 0 d3
theorem F216a_ok {fuel : Nat} {d0 : List T_api_Branch} {d1 : List Int} {d2 : List (List T_api_Choice)} {d3 : Int} {d4 : Int} {r : Bool × Int} (hF : F216a fuel d0 d1 d2 d3 d4 = some r) :
    CallR Tryz.prog 216 [(2000, .box 238 [.d (.sl 1 (d1.map e_i64)), .d (.sl 1 (d2.map e_lT_api_Choice)), .d (.int .i64 d3), .d (.int .i64 d4)])] [.ptr 2000 0, .d (.sl 2 (d0.map e_T_api_Branch))] [(2000, .box 238 [.d (.sl 1 (d1.map e_i64)), .d (.sl 1 (d2.map e_lT_api_Choice)), .d (.int .i64 r.2), .d (.int .i64 d4)])] (.d (.bool r.1)) := by
  unfold F216a at hF
  refine callR_of (N := 94) (b := bodyOf Tryz.f216) Tryz.func216 (by kernel_rfl) rfl rfl ?_
  have hF216a_L1 : ∀ (n_F216a_L1 : Nat) (v6 : Int) (v7 : Int) (v8 : Int), F216a_L1 fuel d0 d1 d2 d4 n_F216a_L1 v6 v7 v8 = some r → J none Tryz.prog 94 [] (finR Tryz.prog Tryz.f216 [(2000, .box 238 [.d (.sl 1 (d1.map e_i64)), .d (.sl 1 (d2.map e_lT_api_Choice)), .d (.int .i64 r.2), .d (.int .i64 d4)])] (.d (.bool r.1))) ⟨mkT [(0, .ptr 2000 0), (1, .d (.sl 2 (d0.map e_T_api_Branch))), (5, .d (.int .i64 v6)), (17, .d (.sl 2 (d0.map e_T_api_Branch))), (18, .d (.int .i64 ((d0.map e_T_api_Branch).length : Int))), (19, .d (.int .i64 v7))], [(2000, .box 238 [.d (.sl 1 (d1.map e_i64)), .d (.sl 1 (d2.map e_lT_api_Choice)), .d (.int .i64 v8), .d (.int .i64 d4)])], [.inLoop (cAt (bodyOf Tryz.f216) [1, 1, 0, 1, 0, 0]), .inBlock 0, .code (cAt (bodyOf Tryz.f216) [1, 1, 1])]⟩ := by
    clear hF; intro n_F216a_L1
    induction n_F216a_L1 with
    | zero => intro v6 v7 v8 hF; cases hF
    | succ n_F216a_L1 ih_F216a_L1 =>
      intro v6 v7 v8 hF
      rw [F216a_L1] at hF
      refine J_adv 6 (J_bool 20 (b := decide (v7 < ((d0.map e_T_api_Branch).length : Int))) (by kernel_rfl) (fun hb29 => ?_) (fun hb29 => ?_))
      · replace hF := ift hb29 hF
        obtain ⟨y11, e11, hF⟩ := bnd hF
        refine J_adv 6 (J_opt1 (o := geti (d0.map e_T_api_Branch) v7) (e_T_api_Branch y11) (by kernel_rfl) (gm e11) ?_)
        obtain ⟨y12, e12, hF⟩ := bnd hF
        refine J_adv 8 (J_callF (xs := [.d (.str y11.P)]) [.d (.str y11.P)] (.tup [.d (.int .i64 y12.1), .d (.int .i64 y12.2.1), .d (.bool y12.2.2)]) (by kernel_rfl) en214 (Res'.refl _) (F214_ok e12) ?_)
        obtain ⟨o3, hO, hF⟩ := bnd hF
        have hR3 : J none Tryz.prog 94 [] (finR Tryz.prog Tryz.f216 [(2000, .box 238 [.d (.sl 1 (d1.map e_i64)), .d (.sl 1 (d2.map e_lT_api_Choice)), .d (.int .i64 r.2), .d (.int .i64 d4)])] (.d (.bool r.1))) ⟨mkT [(0, .ptr 2000 0), (1, .d (.sl 2 (d0.map e_T_api_Branch))), (7, .ptr 7 0), (17, .d (.sl 2 (d0.map e_T_api_Branch))), (18, .d (.int .i64 ((d0.map e_T_api_Branch).length : Int))), (19, .d (.int .i64 v7)), (60, .d (.bool o3.1))], [(7, .box 29 [.d (.int .i64 y11.To), .d (.str y11.P)]), (2000, .box 238 [.d (.sl 1 (d1.map e_i64)), .d (.sl 1 (d2.map e_lT_api_Choice)), .d (.int .i64 o3.2), .d (.int .i64 d4)])], [.code (cAt (bodyOf Tryz.f216) [1, 1, 0, 1, 0, 0, 1, 1, 0, 0, 1, 1, 0, 1]), .code (cAt (bodyOf Tryz.f216) [1, 1, 0, 1, 0, 0, 1, 1, 0, 0, 1, 1, 1]), .inBlock 1, .code (cAt (bodyOf Tryz.f216) [1, 1, 0, 1, 0, 0, 1, 1, 1]), .inLoop (cAt (bodyOf Tryz.f216) [1, 1, 0, 1, 0, 0]), .inBlock 0, .code (cAt (bodyOf Tryz.f216) [1, 1, 1])]⟩ := by
          clear hO
          refine J_adv 0 (J_bool 60 (b := o3.1) (by kernel_rfl) (fun hb38 => ?_) (fun hb38 => ?_))
          · replace hF := ift hb38 hF
            have hr_ := Option.some.inj hF; subst hr_
            exact J_adv 5 (J_retR (xs := [.d (.bool false)]) [.d (.bool false)] rfl (by kernel_rfl) (by kernel_rfl) (Res'.refl _) rfl)
          · replace hF := iff' hb38 hF
            exact J_adv 12 (J_at [0, 1, 5, 17, 18, 19] [2000] (T0 := [.inLoop (cAt (bodyOf Tryz.f216) [1, 1, 0, 1, 0, 0]), .inBlock 0, .code (cAt (bodyOf Tryz.f216) [1, 1, 1])]) (by kernel_rfl) rfl (ih_F216a_L1 y11.To (IntKind.i64.wrap (v7 + 1)) o3.2 hF))
        clear hF; rename _ = some o3 => hF
        refine J_adv 10 (J_draw (by kernel_rfl) (by kernel_rfl) ?_)
        refine JD_adv 5 (JD_bool 34 (b := decide (y11.To ≤ v6)) (by kernel_rfl) (fun hb39 => ?_) (fun hb39 => ?_))
        · replace hF := ift hb39 hF
          refine JD_adv 26 (JD_end (by kernel_rfl) ?_)
          have hr_ := Option.some.inj hF; subst hr_
          exact J_adv 0 (J_at [0, 1, 7, 17, 18, 19, 60] [7, 2000] (T0 := [.code (cAt (bodyOf Tryz.f216) [1, 1, 0, 1, 0, 0, 1, 1, 0, 0, 1, 1, 0, 1]), .code (cAt (bodyOf Tryz.f216) [1, 1, 0, 1, 0, 0, 1, 1, 0, 0, 1, 1, 1]), .inBlock 1, .code (cAt (bodyOf Tryz.f216) [1, 1, 0, 1, 0, 0, 1, 1, 1]), .inLoop (cAt (bodyOf Tryz.f216) [1, 1, 0, 1, 0, 0]), .inBlock 0, .code (cAt (bodyOf Tryz.f216) [1, 1, 1])]) (by kernel_rfl) rfl hR3)
        · replace hF := iff' hb39 hF
          refine JD_adv 11 (JD_bool 45 (b := decide (y11.To ≥ ((d1.map e_i64).length : Int))) (by kernel_rfl) (fun hb40 => ?_) (fun hb40 => ?_))
          · replace hF := ift hb40 hF
            refine JD_adv 15 (JD_end (by kernel_rfl) ?_)
            have hr_ := Option.some.inj hF; subst hr_
            exact J_adv 0 (J_at [0, 1, 7, 17, 18, 19, 60] [7, 2000] (T0 := [.code (cAt (bodyOf Tryz.f216) [1, 1, 0, 1, 0, 0, 1, 1, 0, 0, 1, 1, 0, 1]), .code (cAt (bodyOf Tryz.f216) [1, 1, 0, 1, 0, 0, 1, 1, 0, 0, 1, 1, 1]), .inBlock 1, .code (cAt (bodyOf Tryz.f216) [1, 1, 0, 1, 0, 0, 1, 1, 1]), .inLoop (cAt (bodyOf Tryz.f216) [1, 1, 0, 1, 0, 0]), .inBlock 0, .code (cAt (bodyOf Tryz.f216) [1, 1, 1])]) (by kernel_rfl) rfl hR3)
          · replace hF := iff' hb40 hF
            refine JD_adv 4 (JD_bool 49 (b := !y12.2.2) (by kernel_rfl) (fun hb41 => ?_) (fun hb41 => ?_))
            · replace hF := ift hb41 hF
              refine JD_adv 11 (JD_end (by kernel_rfl) ?_)
              have hr_ := Option.some.inj hF; subst hr_
              exact J_adv 0 (J_at [0, 1, 7, 17, 18, 19, 60] [7, 2000] (T0 := [.code (cAt (bodyOf Tryz.f216) [1, 1, 0, 1, 0, 0, 1, 1, 0, 0, 1, 1, 0, 1]), .code (cAt (bodyOf Tryz.f216) [1, 1, 0, 1, 0, 0, 1, 1, 0, 0, 1, 1, 1]), .inBlock 1, .code (cAt (bodyOf Tryz.f216) [1, 1, 0, 1, 0, 0, 1, 1, 1]), .inLoop (cAt (bodyOf Tryz.f216) [1, 1, 0, 1, 0, 0]), .inBlock 0, .code (cAt (bodyOf Tryz.f216) [1, 1, 1])]) (by kernel_rfl) rfl hR3)
            · replace hF := iff' hb41 hF
              refine JD_adv 4 (JD_bool 53 (b := decide (y12.1 < 1)) (by kernel_rfl) (fun hb42 => ?_) (fun hb42 => ?_))
              · replace hF := ift hb42 hF
                refine JD_adv 7 (JD_end (by kernel_rfl) ?_)
                have hr_ := Option.some.inj hF; subst hr_
                exact J_adv 0 (J_at [0, 1, 7, 17, 18, 19, 60] [7, 2000] (T0 := [.code (cAt (bodyOf Tryz.f216) [1, 1, 0, 1, 0, 0, 1, 1, 0, 0, 1, 1, 0, 1]), .code (cAt (bodyOf Tryz.f216) [1, 1, 0, 1, 0, 0, 1, 1, 0, 0, 1, 1, 1]), .inBlock 1, .code (cAt (bodyOf Tryz.f216) [1, 1, 0, 1, 0, 0, 1, 1, 1]), .inLoop (cAt (bodyOf Tryz.f216) [1, 1, 0, 1, 0, 0]), .inBlock 0, .code (cAt (bodyOf Tryz.f216) [1, 1, 1])]) (by kernel_rfl) rfl hR3)
              · replace hF := iff' hb42 hF
                obtain ⟨y15, e15, hF⟩ := bnd hF
                refine JD_adv 4 (JD_callR (os := [(2000, .box 238 [.d (.sl 1 (d1.map e_i64)), .d (.sl 1 (d2.map e_lT_api_Choice)), .d (.int .i64 v8), .d (.int .i64 d4)])]) (xs := [.ptr 2000 2, .d (.int .i64 y12.2.1)]) [(2000, 2000)] [.ptr 2000 2, .d (.int .i64 y12.2.1)] [(2000, .box 238 [.d (.sl 1 (d1.map e_i64)), .d (.sl 1 (d2.map e_lT_api_Choice)), .d (.int .i64 y15.2), .d (.int .i64 d4)])] (.d (.bool y15.1)) (by kernel_rfl) (by kernel_rfl) en215 (Res'.refl _) (F215c_ok e15) ?_)
                refine JD_adv 2 (JD_end (by kernel_rfl) ?_)
                have hr_ := Option.some.inj hF; subst hr_
                exact J_adv 0 (J_at [0, 1, 7, 17, 18, 19, 60] [7, 2000] (T0 := [.code (cAt (bodyOf Tryz.f216) [1, 1, 0, 1, 0, 0, 1, 1, 0, 0, 1, 1, 0, 1]), .code (cAt (bodyOf Tryz.f216) [1, 1, 0, 1, 0, 0, 1, 1, 0, 0, 1, 1, 1]), .inBlock 1, .code (cAt (bodyOf Tryz.f216) [1, 1, 0, 1, 0, 0, 1, 1, 1]), .inLoop (cAt (bodyOf Tryz.f216) [1, 1, 0, 1, 0, 0]), .inBlock 0, .code (cAt (bodyOf Tryz.f216) [1, 1, 1])]) (by kernel_rfl) rfl hR3)
      · replace hF := iff' hb29 hF
        have hF216a_L2 : ∀ (n_F216a_L2 : Nat) (v12 : Int) (v13 : Int), F216a_L2 fuel d0 v8 n_F216a_L2 v12 v13 = some r → J none Tryz.prog 94 [] (finR Tryz.prog Tryz.f216 [(2000, .box 238 [.d (.sl 1 (d1.map e_i64)), .d (.sl 1 (d2.map e_lT_api_Choice)), .d (.int .i64 r.2), .d (.int .i64 d4)])] (.d (.bool r.1))) ⟨mkT [(0, .ptr 2000 0), (11, .d (.int .i64 v12)), (64, .d (.sl 2 (d0.map e_T_api_Branch))), (65, .d (.int .i64 ((d0.map e_T_api_Branch).length : Int))), (66, .d (.int .i64 v13))], [(2000, .box 238 [.d (.sl 1 (d1.map e_i64)), .d (.sl 1 (d2.map e_lT_api_Choice)), .d (.int .i64 v8), .d (.int .i64 d4)])], [.inLoop (cAt (bodyOf Tryz.f216) [1, 1, 1, 1, 0, 1, 0, 0]), .inBlock 2, .code (cAt (bodyOf Tryz.f216) [1, 1, 1, 1, 1])]⟩ := by
          clear hF; intro n_F216a_L2
          induction n_F216a_L2 with
          | zero => intro v12 v13 hF; cases hF
          | succ n_F216a_L2 ih_F216a_L2 =>
            intro v12 v13 hF
            rw [F216a_L2] at hF
            refine J_adv 6 (J_bool 67 (b := decide (v13 < ((d0.map e_T_api_Branch).length : Int))) (by kernel_rfl) (fun hb47 => ?_) (fun hb47 => ?_))
            · replace hF := ift hb47 hF
              obtain ⟨y20, e20, hF⟩ := bnd hF
              refine J_adv 6 (J_opt1 (o := geti (d0.map e_T_api_Branch) v13) (e_T_api_Branch y20) (by kernel_rfl) (gm e20) ?_)
              obtain ⟨y21, e21, hF⟩ := bnd hF
              refine J_adv 8 (J_callF (xs := [.d (.str y20.P)]) [.d (.str y20.P)] (.tup [.d (.int .i64 y21.1), .d (.int .i64 y21.2.1), .d (.bool y21.2.2)]) (by kernel_rfl) en214 (Res'.refl _) (F214_ok e21) ?_)
              obtain ⟨hb48, hF⟩ := assd hF
              refine J_adv 16 (J_opt1 (o := chk (decide (y21.2.1 ≠ 0))) [] (by kernel_rfl) (ck hb48) ?_)
              exact J_adv 9 (J_at [0, 11, 64, 65, 66] [2000] (T0 := [.inLoop (cAt (bodyOf Tryz.f216) [1, 1, 1, 1, 0, 1, 0, 0]), .inBlock 2, .code (cAt (bodyOf Tryz.f216) [1, 1, 1, 1, 1])]) (by kernel_rfl) rfl (ih_F216a_L2 (IntKind.i64.wrap (v12 + (IntKind.i64.wrap (y21.1 * (IntKind.i64.wrap (Int.tdiv v8 y21.2.1)))))) (IntKind.i64.wrap (v13 + 1)) hF))
            · replace hF := iff' hb47 hF
              have hr_ := Option.some.inj hF; subst hr_
              exact J_adv 12 (J_retR (xs := [.d (.bool (v12 == v8))]) [.d (.bool (v12 == v8))] rfl (by kernel_rfl) (by kernel_rfl) (Res'.refl _) rfl)
        exact J_adv 15 (J_at [0, 11, 64, 65, 66] [2000] (T0 := [.inLoop (cAt (bodyOf Tryz.f216) [1, 1, 1, 1, 0, 1, 0, 0]), .inBlock 2, .code (cAt (bodyOf Tryz.f216) [1, 1, 1, 1, 1])]) (by kernel_rfl) rfl (hF216a_L2 fuel 0 0 hF))
  exact J_adv 17 (J_at [0, 1, 5, 17, 18, 19] [2000] (T0 := [.inLoop (cAt (bodyOf Tryz.f216) [1, 1, 0, 1, 0, 0]), .inBlock 0, .code (cAt (bodyOf Tryz.f216) [1, 1, 1])]) (by kernel_rfl) rfl (hF216a_L1 fuel (-1) 0 d3 hF))
/- (*croupier/model.checker).branched -/
def F177a_A2 (v3 : Int) : Option (Bool × Int) :=
  some (false, v3)
def F177a_L1 (fuel : Nat) (d0 : List Int) (d1 : List (List T_api_Choice)) (d3 : Int) : List (Int × T_api_Choice) → Int → Option (Bool × Int)
  | [], v2 =>
    some (true, v2)
  | y6 :: ys_F177a_L1, v2 =>
    Option.bind (F216a fuel y6.2.Next d0 d1 v2 d3) fun y7 =>
    bif !y7.1 then
      (F177a_A2 y7.2)
    else
      ((F177a_L1 fuel d0 d1 d3 ys_F177a_L1) y7.2)
def F177a (fuel : Nat) (d0 : List Int) (d1 : List (List T_api_Choice)) (d2 : Int) (d3 : Int) : Option (Bool × Int) :=
  Option.bind (F196 (⟨d0, d1⟩ : T_api_Model)) fun y1 =>
  Option.bind (F240 fuel y1.1 y1.2) fun ys1 =>
  F177a_L1 fuel d0 d1 d3 ys1 1
theorem F177a_ok {fuel : Nat} {d0 : List Int} {d1 : List (List T_api_Choice)} {d2 : Int} {d3 : Int} {r : Bool × Int} (hF : F177a fuel d0 d1 d2 d3 = some r) :
    CallR Tryz.prog 177 [(2000, .box 238 [.d (.sl 1 (d0.map e_i64)), .d (.sl 1 (d1.map e_lT_api_Choice)), .d (.int .i64 d2), .d (.int .i64 d3)])] [.ptr 2000 0] [(2000, .box 238 [.d (.sl 1 (d0.map e_i64)), .d (.sl 1 (d1.map e_lT_api_Choice)), .d (.int .i64 r.2), .d (.int .i64 d3)])] (.d (.bool r.1)) := by
  unfold F177a at hF
  refine callH_of (N := 20) (b := bodyOf Tryz.f177) Tryz.func177 (by kernel_rfl) rfl rfl (by kernel_rfl) (fun s_ r0_ w00_ M00_ st_ => ?_)
  obtain ⟨y1, e1, hF⟩ := bnd hF
  refine J_adv 19 (J_callR (os := []) (xs := [.agg [.d (.sl 1 (d0.map e_i64)), .d (.sl 1 (d1.map e_lT_api_Choice))]]) [(12, 2000)] [.agg [.d (.sl 1 (d0.map e_i64)), .d (.sl 1 (d1.map e_lT_api_Choice))]] [(2000, .box 34 [.d (.sl 1 (y1.1.map e_i64)), .d (.sl 1 (y1.2.map e_lT_api_Choice))])] (.fn 240 [] [.ptr 2000 0]) (by kernel_rfl) (by kernel_rfl) en196 (Res'.refl _) (F196_ok e1) ?_)
  refine J_adv 2 (J_at (S0 := [(1, .ptr 1 0), (2, .ptr 2 0), (12, .fn 240 [] [.ptr 12 0])]) (O0 := [(1, .box 195 [.ptr 2000 0]), (2, .box 4 [.d (.bool false)]), (12, .box 34 [.d (.sl 1 (y1.1.map e_i64)), .d (.sl 1 (y1.2.map e_lT_api_Choice))]), (2000, .box 238 [.d (.sl 1 (d0.map e_i64)), .d (.sl 1 (d1.map e_lT_api_Choice)), .d (.int .i64 1), .d (.int .i64 d3)])]) (T0 := [.code (cAt (bodyOf Tryz.f177) [1, 1, 0, 1, 0]), .inBlock 0, .code (cAt (bodyOf Tryz.f177) [1, 1, 1])]) [1, 2, 12] [1, 2, 12, 2000] (by kernel_rfl) rfl ?_)
  refine J_ren [(12, 12), (2000, 2000), (1, 2100), (2, 2101)] (by kernel_rfl) (by kernel_rfl) (by kernel_rfl) (by kernel_rfl) ?_
  refine J_at (S0 := [(1, .ptr 2100 0), (2, .ptr 2101 0), (12, .fn 240 [] [.ptr 12 0])]) (O0 := [(12, .box 34 [.d (.sl 1 (y1.1.map e_i64)), .d (.sl 1 (y1.2.map e_lT_api_Choice))]), (2000, .box 238 [.d (.sl 1 (d0.map e_i64)), .d (.sl 1 (d1.map e_lT_api_Choice)), .d (.int .i64 1), .d (.int .i64 d3)]), (2100, .box 195 [.ptr 2000 0]), (2101, .box 4 [.d (.bool false)])]) (T0 := [.code (cAt (bodyOf Tryz.f177) [1, 1, 0, 1, 0]), .inBlock 0, .code (cAt (bodyOf Tryz.f177) [1, 1, 1])]) [1, 2, 12] [12, 2000, 2100, 2101] (by kernel_rfl) rfl ?_
  obtain ⟨ys1, e2, hF⟩ := bnd hF
  obtain ⟨G_, hG_⟩ : ∃ G : List (List Kx.V) → List (Nat × IObj) → Prop, G = (fun yv ob => ∃ (yl_ : List (Int × T_api_Choice)) (v2 : Int), yv = yl_.map y_i64_T_api_Choice ∧ ob = [(2000, .box 238 [.d (.sl 1 (d0.map e_i64)), .d (.sl 1 (d1.map e_lT_api_Choice)), .d (.int .i64 v2), .d (.int .i64 d3)]), (2100, .box 195 [.ptr 2000 0]), (2101, .box 4 [.d (.bool false)])] ∧ F177a_L1 fuel d0 d1 d3 yl_ v2 = some r) := ⟨_, rfl⟩
  obtain ⟨GX_, hGX_⟩ : ∃ G : Code → List (Nat × IObj) → Prop, G = (fun j ob => (∃ (v3 : Int), j = .ret ∧ ob = [(2000, .box 238 [.d (.sl 1 (d0.map e_i64)), .d (.sl 1 (d1.map e_lT_api_Choice)), .d (.int .i64 v3), .d (.int .i64 d3)]), (2100, .box 195 [.ptr 2000 0]), (2101, .box 4 [.d (.bool false)])] ∧ F177a_A2 v3 = some r)) := ⟨_, rfl⟩
  refine J_range (P := Tryz.prog) (g := (.tmp 12)) (ps := #[13, 14]) (asg := (cAt (bodyOf Tryz.f177) [1, 1, 0, 1, 0, 0])) (bo := (cAt (bodyOf Tryz.f177) [1, 1, 0, 1, 0, 1])) (k := [.inBlock 0, .code (cAt (bodyOf Tryz.f177) [1, 1, 1])]) (gf := 240) (first := []) (cap := [.ptr 12 0]) (xs := [.rp [.sl 1 (y1.1.map e_i64), .sl 1 (y1.2.map e_lT_api_Choice)] 0]) (os := []) (S1 := [(1, .ptr 2100 0), (2, .ptr 2101 0)]) (ob0 := [(2000, .box 238 [.d (.sl 1 (d0.map e_i64)), .d (.sl 1 (d1.map e_lT_api_Choice)), .d (.int .i64 1), .d (.int .i64 d3)]), (2100, .box 195 [.ptr 2000 0]), (2101, .box 4 [.d (.bool false)])]) [] [1, 2] [2000, 2100, 2101] [.rp [.sl 1 (y1.1.map e_i64), .sl 1 (y1.2.map e_lT_api_Choice)] 0] (ysAll := ys1.map y_i64_T_api_Choice) [2000, 2100, 2101] G_ GX_ rfl (by kernel_rfl) rfl (by kernel_rfl) rfl (by kernel_rfl) (Res'.refl _) en240 (F240_ok e2) (by kernel_rfl) (by kernel_rfl) (by kernel_rfl) ?_ ?_ ?_ ⟨by kernel_rfl, by kernel_rfl⟩ ?_ ?_ ?_
  · rw [hG_]; exact ⟨ys1, 1, rfl, by kernel_rfl, hF⟩
  · intro yv_ ob_ h_; rw [hG_] at h_; obtain ⟨_, _, _, rfl, _⟩ := h_; kernel_rfl
  · intro j_ ob_ h_; rw [hGX_] at h_; rcases h_ with ⟨_, _, rfl, _⟩ <;> kernel_rfl
  · intro x_ hxa_ hxb_ hxp_ yv_ ysv_ ob_ h_; rw [hG_] at h_
    obtain ⟨yl_, v2, hy_, rfl, hF⟩ := h_
    cases yl_ with
    | nil => cases hy_
    | cons y6 ys_F177a_L1 =>
      cases hy_; rw [F177a_L1] at hF
      refine hJ_of (by kernel_rfl) ?_
      refine J_at (S0 := [(1, .ptr 2100 0), (2, .ptr 2101 0), (13, .d (.int .i64 y6.1)), (14, .agg [.d (.str y6.2.Act), .d (.str y6.2.Gain), .d (.sl 2 (y6.2.Next.map e_T_api_Branch))])]) (O0 := [(3000, .raw x_.D (.deferred (some []))), (3001, .raw x_.L (.loop (recOf x_ .ready none))), (2000, .box 238 [.d (.sl 1 (d0.map e_i64)), .d (.sl 1 (d1.map e_lT_api_Choice)), .d (.int .i64 v2), .d (.int .i64 d3)]), (2100, .box 195 [.ptr 2000 0]), (2101, .box 4 [.d (.bool false)])]) (T0 := [.code (cAt (bodyOf Tryz.f177) [1, 1, 0, 1, 0, 0]), .begR x_.L, .code (cAt (bodyOf Tryz.f177) [1, 1, 0, 1, 0, 1])]) [1, 2, 13, 14] [3000, 3001, 2000, 2100, 2101] (by kernel_rfl) rfl ?_
      refine J_adv 4 (J_at (S0 := [(1, .ptr 2100 0), (2, .ptr 2101 0), (4, .ptr 4 0), (13, .d (.int .i64 y6.1)), (14, .agg [.d (.str y6.2.Act), .d (.str y6.2.Gain), .d (.sl 2 (y6.2.Next.map e_T_api_Branch))])]) (O0 := [(3000, .raw x_.D (.deferred (some []))), (3001, .raw x_.L (.loop (recOf x_ .ready none))), (4, .box 26 [.d (.str y6.2.Act), .d (.str y6.2.Gain), .d (.sl 2 (y6.2.Next.map e_T_api_Branch))]), (2000, .box 238 [.d (.sl 1 (d0.map e_i64)), .d (.sl 1 (d1.map e_lT_api_Choice)), .d (.int .i64 v2), .d (.int .i64 d3)]), (2100, .box 195 [.ptr 2000 0]), (2101, .box 4 [.d (.bool false)])]) (T0 := [.begR x_.L, .code (cAt (bodyOf Tryz.f177) [1, 1, 0, 1, 0, 1])]) [1, 2, 4, 13, 14] [3000, 3001, 4, 2000, 2100, 2101] (by kernel_rfl) rfl ?_)
      refine J_begR (l := x_.L) (q := 3001) (k := [.code (cAt (bodyOf Tryz.f177) [1, 1, 0, 1, 0, 1])]) (rec := recOf x_ .ready none) rfl rfl rfl ?_
      obtain ⟨y7, e5, hF⟩ := bnd hF
      refine J_adv 6 (J_callR (os := [(2000, .box 238 [.d (.sl 1 (d0.map e_i64)), .d (.sl 1 (d1.map e_lT_api_Choice)), .d (.int .i64 v2), .d (.int .i64 d3)])]) (xs := [.ptr 2000 0, .d (.sl 2 (y6.2.Next.map e_T_api_Branch))]) [(2000, 2000)] [.ptr 2000 0, .d (.sl 2 (y6.2.Next.map e_T_api_Branch))] [(2000, .box 238 [.d (.sl 1 (d0.map e_i64)), .d (.sl 1 (d1.map e_lT_api_Choice)), .d (.int .i64 y7.2), .d (.int .i64 d3)])] (.d (.bool y7.1)) (by kernel_rfl) (by kernel_rfl) en216 (Res'.refl _) (F216a_ok e5) ?_)
      refine J_adv 2 (J_bool 19 (b := !y7.1) (by kernel_rfl) (fun hb3 => ?_) (fun hb3 => ?_))
      · replace hF := ift hb3 hF
        refine J_adv 5 (J_at (S0 := []) (O0 := rob x_ .busy none [(2000, .box 238 [.d (.sl 1 (d0.map e_i64)), .d (.sl 1 (d1.map e_lT_api_Choice)), .d (.int .i64 y7.2), .d (.int .i64 d3)]), (2100, .box 195 [.ptr 2000 0]), (2101, .box 4 [.d (.bool false)])]) (T0 := [.code (.ret), .inBlock 1]) [] [3000, 3001, 2000, 2100, 2101] (by kernel_rfl) rfl ?_)
        exact J_retB rfl [(2000, .box 238 [.d (.sl 1 (d0.map e_i64)), .d (.sl 1 (d1.map e_lT_api_Choice)), .d (.int .i64 y7.2), .d (.int .i64 d3)]), (2100, .box 195 [.ptr 2000 0]), (2101, .box 4 [.d (.bool false)])] (k := [.inBlock 1]) rfl rfl rfl (by kernel_rfl) (by rw [hGX_]; exact ⟨y7.2, rfl, rfl, hF⟩)
      · replace hF := iff' hb3 hF
        refine J_adv 3 (J_at (S0 := []) (O0 := rob x_ .busy none [(2000, .box 238 [.d (.sl 1 (d0.map e_i64)), .d (.sl 1 (d1.map e_lT_api_Choice)), .d (.int .i64 y7.2), .d (.int .i64 d3)]), (2100, .box 195 [.ptr 2000 0]), (2101, .box 4 [.d (.bool false)])]) (T0 := []) [] [3000, 3001, 2000, 2100, 2101] (by kernel_rfl) rfl ?_)
        exact J_endB rfl [(2000, .box 238 [.d (.sl 1 (d0.map e_i64)), .d (.sl 1 (d1.map e_lT_api_Choice)), .d (.int .i64 y7.2), .d (.int .i64 d3)]), (2100, .box 195 [.ptr 2000 0]), (2101, .box 4 [.d (.bool false)])] rfl rfl (by kernel_rfl) (by rw [hG_]; exact ⟨ys_F177a_L1, y7.2, rfl, rfl, hF⟩)
  · intro D_ ob_ h_; rw [hG_] at h_
    obtain ⟨yl_, v2, hy_, rfl, hF⟩ := h_
    cases yl_ with
    | cons _ _ => cases hy_
    | nil =>
      clear hy_; rw [F177a_L1] at hF
      refine J_renG st_ [(2100, 1), (2101, 2), (2000, 2000)] (by kernel_rfl) (by kernel_rfl) (by kernel_rfl) (by kernel_rfl) ?_
      refine J_adv 0 (J_at (S0 := [(2, .ptr 2 0)]) (O0 := [(2, .box 4 [.d (.bool false)]), (2000, .box 238 [.d (.sl 1 (d0.map e_i64)), .d (.sl 1 (d1.map e_lT_api_Choice)), .d (.int .i64 v2), .d (.int .i64 d3)])]) (T0 := [.inBlock 0, .code (cAt (bodyOf Tryz.f177) [1, 1, 1])]) [2] [2, 2000] (by kernel_rfl) rfl ?_)
      have hr_ := Option.some.inj hF; subst hr_
      exact J_adv 5 (J_retH (xs := [.d (.bool true)]) st_ [.d (.bool true)] rfl rfl (by kernel_rfl) (Res'.refl _) rfl (by kernel_rfl))
  · intro D_ ob_ j_ h_; rw [hGX_] at h_
    rcases h_ with ⟨v3, rfl, rfl, hF⟩
    ·
      unfold F177a_A2 at hF
      refine J_renG st_ [(2100, 1), (2101, 2), (2000, 2000)] (by kernel_rfl) (by kernel_rfl) (by kernel_rfl) (by kernel_rfl) ?_
      refine J_adv 0 (J_at (S0 := [(2, .ptr 2 0)]) (O0 := [(2, .box 4 [.d (.bool false)]), (2000, .box 238 [.d (.sl 1 (d0.map e_i64)), .d (.sl 1 (d1.map e_lT_api_Choice)), .d (.int .i64 v3), .d (.int .i64 d3)])]) (T0 := [.code (.ret), .inBlock 0, .code (cAt (bodyOf Tryz.f177) [1, 1, 1])]) [2] [2, 2000] (by kernel_rfl) rfl ?_)
      have hr_ := Option.some.inj hF; subst hr_
      exact J_adv 0 (J_retH (xs := [.d (.bool false)]) st_ [.d (.bool false)] rfl rfl (by kernel_rfl) (Res'.refl _) rfl (by kernel_rfl))
/- croupier/model.check -/
def F132_L1 (fuel : Nat) (d0 : T_api_Model) : Nat → Int → Int → Int → Option (T_model_checker × Bool)
  | 0, _, _, _ => none
  | n_F132_L1 + 1, v4, v5, v6 =>
    bif decide (v4 < 5) then
      (bif decide (v4 = 0) then
        (Option.bind (F173a fuel d0.Owner d0.Choices v5 v6) fun y11 =>
        bif !y11 then
          (some ((⟨d0, v5, v6⟩ : T_model_checker), false))
        else
          ((F132_L1 fuel d0 n_F132_L1) (IntKind.i64.wrap (v4 + 1)) v5 v6))
      else bif decide (v4 = 1) then
        (Option.bind (F174a fuel d0.Owner d0.Choices v5 v6) fun y12 =>
        bif !y12 then
          (some ((⟨d0, v5, v6⟩ : T_model_checker), false))
        else
          ((F132_L1 fuel d0 n_F132_L1) (IntKind.i64.wrap (v4 + 1)) v5 v6))
      else bif decide (v4 = 2) then
        (Option.bind (F175a fuel d0.Owner d0.Choices v5 v6) fun y13 =>
        bif !y13 then
          (some ((⟨d0, v5, v6⟩ : T_model_checker), false))
        else
          ((F132_L1 fuel d0 n_F132_L1) (IntKind.i64.wrap (v4 + 1)) v5 v6))
      else bif decide (v4 = 3) then
        (Option.bind (F176a fuel d0.Owner d0.Choices v5 v6) fun y14 =>
        bif !y14.1 then
          (some ((⟨d0, v5, y14.2⟩ : T_model_checker), false))
        else
          ((F132_L1 fuel d0 n_F132_L1) (IntKind.i64.wrap (v4 + 1)) v5 y14.2))
      else bif decide (v4 = 4) then
        (Option.bind (F177a fuel d0.Owner d0.Choices v5 v6) fun y15 =>
        bif !y15.1 then
          (some ((⟨d0, y15.2, v6⟩ : T_model_checker), false))
        else
          ((F132_L1 fuel d0 n_F132_L1) (IntKind.i64.wrap (v4 + 1)) y15.2 v6))
      else none)
    else
      (some ((⟨d0, v5, v6⟩ : T_model_checker), true))
def F132 (fuel : Nat) (d0 : T_api_Model) : Option (T_model_checker × Bool) :=
  F132_L1 fuel d0 fuel 0 0 0
theorem F132_ok {fuel : Nat} {d0 : T_api_Model} {r : T_model_checker × Bool} (hF : F132 fuel d0 = some r) :
    CallF Tryz.prog 132 [.agg [.d (.sl 1 (d0.Owner.map e_i64)), .d (.sl 1 (d0.Choices.map e_lT_api_Choice))]] (.tup [.d (.pt [.sl 1 (r.1.Model.Owner.map e_i64), .sl 1 (r.1.Model.Choices.map e_lT_api_Choice), .int .i64 r.1.p, .int .i64 r.1.gains]), .d (.bool r.2)]) := by
  unfold F132 at hF
  refine callF_of (N := 22) (b := bodyOf Tryz.f132) Tryz.func132 (by kernel_rfl) rfl rfl ?_
  have hF132_L1 : ∀ (n_F132_L1 : Nat) (v4 : Int) (v5 : Int) (v6 : Int), F132_L1 fuel d0 n_F132_L1 v4 v5 v6 = some r → J none Tryz.prog 22 [] (finF Tryz.prog Tryz.f132 (.tup [.d (.pt [.sl 1 (r.1.Model.Owner.map e_i64), .sl 1 (r.1.Model.Choices.map e_lT_api_Choice), .int .i64 r.1.p, .int .i64 r.1.gains]), .d (.bool r.2)])) ⟨mkT [(4, .ptr 10 0), (5, .d (.bool true)), (11, .agg [.d (.fnc 173), .d (.fnc 174), .d (.fnc 175), .d (.fnc 176), .d (.fnc 177)]), (12, .d (.int .i64 v4))], [(10, .box 238 [.d (.sl 1 (d0.Owner.map e_i64)), .d (.sl 1 (d0.Choices.map e_lT_api_Choice)), .d (.int .i64 v5), .d (.int .i64 v6)])], [.inLoop (cAt (bodyOf Tryz.f132) [1, 0, 1, 1, 1, 0, 1, 0, 0]), .inBlock 0, .code (cAt (bodyOf Tryz.f132) [1, 0, 1, 1, 1, 1]), .inScope]⟩ := by
    clear hF; intro n_F132_L1
    induction n_F132_L1 with
    | zero => intro v4 v5 v6 hF; cases hF
    | succ n_F132_L1 ih_F132_L1 =>
      intro v4 v5 v6 hF
      rw [F132_L1] at hF
      refine J_adv 6 (J_bool 13 (b := decide (v4 < 5)) (by kernel_rfl) (fun hb22 => ?_) (fun hb22 => ?_))
      · replace hF := ift hb22 hF
        rcases Bool.eq_false_or_eq_true (decide (v4 = 0)) with hb23 | hb23
        · replace hF := ift hb23 hF
          refine J_adv 6 (J_opt1 (o := geti (chunks 1 5 ([.fnc 173, .fnc 174, .fnc 175, .fnc 176, .fnc 177] : List Dat)) v4) ([.fnc 173] : List Dat) (by kernel_rfl) (by rw [of_decide_eq_true hb23]; rfl) ?_)
          obtain ⟨y11, e11, hF⟩ := bnd hF
          refine J_adv 6 (J_callR (os := [(2000, .box 238 [.d (.sl 1 (d0.Owner.map e_i64)), .d (.sl 1 (d0.Choices.map e_lT_api_Choice)), .d (.int .i64 v5), .d (.int .i64 v6)])]) (xs := [.ptr 2000 0]) [(10, 2000)] [.ptr 2000 0] [(2000, .box 238 [.d (.sl 1 (d0.Owner.map e_i64)), .d (.sl 1 (d0.Choices.map e_lT_api_Choice)), .d (.int .i64 v5), .d (.int .i64 v6)])] (.d (.bool y11)) (by kernel_rfl) (by kernel_rfl) en173 (Res'.refl _) (F173a_ok e11) ?_)
          refine J_adv 2 (J_bool 18 (b := !y11) (by kernel_rfl) (fun hb24 => ?_) (fun hb24 => ?_))
          · replace hF := ift hb24 hF
            have hr_ := Option.some.inj hF; subst hr_
            exact J_adv 13 (J_ret (xs := [.rp [.sl 1 (d0.Owner.map e_i64), .sl 1 (d0.Choices.map e_lT_api_Choice), .int .i64 v5, .int .i64 v6] 0, .d (.bool false)]) [.d (.pt [.sl 1 ((((⟨d0, v5, v6⟩ : T_model_checker).Model).Owner).map e_i64), .sl 1 ((((⟨d0, v5, v6⟩ : T_model_checker).Model).Choices).map e_lT_api_Choice), .int .i64 ((⟨d0, v5, v6⟩ : T_model_checker).p), .int .i64 ((⟨d0, v5, v6⟩ : T_model_checker).gains)]), .d (.bool false)] rfl rfl (by kernel_rfl) ⟨Re.pt _, ⟨Re.refl _, trivial⟩⟩ rfl)
          · replace hF := iff' hb24 hF
            exact J_adv 7 (J_at [4, 5, 11, 12] [10] (T0 := [.inLoop (cAt (bodyOf Tryz.f132) [1, 0, 1, 1, 1, 0, 1, 0, 0]), .inBlock 0, .code (cAt (bodyOf Tryz.f132) [1, 0, 1, 1, 1, 1]), .inScope]) (by kernel_rfl) rfl (ih_F132_L1 (IntKind.i64.wrap (v4 + 1)) v5 v6 hF))
        · replace hF := iff' hb23 hF
          rcases Bool.eq_false_or_eq_true (decide (v4 = 1)) with hb25 | hb25
          · replace hF := ift hb25 hF
            refine J_adv 6 (J_opt1 (o := geti (chunks 1 5 ([.fnc 173, .fnc 174, .fnc 175, .fnc 176, .fnc 177] : List Dat)) v4) ([.fnc 174] : List Dat) (by kernel_rfl) (by rw [of_decide_eq_true hb25]; rfl) ?_)
            obtain ⟨y12, e12, hF⟩ := bnd hF
            refine J_adv 6 (J_callR (os := [(2000, .box 238 [.d (.sl 1 (d0.Owner.map e_i64)), .d (.sl 1 (d0.Choices.map e_lT_api_Choice)), .d (.int .i64 v5), .d (.int .i64 v6)])]) (xs := [.ptr 2000 0]) [(10, 2000)] [.ptr 2000 0] [(2000, .box 238 [.d (.sl 1 (d0.Owner.map e_i64)), .d (.sl 1 (d0.Choices.map e_lT_api_Choice)), .d (.int .i64 v5), .d (.int .i64 v6)])] (.d (.bool y12)) (by kernel_rfl) (by kernel_rfl) en174 (Res'.refl _) (F174a_ok e12) ?_)
            refine J_adv 2 (J_bool 18 (b := !y12) (by kernel_rfl) (fun hb26 => ?_) (fun hb26 => ?_))
            · replace hF := ift hb26 hF
              have hr_ := Option.some.inj hF; subst hr_
              exact J_adv 13 (J_ret (xs := [.rp [.sl 1 (d0.Owner.map e_i64), .sl 1 (d0.Choices.map e_lT_api_Choice), .int .i64 v5, .int .i64 v6] 0, .d (.bool false)]) [.d (.pt [.sl 1 ((((⟨d0, v5, v6⟩ : T_model_checker).Model).Owner).map e_i64), .sl 1 ((((⟨d0, v5, v6⟩ : T_model_checker).Model).Choices).map e_lT_api_Choice), .int .i64 ((⟨d0, v5, v6⟩ : T_model_checker).p), .int .i64 ((⟨d0, v5, v6⟩ : T_model_checker).gains)]), .d (.bool false)] rfl rfl (by kernel_rfl) ⟨Re.pt _, ⟨Re.refl _, trivial⟩⟩ rfl)
            · replace hF := iff' hb26 hF
              exact J_adv 7 (J_at [4, 5, 11, 12] [10] (T0 := [.inLoop (cAt (bodyOf Tryz.f132) [1, 0, 1, 1, 1, 0, 1, 0, 0]), .inBlock 0, .code (cAt (bodyOf Tryz.f132) [1, 0, 1, 1, 1, 1]), .inScope]) (by kernel_rfl) rfl (ih_F132_L1 (IntKind.i64.wrap (v4 + 1)) v5 v6 hF))
          · replace hF := iff' hb25 hF
            rcases Bool.eq_false_or_eq_true (decide (v4 = 2)) with hb27 | hb27
            · replace hF := ift hb27 hF
              refine J_adv 6 (J_opt1 (o := geti (chunks 1 5 ([.fnc 173, .fnc 174, .fnc 175, .fnc 176, .fnc 177] : List Dat)) v4) ([.fnc 175] : List Dat) (by kernel_rfl) (by rw [of_decide_eq_true hb27]; rfl) ?_)
              obtain ⟨y13, e13, hF⟩ := bnd hF
              refine J_adv 6 (J_callR (os := [(2000, .box 238 [.d (.sl 1 (d0.Owner.map e_i64)), .d (.sl 1 (d0.Choices.map e_lT_api_Choice)), .d (.int .i64 v5), .d (.int .i64 v6)])]) (xs := [.ptr 2000 0]) [(10, 2000)] [.ptr 2000 0] [(2000, .box 238 [.d (.sl 1 (d0.Owner.map e_i64)), .d (.sl 1 (d0.Choices.map e_lT_api_Choice)), .d (.int .i64 v5), .d (.int .i64 v6)])] (.d (.bool y13)) (by kernel_rfl) (by kernel_rfl) en175 (Res'.refl _) (F175a_ok e13) ?_)
              refine J_adv 2 (J_bool 18 (b := !y13) (by kernel_rfl) (fun hb28 => ?_) (fun hb28 => ?_))
              · replace hF := ift hb28 hF
                have hr_ := Option.some.inj hF; subst hr_
                exact J_adv 13 (J_ret (xs := [.rp [.sl 1 (d0.Owner.map e_i64), .sl 1 (d0.Choices.map e_lT_api_Choice), .int .i64 v5, .int .i64 v6] 0, .d (.bool false)]) [.d (.pt [.sl 1 ((((⟨d0, v5, v6⟩ : T_model_checker).Model).Owner).map e_i64), .sl 1 ((((⟨d0, v5, v6⟩ : T_model_checker).Model).Choices).map e_lT_api_Choice), .int .i64 ((⟨d0, v5, v6⟩ : T_model_checker).p), .int .i64 ((⟨d0, v5, v6⟩ : T_model_checker).gains)]), .d (.bool false)] rfl rfl (by kernel_rfl) ⟨Re.pt _, ⟨Re.refl _, trivial⟩⟩ rfl)
              · replace hF := iff' hb28 hF
                exact J_adv 7 (J_at [4, 5, 11, 12] [10] (T0 := [.inLoop (cAt (bodyOf Tryz.f132) [1, 0, 1, 1, 1, 0, 1, 0, 0]), .inBlock 0, .code (cAt (bodyOf Tryz.f132) [1, 0, 1, 1, 1, 1]), .inScope]) (by kernel_rfl) rfl (ih_F132_L1 (IntKind.i64.wrap (v4 + 1)) v5 v6 hF))
            · replace hF := iff' hb27 hF
              rcases Bool.eq_false_or_eq_true (decide (v4 = 3)) with hb29 | hb29
              · replace hF := ift hb29 hF
                refine J_adv 6 (J_opt1 (o := geti (chunks 1 5 ([.fnc 173, .fnc 174, .fnc 175, .fnc 176, .fnc 177] : List Dat)) v4) ([.fnc 176] : List Dat) (by kernel_rfl) (by rw [of_decide_eq_true hb29]; rfl) ?_)
                obtain ⟨y14, e14, hF⟩ := bnd hF
                refine J_adv 6 (J_callR (os := [(2000, .box 238 [.d (.sl 1 (d0.Owner.map e_i64)), .d (.sl 1 (d0.Choices.map e_lT_api_Choice)), .d (.int .i64 v5), .d (.int .i64 v6)])]) (xs := [.ptr 2000 0]) [(10, 2000)] [.ptr 2000 0] [(2000, .box 238 [.d (.sl 1 (d0.Owner.map e_i64)), .d (.sl 1 (d0.Choices.map e_lT_api_Choice)), .d (.int .i64 v5), .d (.int .i64 y14.2)])] (.d (.bool y14.1)) (by kernel_rfl) (by kernel_rfl) en176 (Res'.refl _) (F176a_ok e14) ?_)
                refine J_adv 2 (J_bool 18 (b := !y14.1) (by kernel_rfl) (fun hb30 => ?_) (fun hb30 => ?_))
                · replace hF := ift hb30 hF
                  have hr_ := Option.some.inj hF; subst hr_
                  exact J_adv 13 (J_ret (xs := [.rp [.sl 1 (d0.Owner.map e_i64), .sl 1 (d0.Choices.map e_lT_api_Choice), .int .i64 v5, .int .i64 y14.2] 0, .d (.bool false)]) [.d (.pt [.sl 1 ((((⟨d0, v5, y14.2⟩ : T_model_checker).Model).Owner).map e_i64), .sl 1 ((((⟨d0, v5, y14.2⟩ : T_model_checker).Model).Choices).map e_lT_api_Choice), .int .i64 ((⟨d0, v5, y14.2⟩ : T_model_checker).p), .int .i64 ((⟨d0, v5, y14.2⟩ : T_model_checker).gains)]), .d (.bool false)] rfl rfl (by kernel_rfl) ⟨Re.pt _, ⟨Re.refl _, trivial⟩⟩ rfl)
                · replace hF := iff' hb30 hF
                  exact J_adv 7 (J_at [4, 5, 11, 12] [10] (T0 := [.inLoop (cAt (bodyOf Tryz.f132) [1, 0, 1, 1, 1, 0, 1, 0, 0]), .inBlock 0, .code (cAt (bodyOf Tryz.f132) [1, 0, 1, 1, 1, 1]), .inScope]) (by kernel_rfl) rfl (ih_F132_L1 (IntKind.i64.wrap (v4 + 1)) v5 y14.2 hF))
              · replace hF := iff' hb29 hF
                rcases Bool.eq_false_or_eq_true (decide (v4 = 4)) with hb31 | hb31
                · replace hF := ift hb31 hF
                  refine J_adv 6 (J_opt1 (o := geti (chunks 1 5 ([.fnc 173, .fnc 174, .fnc 175, .fnc 176, .fnc 177] : List Dat)) v4) ([.fnc 177] : List Dat) (by kernel_rfl) (by rw [of_decide_eq_true hb31]; rfl) ?_)
                  obtain ⟨y15, e15, hF⟩ := bnd hF
                  refine J_adv 6 (J_callR (os := [(2000, .box 238 [.d (.sl 1 (d0.Owner.map e_i64)), .d (.sl 1 (d0.Choices.map e_lT_api_Choice)), .d (.int .i64 v5), .d (.int .i64 v6)])]) (xs := [.ptr 2000 0]) [(10, 2000)] [.ptr 2000 0] [(2000, .box 238 [.d (.sl 1 (d0.Owner.map e_i64)), .d (.sl 1 (d0.Choices.map e_lT_api_Choice)), .d (.int .i64 y15.2), .d (.int .i64 v6)])] (.d (.bool y15.1)) (by kernel_rfl) (by kernel_rfl) en177 (Res'.refl _) (F177a_ok e15) ?_)
                  refine J_adv 2 (J_bool 18 (b := !y15.1) (by kernel_rfl) (fun hb32 => ?_) (fun hb32 => ?_))
                  · replace hF := ift hb32 hF
                    have hr_ := Option.some.inj hF; subst hr_
                    exact J_adv 13 (J_ret (xs := [.rp [.sl 1 (d0.Owner.map e_i64), .sl 1 (d0.Choices.map e_lT_api_Choice), .int .i64 y15.2, .int .i64 v6] 0, .d (.bool false)]) [.d (.pt [.sl 1 ((((⟨d0, y15.2, v6⟩ : T_model_checker).Model).Owner).map e_i64), .sl 1 ((((⟨d0, y15.2, v6⟩ : T_model_checker).Model).Choices).map e_lT_api_Choice), .int .i64 ((⟨d0, y15.2, v6⟩ : T_model_checker).p), .int .i64 ((⟨d0, y15.2, v6⟩ : T_model_checker).gains)]), .d (.bool false)] rfl rfl (by kernel_rfl) ⟨Re.pt _, ⟨Re.refl _, trivial⟩⟩ rfl)
                  · replace hF := iff' hb32 hF
                    exact J_adv 7 (J_at [4, 5, 11, 12] [10] (T0 := [.inLoop (cAt (bodyOf Tryz.f132) [1, 0, 1, 1, 1, 0, 1, 0, 0]), .inBlock 0, .code (cAt (bodyOf Tryz.f132) [1, 0, 1, 1, 1, 1]), .inScope]) (by kernel_rfl) rfl (ih_F132_L1 (IntKind.i64.wrap (v4 + 1)) y15.2 v6 hF))
                · replace hF := iff' hb31 hF
                  cases hF
      · replace hF := iff' hb22 hF
        have hr_ := Option.some.inj hF; subst hr_
        exact J_adv 9 (J_ret (xs := [.rp [.sl 1 (d0.Owner.map e_i64), .sl 1 (d0.Choices.map e_lT_api_Choice), .int .i64 v5, .int .i64 v6] 0, .d (.bool true)]) [.d (.pt [.sl 1 ((((⟨d0, v5, v6⟩ : T_model_checker).Model).Owner).map e_i64), .sl 1 ((((⟨d0, v5, v6⟩ : T_model_checker).Model).Choices).map e_lT_api_Choice), .int .i64 ((⟨d0, v5, v6⟩ : T_model_checker).p), .int .i64 ((⟨d0, v5, v6⟩ : T_model_checker).gains)]), .d (.bool true)] rfl rfl (by kernel_rfl) ⟨Re.pt _, ⟨Re.refl _, trivial⟩⟩ rfl)
  exact J_adv 28 (J_at [4, 5, 11, 12] [10] (T0 := [.inLoop (cAt (bodyOf Tryz.f132) [1, 0, 1, 1, 1, 0, 1, 0, 0]), .inBlock 0, .code (cAt (bodyOf Tryz.f132) [1, 0, 1, 1, 1, 1]), .inScope]) (by kernel_rfl) rfl (hF132_L1 fuel 0 0 0 hF))
/- croupier/model.Check -/
def F93 (fuel : Nat) (d0 : T_api_Model) : Option Int :=
  Option.bind (F132 fuel d0) fun y1 =>
  bif !y1.2 then
    (some 110)
  else
    (some 0)
theorem F93_ok {fuel : Nat} {d0 : T_api_Model} {r : Int} (hF : F93 fuel d0 = some r) :
    CallF Tryz.prog 93 [.agg [.d (.sl 1 (d0.Owner.map e_i64)), .d (.sl 1 (d0.Choices.map e_lT_api_Choice))]] (.d (.int .i64 r)) := by
  unfold F93 at hF
  refine callF_of (N := 12) (b := bodyOf Tryz.f93) Tryz.func93 (by kernel_rfl) rfl rfl ?_
  obtain ⟨y1, e1, hF⟩ := bnd hF
  refine J_adv 9 (J_callF (xs := [.agg [.d (.sl 1 (d0.Owner.map e_i64)), .d (.sl 1 (d0.Choices.map e_lT_api_Choice))]]) [.agg [.d (.sl 1 (d0.Owner.map e_i64)), .d (.sl 1 (d0.Choices.map e_lT_api_Choice))]] (.tup [.d (.pt [.sl 1 (y1.1.Model.Owner.map e_i64), .sl 1 (y1.1.Model.Choices.map e_lT_api_Choice), .int .i64 y1.1.p, .int .i64 y1.1.gains]), .d (.bool y1.2)]) (by kernel_rfl) en132 (Res'.refl _) (F132_ok e1) ?_)
  refine J_adv 11 (J_bool 11 (b := !y1.2) (by kernel_rfl) (fun hb1 => ?_) (fun hb1 => ?_))
  · replace hF := ift hb1 hF
    have hr_ := Option.some.inj hF; subst hr_
    exact J_adv 5 (J_ret (xs := [.d (.int .i64 110)]) [.d (.int .i64 110)] rfl rfl (by kernel_rfl) (Res'.refl _) rfl)
  · replace hF := iff' hb1 hF
    have hr_ := Option.some.inj hF; subst hr_
    exact J_adv 6 (J_ret (xs := [.d (.int .i64 0)]) [.d (.int .i64 0)] rfl rfl (by kernel_rfl) (Res'.refl _) rfl)
end Go.Proofs.YtfgbhfphjmmiaaaGreatDoor
end
