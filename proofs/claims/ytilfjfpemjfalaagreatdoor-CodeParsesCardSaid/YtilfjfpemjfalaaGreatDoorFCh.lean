import Derived.Test.YtilfjfpemjfalaaGreatDoorFRu
import Derived.KernelRfl
set_option linter.unusedVariables false
set_option maxRecDepth 100000
namespace Go.Proofs.YtilfjfpemjfalaaGreatDoor
open Go Go.RowKit Kx

theorem en74 : entersT Tryz.prog 74 := Kx.enters_of Tryz.func74 (by kernel_rfl) (by kernel_rfl)
theorem en42 : entersT Tryz.prog 42 := Kx.enters_of Tryz.func42 (by kernel_rfl) (by kernel_rfl)
theorem en13 : entersT Tryz.prog 13 := Kx.enters_of Tryz.func13 (by kernel_rfl) (by kernel_rfl)
theorem en19 : entersT Tryz.prog 19 := Kx.enters_of Tryz.func19 (by kernel_rfl) (by kernel_rfl)
theorem en21 : entersT Tryz.prog 21 := Kx.enters_of Tryz.func21 (by kernel_rfl) (by kernel_rfl)
theorem en23 : entersT Tryz.prog 23 := Kx.enters_of Tryz.func23 (by kernel_rfl) (by kernel_rfl)

structure A_a2T_croupierlaw31_Bend where
  a0 : T_croupierlaw31_Bend
  a1 : T_croupierlaw31_Bend
  deriving DecidableEq
/- croupier/croupierref01.Of -/
def F74 (d0 : Int) : Option (List UInt8) :=
  Option.bind (F49 d0) fun y1 =>
  some y1
theorem F74_ok {d0 : Int} {r : List UInt8} (hF : F74 d0 = some r) :
    CallF Tryz.prog 74 [.d (.int .i64 d0)] (.d (.str r)) := by
  unfold F74 at hF
  refine callF_of (N := 5) (b := bodyOf Tryz.f74) Tryz.func74 (by kernel_rfl) rfl rfl ?_
  obtain ⟨y1, e1, hF⟩ := bnd hF
  refine J_adv 7 (J_callF (xs := [.d (.int .i64 d0)]) [.d (.int .i64 d0)] (.d (.str y1)) (by kernel_rfl) en49 (Res'.refl _) (F49_ok e1) ?_)
  have hr_ := Option.some.inj hF; subst hr_
  exact J_adv 2 (J_ret (xs := [.d (.str y1)]) [.d (.str y1)] rfl rfl (by kernel_rfl) (Res'.refl _) rfl)

/- croupier/croupierref31.line -/
def F42 (d0 : T_api_Instr) : Option (List UInt8) :=
  bif d0.Op == 4 then
    (Option.bind (F74 d0.Go) fun y1 =>
    ass (decide ([103, 111, 32].length + y1.length ≤ 4611686018427387904)) <|
    ass (decide (([103, 111, 32] ++ y1).length + [10].length ≤ 4611686018427387904)) <|
    some (([103, 111, 32] ++ y1) ++ [10]))
  else
    (bif d0.Op == 5 then
      (Option.bind (F74 d0.Val) fun y2 =>
      ass (decide ([97, 99, 116, 32].length + y2.length ≤ 4611686018427387904)) <|
      ass (decide (([97, 99, 116, 32] ++ y2).length + [10].length ≤ 4611686018427387904)) <|
      some (([97, 99, 116, 32] ++ y2) ++ [10]))
    else
      (bif d0.Op == 2 then
        (ass (decide ([108, 101].length + [32].length ≤ 4611686018427387904)) <|
        Option.bind (F74 d0.Var) fun y3 =>
        ass (decide (([108, 101] ++ [32]).length + y3.length ≤ 4611686018427387904)) <|
        ass (decide ((([108, 101] ++ [32]) ++ y3).length + [32].length ≤ 4611686018427387904)) <|
        Option.bind (F74 d0.Val) fun y4 =>
        ass (decide (((([108, 101] ++ [32]) ++ y3) ++ [32]).length + y4.length ≤ 4611686018427387904)) <|
        ass (decide ((((([108, 101] ++ [32]) ++ y3) ++ [32]) ++ y4).length + [32].length ≤ 4611686018427387904)) <|
        Option.bind (F74 d0.Go) fun y5 =>
        ass (decide (((((([108, 101] ++ [32]) ++ y3) ++ [32]) ++ y4) ++ [32]).length + y5.length ≤ 4611686018427387904)) <|
        ass (decide ((((((([108, 101] ++ [32]) ++ y3) ++ [32]) ++ y4) ++ [32]) ++ y5).length + [10].length ≤ 4611686018427387904)) <|
        some ((((((([108, 101] ++ [32]) ++ y3) ++ [32]) ++ y4) ++ [32]) ++ y5) ++ [10]))
      else
        (bif d0.Op == 3 then
          (ass (decide ([103, 101].length + [32].length ≤ 4611686018427387904)) <|
          Option.bind (F74 d0.Var) fun y6 =>
          ass (decide (([103, 101] ++ [32]).length + y6.length ≤ 4611686018427387904)) <|
          ass (decide ((([103, 101] ++ [32]) ++ y6).length + [32].length ≤ 4611686018427387904)) <|
          Option.bind (F74 d0.Val) fun y7 =>
          ass (decide (((([103, 101] ++ [32]) ++ y6) ++ [32]).length + y7.length ≤ 4611686018427387904)) <|
          ass (decide ((((([103, 101] ++ [32]) ++ y6) ++ [32]) ++ y7).length + [32].length ≤ 4611686018427387904)) <|
          Option.bind (F74 d0.Go) fun y8 =>
          ass (decide (((((([103, 101] ++ [32]) ++ y6) ++ [32]) ++ y7) ++ [32]).length + y8.length ≤ 4611686018427387904)) <|
          ass (decide ((((((([103, 101] ++ [32]) ++ y6) ++ [32]) ++ y7) ++ [32]) ++ y8).length + [10].length ≤ 4611686018427387904)) <|
          some ((((((([103, 101] ++ [32]) ++ y6) ++ [32]) ++ y7) ++ [32]) ++ y8) ++ [10]))
        else
          (ass (decide ([101, 113].length + [32].length ≤ 4611686018427387904)) <|
          Option.bind (F74 d0.Var) fun y9 =>
          ass (decide (([101, 113] ++ [32]).length + y9.length ≤ 4611686018427387904)) <|
          ass (decide ((([101, 113] ++ [32]) ++ y9).length + [32].length ≤ 4611686018427387904)) <|
          Option.bind (F74 d0.Val) fun y10 =>
          ass (decide (((([101, 113] ++ [32]) ++ y9) ++ [32]).length + y10.length ≤ 4611686018427387904)) <|
          ass (decide ((((([101, 113] ++ [32]) ++ y9) ++ [32]) ++ y10).length + [32].length ≤ 4611686018427387904)) <|
          Option.bind (F74 d0.Go) fun y11 =>
          ass (decide (((((([101, 113] ++ [32]) ++ y9) ++ [32]) ++ y10) ++ [32]).length + y11.length ≤ 4611686018427387904)) <|
          ass (decide ((((((([101, 113] ++ [32]) ++ y9) ++ [32]) ++ y10) ++ [32]) ++ y11).length + [10].length ≤ 4611686018427387904)) <|
          some ((((((([101, 113] ++ [32]) ++ y9) ++ [32]) ++ y10) ++ [32]) ++ y11) ++ [10])))))
theorem F42_ok {d0 : T_api_Instr} {r : List UInt8} (hF : F42 d0 = some r) :
    CallF Tryz.prog 42 [.agg [.d (.int .i64 d0.Op), .d (.int .i64 d0.Var), .d (.int .i64 d0.Val), .d (.int .i64 d0.Go)]] (.d (.str r)) := by
  unfold F42 at hF
  refine callF_of (N := 43) (b := bodyOf Tryz.f42) Tryz.func42 (by kernel_rfl) rfl rfl ?_
  refine J_adv 17 (J_bool 6 (b := d0.Op == 4) (by kernel_rfl) (fun hb1 => ?_) (fun hb1 => ?_))
  · replace hF := ift hb1 hF
    obtain ⟨y1, e1, hF⟩ := bnd hF
    refine J_adv 5 (J_callF (xs := [.d (.int .i64 d0.Go)]) [.d (.int .i64 d0.Go)] (.d (.str y1)) (by kernel_rfl) en74 (Res'.refl _) (F74_ok e1) ?_)
    obtain ⟨hb2, hF⟩ := assd hF
    refine J_adv 0 (J_opt1 (o := chk (decide ([103, 111, 32].length + y1.length ≤ 4611686018427387904))) [] (by kernel_rfl) (ck hb2) ?_)
    obtain ⟨hb3, hF⟩ := assd hF
    refine J_adv 0 (J_opt1 (o := chk (decide (([103, 111, 32] ++ y1).length + [10].length ≤ 4611686018427387904))) [] (by kernel_rfl) (ck hb3) ?_)
    have hr_ := Option.some.inj hF; subst hr_
    exact J_adv 2 (J_ret (xs := [.d (.str (([103, 111, 32] ++ y1) ++ [10]))]) [.d (.str (([103, 111, 32] ++ y1) ++ [10]))] rfl rfl (by kernel_rfl) (Res'.refl _) rfl)
  · replace hF := iff' hb1 hF
    refine J_adv 6 (J_bool 13 (b := d0.Op == 5) (by kernel_rfl) (fun hb4 => ?_) (fun hb4 => ?_))
    · replace hF := ift hb4 hF
      obtain ⟨y2, e2, hF⟩ := bnd hF
      refine J_adv 5 (J_callF (xs := [.d (.int .i64 d0.Val)]) [.d (.int .i64 d0.Val)] (.d (.str y2)) (by kernel_rfl) en74 (Res'.refl _) (F74_ok e2) ?_)
      obtain ⟨hb5, hF⟩ := assd hF
      refine J_adv 0 (J_opt1 (o := chk (decide ([97, 99, 116, 32].length + y2.length ≤ 4611686018427387904))) [] (by kernel_rfl) (ck hb5) ?_)
      obtain ⟨hb6, hF⟩ := assd hF
      refine J_adv 0 (J_opt1 (o := chk (decide (([97, 99, 116, 32] ++ y2).length + [10].length ≤ 4611686018427387904))) [] (by kernel_rfl) (ck hb6) ?_)
      have hr_ := Option.some.inj hF; subst hr_
      exact J_adv 2 (J_ret (xs := [.d (.str (([97, 99, 116, 32] ++ y2) ++ [10]))]) [.d (.str (([97, 99, 116, 32] ++ y2) ++ [10]))] rfl rfl (by kernel_rfl) (Res'.refl _) rfl)
    · replace hF := iff' hb4 hF
      refine J_adv 14 (J_bool 22 (b := d0.Op == 2) (by kernel_rfl) (fun hb7 => ?_) (fun hb7 => ?_))
      · replace hF := ift hb7 hF
        refine J_adv 5 (J_draw (by kernel_rfl) (by kernel_rfl) ?_)
        obtain ⟨hb8, hF⟩ := assd hF
        refine JD_adv 1 (JD_opt1 (o := chk (decide ([108, 101].length + [32].length ≤ 4611686018427387904))) [] (by kernel_rfl) (by kernel_rfl) (ck hb8) ?_)
        obtain ⟨y3, e3, hF⟩ := bnd hF
        refine JD_adv 2 (JD_callF (xs := [.d (.int .i64 d0.Var)]) [.d (.int .i64 d0.Var)] (.d (.str y3)) (by kernel_rfl) (by kernel_rfl) en74 (Res'.refl _) (F74_ok e3) ?_)
        obtain ⟨hb9, hF⟩ := assd hF
        refine JD_adv 0 (JD_opt1 (o := chk (decide (([108, 101] ++ [32]).length + y3.length ≤ 4611686018427387904))) [] (by kernel_rfl) (by kernel_rfl) (ck hb9) ?_)
        obtain ⟨hb10, hF⟩ := assd hF
        refine JD_adv 0 (JD_opt1 (o := chk (decide ((([108, 101] ++ [32]) ++ y3).length + [32].length ≤ 4611686018427387904))) [] (by kernel_rfl) (by kernel_rfl) (ck hb10) ?_)
        obtain ⟨y4, e4, hF⟩ := bnd hF
        refine JD_adv 2 (JD_callF (xs := [.d (.int .i64 d0.Val)]) [.d (.int .i64 d0.Val)] (.d (.str y4)) (by kernel_rfl) (by kernel_rfl) en74 (Res'.refl _) (F74_ok e4) ?_)
        obtain ⟨hb11, hF⟩ := assd hF
        refine JD_adv 0 (JD_opt1 (o := chk (decide (((([108, 101] ++ [32]) ++ y3) ++ [32]).length + y4.length ≤ 4611686018427387904))) [] (by kernel_rfl) (by kernel_rfl) (ck hb11) ?_)
        obtain ⟨hb12, hF⟩ := assd hF
        refine JD_adv 0 (JD_opt1 (o := chk (decide ((((([108, 101] ++ [32]) ++ y3) ++ [32]) ++ y4).length + [32].length ≤ 4611686018427387904))) [] (by kernel_rfl) (by kernel_rfl) (ck hb12) ?_)
        obtain ⟨y5, e5, hF⟩ := bnd hF
        refine JD_adv 2 (JD_callF (xs := [.d (.int .i64 d0.Go)]) [.d (.int .i64 d0.Go)] (.d (.str y5)) (by kernel_rfl) (by kernel_rfl) en74 (Res'.refl _) (F74_ok e5) ?_)
        obtain ⟨hb13, hF⟩ := assd hF
        refine JD_adv 0 (JD_opt1 (o := chk (decide (((((([108, 101] ++ [32]) ++ y3) ++ [32]) ++ y4) ++ [32]).length + y5.length ≤ 4611686018427387904))) [] (by kernel_rfl) (by kernel_rfl) (ck hb13) ?_)
        obtain ⟨hb14, hF⟩ := assd hF
        refine JD_adv 0 (JD_opt1 (o := chk (decide ((((((([108, 101] ++ [32]) ++ y3) ++ [32]) ++ y4) ++ [32]) ++ y5).length + [10].length ≤ 4611686018427387904))) [] (by kernel_rfl) (by kernel_rfl) (ck hb14) ?_)
        refine JD_adv 1 (JD_end (by kernel_rfl) ?_)
        have hr_ := Option.some.inj hF; subst hr_
        exact J_adv 0 (J_ret (xs := [.d (.str ((((((([108, 101] ++ [32]) ++ y3) ++ [32]) ++ y4) ++ [32]) ++ y5) ++ [10]))]) [.d (.str ((((((([108, 101] ++ [32]) ++ y3) ++ [32]) ++ y4) ++ [32]) ++ y5) ++ [10]))] rfl rfl (by kernel_rfl) (Res'.refl _) rfl)
      · replace hF := iff' hb7 hF
        refine J_adv 7 (J_bool 25 (b := d0.Op == 3) (by kernel_rfl) (fun hb15 => ?_) (fun hb15 => ?_))
        · replace hF := ift hb15 hF
          refine J_adv 5 (J_draw (by kernel_rfl) (by kernel_rfl) ?_)
          obtain ⟨hb16, hF⟩ := assd hF
          refine JD_adv 1 (JD_opt1 (o := chk (decide ([103, 101].length + [32].length ≤ 4611686018427387904))) [] (by kernel_rfl) (by kernel_rfl) (ck hb16) ?_)
          obtain ⟨y6, e6, hF⟩ := bnd hF
          refine JD_adv 2 (JD_callF (xs := [.d (.int .i64 d0.Var)]) [.d (.int .i64 d0.Var)] (.d (.str y6)) (by kernel_rfl) (by kernel_rfl) en74 (Res'.refl _) (F74_ok e6) ?_)
          obtain ⟨hb17, hF⟩ := assd hF
          refine JD_adv 0 (JD_opt1 (o := chk (decide (([103, 101] ++ [32]).length + y6.length ≤ 4611686018427387904))) [] (by kernel_rfl) (by kernel_rfl) (ck hb17) ?_)
          obtain ⟨hb18, hF⟩ := assd hF
          refine JD_adv 0 (JD_opt1 (o := chk (decide ((([103, 101] ++ [32]) ++ y6).length + [32].length ≤ 4611686018427387904))) [] (by kernel_rfl) (by kernel_rfl) (ck hb18) ?_)
          obtain ⟨y7, e7, hF⟩ := bnd hF
          refine JD_adv 2 (JD_callF (xs := [.d (.int .i64 d0.Val)]) [.d (.int .i64 d0.Val)] (.d (.str y7)) (by kernel_rfl) (by kernel_rfl) en74 (Res'.refl _) (F74_ok e7) ?_)
          obtain ⟨hb19, hF⟩ := assd hF
          refine JD_adv 0 (JD_opt1 (o := chk (decide (((([103, 101] ++ [32]) ++ y6) ++ [32]).length + y7.length ≤ 4611686018427387904))) [] (by kernel_rfl) (by kernel_rfl) (ck hb19) ?_)
          obtain ⟨hb20, hF⟩ := assd hF
          refine JD_adv 0 (JD_opt1 (o := chk (decide ((((([103, 101] ++ [32]) ++ y6) ++ [32]) ++ y7).length + [32].length ≤ 4611686018427387904))) [] (by kernel_rfl) (by kernel_rfl) (ck hb20) ?_)
          obtain ⟨y8, e8, hF⟩ := bnd hF
          refine JD_adv 2 (JD_callF (xs := [.d (.int .i64 d0.Go)]) [.d (.int .i64 d0.Go)] (.d (.str y8)) (by kernel_rfl) (by kernel_rfl) en74 (Res'.refl _) (F74_ok e8) ?_)
          obtain ⟨hb21, hF⟩ := assd hF
          refine JD_adv 0 (JD_opt1 (o := chk (decide (((((([103, 101] ++ [32]) ++ y6) ++ [32]) ++ y7) ++ [32]).length + y8.length ≤ 4611686018427387904))) [] (by kernel_rfl) (by kernel_rfl) (ck hb21) ?_)
          obtain ⟨hb22, hF⟩ := assd hF
          refine JD_adv 0 (JD_opt1 (o := chk (decide ((((((([103, 101] ++ [32]) ++ y6) ++ [32]) ++ y7) ++ [32]) ++ y8).length + [10].length ≤ 4611686018427387904))) [] (by kernel_rfl) (by kernel_rfl) (ck hb22) ?_)
          refine JD_adv 1 (JD_end (by kernel_rfl) ?_)
          have hr_ := Option.some.inj hF; subst hr_
          exact J_adv 0 (J_ret (xs := [.d (.str ((((((([103, 101] ++ [32]) ++ y6) ++ [32]) ++ y7) ++ [32]) ++ y8) ++ [10]))]) [.d (.str ((((((([103, 101] ++ [32]) ++ y6) ++ [32]) ++ y7) ++ [32]) ++ y8) ++ [10]))] rfl rfl (by kernel_rfl) (Res'.refl _) rfl)
        · replace hF := iff' hb15 hF
          refine J_adv 3 (J_draw (by kernel_rfl) (by kernel_rfl) ?_)
          obtain ⟨hb23, hF⟩ := assd hF
          refine JD_adv 1 (JD_opt1 (o := chk (decide ([101, 113].length + [32].length ≤ 4611686018427387904))) [] (by kernel_rfl) (by kernel_rfl) (ck hb23) ?_)
          obtain ⟨y9, e9, hF⟩ := bnd hF
          refine JD_adv 2 (JD_callF (xs := [.d (.int .i64 d0.Var)]) [.d (.int .i64 d0.Var)] (.d (.str y9)) (by kernel_rfl) (by kernel_rfl) en74 (Res'.refl _) (F74_ok e9) ?_)
          obtain ⟨hb24, hF⟩ := assd hF
          refine JD_adv 0 (JD_opt1 (o := chk (decide (([101, 113] ++ [32]).length + y9.length ≤ 4611686018427387904))) [] (by kernel_rfl) (by kernel_rfl) (ck hb24) ?_)
          obtain ⟨hb25, hF⟩ := assd hF
          refine JD_adv 0 (JD_opt1 (o := chk (decide ((([101, 113] ++ [32]) ++ y9).length + [32].length ≤ 4611686018427387904))) [] (by kernel_rfl) (by kernel_rfl) (ck hb25) ?_)
          obtain ⟨y10, e10, hF⟩ := bnd hF
          refine JD_adv 2 (JD_callF (xs := [.d (.int .i64 d0.Val)]) [.d (.int .i64 d0.Val)] (.d (.str y10)) (by kernel_rfl) (by kernel_rfl) en74 (Res'.refl _) (F74_ok e10) ?_)
          obtain ⟨hb26, hF⟩ := assd hF
          refine JD_adv 0 (JD_opt1 (o := chk (decide (((([101, 113] ++ [32]) ++ y9) ++ [32]).length + y10.length ≤ 4611686018427387904))) [] (by kernel_rfl) (by kernel_rfl) (ck hb26) ?_)
          obtain ⟨hb27, hF⟩ := assd hF
          refine JD_adv 0 (JD_opt1 (o := chk (decide ((((([101, 113] ++ [32]) ++ y9) ++ [32]) ++ y10).length + [32].length ≤ 4611686018427387904))) [] (by kernel_rfl) (by kernel_rfl) (ck hb27) ?_)
          obtain ⟨y11, e11, hF⟩ := bnd hF
          refine JD_adv 2 (JD_callF (xs := [.d (.int .i64 d0.Go)]) [.d (.int .i64 d0.Go)] (.d (.str y11)) (by kernel_rfl) (by kernel_rfl) en74 (Res'.refl _) (F74_ok e11) ?_)
          obtain ⟨hb28, hF⟩ := assd hF
          refine JD_adv 0 (JD_opt1 (o := chk (decide (((((([101, 113] ++ [32]) ++ y9) ++ [32]) ++ y10) ++ [32]).length + y11.length ≤ 4611686018427387904))) [] (by kernel_rfl) (by kernel_rfl) (ck hb28) ?_)
          obtain ⟨hb29, hF⟩ := assd hF
          refine JD_adv 0 (JD_opt1 (o := chk (decide ((((((([101, 113] ++ [32]) ++ y9) ++ [32]) ++ y10) ++ [32]) ++ y11).length + [10].length ≤ 4611686018427387904))) [] (by kernel_rfl) (by kernel_rfl) (ck hb29) ?_)
          refine JD_adv 1 (JD_end (by kernel_rfl) ?_)
          have hr_ := Option.some.inj hF; subst hr_
          exact J_adv 0 (J_ret (xs := [.d (.str ((((((([101, 113] ++ [32]) ++ y9) ++ [32]) ++ y10) ++ [32]) ++ y11) ++ [10]))]) [.d (.str ((((((([101, 113] ++ [32]) ++ y9) ++ [32]) ++ y10) ++ [32]) ++ y11) ++ [10]))] rfl rfl (by kernel_rfl) (Res'.refl _) rfl)

/- croupier/croupierref31.Text -/
def F13_L1 (d0 : List T_api_Instr) : Nat → (List UInt8) → Int → Option (List UInt8)
  | 0, _, _ => none
  | n_F13_L1 + 1, x2, v2 =>
    bif decide (v2 < ((d0.map e_T_api_Instr).length : Int)) then
      (Option.bind (geti d0 v2) fun y5 =>
      Option.bind (F42 y5) fun y6 =>
      ass (decide (x2.length + y6.length ≤ 4611686018427387904)) <|
      (F13_L1 d0 n_F13_L1) (x2 ++ y6) (IntKind.i64.wrap (v2 + 1)))
    else
      (some x2)
def F13 (fuel : Nat) (d0 : List T_api_Instr) : Option (List UInt8) :=
  F13_L1 d0 fuel [] 0
theorem F13_ok {fuel : Nat} {d0 : List T_api_Instr} {r : List UInt8} (hF : F13 fuel d0 = some r) :
    CallF Tryz.prog 13 [.d (.sl 4 (d0.map e_T_api_Instr))] (.d (.str r)) := by
  unfold F13 at hF
  refine callF_of (N := 19) (b := bodyOf Tryz.f13) Tryz.func13 (by kernel_rfl) rfl rfl ?_
  have hF13_L1 : ∀ (n_F13_L1 : Nat) (x2 : List UInt8) (v2 : Int), F13_L1 d0 n_F13_L1 x2 v2 = some r → J none Tryz.prog 19 [] (finF Tryz.prog Tryz.f13 (.d (.str r))) ⟨mkT [(0, .d (.sl 4 (d0.map e_T_api_Instr))), (3, .d (.str x2)), (4, .d (.int .i64 v2))], [], [.inLoop (cAt (bodyOf Tryz.f13) [1, 1, 0, 1, 0, 0]), .inBlock 0, .code (cAt (bodyOf Tryz.f13) [1, 1, 1])]⟩ := by
    clear hF; intro n_F13_L1
    induction n_F13_L1 with
    | zero => intro x2 v2 hF; cases hF
    | succ n_F13_L1 ih_F13_L1 =>
      intro x2 v2 hF
      rw [F13_L1] at hF
      refine J_adv 9 (J_bool 8 (b := decide (v2 < ((d0.map e_T_api_Instr).length : Int))) (by kernel_rfl) (fun hb5 => ?_) (fun hb5 => ?_))
      · replace hF := ift hb5 hF
        obtain ⟨y5, e5, hF⟩ := bnd hF
        refine J_adv 8 (J_opt1 (o := geti (d0.map e_T_api_Instr) v2) (e_T_api_Instr y5) (by kernel_rfl) (gm e5) ?_)
        obtain ⟨y6, e6, hF⟩ := bnd hF
        refine J_adv 1 (J_callF (xs := [.agg [.d (.int .i64 y5.Op), .d (.int .i64 y5.Var), .d (.int .i64 y5.Val), .d (.int .i64 y5.Go)]]) [.agg [.d (.int .i64 y5.Op), .d (.int .i64 y5.Var), .d (.int .i64 y5.Val), .d (.int .i64 y5.Go)]] (.d (.str y6)) (by kernel_rfl) en42 (Res'.refl _) (F42_ok e6) ?_)
        obtain ⟨hb6, hF⟩ := assd hF
        refine J_adv 0 (J_opt1 (o := chk (decide (x2.length + y6.length ≤ 4611686018427387904))) [] (by kernel_rfl) (ck hb6) ?_)
        exact J_adv 8 (J_at [0, 3, 4] [] (T0 := [.inLoop (cAt (bodyOf Tryz.f13) [1, 1, 0, 1, 0, 0]), .inBlock 0, .code (cAt (bodyOf Tryz.f13) [1, 1, 1])]) (by kernel_rfl) rfl (ih_F13_L1 (x2 ++ y6) (IntKind.i64.wrap (v2 + 1)) hF))
      · replace hF := iff' hb5 hF
        have hr_ := Option.some.inj hF; subst hr_
        exact J_adv 7 (J_ret (xs := [.d (.str x2)]) [.d (.str x2)] rfl rfl (by kernel_rfl) (Res'.refl _) rfl)
  exact J_adv 15 (J_at [0, 3, 4] [] (T0 := [.inLoop (cAt (bodyOf Tryz.f13) [1, 1, 0, 1, 0, 0]), .inBlock 0, .code (cAt (bodyOf Tryz.f13) [1, 1, 1])]) (by kernel_rfl) rfl (hF13_L1 fuel [] 0 hF))

/- croupier/croupierref31.Print -/
def F19 (fuel : Nat) (d0 : List T_api_Instr) : Option (List UInt8 × Int) :=
  Option.bind (F38 fuel d0) fun y1 =>
  bif !y1 then
    (some ([], 310))
  else
    (Option.bind (F13 fuel d0) fun y2 =>
    some (y2, 0))
theorem F19_ok {fuel : Nat} {d0 : List T_api_Instr} {r : List UInt8 × Int} (hF : F19 fuel d0 = some r) :
    CallF Tryz.prog 19 [.d (.sl 4 (d0.map e_T_api_Instr))] (.tup [.d (.str r.1), .d (.int .i64 r.2)]) := by
  unfold F19 at hF
  refine callF_of (N := 9) (b := bodyOf Tryz.f19) Tryz.func19 (by kernel_rfl) rfl rfl ?_
  obtain ⟨y1, e1, hF⟩ := bnd hF
  refine J_adv 9 (J_callF (xs := [.d (.sl 4 (d0.map e_T_api_Instr))]) [.d (.sl 4 (d0.map e_T_api_Instr))] (.d (.bool y1)) (by kernel_rfl) en38 (Res'.refl _) (F38_ok e1) ?_)
  refine J_adv 2 (J_bool 6 (b := !y1) (by kernel_rfl) (fun hb1 => ?_) (fun hb1 => ?_))
  · replace hF := ift hb1 hF
    have hr_ := Option.some.inj hF; subst hr_
    exact J_adv 6 (J_ret (xs := [.d (.str []), .d (.int .i64 310)]) [.d (.str []), .d (.int .i64 310)] rfl rfl (by kernel_rfl) (Res'.refl _) rfl)
  · replace hF := iff' hb1 hF
    obtain ⟨y2, e2, hF⟩ := bnd hF
    refine J_adv 5 (J_callF (xs := [.d (.sl 4 (d0.map e_T_api_Instr))]) [.d (.sl 4 (d0.map e_T_api_Instr))] (.d (.str y2)) (by kernel_rfl) en13 (Res'.refl _) (F13_ok e2) ?_)
    have hr_ := Option.some.inj hF; subst hr_
    exact J_adv 3 (J_ret (xs := [.d (.str y2), .d (.int .i64 0)]) [.d (.str y2), .d (.int .i64 0)] rfl rfl (by kernel_rfl) (Res'.refl _) rfl)

/- croupier/croupierref31.Trim -/
def F21_A2 (v2 : Int) (rec_F21_L1 : Int → (List Bool) → Option (List T_api_Instr × Int)) (l17 : List Bool) : Option (List T_api_Instr × Int) :=
  rec_F21_L1 (IntKind.i64.wrap (v2 + 1)) l17
def F21_A4 (v32 : Int) (rec_F21_L3 : Int → (List T_api_Instr) → Option (List T_api_Instr × Int)) (l34 : List T_api_Instr) : Option (List T_api_Instr × Int) :=
  rec_F21_L3 (IntKind.i64.wrap (v32 + 1)) l34
def F21_A6 (v45 : Int) (rec_F21_L5 : Int → Int → Option (List T_api_Instr × Int)) (v46 : Int) : Option (List T_api_Instr × Int) :=
  rec_F21_L5 v46 (IntKind.i64.wrap (v45 + 1))
def F21_L5 (l14 : List Bool) (l31 : List T_api_Instr) (v32 : Int) (y110 : T_api_Instr) (rec_F21_L3 : Int → (List T_api_Instr) → Option (List T_api_Instr × Int)) : Nat → Int → Int → Option (List T_api_Instr × Int)
  | 0, _, _ => none
  | n_F21_L5 + 1, v44, v45 =>
    bif decide (v45 < y110.Go) then
      (Option.bind (geti l14 v45) fun y116 =>
      bif y116 then
        (F21_A6 v45 (F21_L5 l14 l31 v32 y110 rec_F21_L3 n_F21_L5) (IntKind.i64.wrap (v44 + 1)))
      else
        (F21_A6 v45 (F21_L5 l14 l31 v32 y110 rec_F21_L3 n_F21_L5) v44))
    else
      (Option.bind (app l31 [(⟨y110.Op, y110.Var, y110.Val, v44⟩ : T_api_Instr)]) fun l35 =>
      F21_A4 v32 rec_F21_L3 l35)
def F21_L3 (fuel : Nat) (d0 : List T_api_Instr) (l14 : List Bool) : Nat → Int → (List T_api_Instr) → Option (List T_api_Instr × Int)
  | 0, _, _ => none
  | n_F21_L3 + 1, v32, l31 =>
    bif decide (v32 < ((d0.map e_T_api_Instr).length : Int)) then
      (Option.bind (geti l14 v32) fun y109 =>
      bif y109 then
        (Option.bind (geti d0 v32) fun y110 =>
        bif y110.Op != 5 then
          (F21_L5 l14 l31 v32 y110 (F21_L3 fuel d0 l14 n_F21_L3) fuel 0 0)
        else
          (Option.bind (app l31 [y110]) fun l36 =>
          F21_A4 v32 (F21_L3 fuel d0 l14 n_F21_L3) l36))
      else
        (F21_A4 v32 (F21_L3 fuel d0 l14 n_F21_L3) l31))
    else
      (some (l31, 0))
def F21_L1 (fuel : Nat) (d0 : List T_api_Instr) : Nat → Int → (List Bool) → Option (List T_api_Instr × Int)
  | 0, _, _ => none
  | n_F21_L1 + 1, v2, l14 =>
    bif decide (v2 < ((d0.map e_T_api_Instr).length : Int)) then
      (Option.bind (
        Option.bind (geti l14 v2) fun y67 =>
        bif y67 then
          (Option.bind (geti d0 v2) fun y68 =>
          some (y68.Op != 5))
        else
          (some false)) fun o6 =>
      bif o6 then
        (Option.bind (geti d0 v2) fun y62 =>
        Option.bind (geti l14 y62.Go) fun y63 =>
        Option.bind (some (l14.set (0 + Int.toNat y62.Go) true)) fun l18 =>
        Option.bind (geti d0 v2) fun y64 =>
        Option.bind (F53 y64) fun y65 =>
        bif y65 then
          (Option.bind (geti l18 (IntKind.i64.wrap (v2 + 1))) fun y66 =>
          Option.bind (some (l18.set (0 + Int.toNat (IntKind.i64.wrap (v2 + 1))) true)) fun l19 =>
          F21_A2 v2 (F21_L1 fuel d0 n_F21_L1) l19)
        else
          (F21_A2 v2 (F21_L1 fuel d0 n_F21_L1) l18))
      else
        (F21_A2 v2 (F21_L1 fuel d0 n_F21_L1) l14))
    else
      (F21_L3 fuel d0 l14 fuel 0 [])
def F21 (fuel : Nat) (d0 : List T_api_Instr) : Option (List T_api_Instr × Int) :=
  Option.bind (F38 fuel d0) fun y1 =>
  bif !y1 then
    (some ([], 310))
  else
    (Option.bind (mkL ((d0.map e_T_api_Instr).length : Int) ((d0.map e_T_api_Instr).length : Int) false) fun l1 =>
    Option.bind (geti l1 0) fun y2 =>
    Option.bind (some (l1.set (0 + Int.toNat 0) true)) fun l2 =>
    F21_L1 fuel d0 fuel 0 l2)
theorem F21_ok {fuel : Nat} {d0 : List T_api_Instr} {r : List T_api_Instr × Int} (hF : F21 fuel d0 = some r) :
    CallF Tryz.prog 21 [.d (.sl 4 (d0.map e_T_api_Instr))] (.tup [.d (.sl 4 (r.1.map e_T_api_Instr)), .d (.int .i64 r.2)]) := by
  unfold F21 at hF
  refine callF_of (N := 89) (b := bodyOf Tryz.f21) Tryz.func21 (by kernel_rfl) rfl rfl ?_
  obtain ⟨y1, e1, hF⟩ := bnd hF
  refine J_adv 9 (J_callF (xs := [.d (.sl 4 (d0.map e_T_api_Instr))]) [.d (.sl 4 (d0.map e_T_api_Instr))] (.d (.bool y1)) (by kernel_rfl) en38 (Res'.refl _) (F38_ok e1) ?_)
  refine J_adv 2 (J_bool 13 (b := !y1) (by kernel_rfl) (fun hb1 => ?_) (fun hb1 => ?_))
  · replace hF := ift hb1 hF
    have hr_ := Option.some.inj hF; subst hr_
    exact J_adv 6 (J_ret (xs := [.d (.sl 4 ([].map e_T_api_Instr)), .d (.int .i64 310)]) [.d (.sl 4 ([].map e_T_api_Instr)), .d (.int .i64 310)] rfl rfl (by kernel_rfl) (Res'.refl _) rfl)
  · replace hF := iff' hb1 hF
    obtain ⟨l1, e2, hF⟩ := bnd hF
    refine J_adv 6 (J_opt2 (o := mk2 ((d0.map e_T_api_Instr).length : Int) ((d0.map e_T_api_Instr).length : Int) (e_b false)) (l1.map e_b) (by kernel_rfl) (mm e2) ?_)
    obtain ⟨y2, e3, hF⟩ := bnd hF
    refine J_adv 5 (J_opt1 (o := geti (l1.map e_b) 0) (e_b y2) (by kernel_rfl) (gm e3) ?_)
    obtain ⟨l2, e4, hF⟩ := bnd hF
    have hst := stm (f := e_b) (z := true) (k := 0) (xs := [.bool true]) (gj e3) rfl
    refine J_adv 0 (J_opt2 (o := (match (l1.map e_b)[0 + Int.toNat 0]? with | some old => some ((l1.map e_b).set (0 + Int.toNat 0) (setD old 0 [.bool true])) | none => none)) (l2.map e_b) (by kernel_rfl) (by cases e4; exact hst) ?_)
    have hF21_L1 : ∀ (n_F21_L1 : Nat) (v2 : Int) (l14 : List Bool), F21_L1 fuel d0 n_F21_L1 v2 l14 = some r → J none Tryz.prog 89 [] (finF Tryz.prog Tryz.f21 (.tup [.d (.sl 4 (r.1.map e_T_api_Instr)), .d (.int .i64 r.2)])) ⟨mkT [(0, .d (.sl 4 (d0.map e_T_api_Instr))), (4, .suf 16 0 0), (5, .d (.int .i64 v2))], [(16, .buf 0 4 1 (l14.map e_b))], [.inLoop (cAt (bodyOf Tryz.f21) [1, 1, 1, 1, 0, 1, 0, 0]), .inBlock 0, .code (cAt (bodyOf Tryz.f21) [1, 1, 1, 1, 1])]⟩ := by
      clear hF; intro n_F21_L1
      induction n_F21_L1 with
      | zero => intro v2 l14 hF; cases hF
      | succ n_F21_L1 ih_F21_L1 =>
        intro v2 l14 hF
        rw [F21_L1] at hF
        refine J_adv 9 (J_bool 22 (b := decide (v2 < ((d0.map e_T_api_Instr).length : Int))) (by kernel_rfl) (fun hb24 => ?_) (fun hb24 => ?_))
        · replace hF := ift hb24 hF
          have hF21_A2 : ∀ (l17 : List Bool), F21_A2 v2 (F21_L1 fuel d0 n_F21_L1) l17 = some r → J none Tryz.prog 89 [] (finF Tryz.prog Tryz.f21 (.tup [.d (.sl 4 (r.1.map e_T_api_Instr)), .d (.int .i64 r.2)])) ⟨mkT [(0, .d (.sl 4 (d0.map e_T_api_Instr))), (4, .suf 16 0 0), (5, .d (.int .i64 v2))], [(16, .buf 0 4 1 (l17.map e_b))], [.code (cAt (bodyOf Tryz.f21) [1, 1, 1, 1, 0, 1, 0, 0, 1, 1]), .inLoop (cAt (bodyOf Tryz.f21) [1, 1, 1, 1, 0, 1, 0, 0]), .inBlock 0, .code (cAt (bodyOf Tryz.f21) [1, 1, 1, 1, 1])]⟩ := by
            intro l17 hF
            unfold F21_A2 at hF
            exact J_adv 5 (J_at [0, 4, 5] [16] (T0 := [.inLoop (cAt (bodyOf Tryz.f21) [1, 1, 1, 1, 0, 1, 0, 0]), .inBlock 0, .code (cAt (bodyOf Tryz.f21) [1, 1, 1, 1, 1])]) (by kernel_rfl) rfl (ih_F21_L1 (IntKind.i64.wrap (v2 + 1)) l17 hF))
          obtain ⟨o6, hO, hF⟩ := bnd hF
          have hR6 : J none Tryz.prog 89 [] (finF Tryz.prog Tryz.f21 (.tup [.d (.sl 4 (r.1.map e_T_api_Instr)), .d (.int .i64 r.2)])) ⟨mkT [(0, .d (.sl 4 (d0.map e_T_api_Instr))), (4, .suf 16 0 0), (5, .d (.int .i64 v2)), (36, .d (.bool o6))], [(16, .buf 0 4 1 (l14.map e_b))], [.ops (opsOf (cAt (bodyOf Tryz.f21) [1, 1, 1, 1, 0, 1, 0, 0, 1, 0, 0, 0])) [], .code (cAt (bodyOf Tryz.f21) [1, 1, 1, 1, 0, 1, 0, 0, 1, 0, 0, 1]), .inBlock 1, .code (cAt (bodyOf Tryz.f21) [1, 1, 1, 1, 0, 1, 0, 0, 1, 1]), .inLoop (cAt (bodyOf Tryz.f21) [1, 1, 1, 1, 0, 1, 0, 0]), .inBlock 0, .code (cAt (bodyOf Tryz.f21) [1, 1, 1, 1, 1])]⟩ := by
            clear hO
            refine J_adv 1 (J_bool 36 (b := o6) (by kernel_rfl) (fun hb32 => ?_) (fun hb32 => ?_))
            · replace hF := ift hb32 hF
              obtain ⟨y62, e74, hF⟩ := bnd hF
              refine J_adv 6 (J_opt1 (o := geti (d0.map e_T_api_Instr) v2) (e_T_api_Instr y62) (by kernel_rfl) (gm e74) ?_)
              obtain ⟨y63, e75, hF⟩ := bnd hF
              refine J_adv 2 (J_opt1 (o := geti (l14.map e_b) y62.Go) (e_b y63) (by kernel_rfl) (gm e75) ?_)
              obtain ⟨l18, e76, hF⟩ := bnd hF
              have hst := stm (f := e_b) (z := true) (k := 0) (xs := [.bool true]) (gj e75) rfl
              refine J_adv 0 (J_opt2 (o := (match (l14.map e_b)[0 + Int.toNat y62.Go]? with | some old => some ((l14.map e_b).set (0 + Int.toNat y62.Go) (setD old 0 [.bool true])) | none => none)) (l18.map e_b) (by kernel_rfl) (by cases e76; exact hst) ?_)
              obtain ⟨y64, e77, hF⟩ := bnd hF
              refine J_adv 5 (J_opt1 (o := geti (d0.map e_T_api_Instr) v2) (e_T_api_Instr y64) (by kernel_rfl) (gm e77) ?_)
              obtain ⟨y65, e78, hF⟩ := bnd hF
              refine J_adv 1 (J_callF (xs := [.agg [.d (.int .i64 y64.Op), .d (.int .i64 y64.Var), .d (.int .i64 y64.Val), .d (.int .i64 y64.Go)]]) [.agg [.d (.int .i64 y64.Op), .d (.int .i64 y64.Var), .d (.int .i64 y64.Val), .d (.int .i64 y64.Go)]] (.d (.bool y65)) (by kernel_rfl) en53 (Res'.refl _) (F53_ok e78) ?_)
              refine J_adv 1 (J_bool 48 (b := y65) (by kernel_rfl) (fun hb33 => ?_) (fun hb33 => ?_))
              · replace hF := ift hb33 hF
                obtain ⟨y66, e79, hF⟩ := bnd hF
                refine J_adv 5 (J_opt1 (o := geti (l18.map e_b) (IntKind.i64.wrap (v2 + 1))) (e_b y66) (by kernel_rfl) (gm e79) ?_)
                obtain ⟨l19, e80, hF⟩ := bnd hF
                have hst := stm (f := e_b) (z := true) (k := 0) (xs := [.bool true]) (gj e79) rfl
                refine J_adv 0 (J_opt2 (o := (match (l18.map e_b)[0 + Int.toNat (IntKind.i64.wrap (v2 + 1))]? with | some old => some ((l18.map e_b).set (0 + Int.toNat (IntKind.i64.wrap (v2 + 1))) (setD old 0 [.bool true])) | none => none)) (l19.map e_b) (by kernel_rfl) (by cases e80; exact hst) ?_)
                exact J_adv 2 (J_at [0, 4, 5] [16] (T0 := [.code (cAt (bodyOf Tryz.f21) [1, 1, 1, 1, 0, 1, 0, 0, 1, 1]), .inLoop (cAt (bodyOf Tryz.f21) [1, 1, 1, 1, 0, 1, 0, 0]), .inBlock 0, .code (cAt (bodyOf Tryz.f21) [1, 1, 1, 1, 1])]) (by kernel_rfl) rfl (hF21_A2 l19 hF))
              · replace hF := iff' hb33 hF
                exact J_adv 3 (J_at [0, 4, 5] [16] (T0 := [.code (cAt (bodyOf Tryz.f21) [1, 1, 1, 1, 0, 1, 0, 0, 1, 1]), .inLoop (cAt (bodyOf Tryz.f21) [1, 1, 1, 1, 0, 1, 0, 0]), .inBlock 0, .code (cAt (bodyOf Tryz.f21) [1, 1, 1, 1, 1])]) (by kernel_rfl) rfl (hF21_A2 l18 hF))
            · replace hF := iff' hb32 hF
              exact J_adv 3 (J_at [0, 4, 5] [16] (T0 := [.code (cAt (bodyOf Tryz.f21) [1, 1, 1, 1, 0, 1, 0, 0, 1, 1]), .inLoop (cAt (bodyOf Tryz.f21) [1, 1, 1, 1, 0, 1, 0, 0]), .inBlock 0, .code (cAt (bodyOf Tryz.f21) [1, 1, 1, 1, 1])]) (by kernel_rfl) rfl (hF21_A2 l14 hF))
          clear hF; rename _ = some o6 => hF
          obtain ⟨y67, e81, hF⟩ := bnd hF
          refine J_adv 8 (J_opt1 (o := geti (l14.map e_b) v2) (e_b y67) (by kernel_rfl) (gm e81) ?_)
          refine J_adv 0 (J_opt1 (o := (l14.map e_b)[0 + Int.toNat v2]?) (e_b y67) (by kernel_rfl) (gjm (gj e81)) ?_)
          refine J_adv 1 (J_bool 29 (b := y67) (by kernel_rfl) (fun hb34 => ?_) (fun hb34 => ?_))
          · replace hF := ift hb34 hF
            obtain ⟨y68, e82, hF⟩ := bnd hF
            refine J_adv 2 (J_opt1 (o := geti (d0.map e_T_api_Instr) v2) (e_T_api_Instr y68) (by kernel_rfl) (gm e82) ?_)
            have hr_ := Option.some.inj hF; subst hr_
            exact J_adv 4 (J_at [0, 4, 5, 36] [16] (T0 := [.ops (opsOf (cAt (bodyOf Tryz.f21) [1, 1, 1, 1, 0, 1, 0, 0, 1, 0, 0, 0])) [], .code (cAt (bodyOf Tryz.f21) [1, 1, 1, 1, 0, 1, 0, 0, 1, 0, 0, 1]), .inBlock 1, .code (cAt (bodyOf Tryz.f21) [1, 1, 1, 1, 0, 1, 0, 0, 1, 1]), .inLoop (cAt (bodyOf Tryz.f21) [1, 1, 1, 1, 0, 1, 0, 0]), .inBlock 0, .code (cAt (bodyOf Tryz.f21) [1, 1, 1, 1, 1])]) (by kernel_rfl) rfl hR6)
          · replace hF := iff' hb34 hF
            have hr_ := Option.some.inj hF; subst hr_
            exact J_adv 7 (J_at [0, 4, 5, 36] [16] (T0 := [.ops (opsOf (cAt (bodyOf Tryz.f21) [1, 1, 1, 1, 0, 1, 0, 0, 1, 0, 0, 0])) [], .code (cAt (bodyOf Tryz.f21) [1, 1, 1, 1, 0, 1, 0, 0, 1, 0, 0, 1]), .inBlock 1, .code (cAt (bodyOf Tryz.f21) [1, 1, 1, 1, 0, 1, 0, 0, 1, 1]), .inLoop (cAt (bodyOf Tryz.f21) [1, 1, 1, 1, 0, 1, 0, 0]), .inBlock 0, .code (cAt (bodyOf Tryz.f21) [1, 1, 1, 1, 1])]) (by kernel_rfl) rfl hR6)
        · replace hF := iff' hb24 hF
          have hF21_L3 : ∀ (n_F21_L3 : Nat) (v32 : Int) (l31 : List T_api_Instr), F21_L3 fuel d0 l14 n_F21_L3 v32 l31 = some r → J none Tryz.prog 89 [] (finF Tryz.prog Tryz.f21 (.tup [.d (.sl 4 (r.1.map e_T_api_Instr)), .d (.int .i64 r.2)])) ⟨mkT [(0, .d (.sl 4 (d0.map e_T_api_Instr))), (4, .suf 16 0 0), (6, .suf 87 0 0), (7, .d (.int .i64 v32))], [(16, .buf 0 4 1 (l14.map e_b)), (87, .buf 0 66 4 (l31.map e_T_api_Instr))], [.inLoop (cAt (bodyOf Tryz.f21) [1, 1, 1, 1, 1, 1, 0, 1, 0, 0]), .inBlock 2, .code (cAt (bodyOf Tryz.f21) [1, 1, 1, 1, 1, 1, 1])]⟩ := by
            clear hF; intro n_F21_L3
            induction n_F21_L3 with
            | zero => intro v32 l31 hF; cases hF
            | succ n_F21_L3 ih_F21_L3 =>
              intro v32 l31 hF
              rw [F21_L3] at hF
              refine J_adv 9 (J_bool 56 (b := decide (v32 < ((d0.map e_T_api_Instr).length : Int))) (by kernel_rfl) (fun hb81 => ?_) (fun hb81 => ?_))
              · replace hF := ift hb81 hF
                have hF21_A4 : ∀ (l34 : List T_api_Instr), F21_A4 v32 (F21_L3 fuel d0 l14 n_F21_L3) l34 = some r → J none Tryz.prog 89 [] (finF Tryz.prog Tryz.f21 (.tup [.d (.sl 4 (r.1.map e_T_api_Instr)), .d (.int .i64 r.2)])) ⟨mkT [(0, .d (.sl 4 (d0.map e_T_api_Instr))), (4, .suf 16 0 0), (6, .suf 87 0 0), (7, .d (.int .i64 v32))], [(16, .buf 0 4 1 (l14.map e_b)), (87, .buf 0 66 4 (l34.map e_T_api_Instr))], [.code (cAt (bodyOf Tryz.f21) [1, 1, 1, 1, 1, 1, 0, 1, 0, 0, 1, 1]), .inLoop (cAt (bodyOf Tryz.f21) [1, 1, 1, 1, 1, 1, 0, 1, 0, 0]), .inBlock 2, .code (cAt (bodyOf Tryz.f21) [1, 1, 1, 1, 1, 1, 1])]⟩ := by
                  intro l34 hF
                  unfold F21_A4 at hF
                  exact J_adv 5 (J_at [0, 4, 6, 7] [16, 87] (T0 := [.inLoop (cAt (bodyOf Tryz.f21) [1, 1, 1, 1, 1, 1, 0, 1, 0, 0]), .inBlock 2, .code (cAt (bodyOf Tryz.f21) [1, 1, 1, 1, 1, 1, 1])]) (by kernel_rfl) rfl (ih_F21_L3 (IntKind.i64.wrap (v32 + 1)) l34 hF))
                obtain ⟨y109, e133, hF⟩ := bnd hF
                refine J_adv 8 (J_opt1 (o := geti (l14.map e_b) v32) (e_b y109) (by kernel_rfl) (gm e133) ?_)
                refine J_adv 0 (J_opt1 (o := (l14.map e_b)[0 + Int.toNat v32]?) (e_b y109) (by kernel_rfl) (gjm (gj e133)) ?_)
                refine J_adv 1 (J_bool 62 (b := y109) (by kernel_rfl) (fun hb93 => ?_) (fun hb93 => ?_))
                · replace hF := ift hb93 hF
                  obtain ⟨y110, e134, hF⟩ := bnd hF
                  refine J_adv 5 (J_opt1 (o := geti (d0.map e_T_api_Instr) v32) (e_T_api_Instr y110) (by kernel_rfl) (gm e134) ?_)
                  refine J_adv 11 (J_bool 69 (b := y110.Op != 5) (by kernel_rfl) (fun hb94 => ?_) (fun hb94 => ?_))
                  · replace hF := ift hb94 hF
                    have hF21_L5 : ∀ (n_F21_L5 : Nat) (v44 : Int) (v45 : Int), F21_L5 l14 l31 v32 y110 (F21_L3 fuel d0 l14 n_F21_L3) n_F21_L5 v44 v45 = some r → J none Tryz.prog 89 [] (finF Tryz.prog Tryz.f21 (.tup [.d (.sl 4 (r.1.map e_T_api_Instr)), .d (.int .i64 r.2)])) ⟨mkT [(0, .d (.sl 4 (d0.map e_T_api_Instr))), (4, .suf 16 0 0), (6, .suf 87 0 0), (7, .d (.int .i64 v32)), (8, .ptr 8 0), (9, .d (.int .i64 v44)), (10, .d (.int .i64 v45))], [(8, .box 66 [.d (.int .i64 y110.Op), .d (.int .i64 y110.Var), .d (.int .i64 y110.Val), .d (.int .i64 y110.Go)]), (16, .buf 0 4 1 (l14.map e_b)), (87, .buf 0 66 4 (l31.map e_T_api_Instr))], [.inLoop (cAt (bodyOf Tryz.f21) [1, 1, 1, 1, 1, 1, 0, 1, 0, 0, 1, 0, 0, 1, 0, 1, 0, 1, 0, 1, 0, 1, 0, 0]), .inBlock 4, .code (cAt (bodyOf Tryz.f21) [1, 1, 1, 1, 1, 1, 0, 1, 0, 0, 1, 0, 0, 1, 0, 1, 0, 1, 0, 1, 1]), .code (cAt (bodyOf Tryz.f21) [1, 1, 1, 1, 1, 1, 0, 1, 0, 0, 1, 0, 0, 1, 0, 1, 1]), .inBlock 3, .code (cAt (bodyOf Tryz.f21) [1, 1, 1, 1, 1, 1, 0, 1, 0, 0, 1, 1]), .inLoop (cAt (bodyOf Tryz.f21) [1, 1, 1, 1, 1, 1, 0, 1, 0, 0]), .inBlock 2, .code (cAt (bodyOf Tryz.f21) [1, 1, 1, 1, 1, 1, 1])]⟩ := by
                      clear hF; intro n_F21_L5
                      induction n_F21_L5 with
                      | zero => intro v44 v45 hF; cases hF
                      | succ n_F21_L5 ih_F21_L5 =>
                        intro v44 v45 hF
                        rw [F21_L5] at hF
                        refine J_adv 9 (J_bool 73 (b := decide (v45 < y110.Go)) (by kernel_rfl) (fun hb101 => ?_) (fun hb101 => ?_))
                        · replace hF := ift hb101 hF
                          have hF21_A6 : ∀ (v46 : Int), F21_A6 v45 (F21_L5 l14 l31 v32 y110 (F21_L3 fuel d0 l14 n_F21_L3) n_F21_L5) v46 = some r → J none Tryz.prog 89 [] (finF Tryz.prog Tryz.f21 (.tup [.d (.sl 4 (r.1.map e_T_api_Instr)), .d (.int .i64 r.2)])) ⟨mkT [(0, .d (.sl 4 (d0.map e_T_api_Instr))), (4, .suf 16 0 0), (6, .suf 87 0 0), (7, .d (.int .i64 v32)), (8, .ptr 8 0), (9, .d (.int .i64 v46)), (10, .d (.int .i64 v45))], [(8, .box 66 [.d (.int .i64 y110.Op), .d (.int .i64 y110.Var), .d (.int .i64 y110.Val), .d (.int .i64 y110.Go)]), (16, .buf 0 4 1 (l14.map e_b)), (87, .buf 0 66 4 (l31.map e_T_api_Instr))], [.code (cAt (bodyOf Tryz.f21) [1, 1, 1, 1, 1, 1, 0, 1, 0, 0, 1, 0, 0, 1, 0, 1, 0, 1, 0, 1, 0, 1, 0, 0, 1, 1]), .inLoop (cAt (bodyOf Tryz.f21) [1, 1, 1, 1, 1, 1, 0, 1, 0, 0, 1, 0, 0, 1, 0, 1, 0, 1, 0, 1, 0, 1, 0, 0]), .inBlock 4, .code (cAt (bodyOf Tryz.f21) [1, 1, 1, 1, 1, 1, 0, 1, 0, 0, 1, 0, 0, 1, 0, 1, 0, 1, 0, 1, 1]), .code (cAt (bodyOf Tryz.f21) [1, 1, 1, 1, 1, 1, 0, 1, 0, 0, 1, 0, 0, 1, 0, 1, 1]), .inBlock 3, .code (cAt (bodyOf Tryz.f21) [1, 1, 1, 1, 1, 1, 0, 1, 0, 0, 1, 1]), .inLoop (cAt (bodyOf Tryz.f21) [1, 1, 1, 1, 1, 1, 0, 1, 0, 0]), .inBlock 2, .code (cAt (bodyOf Tryz.f21) [1, 1, 1, 1, 1, 1, 1])]⟩ := by
                            intro v46 hF
                            unfold F21_A6 at hF
                            exact J_adv 5 (J_at [0, 4, 6, 7, 8, 9, 10] [8, 16, 87] (T0 := [.inLoop (cAt (bodyOf Tryz.f21) [1, 1, 1, 1, 1, 1, 0, 1, 0, 0, 1, 0, 0, 1, 0, 1, 0, 1, 0, 1, 0, 1, 0, 0]), .inBlock 4, .code (cAt (bodyOf Tryz.f21) [1, 1, 1, 1, 1, 1, 0, 1, 0, 0, 1, 0, 0, 1, 0, 1, 0, 1, 0, 1, 1]), .code (cAt (bodyOf Tryz.f21) [1, 1, 1, 1, 1, 1, 0, 1, 0, 0, 1, 0, 0, 1, 0, 1, 1]), .inBlock 3, .code (cAt (bodyOf Tryz.f21) [1, 1, 1, 1, 1, 1, 0, 1, 0, 0, 1, 1]), .inLoop (cAt (bodyOf Tryz.f21) [1, 1, 1, 1, 1, 1, 0, 1, 0, 0]), .inBlock 2, .code (cAt (bodyOf Tryz.f21) [1, 1, 1, 1, 1, 1, 1])]) (by kernel_rfl) rfl (ih_F21_L5 v46 (IntKind.i64.wrap (v45 + 1)) hF))
                          obtain ⟨y116, e140, hF⟩ := bnd hF
                          refine J_adv 8 (J_opt1 (o := geti (l14.map e_b) v45) (e_b y116) (by kernel_rfl) (gm e140) ?_)
                          refine J_adv 0 (J_opt1 (o := (l14.map e_b)[0 + Int.toNat v45]?) (e_b y116) (by kernel_rfl) (gjm (gj e140)) ?_)
                          refine J_adv 1 (J_bool 79 (b := y116) (by kernel_rfl) (fun hb103 => ?_) (fun hb103 => ?_))
                          · replace hF := ift hb103 hF
                            exact J_adv 7 (J_at [0, 4, 6, 7, 8, 9, 10] [8, 16, 87] (T0 := [.code (cAt (bodyOf Tryz.f21) [1, 1, 1, 1, 1, 1, 0, 1, 0, 0, 1, 0, 0, 1, 0, 1, 0, 1, 0, 1, 0, 1, 0, 0, 1, 1]), .inLoop (cAt (bodyOf Tryz.f21) [1, 1, 1, 1, 1, 1, 0, 1, 0, 0, 1, 0, 0, 1, 0, 1, 0, 1, 0, 1, 0, 1, 0, 0]), .inBlock 4, .code (cAt (bodyOf Tryz.f21) [1, 1, 1, 1, 1, 1, 0, 1, 0, 0, 1, 0, 0, 1, 0, 1, 0, 1, 0, 1, 1]), .code (cAt (bodyOf Tryz.f21) [1, 1, 1, 1, 1, 1, 0, 1, 0, 0, 1, 0, 0, 1, 0, 1, 1]), .inBlock 3, .code (cAt (bodyOf Tryz.f21) [1, 1, 1, 1, 1, 1, 0, 1, 0, 0, 1, 1]), .inLoop (cAt (bodyOf Tryz.f21) [1, 1, 1, 1, 1, 1, 0, 1, 0, 0]), .inBlock 2, .code (cAt (bodyOf Tryz.f21) [1, 1, 1, 1, 1, 1, 1])]) (by kernel_rfl) rfl (hF21_A6 (IntKind.i64.wrap (v44 + 1)) hF))
                          · replace hF := iff' hb103 hF
                            exact J_adv 3 (J_at [0, 4, 6, 7, 8, 9, 10] [8, 16, 87] (T0 := [.code (cAt (bodyOf Tryz.f21) [1, 1, 1, 1, 1, 1, 0, 1, 0, 0, 1, 0, 0, 1, 0, 1, 0, 1, 0, 1, 0, 1, 0, 0, 1, 1]), .inLoop (cAt (bodyOf Tryz.f21) [1, 1, 1, 1, 1, 1, 0, 1, 0, 0, 1, 0, 0, 1, 0, 1, 0, 1, 0, 1, 0, 1, 0, 0]), .inBlock 4, .code (cAt (bodyOf Tryz.f21) [1, 1, 1, 1, 1, 1, 0, 1, 0, 0, 1, 0, 0, 1, 0, 1, 0, 1, 0, 1, 1]), .code (cAt (bodyOf Tryz.f21) [1, 1, 1, 1, 1, 1, 0, 1, 0, 0, 1, 0, 0, 1, 0, 1, 1]), .inBlock 3, .code (cAt (bodyOf Tryz.f21) [1, 1, 1, 1, 1, 1, 0, 1, 0, 0, 1, 1]), .inLoop (cAt (bodyOf Tryz.f21) [1, 1, 1, 1, 1, 1, 0, 1, 0, 0]), .inBlock 2, .code (cAt (bodyOf Tryz.f21) [1, 1, 1, 1, 1, 1, 1])]) (by kernel_rfl) rfl (hF21_A6 v44 hF))
                        · replace hF := iff' hb101 hF
                          obtain ⟨l35, e141, hF⟩ := bnd hF
                          refine J_adv 11 (J_opt2 (o := app2 ((l31.map e_T_api_Instr).drop 0) ([(⟨y110.Op, y110.Var, y110.Val, v44⟩ : T_api_Instr)].map e_T_api_Instr)) (l35.map e_T_api_Instr) (by kernel_rfl) (am e141) ?_)
                          exact J_adv 3 (J_at [0, 4, 6, 7] [16, 87] (T0 := [.code (cAt (bodyOf Tryz.f21) [1, 1, 1, 1, 1, 1, 0, 1, 0, 0, 1, 1]), .inLoop (cAt (bodyOf Tryz.f21) [1, 1, 1, 1, 1, 1, 0, 1, 0, 0]), .inBlock 2, .code (cAt (bodyOf Tryz.f21) [1, 1, 1, 1, 1, 1, 1])]) (by kernel_rfl) rfl (hF21_A4 l35 hF))
                    exact J_adv 12 (J_at [0, 4, 6, 7, 8, 9, 10] [8, 16, 87] (T0 := [.inLoop (cAt (bodyOf Tryz.f21) [1, 1, 1, 1, 1, 1, 0, 1, 0, 0, 1, 0, 0, 1, 0, 1, 0, 1, 0, 1, 0, 1, 0, 0]), .inBlock 4, .code (cAt (bodyOf Tryz.f21) [1, 1, 1, 1, 1, 1, 0, 1, 0, 0, 1, 0, 0, 1, 0, 1, 0, 1, 0, 1, 1]), .code (cAt (bodyOf Tryz.f21) [1, 1, 1, 1, 1, 1, 0, 1, 0, 0, 1, 0, 0, 1, 0, 1, 1]), .inBlock 3, .code (cAt (bodyOf Tryz.f21) [1, 1, 1, 1, 1, 1, 0, 1, 0, 0, 1, 1]), .inLoop (cAt (bodyOf Tryz.f21) [1, 1, 1, 1, 1, 1, 0, 1, 0, 0]), .inBlock 2, .code (cAt (bodyOf Tryz.f21) [1, 1, 1, 1, 1, 1, 1])]) (by kernel_rfl) rfl (hF21_L5 fuel 0 0 hF))
                  · replace hF := iff' hb94 hF
                    obtain ⟨l36, e142, hF⟩ := bnd hF
                    refine J_adv 6 (J_opt2 (o := app2 ((l31.map e_T_api_Instr).drop 0) ([y110].map e_T_api_Instr)) (l36.map e_T_api_Instr) (by kernel_rfl) (am e142) ?_)
                    exact J_adv 3 (J_at [0, 4, 6, 7] [16, 87] (T0 := [.code (cAt (bodyOf Tryz.f21) [1, 1, 1, 1, 1, 1, 0, 1, 0, 0, 1, 1]), .inLoop (cAt (bodyOf Tryz.f21) [1, 1, 1, 1, 1, 1, 0, 1, 0, 0]), .inBlock 2, .code (cAt (bodyOf Tryz.f21) [1, 1, 1, 1, 1, 1, 1])]) (by kernel_rfl) rfl (hF21_A4 l36 hF))
                · replace hF := iff' hb93 hF
                  exact J_adv 3 (J_at [0, 4, 6, 7] [16, 87] (T0 := [.code (cAt (bodyOf Tryz.f21) [1, 1, 1, 1, 1, 1, 0, 1, 0, 0, 1, 1]), .inLoop (cAt (bodyOf Tryz.f21) [1, 1, 1, 1, 1, 1, 0, 1, 0, 0]), .inBlock 2, .code (cAt (bodyOf Tryz.f21) [1, 1, 1, 1, 1, 1, 1])]) (by kernel_rfl) rfl (hF21_A4 l31 hF))
              · replace hF := iff' hb81 hF
                have hr_ := Option.some.inj hF; subst hr_
                exact J_adv 8 (J_ret (xs := [.d (.sl 4 (l31.map e_T_api_Instr)), .d (.int .i64 0)]) [.d (.sl 4 (l31.map e_T_api_Instr)), .d (.int .i64 0)] rfl rfl (by kernel_rfl) (Res'.refl _) rfl)
          refine J_adv 13 (J_own (n := 4) 6 87 66 4 (by kernel_rfl) (by kernel_rfl) ?_)
          exact J_adv 0 (J_at [0, 4, 6, 7] [16, 87] (T0 := [.inLoop (cAt (bodyOf Tryz.f21) [1, 1, 1, 1, 1, 1, 0, 1, 0, 0]), .inBlock 2, .code (cAt (bodyOf Tryz.f21) [1, 1, 1, 1, 1, 1, 1])]) (by kernel_rfl) rfl (hF21_L3 fuel 0 [] hF))
    exact J_adv 8 (J_at [0, 4, 5] [16] (T0 := [.inLoop (cAt (bodyOf Tryz.f21) [1, 1, 1, 1, 0, 1, 0, 0]), .inBlock 0, .code (cAt (bodyOf Tryz.f21) [1, 1, 1, 1, 1])]) (by kernel_rfl) rfl (hF21_L1 fuel 0 l2 hF))

/- croupier/croupierref31.Check -/
def F23 (fuel : Nat) (d0 : List T_api_Instr) : Option Int :=
  Option.bind (F38 fuel d0) fun y1 =>
  bif !y1 then
    (some 310)
  else
    (some 0)
theorem F23_ok {fuel : Nat} {d0 : List T_api_Instr} {r : Int} (hF : F23 fuel d0 = some r) :
    CallF Tryz.prog 23 [.d (.sl 4 (d0.map e_T_api_Instr))] (.d (.int .i64 r)) := by
  unfold F23 at hF
  refine callF_of (N := 6) (b := bodyOf Tryz.f23) Tryz.func23 (by kernel_rfl) rfl rfl ?_
  obtain ⟨y1, e1, hF⟩ := bnd hF
  refine J_adv 8 (J_callF (xs := [.d (.sl 4 (d0.map e_T_api_Instr))]) [.d (.sl 4 (d0.map e_T_api_Instr))] (.d (.bool y1)) (by kernel_rfl) en38 (Res'.refl _) (F38_ok e1) ?_)
  refine J_adv 2 (J_bool 5 (b := !y1) (by kernel_rfl) (fun hb1 => ?_) (fun hb1 => ?_))
  · replace hF := ift hb1 hF
    have hr_ := Option.some.inj hF; subst hr_
    exact J_adv 5 (J_ret (xs := [.d (.int .i64 310)]) [.d (.int .i64 310)] rfl rfl (by kernel_rfl) (Res'.refl _) rfl)
  · replace hF := iff' hb1 hF
    have hr_ := Option.some.inj hF; subst hr_
    exact J_adv 6 (J_ret (xs := [.d (.int .i64 0)]) [.d (.int .i64 0)] rfl rfl (by kernel_rfl) (Res'.refl _) rfl)

/- croupier/croupierlaw31.CodeChecks -/
def F5_L1 (fuel : Nat) (l1 : List T_api_Instr) (y2 : List T_api_Instr) (y3 : List T_api_Instr) (y5 : List T_api_Instr) : Nat → Int → Option Bool
  | 0, _ => none
  | n_F5_L1 + 1, v2 =>
    bif decide (v2 < 4) then
      (Option.bind (geti [y2, y3, y5, l1] v2) fun y34 =>
      Option.bind (F18 fuel y34) fun y35 =>
      Option.bind (F19 fuel y34) fun y36 =>
      Option.bind (F20 fuel y34) fun y37 =>
      Option.bind (F21 fuel y34) fun y38 =>
      Option.bind (
        Option.bind (F22 fuel y34) fun y45 =>
        Option.bind (F23 fuel y34) fun y46 =>
        bif y45 != y46 then
          (some true)
        else
          (bif !(y35.1 == y36.1) then
            (some true)
          else
            (bif y35.2 != y36.2 then
              (some true)
            else
              (bif y37.2 != y38.2 then
                (some true)
              else
                (Option.bind (F17 fuel y37.1 y38.1) fun y47 =>
                some (!y47)))))) fun o3 =>
      bif o3 then
        (some false)
      else
        ((F5_L1 fuel l1 y2 y3 y5 n_F5_L1) (IntKind.i64.wrap (v2 + 1))))
    else
      (some true)
def F5 (fuel : Nat) (d0 : List A_a4i8) (d1 : A_a2T_croupierlaw31_Bend) (d2 : List T_api_Instr) : Option Bool :=
  Option.bind (F8 fuel) fun y1 =>
  bif !y1 then
    (some false)
  else
    (Option.bind (F9 fuel d0) fun y2 =>
    Option.bind (F10 fuel d1.a0 y2) fun y3 =>
    Option.bind (F10 fuel d1.a0 y2) fun y4 =>
    Option.bind (F10 fuel d1.a1 y4) fun y5 =>
    Option.bind (slc d2 0 (bif decide (45 < ((d2.map e_T_api_Instr).length : Int)) then 45 else ((d2.map e_T_api_Instr).length : Int))) fun l1 =>
    F5_L1 fuel l1 y2 y3 y5 fuel 0)
theorem F5_ok {fuel : Nat} {d0 : List A_a4i8} {d1 : A_a2T_croupierlaw31_Bend} {d2 : List T_api_Instr} {r : Bool} (hF : F5 fuel d0 d1 d2 = some r) :
    CallF Tryz.prog 5 [.d (.sl 4 (d0.map e_a4i8)), .agg [.d (.int .u8 d1.a0.What), .d (.int .u8 d1.a0.At), .d (.int .i64 d1.a0.N), .d (.int .u8 d1.a1.What), .d (.int .u8 d1.a1.At), .d (.int .i64 d1.a1.N)], .d (.sl 4 (d2.map e_T_api_Instr))] (.d (.bool r)) := by
  unfold F5 at hF
  refine callF_of (N := 90) (b := bodyOf Tryz.f5) Tryz.func5 (by kernel_rfl) rfl rfl ?_
  obtain ⟨y1, e1, hF⟩ := bnd hF
  refine J_adv 8 (J_callF (xs := []) [] (.d (.bool y1)) (by kernel_rfl) en8 (Res'.refl _) (F8_ok e1) ?_)
  refine J_adv 2 (J_bool 19 (b := !y1) (by kernel_rfl) (fun hb1 => ?_) (fun hb1 => ?_))
  · replace hF := ift hb1 hF
    have hr_ := Option.some.inj hF; subst hr_
    exact J_adv 5 (J_ret (xs := [.d (.bool false)]) [.d (.bool false)] rfl rfl (by kernel_rfl) (Res'.refl _) rfl)
  · replace hF := iff' hb1 hF
    obtain ⟨y2, e2, hF⟩ := bnd hF
    refine J_adv 5 (J_callF (xs := [.d (.sl 4 (d0.map e_a4i8))]) [.d (.sl 4 (d0.map e_a4i8))] (.d (.sl 4 (y2.map e_T_api_Instr))) (by kernel_rfl) en9 (Res'.refl _) (F9_ok e2) ?_)
    refine J_adv 4 (J_draw (by kernel_rfl) (by kernel_rfl) ?_)
    obtain ⟨y3, e3, hF⟩ := bnd hF
    refine JD_adv 4 (JD_callF (xs := [.agg [.d (.int .u8 d1.a0.What), .d (.int .u8 d1.a0.At), .d (.int .i64 d1.a0.N)], .d (.sl 4 (y2.map e_T_api_Instr))]) [.agg [.d (.int .u8 d1.a0.What), .d (.int .u8 d1.a0.At), .d (.int .i64 d1.a0.N)], .d (.sl 4 (y2.map e_T_api_Instr))] (.d (.sl 4 (y3.map e_T_api_Instr))) (by kernel_rfl) (by kernel_rfl) en10 (Res'.refl _) (F10_ok e3) ?_)
    obtain ⟨y4, e4, hF⟩ := bnd hF
    refine JD_adv 5 (JD_callF (xs := [.agg [.d (.int .u8 d1.a0.What), .d (.int .u8 d1.a0.At), .d (.int .i64 d1.a0.N)], .d (.sl 4 (y2.map e_T_api_Instr))]) [.agg [.d (.int .u8 d1.a0.What), .d (.int .u8 d1.a0.At), .d (.int .i64 d1.a0.N)], .d (.sl 4 (y2.map e_T_api_Instr))] (.d (.sl 4 (y4.map e_T_api_Instr))) (by kernel_rfl) (by kernel_rfl) en10 (Res'.refl _) (F10_ok e4) ?_)
    obtain ⟨y5, e5, hF⟩ := bnd hF
    refine JD_adv 0 (JD_callF (xs := [.agg [.d (.int .u8 d1.a1.What), .d (.int .u8 d1.a1.At), .d (.int .i64 d1.a1.N)], .d (.sl 4 (y4.map e_T_api_Instr))]) [.agg [.d (.int .u8 d1.a1.What), .d (.int .u8 d1.a1.At), .d (.int .i64 d1.a1.N)], .d (.sl 4 (y4.map e_T_api_Instr))] (.d (.sl 4 (y5.map e_T_api_Instr))) (by kernel_rfl) (by kernel_rfl) en10 (Res'.refl _) (F10_ok e5) ?_)
    obtain ⟨l1, e6, hF⟩ := bnd hF
    refine JD_adv 4 (JD_opt2 (o := slc (d2.map e_T_api_Instr) 0 (bif decide (45 < ((d2.map e_T_api_Instr).length : Int)) then 45 else ((d2.map e_T_api_Instr).length : Int))) (l1.map e_T_api_Instr) (by kernel_rfl) (by kernel_rfl) (sm e6) ?_)
    refine JD_adv 2 (JD_end (by kernel_rfl) ?_)
    have hF5_L1 : ∀ (n_F5_L1 : Nat) (v2 : Int), F5_L1 fuel l1 y2 y3 y5 n_F5_L1 v2 = some r → J none Tryz.prog 90 [] (finF Tryz.prog Tryz.f5 (.d (.bool r))) ⟨mkT [(39, .agg [.d (.sl 4 (y2.map e_T_api_Instr)), .d (.sl 4 (y3.map e_T_api_Instr)), .d (.sl 4 (y5.map e_T_api_Instr)), .d (.sl 4 (l1.map e_T_api_Instr))]), (40, .d (.int .i64 v2))], [], [.inLoop (cAt (bodyOf Tryz.f5) [1, 1, 1, 0, 1, 0, 0]), .inBlock 0, .code (cAt (bodyOf Tryz.f5) [1, 1, 1, 1])]⟩ := by
      clear hF; intro n_F5_L1
      induction n_F5_L1 with
      | zero => intro v2 hF; cases hF
      | succ n_F5_L1 ih_F5_L1 =>
        intro v2 hF
        rw [F5_L1] at hF
        refine J_adv 6 (J_bool 41 (b := decide (v2 < 4)) (by kernel_rfl) (fun hb30 => ?_) (fun hb30 => ?_))
        · replace hF := ift hb30 hF
          obtain ⟨y34, e35, hF⟩ := bnd hF
          refine J_adv 6 (J_opt1 (o := geti (chunks 1 4 ([.sl 4 (y2.map e_T_api_Instr), .sl 4 (y3.map e_T_api_Instr), .sl 4 (y5.map e_T_api_Instr), .sl 4 (l1.map e_T_api_Instr)] : List Dat)) v2) (e_lT_api_Instr y34) (by kernel_rfl) (gm (f := e_lT_api_Instr) e35) ?_)
          obtain ⟨y35, e36, hF⟩ := bnd hF
          refine J_adv 5 (J_callF (xs := [.d (.sl 4 (y34.map e_T_api_Instr))]) [.d (.sl 4 (y34.map e_T_api_Instr))] (.tup [.d (.str y35.1), .d (.int .i64 y35.2)]) (by kernel_rfl) en18 (Res'.refl _) (F18_ok e36) ?_)
          obtain ⟨y36, e37, hF⟩ := bnd hF
          refine J_adv 9 (J_callF (xs := [.d (.sl 4 (y34.map e_T_api_Instr))]) [.d (.sl 4 (y34.map e_T_api_Instr))] (.tup [.d (.str y36.1), .d (.int .i64 y36.2)]) (by kernel_rfl) en19 (Res'.refl _) (F19_ok e37) ?_)
          obtain ⟨y37, e38, hF⟩ := bnd hF
          refine J_adv 9 (J_callF (xs := [.d (.sl 4 (y34.map e_T_api_Instr))]) [.d (.sl 4 (y34.map e_T_api_Instr))] (.tup [.d (.sl 4 (y37.1.map e_T_api_Instr)), .d (.int .i64 y37.2)]) (by kernel_rfl) en20 (Res'.refl _) (F20_ok e38) ?_)
          obtain ⟨y38, e39, hF⟩ := bnd hF
          refine J_adv 9 (J_callF (xs := [.d (.sl 4 (y34.map e_T_api_Instr))]) [.d (.sl 4 (y34.map e_T_api_Instr))] (.tup [.d (.sl 4 (y38.1.map e_T_api_Instr)), .d (.int .i64 y38.2)]) (by kernel_rfl) en21 (Res'.refl _) (F21_ok e39) ?_)
          obtain ⟨o3, hO, hF⟩ := bnd hF
          have hR3 : J none Tryz.prog 90 [] (finF Tryz.prog Tryz.f5 (.d (.bool r))) ⟨mkT [(39, .agg [.d (.sl 4 (y2.map e_T_api_Instr)), .d (.sl 4 (y3.map e_T_api_Instr)), .d (.sl 4 (y5.map e_T_api_Instr)), .d (.sl 4 (l1.map e_T_api_Instr))]), (40, .d (.int .i64 v2)), (88, .d (.bool o3))], [], [.ops (opsOf (cAt (bodyOf Tryz.f5) [1, 1, 1, 0, 1, 0, 0, 1, 1, 0, 0, 1, 1, 1, 1, 1, 0])) [], .code (cAt (bodyOf Tryz.f5) [1, 1, 1, 0, 1, 0, 0, 1, 1, 0, 0, 1, 1, 1, 1, 1, 1]), .inBlock 1, .code (cAt (bodyOf Tryz.f5) [1, 1, 1, 0, 1, 0, 0, 1, 1, 1]), .inLoop (cAt (bodyOf Tryz.f5) [1, 1, 1, 0, 1, 0, 0]), .inBlock 0, .code (cAt (bodyOf Tryz.f5) [1, 1, 1, 1])]⟩ := by
            clear hO
            refine J_adv 1 (J_bool 88 (b := o3) (by kernel_rfl) (fun hb39 => ?_) (fun hb39 => ?_))
            · replace hF := ift hb39 hF
              have hr_ := Option.some.inj hF; subst hr_
              exact J_adv 5 (J_ret (xs := [.d (.bool false)]) [.d (.bool false)] rfl rfl (by kernel_rfl) (Res'.refl _) rfl)
            · replace hF := iff' hb39 hF
              exact J_adv 7 (J_at [39, 40] [] (T0 := [.inLoop (cAt (bodyOf Tryz.f5) [1, 1, 1, 0, 1, 0, 0]), .inBlock 0, .code (cAt (bodyOf Tryz.f5) [1, 1, 1, 1])]) (by kernel_rfl) rfl (ih_F5_L1 (IntKind.i64.wrap (v2 + 1)) hF))
          clear hF; rename _ = some o3 => hF
          obtain ⟨y45, e46, hF⟩ := bnd hF
          refine J_adv 9 (J_callF (xs := [.d (.sl 4 (y34.map e_T_api_Instr))]) [.d (.sl 4 (y34.map e_T_api_Instr))] (.d (.int .i64 y45)) (by kernel_rfl) en22 (Res'.refl _) (F22_ok e46) ?_)
          obtain ⟨y46, e47, hF⟩ := bnd hF
          refine J_adv 1 (J_callF (xs := [.d (.sl 4 (y34.map e_T_api_Instr))]) [.d (.sl 4 (y34.map e_T_api_Instr))] (.d (.int .i64 y46)) (by kernel_rfl) en23 (Res'.refl _) (F23_ok e47) ?_)
          refine J_adv 2 (J_bool 68 (b := y45 != y46) (by kernel_rfl) (fun hb40 => ?_) (fun hb40 => ?_))
          · replace hF := ift hb40 hF
            have hr_ := Option.some.inj hF; subst hr_
            exact J_adv 20 (J_at [39, 40, 88] [] (T0 := [.ops (opsOf (cAt (bodyOf Tryz.f5) [1, 1, 1, 0, 1, 0, 0, 1, 1, 0, 0, 1, 1, 1, 1, 1, 0])) [], .code (cAt (bodyOf Tryz.f5) [1, 1, 1, 0, 1, 0, 0, 1, 1, 0, 0, 1, 1, 1, 1, 1, 1]), .inBlock 1, .code (cAt (bodyOf Tryz.f5) [1, 1, 1, 0, 1, 0, 0, 1, 1, 1]), .inLoop (cAt (bodyOf Tryz.f5) [1, 1, 1, 0, 1, 0, 0]), .inBlock 0, .code (cAt (bodyOf Tryz.f5) [1, 1, 1, 1])]) (by kernel_rfl) rfl hR3)
          · replace hF := iff' hb40 hF
            refine J_adv 5 (J_bool 73 (b := !(y35.1 == y36.1)) (by kernel_rfl) (fun hb41 => ?_) (fun hb41 => ?_))
            · replace hF := ift hb41 hF
              have hr_ := Option.some.inj hF; subst hr_
              exact J_adv 15 (J_at [39, 40, 88] [] (T0 := [.ops (opsOf (cAt (bodyOf Tryz.f5) [1, 1, 1, 0, 1, 0, 0, 1, 1, 0, 0, 1, 1, 1, 1, 1, 0])) [], .code (cAt (bodyOf Tryz.f5) [1, 1, 1, 0, 1, 0, 0, 1, 1, 0, 0, 1, 1, 1, 1, 1, 1]), .inBlock 1, .code (cAt (bodyOf Tryz.f5) [1, 1, 1, 0, 1, 0, 0, 1, 1, 1]), .inLoop (cAt (bodyOf Tryz.f5) [1, 1, 1, 0, 1, 0, 0]), .inBlock 0, .code (cAt (bodyOf Tryz.f5) [1, 1, 1, 1])]) (by kernel_rfl) rfl hR3)
            · replace hF := iff' hb41 hF
              refine J_adv 5 (J_bool 78 (b := y35.2 != y36.2) (by kernel_rfl) (fun hb42 => ?_) (fun hb42 => ?_))
              · replace hF := ift hb42 hF
                have hr_ := Option.some.inj hF; subst hr_
                exact J_adv 10 (J_at [39, 40, 88] [] (T0 := [.ops (opsOf (cAt (bodyOf Tryz.f5) [1, 1, 1, 0, 1, 0, 0, 1, 1, 0, 0, 1, 1, 1, 1, 1, 0])) [], .code (cAt (bodyOf Tryz.f5) [1, 1, 1, 0, 1, 0, 0, 1, 1, 0, 0, 1, 1, 1, 1, 1, 1]), .inBlock 1, .code (cAt (bodyOf Tryz.f5) [1, 1, 1, 0, 1, 0, 0, 1, 1, 1]), .inLoop (cAt (bodyOf Tryz.f5) [1, 1, 1, 0, 1, 0, 0]), .inBlock 0, .code (cAt (bodyOf Tryz.f5) [1, 1, 1, 1])]) (by kernel_rfl) rfl hR3)
              · replace hF := iff' hb42 hF
                refine J_adv 5 (J_bool 83 (b := y37.2 != y38.2) (by kernel_rfl) (fun hb43 => ?_) (fun hb43 => ?_))
                · replace hF := ift hb43 hF
                  have hr_ := Option.some.inj hF; subst hr_
                  exact J_adv 5 (J_at [39, 40, 88] [] (T0 := [.ops (opsOf (cAt (bodyOf Tryz.f5) [1, 1, 1, 0, 1, 0, 0, 1, 1, 0, 0, 1, 1, 1, 1, 1, 0])) [], .code (cAt (bodyOf Tryz.f5) [1, 1, 1, 0, 1, 0, 0, 1, 1, 0, 0, 1, 1, 1, 1, 1, 1]), .inBlock 1, .code (cAt (bodyOf Tryz.f5) [1, 1, 1, 0, 1, 0, 0, 1, 1, 1]), .inLoop (cAt (bodyOf Tryz.f5) [1, 1, 1, 0, 1, 0, 0]), .inBlock 0, .code (cAt (bodyOf Tryz.f5) [1, 1, 1, 1])]) (by kernel_rfl) rfl hR3)
                · replace hF := iff' hb43 hF
                  obtain ⟨y47, e48, hF⟩ := bnd hF
                  refine J_adv 2 (J_callF (xs := [.d (.sl 4 (y37.1.map e_T_api_Instr)), .d (.sl 4 (y38.1.map e_T_api_Instr))]) [.d (.sl 4 (y37.1.map e_T_api_Instr)), .d (.sl 4 (y38.1.map e_T_api_Instr))] (.d (.bool y47)) (by kernel_rfl) en17 (Res'.refl _) (F17_ok e48) ?_)
                  have hr_ := Option.some.inj hF; subst hr_
                  exact J_adv 2 (J_at [39, 40, 88] [] (T0 := [.ops (opsOf (cAt (bodyOf Tryz.f5) [1, 1, 1, 0, 1, 0, 0, 1, 1, 0, 0, 1, 1, 1, 1, 1, 0])) [], .code (cAt (bodyOf Tryz.f5) [1, 1, 1, 0, 1, 0, 0, 1, 1, 0, 0, 1, 1, 1, 1, 1, 1]), .inBlock 1, .code (cAt (bodyOf Tryz.f5) [1, 1, 1, 0, 1, 0, 0, 1, 1, 1]), .inLoop (cAt (bodyOf Tryz.f5) [1, 1, 1, 0, 1, 0, 0]), .inBlock 0, .code (cAt (bodyOf Tryz.f5) [1, 1, 1, 1])]) (by kernel_rfl) rfl hR3)
        · replace hF := iff' hb30 hF
          have hr_ := Option.some.inj hF; subst hr_
          exact J_adv 6 (J_ret (xs := [.d (.bool true)]) [.d (.bool true)] rfl rfl (by kernel_rfl) (Res'.refl _) rfl)
    exact J_adv 2 (J_at [39, 40] [] (T0 := [.inLoop (cAt (bodyOf Tryz.f5) [1, 1, 1, 0, 1, 0, 0]), .inBlock 0, .code (cAt (bodyOf Tryz.f5) [1, 1, 1, 1])]) (by kernel_rfl) rfl (hF5_L1 fuel 0 hF))

end Go.Proofs.YtilfjfpemjfalaaGreatDoor
