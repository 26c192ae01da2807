import Derived.Test.YtilfjfpemjfalaaDoorFTr
import Derived.KernelRfl
set_option linter.unusedVariables false
set_option maxRecDepth 100000
namespace Go.Proofs.YtilfjfpemjfalaaDoor
open Go Go.RowKit Kx



/- croupier/croupierlaw31.CodeBack -/
def F4 (fuel : Nat) (d0 : List A_a4i8) (d1 : Int) : Option Bool :=
  Option.bind (F7 fuel) fun y1 =>
  bif !y1 then
    (some false)
  else
    (Option.bind (F12 fuel d0) fun y2 =>
    Option.bind (F13 fuel y2) fun y3 =>
    Option.bind (F14 fuel y3.1) fun y4 =>
    Option.bind (
      bif y3.2 != 0 then
        (some true)
      else
        (bif y4.2 != 0 then
          (some true)
        else
          (Option.bind (F11 fuel y4.1 y2) fun y12 =>
          some (!y12)))) fun o1 =>
    bif o1 then
      (some false)
    else
      (ass (decide ((y3.1.length : Int) ≠ 0)) <|
      ass (decide (0 ≤ 0) && decide (0 ≤ (Int.tmod (IntKind.i64.wrap d1) (y3.1.length : Int))) && decide ((Int.tmod (IntKind.i64.wrap d1) (y3.1.length : Int)) ≤ y3.1.length)) <|
      Option.bind (F14 fuel ((y3.1.drop (Int.toNat 0)).take (Int.toNat ((Int.tmod (IntKind.i64.wrap d1) (y3.1.length : Int)) - 0)))) fun y7 =>
      bif y7.2 != 0 then
        (Option.bind (
          bif y7.2 == 5 then
            (some (((y7.1.map e_T_api_Instr).length : Int) == 0))
          else
            (some false)) fun o2 =>
        some o2)
      else
        (Option.bind (F13 fuel y7.1) fun y8 =>
        Option.bind (
          bif y8.2 == 0 then
            (bif y8.1 == ((y3.1.drop (Int.toNat 0)).take (Int.toNat ((Int.tmod (IntKind.i64.wrap d1) (y3.1.length : Int)) - 0))) then
              (bif decide (((y7.1.map e_T_api_Instr).length : Int) < ((y2.map e_T_api_Instr).length : Int)) then
                (Option.bind (slc y2 0 ((y7.1.map e_T_api_Instr).length : Int)) fun l3 =>
                Option.bind (F11 fuel y7.1 l3) fun y11 =>
                some y11)
              else
                (some false))
            else
              (some false))
          else
            (some false)) fun o3 =>
        some o3)))
theorem F4_ok {fuel : Nat} {d0 : List A_a4i8} {d1 : Int} {r : Bool} (hF : F4 fuel d0 d1 = some r) :
    CallF Tryd.prog 4 [.d (.sl 4 (d0.map e_a4i8)), .d (.int .u16 d1)] (.d (.bool r)) := by
  unfold F4 at hF
  refine callF_of (N := 89) (b := bodyOf Tryd.f4) Tryd.func4 (by kernel_rfl) rfl rfl ?_
  obtain ⟨y1, e1, hF⟩ := bnd hF
  refine J_adv 7 (J_callF (xs := []) [] (.d (.bool y1)) (by kernel_rfl) en7 (Res'.refl _) (F7_ok e1) ?_)
  refine J_adv 2 (J_bool 16 (b := !y1) (by kernel_rfl) (fun hb1 => ?_) (fun hb1 => ?_))
  · replace hF := ift hb1 hF
    have hr_ := Option.some.inj hF; subst hr_
    exact J_adv 5 (J_ret (xs := [.d (.bool false)]) [.d (.bool false)] rfl rfl (by kernel_rfl) (Res'.refl _) rfl)
  · replace hF := iff' hb1 hF
    obtain ⟨y2, e2, hF⟩ := bnd hF
    refine J_adv 5 (J_callF (xs := [.d (.sl 4 (d0.map e_a4i8))]) [.d (.sl 4 (d0.map e_a4i8))] (.d (.sl 4 (y2.map e_T_api_Instr))) (by kernel_rfl) en12 (Res'.refl _) (F12_ok e2) ?_)
    obtain ⟨y3, e3, hF⟩ := bnd hF
    refine J_adv 5 (J_callF (xs := [.d (.sl 4 (y2.map e_T_api_Instr))]) [.d (.sl 4 (y2.map e_T_api_Instr))] (.tup [.d (.str y3.1), .d (.int .i64 y3.2)]) (by kernel_rfl) en13 (Res'.refl _) (F13_ok e3) ?_)
    obtain ⟨y4, e4, hF⟩ := bnd hF
    refine J_adv 9 (J_callF (xs := [.d (.str y3.1)]) [.d (.str y3.1)] (.tup [.d (.sl 4 (y4.1.map e_T_api_Instr)), .d (.int .i64 y4.2)]) (by kernel_rfl) en14 (Res'.refl _) (F14_ok e4) ?_)
    obtain ⟨o1, hO, hF⟩ := bnd hF
    have hR1 : J none Tryd.prog 89 [] (finF Tryd.prog Tryd.f4 (.d (.bool r))) ⟨mkT [(1, .d (.int .u16 d1)), (5, .d (.sl 4 (y2.map e_T_api_Instr))), (6, .d (.str y3.1)), (40, .d (.bool o1))], [], [.ops (opsOf (cAt (bodyOf Tryd.f4) [1, 1, 1, 1, 1, 0, 0])) [], .code (cAt (bodyOf Tryd.f4) [1, 1, 1, 1, 1, 0, 1]), .code (cAt (bodyOf Tryd.f4) [1, 1, 1, 1, 1, 1])]⟩ := by
      clear hO
      refine J_adv 1 (J_bool 40 (b := o1) (by kernel_rfl) (fun hb6 => ?_) (fun hb6 => ?_))
      · replace hF := ift hb6 hF
        have hr_ := Option.some.inj hF; subst hr_
        exact J_adv 5 (J_ret (xs := [.d (.bool false)]) [.d (.bool false)] rfl rfl (by kernel_rfl) (Res'.refl _) rfl)
      · replace hF := iff' hb6 hF
        obtain ⟨hb7, hF⟩ := assd hF
        refine J_adv 9 (J_opt1 (o := chk (decide ((y3.1.length : Int) ≠ 0))) [] (by kernel_rfl) (ck hb7) ?_)
        obtain ⟨hb8, hF⟩ := assd hF
        refine J_adv 0 (J_opt1 (o := chk (decide (0 ≤ 0) && decide (0 ≤ (Int.tmod (IntKind.i64.wrap d1) (y3.1.length : Int))) && decide ((Int.tmod (IntKind.i64.wrap d1) (y3.1.length : Int)) ≤ y3.1.length))) [] (by kernel_rfl) (ck hb8) ?_)
        obtain ⟨y7, e7, hF⟩ := bnd hF
        refine J_adv 5 (J_callF (xs := [.d (.str ((y3.1.drop (Int.toNat 0)).take (Int.toNat ((Int.tmod (IntKind.i64.wrap d1) (y3.1.length : Int)) - 0))))]) [.d (.str ((y3.1.drop (Int.toNat 0)).take (Int.toNat ((Int.tmod (IntKind.i64.wrap d1) (y3.1.length : Int)) - 0))))] (.tup [.d (.sl 4 (y7.1.map e_T_api_Instr)), .d (.int .i64 y7.2)]) (by kernel_rfl) en14 (Res'.refl _) (F14_ok e7) ?_)
        refine J_adv 12 (J_bool 54 (b := y7.2 != 0) (by kernel_rfl) (fun hb9 => ?_) (fun hb9 => ?_))
        · replace hF := ift hb9 hF
          obtain ⟨o2, hO, hF⟩ := bnd hF
          have hR2 : J none Tryd.prog 89 [] (finF Tryd.prog Tryd.f4 (.d (.bool r))) ⟨mkT [(4, .d (.bool o2))], [], [.ops (opsOf (cAt (bodyOf Tryd.f4) [1, 1, 1, 1, 1, 1, 1, 1, 0, 1, 0, 0])) [], .code (cAt (bodyOf Tryd.f4) [1, 1, 1, 1, 1, 1, 1, 1, 0, 1, 0, 1]), .code (cAt (bodyOf Tryd.f4) [1, 1, 1, 1, 1, 1, 1, 1, 1])]⟩ := by
            clear hO
            have hr_ := Option.some.inj hF; subst hr_
            exact J_adv 1 (J_ret (xs := [.d (.bool o2)]) [.d (.bool o2)] rfl rfl (by kernel_rfl) (Res'.refl _) rfl)
          clear hF; rename _ = some o2 => hF
          refine J_adv 6 (J_bool 57 (b := y7.2 == 5) (by kernel_rfl) (fun hb12 => ?_) (fun hb12 => ?_))
          · replace hF := ift hb12 hF
            have hr_ := Option.some.inj hF; subst hr_
            exact J_adv 5 (J_at [4] [] (T0 := [.ops (opsOf (cAt (bodyOf Tryd.f4) [1, 1, 1, 1, 1, 1, 1, 1, 0, 1, 0, 0])) [], .code (cAt (bodyOf Tryd.f4) [1, 1, 1, 1, 1, 1, 1, 1, 0, 1, 0, 1]), .code (cAt (bodyOf Tryd.f4) [1, 1, 1, 1, 1, 1, 1, 1, 1])]) (by kernel_rfl) rfl hR2)
          · replace hF := iff' hb12 hF
            have hr_ := Option.some.inj hF; subst hr_
            exact J_adv 5 (J_at [4] [] (T0 := [.ops (opsOf (cAt (bodyOf Tryd.f4) [1, 1, 1, 1, 1, 1, 1, 1, 0, 1, 0, 0])) [], .code (cAt (bodyOf Tryd.f4) [1, 1, 1, 1, 1, 1, 1, 1, 0, 1, 0, 1]), .code (cAt (bodyOf Tryd.f4) [1, 1, 1, 1, 1, 1, 1, 1, 1])]) (by kernel_rfl) rfl hR2)
        · replace hF := iff' hb9 hF
          obtain ⟨y8, e8, hF⟩ := bnd hF
          refine J_adv 5 (J_callF (xs := [.d (.sl 4 (y7.1.map e_T_api_Instr))]) [.d (.sl 4 (y7.1.map e_T_api_Instr))] (.tup [.d (.str y8.1), .d (.int .i64 y8.2)]) (by kernel_rfl) en13 (Res'.refl _) (F13_ok e8) ?_)
          obtain ⟨o3, hO, hF⟩ := bnd hF
          have hR3 : J none Tryd.prog 89 [] (finF Tryd.prog Tryd.f4 (.d (.bool r))) ⟨mkT [(4, .d (.bool o3))], [], [.ops (opsOf (cAt (bodyOf Tryd.f4) [1, 1, 1, 1, 1, 1, 1, 1, 1, 1, 0])) [], .code (cAt (bodyOf Tryd.f4) [1, 1, 1, 1, 1, 1, 1, 1, 1, 1, 1])]⟩ := by
            clear hO
            have hr_ := Option.some.inj hF; subst hr_
            exact J_adv 1 (J_ret (xs := [.d (.bool o3)]) [.d (.bool o3)] rfl rfl (by kernel_rfl) (Res'.refl _) rfl)
          clear hF; rename _ = some o3 => hF
          refine J_adv 11 (J_bool 69 (b := y8.2 == 0) (by kernel_rfl) (fun hb19 => ?_) (fun hb19 => ?_))
          · replace hF := ift hb19 hF
            refine J_adv 5 (J_bool 74 (b := y8.1 == ((y3.1.drop (Int.toNat 0)).take (Int.toNat ((Int.tmod (IntKind.i64.wrap d1) (y3.1.length : Int)) - 0)))) (by kernel_rfl) (fun hb20 => ?_) (fun hb20 => ?_))
            · replace hF := ift hb20 hF
              refine J_adv 7 (J_bool 81 (b := decide (((y7.1.map e_T_api_Instr).length : Int) < ((y2.map e_T_api_Instr).length : Int))) (by kernel_rfl) (fun hb21 => ?_) (fun hb21 => ?_))
              · replace hF := ift hb21 hF
                obtain ⟨l3, e13, hF⟩ := bnd hF
                refine J_adv 4 (J_opt2 (o := slc (y2.map e_T_api_Instr) 0 ((y7.1.map e_T_api_Instr).length : Int)) (l3.map e_T_api_Instr) (by kernel_rfl) (sm e13) ?_)
                obtain ⟨y11, e14, hF⟩ := bnd hF
                refine J_adv 0 (J_callF (xs := [.d (.sl 4 (y7.1.map e_T_api_Instr)), .d (.sl 4 (l3.map e_T_api_Instr))]) [.d (.sl 4 (y7.1.map e_T_api_Instr)), .d (.sl 4 (l3.map e_T_api_Instr))] (.d (.bool y11)) (by kernel_rfl) en11 (Res'.refl _) (F11_ok e14) ?_)
                have hr_ := Option.some.inj hF; subst hr_
                exact J_adv 2 (J_at [4] [] (T0 := [.ops (opsOf (cAt (bodyOf Tryd.f4) [1, 1, 1, 1, 1, 1, 1, 1, 1, 1, 0])) [], .code (cAt (bodyOf Tryd.f4) [1, 1, 1, 1, 1, 1, 1, 1, 1, 1, 1])]) (by kernel_rfl) rfl hR3)
              · replace hF := iff' hb21 hF
                have hr_ := Option.some.inj hF; subst hr_
                exact J_adv 8 (J_at [4] [] (T0 := [.ops (opsOf (cAt (bodyOf Tryd.f4) [1, 1, 1, 1, 1, 1, 1, 1, 1, 1, 0])) [], .code (cAt (bodyOf Tryd.f4) [1, 1, 1, 1, 1, 1, 1, 1, 1, 1, 1])]) (by kernel_rfl) rfl hR3)
            · replace hF := iff' hb20 hF
              have hr_ := Option.some.inj hF; subst hr_
              exact J_adv 15 (J_at [4] [] (T0 := [.ops (opsOf (cAt (bodyOf Tryd.f4) [1, 1, 1, 1, 1, 1, 1, 1, 1, 1, 0])) [], .code (cAt (bodyOf Tryd.f4) [1, 1, 1, 1, 1, 1, 1, 1, 1, 1, 1])]) (by kernel_rfl) rfl hR3)
          · replace hF := iff' hb19 hF
            have hr_ := Option.some.inj hF; subst hr_
            exact J_adv 20 (J_at [4] [] (T0 := [.ops (opsOf (cAt (bodyOf Tryd.f4) [1, 1, 1, 1, 1, 1, 1, 1, 1, 1, 0])) [], .code (cAt (bodyOf Tryd.f4) [1, 1, 1, 1, 1, 1, 1, 1, 1, 1, 1])]) (by kernel_rfl) rfl hR3)
    clear hF; rename _ = some o1 => hF
    refine J_adv 12 (J_bool 31 (b := y3.2 != 0) (by kernel_rfl) (fun hb22 => ?_) (fun hb22 => ?_))
    · replace hF := ift hb22 hF
      have hr_ := Option.some.inj hF; subst hr_
      exact J_adv 9 (J_at [1, 5, 6, 40] [] (T0 := [.ops (opsOf (cAt (bodyOf Tryd.f4) [1, 1, 1, 1, 1, 0, 0])) [], .code (cAt (bodyOf Tryd.f4) [1, 1, 1, 1, 1, 0, 1]), .code (cAt (bodyOf Tryd.f4) [1, 1, 1, 1, 1, 1])]) (by kernel_rfl) rfl hR1)
    · replace hF := iff' hb22 hF
      refine J_adv 4 (J_bool 35 (b := y4.2 != 0) (by kernel_rfl) (fun hb23 => ?_) (fun hb23 => ?_))
      · replace hF := ift hb23 hF
        have hr_ := Option.some.inj hF; subst hr_
        exact J_adv 5 (J_at [1, 5, 6, 40] [] (T0 := [.ops (opsOf (cAt (bodyOf Tryd.f4) [1, 1, 1, 1, 1, 0, 0])) [], .code (cAt (bodyOf Tryd.f4) [1, 1, 1, 1, 1, 0, 1]), .code (cAt (bodyOf Tryd.f4) [1, 1, 1, 1, 1, 1])]) (by kernel_rfl) rfl hR1)
      · replace hF := iff' hb23 hF
        obtain ⟨y12, e15, hF⟩ := bnd hF
        refine J_adv 2 (J_callF (xs := [.d (.sl 4 (y4.1.map e_T_api_Instr)), .d (.sl 4 (y2.map e_T_api_Instr))]) [.d (.sl 4 (y4.1.map e_T_api_Instr)), .d (.sl 4 (y2.map e_T_api_Instr))] (.d (.bool y12)) (by kernel_rfl) en11 (Res'.refl _) (F11_ok e15) ?_)
        have hr_ := Option.some.inj hF; subst hr_
        exact J_adv 2 (J_at [1, 5, 6, 40] [] (T0 := [.ops (opsOf (cAt (bodyOf Tryd.f4) [1, 1, 1, 1, 1, 0, 0])) [], .code (cAt (bodyOf Tryd.f4) [1, 1, 1, 1, 1, 0, 1]), .code (cAt (bodyOf Tryd.f4) [1, 1, 1, 1, 1, 1])]) (by kernel_rfl) rfl hR1)

end Go.Proofs.YtilfjfpemjfalaaDoor
