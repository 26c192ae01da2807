import Derived.Test.YtilfjfpemjfalaaDoorFWa
import Derived.KernelRfl
set_option linter.unusedVariables false
set_option maxRecDepth 100000
namespace Go.Proofs.YtilfjfpemjfalaaDoor
open Go Go.RowKit Kx

theorem en18 : entersT Tryd.prog 18 := Kx.enters_of Tryd.func18 (by kernel_rfl) (by kernel_rfl)

/- croupier/code.Check -/
def F18 (fuel : Nat) (d0 : List T_api_Instr) : Option Int :=
  Option.bind (F24 fuel d0) fun y1 =>
  bif !y1 then
    (some 310)
  else
    (some 0)
theorem F18_ok {fuel : Nat} {d0 : List T_api_Instr} {r : Int} (hF : F18 fuel d0 = some r) :
    CallF Tryd.prog 18 [.d (.sl 4 (d0.map e_T_api_Instr))] (.d (.int .i64 r)) := by
  unfold F18 at hF
  refine callF_of (N := 6) (b := bodyOf Tryd.f18) Tryd.func18 (by kernel_rfl) rfl rfl ?_
  obtain ⟨y1, e1, hF⟩ := bnd hF
  refine J_adv 8 (J_callF (xs := [.d (.sl 4 (d0.map e_T_api_Instr))]) [.d (.sl 4 (d0.map e_T_api_Instr))] (.d (.bool y1)) (by kernel_rfl) en24 (Res'.refl _) (F24_ok e1) ?_)
  refine J_adv 2 (J_bool 5 (b := !y1) (by kernel_rfl) (fun hb1 => ?_) (fun hb1 => ?_))
  · replace hF := ift hb1 hF
    have hr_ := Option.some.inj hF; subst hr_
    exact J_adv 5 (J_ret (xs := [.d (.int .i64 310)]) [.d (.int .i64 310)] rfl rfl (by kernel_rfl) (Res'.refl _) rfl)
  · replace hF := iff' hb1 hF
    have hr_ := Option.some.inj hF; subst hr_
    exact J_adv 6 (J_ret (xs := [.d (.int .i64 0)]) [.d (.int .i64 0)] rfl rfl (by kernel_rfl) (Res'.refl _) rfl)

/- croupier/croupierlaw31.CodeTrims -/
def F6 (fuel : Nat) (d0 : List A_a4i8) (d1 : A_a4i8) : Option Bool :=
  Option.bind (F7 fuel) fun y1 =>
  bif !y1 then
    (some false)
  else
    (Option.bind (F12 fuel d0) fun y2 =>
    Option.bind (F17 fuel y2) fun y3 =>
    Option.bind (F17 fuel y3.1) fun y4 =>
    Option.bind (F15 fuel y2 [Int.tmod (IntKind.i64.wrap d1.a0) 100, Int.tmod (IntKind.i64.wrap d1.a1) 100, Int.tmod (IntKind.i64.wrap d1.a2) 100, Int.tmod (IntKind.i64.wrap d1.a3) 100]) fun y5 =>
    Option.bind (F15 fuel y3.1 [Int.tmod (IntKind.i64.wrap d1.a0) 100, Int.tmod (IntKind.i64.wrap d1.a1) 100, Int.tmod (IntKind.i64.wrap d1.a2) 100, Int.tmod (IntKind.i64.wrap d1.a3) 100]) fun y6 =>
    Option.bind (
      bif y3.2 == 0 then
        (bif y4.2 == 0 then
          (bif y5.2.2 == 0 then
            (some (y6.2.2 == 0))
          else
            (some false))
        else
          (some false))
      else
        (some false)) fun o1 =>
    Option.bind (
      bif o1 then
        (Option.bind (F18 fuel y3.1) fun y11 =>
        bif y11 == 0 then
          (bif decide (((y3.1.map e_T_api_Instr).length : Int) ≤ ((y2.map e_T_api_Instr).length : Int)) then
            (Option.bind (F11 fuel y3.1 y4.1) fun y12 =>
            bif y12 then
              (bif y5.1 == y6.1 then
                (bif y5.2.1 == y6.2.1 then
                  (some (decide (y5.2.1 ≤ ((y3.1.map e_T_api_Instr).length : Int))))
                else
                  (some false))
              else
                (some false))
            else
              (some false))
          else
            (some false))
        else
          (some false))
      else
        (some false)) fun o2 =>
    some o2)
theorem F6_ok {fuel : Nat} {d0 : List A_a4i8} {d1 : A_a4i8} {r : Bool} (hF : F6 fuel d0 d1 = some r) :
    CallF Tryd.prog 6 [.d (.sl 4 (d0.map e_a4i8)), .agg [.d (.int .i8 d1.a0), .d (.int .i8 d1.a1), .d (.int .i8 d1.a2), .d (.int .i8 d1.a3)]] (.d (.bool r)) := by
  unfold F6 at hF
  refine callF_of (N := 111) (b := bodyOf Tryd.f6) Tryd.func6 (by kernel_rfl) rfl rfl ?_
  obtain ⟨y1, e1, hF⟩ := bnd hF
  refine J_adv 8 (J_callF (xs := []) [] (.d (.bool y1)) (by kernel_rfl) en7 (Res'.refl _) (F7_ok e1) ?_)
  refine J_adv 2 (J_bool 19 (b := !y1) (by kernel_rfl) (fun hb1 => ?_) (fun hb1 => ?_))
  · replace hF := ift hb1 hF
    have hr_ := Option.some.inj hF; subst hr_
    exact J_adv 5 (J_ret (xs := [.d (.bool false)]) [.d (.bool false)] rfl rfl (by kernel_rfl) (Res'.refl _) rfl)
  · replace hF := iff' hb1 hF
    obtain ⟨y2, e2, hF⟩ := bnd hF
    refine J_adv 5 (J_callF (xs := [.d (.sl 4 (d0.map e_a4i8))]) [.d (.sl 4 (d0.map e_a4i8))] (.d (.sl 4 (y2.map e_T_api_Instr))) (by kernel_rfl) en12 (Res'.refl _) (F12_ok e2) ?_)
    obtain ⟨y3, e3, hF⟩ := bnd hF
    refine J_adv 26 (J_callF (xs := [.d (.sl 4 (y2.map e_T_api_Instr))]) [.d (.sl 4 (y2.map e_T_api_Instr))] (.tup [.d (.sl 4 (y3.1.map e_T_api_Instr)), .d (.int .i64 y3.2)]) (by kernel_rfl) en17 (Res'.refl _) (F17_ok e3) ?_)
    obtain ⟨y4, e4, hF⟩ := bnd hF
    refine J_adv 9 (J_callF (xs := [.d (.sl 4 (y3.1.map e_T_api_Instr))]) [.d (.sl 4 (y3.1.map e_T_api_Instr))] (.tup [.d (.sl 4 (y4.1.map e_T_api_Instr)), .d (.int .i64 y4.2)]) (by kernel_rfl) en17 (Res'.refl _) (F17_ok e4) ?_)
    obtain ⟨y5, e5, hF⟩ := bnd hF
    refine J_adv 10 (J_callF (xs := [.d (.sl 4 (y2.map e_T_api_Instr)), .d (.sl 1 ([Int.tmod (IntKind.i64.wrap d1.a0) 100, Int.tmod (IntKind.i64.wrap d1.a1) 100, Int.tmod (IntKind.i64.wrap d1.a2) 100, Int.tmod (IntKind.i64.wrap d1.a3) 100].map e_i64))]) [.d (.sl 4 (y2.map e_T_api_Instr)), .d (.sl 1 ([Int.tmod (IntKind.i64.wrap d1.a0) 100, Int.tmod (IntKind.i64.wrap d1.a1) 100, Int.tmod (IntKind.i64.wrap d1.a2) 100, Int.tmod (IntKind.i64.wrap d1.a3) 100].map e_i64))] (.tup [.d (.int .i64 y5.1), .d (.int .i64 y5.2.1), .d (.int .i64 y5.2.2)]) (by kernel_rfl) en15 (Res'.refl _) (F15_ok e5) ?_)
    obtain ⟨y6, e6, hF⟩ := bnd hF
    refine J_adv 12 (J_callF (xs := [.d (.sl 4 (y3.1.map e_T_api_Instr)), .d (.sl 1 ([Int.tmod (IntKind.i64.wrap d1.a0) 100, Int.tmod (IntKind.i64.wrap d1.a1) 100, Int.tmod (IntKind.i64.wrap d1.a2) 100, Int.tmod (IntKind.i64.wrap d1.a3) 100].map e_i64))]) [.d (.sl 4 (y3.1.map e_T_api_Instr)), .d (.sl 1 ([Int.tmod (IntKind.i64.wrap d1.a0) 100, Int.tmod (IntKind.i64.wrap d1.a1) 100, Int.tmod (IntKind.i64.wrap d1.a2) 100, Int.tmod (IntKind.i64.wrap d1.a3) 100].map e_i64))] (.tup [.d (.int .i64 y6.1), .d (.int .i64 y6.2.1), .d (.int .i64 y6.2.2)]) (by kernel_rfl) en15 (Res'.refl _) (F15_ok e6) ?_)
    obtain ⟨o1, hO, hF⟩ := bnd hF
    have hR1 : J none Tryd.prog 111 [] (finF Tryd.prog Tryd.f6 (.d (.bool r))) ⟨mkT [(5, .d (.sl 4 (y2.map e_T_api_Instr))), (7, .d (.sl 4 (y3.1.map e_T_api_Instr))), (9, .d (.sl 4 (y4.1.map e_T_api_Instr))), (11, .d (.int .i64 y5.1)), (12, .d (.int .i64 y5.2.1)), (14, .d (.int .i64 y6.1)), (15, .d (.int .i64 y6.2.1)), (17, .d (.bool o1))], [], [.ops (opsOf (cAt (bodyOf Tryd.f6) [1, 1, 1, 1, 1, 1, 1, 1, 0])) [], .code (cAt (bodyOf Tryd.f6) [1, 1, 1, 1, 1, 1, 1, 1, 1])]⟩ := by
      clear hO
      obtain ⟨o2, hO, hF⟩ := bnd hF
      have hR2 : J none Tryd.prog 111 [] (finF Tryd.prog Tryd.f6 (.d (.bool r))) ⟨mkT [(4, .d (.bool o2))], [], [.ops (opsOf (cAt (bodyOf Tryd.f6) [1, 1, 1, 1, 1, 1, 1, 1, 1, 0])) [], .code (cAt (bodyOf Tryd.f6) [1, 1, 1, 1, 1, 1, 1, 1, 1, 1])]⟩ := by
        clear hO
        have hr_ := Option.some.inj hF; subst hr_
        exact J_adv 1 (J_ret (xs := [.d (.bool o2)]) [.d (.bool o2)] rfl rfl (by kernel_rfl) (Res'.refl _) rfl)
      clear hF; rename _ = some o2 => hF
      refine J_adv 5 (J_bool 78 (b := o1) (by kernel_rfl) (fun hb20 => ?_) (fun hb20 => ?_))
      · replace hF := ift hb20 hF
        obtain ⟨y11, e11, hF⟩ := bnd hF
        refine J_adv 1 (J_callF (xs := [.d (.sl 4 (y3.1.map e_T_api_Instr))]) [.d (.sl 4 (y3.1.map e_T_api_Instr))] (.d (.int .i64 y11)) (by kernel_rfl) en18 (Res'.refl _) (F18_ok e11) ?_)
        refine J_adv 3 (J_bool 83 (b := y11 == 0) (by kernel_rfl) (fun hb21 => ?_) (fun hb21 => ?_))
        · replace hF := ift hb21 hF
          refine J_adv 7 (J_bool 90 (b := decide (((y3.1.map e_T_api_Instr).length : Int) ≤ ((y2.map e_T_api_Instr).length : Int))) (by kernel_rfl) (fun hb22 => ?_) (fun hb22 => ?_))
          · replace hF := ift hb22 hF
            obtain ⟨y12, e12, hF⟩ := bnd hF
            refine J_adv 2 (J_callF (xs := [.d (.sl 4 (y3.1.map e_T_api_Instr)), .d (.sl 4 (y4.1.map e_T_api_Instr))]) [.d (.sl 4 (y3.1.map e_T_api_Instr)), .d (.sl 4 (y4.1.map e_T_api_Instr))] (.d (.bool y12)) (by kernel_rfl) en11 (Res'.refl _) (F11_ok e12) ?_)
            refine J_adv 2 (J_bool 95 (b := y12) (by kernel_rfl) (fun hb23 => ?_) (fun hb23 => ?_))
            · replace hF := ift hb23 hF
              refine J_adv 5 (J_bool 100 (b := y5.1 == y6.1) (by kernel_rfl) (fun hb24 => ?_) (fun hb24 => ?_))
              · replace hF := ift hb24 hF
                refine J_adv 5 (J_bool 105 (b := y5.2.1 == y6.2.1) (by kernel_rfl) (fun hb25 => ?_) (fun hb25 => ?_))
                · replace hF := ift hb25 hF
                  have hr_ := Option.some.inj hF; subst hr_
                  exact J_adv 6 (J_at [4] [] (T0 := [.ops (opsOf (cAt (bodyOf Tryd.f6) [1, 1, 1, 1, 1, 1, 1, 1, 1, 0])) [], .code (cAt (bodyOf Tryd.f6) [1, 1, 1, 1, 1, 1, 1, 1, 1, 1])]) (by kernel_rfl) rfl hR2)
                · replace hF := iff' hb25 hF
                  have hr_ := Option.some.inj hF; subst hr_
                  exact J_adv 6 (J_at [4] [] (T0 := [.ops (opsOf (cAt (bodyOf Tryd.f6) [1, 1, 1, 1, 1, 1, 1, 1, 1, 0])) [], .code (cAt (bodyOf Tryd.f6) [1, 1, 1, 1, 1, 1, 1, 1, 1, 1])]) (by kernel_rfl) rfl hR2)
              · replace hF := iff' hb24 hF
                have hr_ := Option.some.inj hF; subst hr_
                exact J_adv 11 (J_at [4] [] (T0 := [.ops (opsOf (cAt (bodyOf Tryd.f6) [1, 1, 1, 1, 1, 1, 1, 1, 1, 0])) [], .code (cAt (bodyOf Tryd.f6) [1, 1, 1, 1, 1, 1, 1, 1, 1, 1])]) (by kernel_rfl) rfl hR2)
            · replace hF := iff' hb23 hF
              have hr_ := Option.some.inj hF; subst hr_
              exact J_adv 16 (J_at [4] [] (T0 := [.ops (opsOf (cAt (bodyOf Tryd.f6) [1, 1, 1, 1, 1, 1, 1, 1, 1, 0])) [], .code (cAt (bodyOf Tryd.f6) [1, 1, 1, 1, 1, 1, 1, 1, 1, 1])]) (by kernel_rfl) rfl hR2)
          · replace hF := iff' hb22 hF
            have hr_ := Option.some.inj hF; subst hr_
            exact J_adv 21 (J_at [4] [] (T0 := [.ops (opsOf (cAt (bodyOf Tryd.f6) [1, 1, 1, 1, 1, 1, 1, 1, 1, 0])) [], .code (cAt (bodyOf Tryd.f6) [1, 1, 1, 1, 1, 1, 1, 1, 1, 1])]) (by kernel_rfl) rfl hR2)
        · replace hF := iff' hb21 hF
          have hr_ := Option.some.inj hF; subst hr_
          exact J_adv 28 (J_at [4] [] (T0 := [.ops (opsOf (cAt (bodyOf Tryd.f6) [1, 1, 1, 1, 1, 1, 1, 1, 1, 0])) [], .code (cAt (bodyOf Tryd.f6) [1, 1, 1, 1, 1, 1, 1, 1, 1, 1])]) (by kernel_rfl) rfl hR2)
      · replace hF := iff' hb20 hF
        have hr_ := Option.some.inj hF; subst hr_
        exact J_adv 33 (J_at [4] [] (T0 := [.ops (opsOf (cAt (bodyOf Tryd.f6) [1, 1, 1, 1, 1, 1, 1, 1, 1, 0])) [], .code (cAt (bodyOf Tryd.f6) [1, 1, 1, 1, 1, 1, 1, 1, 1, 1])]) (by kernel_rfl) rfl hR2)
    clear hF; rename _ = some o1 => hF
    refine J_adv 13 (J_bool 65 (b := y3.2 == 0) (by kernel_rfl) (fun hb26 => ?_) (fun hb26 => ?_))
    · replace hF := ift hb26 hF
      refine J_adv 4 (J_bool 69 (b := y4.2 == 0) (by kernel_rfl) (fun hb27 => ?_) (fun hb27 => ?_))
      · replace hF := ift hb27 hF
        refine J_adv 4 (J_bool 73 (b := y5.2.2 == 0) (by kernel_rfl) (fun hb28 => ?_) (fun hb28 => ?_))
        · replace hF := ift hb28 hF
          have hr_ := Option.some.inj hF; subst hr_
          exact J_adv 4 (J_at [5, 7, 9, 11, 12, 14, 15, 17] [] (T0 := [.ops (opsOf (cAt (bodyOf Tryd.f6) [1, 1, 1, 1, 1, 1, 1, 1, 0])) [], .code (cAt (bodyOf Tryd.f6) [1, 1, 1, 1, 1, 1, 1, 1, 1])]) (by kernel_rfl) rfl hR1)
        · replace hF := iff' hb28 hF
          have hr_ := Option.some.inj hF; subst hr_
          exact J_adv 4 (J_at [5, 7, 9, 11, 12, 14, 15, 17] [] (T0 := [.ops (opsOf (cAt (bodyOf Tryd.f6) [1, 1, 1, 1, 1, 1, 1, 1, 0])) [], .code (cAt (bodyOf Tryd.f6) [1, 1, 1, 1, 1, 1, 1, 1, 1])]) (by kernel_rfl) rfl hR1)
      · replace hF := iff' hb27 hF
        have hr_ := Option.some.inj hF; subst hr_
        exact J_adv 8 (J_at [5, 7, 9, 11, 12, 14, 15, 17] [] (T0 := [.ops (opsOf (cAt (bodyOf Tryd.f6) [1, 1, 1, 1, 1, 1, 1, 1, 0])) [], .code (cAt (bodyOf Tryd.f6) [1, 1, 1, 1, 1, 1, 1, 1, 1])]) (by kernel_rfl) rfl hR1)
    · replace hF := iff' hb26 hF
      have hr_ := Option.some.inj hF; subst hr_
      exact J_adv 12 (J_at [5, 7, 9, 11, 12, 14, 15, 17] [] (T0 := [.ops (opsOf (cAt (bodyOf Tryd.f6) [1, 1, 1, 1, 1, 1, 1, 1, 0])) [], .code (cAt (bodyOf Tryd.f6) [1, 1, 1, 1, 1, 1, 1, 1, 1])]) (by kernel_rfl) rfl hR1)

end Go.Proofs.YtilfjfpemjfalaaDoor
