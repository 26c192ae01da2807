import Derived.Test.YtljkgnjmigmcgaaFCop
import Derived.KernelRfl
set_option linter.unusedVariables false
set_option maxRecDepth 100000
namespace Go.Proofs.Ytljkgnjmigmcgaa
open Go Go.RowKit Kx



/- croupier/croupierlaw30.RulesOrder -/
def F6 (fuel : Nat) (d0 : T_croupierref30_Draft) (d1 : Int) : Option Bool :=
  Option.bind (F11 fuel) fun y1 =>
  bif !y1 then
    (some false)
  else
    (Option.bind (F12 fuel d0) fun y2 =>
    Option.bind (F19 fuel y2.1 y2.2) fun y3 =>
    ass (decide (((y2.1.map e_li64).length : Int) ≠ 0)) <|
    Option.bind (slc y2.1 (Int.tmod (IntKind.i64.wrap d1) ((y2.1.map e_li64).length : Int)) (y2.1.length : Int)) fun l1 =>
    Option.bind (app [] l1) fun l2 =>
    Option.bind (slc y2.1 0 (Int.tmod (IntKind.i64.wrap d1) ((y2.1.map e_li64).length : Int))) fun l3 =>
    Option.bind (app l2 l3) fun l4 =>
    Option.bind (slc y2.2 (Int.tmod (IntKind.i64.wrap d1) ((y2.1.map e_li64).length : Int)) (y2.2.length : Int)) fun l5 =>
    Option.bind (app [] l5) fun l6 =>
    Option.bind (slc y2.2 0 (Int.tmod (IntKind.i64.wrap d1) ((y2.1.map e_li64).length : Int))) fun l7 =>
    Option.bind (app l6 l7) fun l8 =>
    Option.bind (F19 fuel l4 l8) fun y4 =>
    Option.bind (
      bif y3.2 != y4.2 then
        (some true)
      else
        (some (((y3.1.List.map e_T_api_Rule).length : Int) != ((y4.1.List.map e_T_api_Rule).length : Int)))) fun o1 =>
    bif o1 then
      (some false)
    else
      (Option.bind (
        bif ((y2.1.map e_li64).length : Int) == 1 then
          (some true)
        else
          (some (y3.2 != 0))) fun o2 =>
      bif o2 then
        (Option.bind (
          bif y3.2 == 0 then
            (some true)
          else
            (some (y3.2 == 4))) fun o3 =>
        some o3)
      else
        (Option.bind (slc y2.1 0 (Int.tmod (IntKind.i64.wrap d1) ((y2.1.map e_li64).length : Int))) fun l9 =>
        Option.bind (app [] l9) fun l10 =>
        Option.bind (slc y2.1 (IntKind.i64.wrap ((Int.tmod (IntKind.i64.wrap d1) ((y2.1.map e_li64).length : Int)) + 1)) (y2.1.length : Int)) fun l11 =>
        Option.bind (app l10 l11) fun l12 =>
        Option.bind (slc y2.2 0 (Int.tmod (IntKind.i64.wrap d1) ((y2.1.map e_li64).length : Int))) fun l13 =>
        Option.bind (app [] l13) fun l14 =>
        Option.bind (slc y2.2 (IntKind.i64.wrap ((Int.tmod (IntKind.i64.wrap d1) ((y2.1.map e_li64).length : Int)) + 1)) (y2.2.length : Int)) fun l15 =>
        Option.bind (app l14 l15) fun l16 =>
        Option.bind (F19 fuel l12 l16) fun y5 =>
        Option.bind (
          bif y5.2 == 0 then
            (some (decide (((y5.1.List.map e_T_api_Rule).length : Int) ≤ ((y3.1.List.map e_T_api_Rule).length : Int))))
          else
            (some false)) fun o4 =>
        some o4)))
theorem F6_ok {fuel : Nat} {d0 : T_croupierref30_Draft} {d1 : Int} {r : Bool} (hF : F6 fuel d0 d1 = some r) :
    CallF Try.prog 6 [.agg [.d (.int .u8 d0.Wide), .d (.sl 4 (d0.Rows.map e_a4i8)), .d (.sl 1 (d0.C.map e_u8)), .d (.bool d0.Few)], .d (.int .u8 d1)] (.d (.bool r)) := by
  unfold F6 at hF
  refine callF_of (N := 114) (b := bodyOf Try.f6) Try.func6 (by kernel_rfl) rfl rfl ?_
  obtain ⟨y1, e1, hF⟩ := bnd hF
  refine J_adv 8 (J_callF (xs := []) [] (.d (.bool y1)) (by kernel_rfl) en11 (Res'.refl _) (F11_ok e1) ?_)
  refine J_adv 2 (J_bool 15 (b := !y1) (by kernel_rfl) (fun hb1 => ?_) (fun hb1 => ?_))
  · replace hF := ift hb1 hF
    have hr_ := Option.some.inj hF; subst hr_
    exact J_adv 5 (J_ret (xs := [.d (.bool false)]) [.d (.bool false)] rfl rfl (by kernel_rfl) (Res'.refl _) rfl)
  · replace hF := iff' hb1 hF
    obtain ⟨y2, e2, hF⟩ := bnd hF
    refine J_adv 5 (J_callF (xs := [.agg [.d (.int .u8 d0.Wide), .d (.sl 4 (d0.Rows.map e_a4i8)), .d (.sl 1 (d0.C.map e_u8)), .d (.bool d0.Few)]]) [.agg [.d (.int .u8 d0.Wide), .d (.sl 4 (d0.Rows.map e_a4i8)), .d (.sl 1 (d0.C.map e_u8)), .d (.bool d0.Few)]] (.tup [.d (.sl 1 (y2.1.map e_li64)), .d (.sl 1 (y2.2.map e_i64))]) (by kernel_rfl) en12 (Res'.refl _) (F12_ok e2) ?_)
    obtain ⟨y3, e3, hF⟩ := bnd hF
    refine J_adv 10 (J_callF (xs := [.d (.sl 1 (y2.1.map e_li64)), .d (.sl 1 (y2.2.map e_i64))]) [.d (.sl 1 (y2.1.map e_li64)), .d (.sl 1 (y2.2.map e_i64))] (.tup [.agg [.d (.sl 4 (y3.1.List.map e_T_api_Rule)), .d (.int .i64 y3.1.Else)], .d (.int .i64 y3.2)]) (by kernel_rfl) en19 (Res'.refl _) (F19_ok e3) ?_)
    obtain ⟨hb2, hF⟩ := assd hF
    refine J_adv 13 (J_opt1 (o := chk (decide (((y2.1.map e_li64).length : Int) ≠ 0))) [] (by kernel_rfl) (ck hb2) ?_)
    refine J_adv 3 (J_draw (by kernel_rfl) (by kernel_rfl) ?_)
    obtain ⟨l1, e4, hF⟩ := bnd hF
    refine JD_adv 3 (JD_opt2 (o := slc (y2.1.map e_li64) (Int.tmod (IntKind.i64.wrap d1) ((y2.1.map e_li64).length : Int)) ((y2.1.map e_li64).length : Int)) (l1.map e_li64) (by kernel_rfl) (by kernel_rfl) (smh e4) ?_)
    obtain ⟨l2, e5, hF⟩ := bnd hF
    refine JD_adv 0 (JD_opt2 (o := app2 [] (l1.map e_li64)) (l2.map e_li64) (by kernel_rfl) (by kernel_rfl) (am e5) ?_)
    obtain ⟨l3, e6, hF⟩ := bnd hF
    refine JD_adv 2 (JD_opt2 (o := slc (y2.1.map e_li64) 0 (Int.tmod (IntKind.i64.wrap d1) ((y2.1.map e_li64).length : Int))) (l3.map e_li64) (by kernel_rfl) (by kernel_rfl) (sm e6) ?_)
    obtain ⟨l4, e7, hF⟩ := bnd hF
    refine JD_adv 0 (JD_opt2 (o := app2 ((l2.map e_li64).drop 0) (l3.map e_li64)) (l4.map e_li64) (by kernel_rfl) (by kernel_rfl) (am e7) ?_)
    obtain ⟨l5, e8, hF⟩ := bnd hF
    refine JD_adv 3 (JD_opt2 (o := slc (y2.2.map e_i64) (Int.tmod (IntKind.i64.wrap d1) ((y2.1.map e_li64).length : Int)) ((y2.2.map e_i64).length : Int)) (l5.map e_i64) (by kernel_rfl) (by kernel_rfl) (smh e8) ?_)
    obtain ⟨l6, e9, hF⟩ := bnd hF
    refine JD_adv 0 (JD_opt2 (o := app2 [] (l5.map e_i64)) (l6.map e_i64) (by kernel_rfl) (by kernel_rfl) (am e9) ?_)
    obtain ⟨l7, e10, hF⟩ := bnd hF
    refine JD_adv 2 (JD_opt2 (o := slc (y2.2.map e_i64) 0 (Int.tmod (IntKind.i64.wrap d1) ((y2.1.map e_li64).length : Int))) (l7.map e_i64) (by kernel_rfl) (by kernel_rfl) (sm e10) ?_)
    obtain ⟨l8, e11, hF⟩ := bnd hF
    refine JD_adv 0 (JD_opt2 (o := app2 ((l6.map e_i64).drop 0) (l7.map e_i64)) (l8.map e_i64) (by kernel_rfl) (by kernel_rfl) (am e11) ?_)
    obtain ⟨y4, e12, hF⟩ := bnd hF
    refine JD_adv 0 (JD_callF (xs := [.d (.sl 1 (l4.map e_li64)), .d (.sl 1 (l8.map e_i64))]) [.d (.sl 1 (l4.map e_li64)), .d (.sl 1 (l8.map e_i64))] (.tup [.agg [.d (.sl 4 (y4.1.List.map e_T_api_Rule)), .d (.int .i64 y4.1.Else)], .d (.int .i64 y4.2)]) (by kernel_rfl) (by kernel_rfl) en19 (Res'.refl _) (F19_ok e12) ?_)
    refine JD_adv 6 (JD_end (by kernel_rfl) ?_)
    obtain ⟨o1, hO, hF⟩ := bnd hF
    have hR1 : J none Try.prog 114 [] (finF Try.prog Try.f6 (.d (.bool r))) ⟨mkT [(5, .d (.sl 1 (y2.1.map e_li64))), (6, .d (.sl 1 (y2.2.map e_i64))), (7, .ptr 7 0), (8, .d (.int .i64 y3.2)), (9, .d (.int .i64 (Int.tmod (IntKind.i64.wrap d1) ((y2.1.map e_li64).length : Int)))), (65, .d (.bool o1))], [(7, .box [.d (.sl 4 (y3.1.List.map e_T_api_Rule)), .d (.int .i64 y3.1.Else)])], [.ops (opsOf (cAt (bodyOf Try.f6) [1, 1, 1, 1, 1, 1, 0, 0])) [], .code (cAt (bodyOf Try.f6) [1, 1, 1, 1, 1, 1, 0, 1]), .code (cAt (bodyOf Try.f6) [1, 1, 1, 1, 1, 1, 1])]⟩ := by
      clear hO
      refine J_adv 1 (J_bool 65 (b := o1) (by kernel_rfl) (fun hb5 => ?_) (fun hb5 => ?_))
      · replace hF := ift hb5 hF
        have hr_ := Option.some.inj hF; subst hr_
        exact J_adv 5 (J_ret (xs := [.d (.bool false)]) [.d (.bool false)] rfl rfl (by kernel_rfl) (Res'.refl _) rfl)
      · replace hF := iff' hb5 hF
        obtain ⟨o2, hO, hF⟩ := bnd hF
        have hR2 : J none Try.prog 114 [] (finF Try.prog Try.f6 (.d (.bool r))) ⟨mkT [(5, .d (.sl 1 (y2.1.map e_li64))), (6, .d (.sl 1 (y2.2.map e_i64))), (7, .ptr 7 0), (8, .d (.int .i64 y3.2)), (9, .d (.int .i64 (Int.tmod (IntKind.i64.wrap d1) ((y2.1.map e_li64).length : Int)))), (72, .d (.bool o2))], [(7, .box [.d (.sl 4 (y3.1.List.map e_T_api_Rule)), .d (.int .i64 y3.1.Else)])], [.ops (opsOf (cAt (bodyOf Try.f6) [1, 1, 1, 1, 1, 1, 1, 0, 0])) [], .code (cAt (bodyOf Try.f6) [1, 1, 1, 1, 1, 1, 1, 0, 1]), .code (cAt (bodyOf Try.f6) [1, 1, 1, 1, 1, 1, 1, 1])]⟩ := by
          clear hO
          refine J_adv 1 (J_bool 72 (b := o2) (by kernel_rfl) (fun hb8 => ?_) (fun hb8 => ?_))
          · replace hF := ift hb8 hF
            obtain ⟨o3, hO, hF⟩ := bnd hF
            have hR3 : J none Try.prog 114 [] (finF Try.prog Try.f6 (.d (.bool r))) ⟨mkT [(4, .d (.bool o3))], [], [.ops (opsOf (cAt (bodyOf Try.f6) [1, 1, 1, 1, 1, 1, 1, 0, 1, 0, 0])) [], .code (cAt (bodyOf Try.f6) [1, 1, 1, 1, 1, 1, 1, 0, 1, 0, 1]), .code (cAt (bodyOf Try.f6) [1, 1, 1, 1, 1, 1, 1, 1])]⟩ := by
              clear hO
              have hr_ := Option.some.inj hF; subst hr_
              exact J_adv 1 (J_ret (xs := [.d (.bool o3)]) [.d (.bool o3)] rfl rfl (by kernel_rfl) (Res'.refl _) rfl)
            clear hF; rename _ = some o3 => hF
            refine J_adv 6 (J_bool 75 (b := y3.2 == 0) (by kernel_rfl) (fun hb11 => ?_) (fun hb11 => ?_))
            · replace hF := ift hb11 hF
              have hr_ := Option.some.inj hF; subst hr_
              exact J_adv 4 (J_at [4] [] (T0 := [.ops (opsOf (cAt (bodyOf Try.f6) [1, 1, 1, 1, 1, 1, 1, 0, 1, 0, 0])) [], .code (cAt (bodyOf Try.f6) [1, 1, 1, 1, 1, 1, 1, 0, 1, 0, 1]), .code (cAt (bodyOf Try.f6) [1, 1, 1, 1, 1, 1, 1, 1])]) (by kernel_rfl) rfl hR3)
            · replace hF := iff' hb11 hF
              have hr_ := Option.some.inj hF; subst hr_
              exact J_adv 4 (J_at [4] [] (T0 := [.ops (opsOf (cAt (bodyOf Try.f6) [1, 1, 1, 1, 1, 1, 1, 0, 1, 0, 0])) [], .code (cAt (bodyOf Try.f6) [1, 1, 1, 1, 1, 1, 1, 0, 1, 0, 1]), .code (cAt (bodyOf Try.f6) [1, 1, 1, 1, 1, 1, 1, 1])]) (by kernel_rfl) rfl hR3)
          · replace hF := iff' hb8 hF
            refine J_adv 3 (J_draw (by kernel_rfl) (by kernel_rfl) ?_)
            obtain ⟨l9, e13, hF⟩ := bnd hF
            refine JD_adv 3 (JD_opt2 (o := slc (y2.1.map e_li64) 0 (Int.tmod (IntKind.i64.wrap d1) ((y2.1.map e_li64).length : Int))) (l9.map e_li64) (by kernel_rfl) (by kernel_rfl) (sm e13) ?_)
            obtain ⟨l10, e14, hF⟩ := bnd hF
            refine JD_adv 0 (JD_opt2 (o := app2 [] (l9.map e_li64)) (l10.map e_li64) (by kernel_rfl) (by kernel_rfl) (am e14) ?_)
            obtain ⟨l11, e15, hF⟩ := bnd hF
            refine JD_adv 3 (JD_opt2 (o := slc (y2.1.map e_li64) (IntKind.i64.wrap ((Int.tmod (IntKind.i64.wrap d1) ((y2.1.map e_li64).length : Int)) + 1)) ((y2.1.map e_li64).length : Int)) (l11.map e_li64) (by kernel_rfl) (by kernel_rfl) (smh e15) ?_)
            obtain ⟨l12, e16, hF⟩ := bnd hF
            refine JD_adv 0 (JD_opt2 (o := app2 ((l10.map e_li64).drop 0) (l11.map e_li64)) (l12.map e_li64) (by kernel_rfl) (by kernel_rfl) (am e16) ?_)
            obtain ⟨l13, e17, hF⟩ := bnd hF
            refine JD_adv 3 (JD_opt2 (o := slc (y2.2.map e_i64) 0 (Int.tmod (IntKind.i64.wrap d1) ((y2.1.map e_li64).length : Int))) (l13.map e_i64) (by kernel_rfl) (by kernel_rfl) (sm e17) ?_)
            obtain ⟨l14, e18, hF⟩ := bnd hF
            refine JD_adv 0 (JD_opt2 (o := app2 [] (l13.map e_i64)) (l14.map e_i64) (by kernel_rfl) (by kernel_rfl) (am e18) ?_)
            obtain ⟨l15, e19, hF⟩ := bnd hF
            refine JD_adv 3 (JD_opt2 (o := slc (y2.2.map e_i64) (IntKind.i64.wrap ((Int.tmod (IntKind.i64.wrap d1) ((y2.1.map e_li64).length : Int)) + 1)) ((y2.2.map e_i64).length : Int)) (l15.map e_i64) (by kernel_rfl) (by kernel_rfl) (smh e19) ?_)
            obtain ⟨l16, e20, hF⟩ := bnd hF
            refine JD_adv 0 (JD_opt2 (o := app2 ((l14.map e_i64).drop 0) (l15.map e_i64)) (l16.map e_i64) (by kernel_rfl) (by kernel_rfl) (am e20) ?_)
            obtain ⟨y5, e21, hF⟩ := bnd hF
            refine JD_adv 0 (JD_callF (xs := [.d (.sl 1 (l12.map e_li64)), .d (.sl 1 (l16.map e_i64))]) [.d (.sl 1 (l12.map e_li64)), .d (.sl 1 (l16.map e_i64))] (.tup [.agg [.d (.sl 4 (y5.1.List.map e_T_api_Rule)), .d (.int .i64 y5.1.Else)], .d (.int .i64 y5.2)]) (by kernel_rfl) (by kernel_rfl) en19 (Res'.refl _) (F19_ok e21) ?_)
            refine JD_adv 6 (JD_end (by kernel_rfl) ?_)
            obtain ⟨o4, hO, hF⟩ := bnd hF
            have hR4 : J none Try.prog 114 [] (finF Try.prog Try.f6 (.d (.bool r))) ⟨mkT [(4, .d (.bool o4))], [], [.ops (opsOf (cAt (bodyOf Try.f6) [1, 1, 1, 1, 1, 1, 1, 1, 1, 0])) [], .code (cAt (bodyOf Try.f6) [1, 1, 1, 1, 1, 1, 1, 1, 1, 1])]⟩ := by
              clear hO
              have hr_ := Option.some.inj hF; subst hr_
              exact J_adv 1 (J_ret (xs := [.d (.bool o4)]) [.d (.bool o4)] rfl rfl (by kernel_rfl) (Res'.refl _) rfl)
            clear hF; rename _ = some o4 => hF
            refine J_adv 5 (J_bool 105 (b := y5.2 == 0) (by kernel_rfl) (fun hb14 => ?_) (fun hb14 => ?_))
            · replace hF := ift hb14 hF
              have hr_ := Option.some.inj hF; subst hr_
              exact J_adv 9 (J_at [4] [] (T0 := [.ops (opsOf (cAt (bodyOf Try.f6) [1, 1, 1, 1, 1, 1, 1, 1, 1, 0])) [], .code (cAt (bodyOf Try.f6) [1, 1, 1, 1, 1, 1, 1, 1, 1, 1])]) (by kernel_rfl) rfl hR4)
            · replace hF := iff' hb14 hF
              have hr_ := Option.some.inj hF; subst hr_
              exact J_adv 9 (J_at [4] [] (T0 := [.ops (opsOf (cAt (bodyOf Try.f6) [1, 1, 1, 1, 1, 1, 1, 1, 1, 0])) [], .code (cAt (bodyOf Try.f6) [1, 1, 1, 1, 1, 1, 1, 1, 1, 1])]) (by kernel_rfl) rfl hR4)
        clear hF; rename _ = some o2 => hF
        refine J_adv 9 (J_bool 69 (b := ((y2.1.map e_li64).length : Int) == 1) (by kernel_rfl) (fun hb15 => ?_) (fun hb15 => ?_))
        · replace hF := ift hb15 hF
          have hr_ := Option.some.inj hF; subst hr_
          exact J_adv 3 (J_at [5, 6, 7, 8, 9, 72] [7] (T0 := [.ops (opsOf (cAt (bodyOf Try.f6) [1, 1, 1, 1, 1, 1, 1, 0, 0])) [], .code (cAt (bodyOf Try.f6) [1, 1, 1, 1, 1, 1, 1, 0, 1]), .code (cAt (bodyOf Try.f6) [1, 1, 1, 1, 1, 1, 1, 1])]) (by kernel_rfl) rfl hR2)
        · replace hF := iff' hb15 hF
          have hr_ := Option.some.inj hF; subst hr_
          exact J_adv 3 (J_at [5, 6, 7, 8, 9, 72] [7] (T0 := [.ops (opsOf (cAt (bodyOf Try.f6) [1, 1, 1, 1, 1, 1, 1, 0, 0])) [], .code (cAt (bodyOf Try.f6) [1, 1, 1, 1, 1, 1, 1, 0, 1]), .code (cAt (bodyOf Try.f6) [1, 1, 1, 1, 1, 1, 1, 1])]) (by kernel_rfl) rfl hR2)
    clear hF; rename _ = some o1 => hF
    refine J_adv 7 (J_bool 57 (b := y3.2 != y4.2) (by kernel_rfl) (fun hb16 => ?_) (fun hb16 => ?_))
    · replace hF := ift hb16 hF
      have hr_ := Option.some.inj hF; subst hr_
      exact J_adv 8 (J_at [5, 6, 7, 8, 9, 65] [7] (T0 := [.ops (opsOf (cAt (bodyOf Try.f6) [1, 1, 1, 1, 1, 1, 0, 0])) [], .code (cAt (bodyOf Try.f6) [1, 1, 1, 1, 1, 1, 0, 1]), .code (cAt (bodyOf Try.f6) [1, 1, 1, 1, 1, 1, 1])]) (by kernel_rfl) rfl hR1)
    · replace hF := iff' hb16 hF
      have hr_ := Option.some.inj hF; subst hr_
      exact J_adv 8 (J_at [5, 6, 7, 8, 9, 65] [7] (T0 := [.ops (opsOf (cAt (bodyOf Try.f6) [1, 1, 1, 1, 1, 1, 0, 0])) [], .code (cAt (bodyOf Try.f6) [1, 1, 1, 1, 1, 1, 0, 1]), .code (cAt (bodyOf Try.f6) [1, 1, 1, 1, 1, 1, 1])]) (by kernel_rfl) rfl hR1)

end Go.Proofs.Ytljkgnjmigmcgaa
