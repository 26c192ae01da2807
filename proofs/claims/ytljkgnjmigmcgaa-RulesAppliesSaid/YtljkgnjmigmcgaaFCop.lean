import Derived.Test.YtljkgnjmigmcgaaFTri
import Derived.KernelRfl
set_option linter.unusedVariables false
set_option maxRecDepth 100000
namespace Go.Proofs.Ytljkgnjmigmcgaa
open Go Go.RowKit Kx



/- croupier/croupierlaw30.RulesCopies -/
def F7 (fuel : Nat) (d0 : T_croupierref30_Draft) (d1 : Int) : Option Bool :=
  Option.bind (F11 fuel) fun y1 =>
  bif !y1 then
    (some false)
  else
    (Option.bind (F12 fuel d0) fun y2 =>
    ass (decide (((y2.1.map e_li64).length : Int) ≠ 0)) <|
    Option.bind (F19 fuel y2.1 y2.2) fun y3 =>
    Option.bind (app [] y2.1) fun l1 =>
    Option.bind (geti y2.1 (Int.tmod (IntKind.i64.wrap d1) ((y2.1.map e_li64).length : Int))) fun y4 =>
    Option.bind (app l1 [y4]) fun l2 =>
    Option.bind (app [] y2.2) fun l3 =>
    Option.bind (geti y2.2 (Int.tmod (IntKind.i64.wrap d1) ((y2.1.map e_li64).length : Int))) fun y5 =>
    Option.bind (app l3 [y5]) fun l4 =>
    Option.bind (F19 fuel l2 l4) fun y6 =>
    Option.bind (app [] y2.1) fun l5 =>
    Option.bind (geti y2.1 (Int.tmod (IntKind.i64.wrap d1) ((y2.1.map e_li64).length : Int))) fun y7 =>
    Option.bind (app l5 [y7]) fun l6 =>
    Option.bind (app [] y2.2) fun l7 =>
    Option.bind (geti y2.2 (Int.tmod (IntKind.i64.wrap d1) ((y2.1.map e_li64).length : Int))) fun y8 =>
    Option.bind (app l7 [Int.tmod (IntKind.i64.wrap (y8 + 1)) 4]) fun l8 =>
    Option.bind (F19 fuel l6 l8) fun y9 =>
    Option.bind (
      bif y3.2 == y6.2 then
        (bif ((y3.1.List.map e_T_api_Rule).length : Int) == ((y6.1.List.map e_T_api_Rule).length : Int) then
          (some (y9.2 == 4))
        else
          (some false))
      else
        (some false)) fun o1 =>
    some o1)
theorem F7_ok {fuel : Nat} {d0 : T_croupierref30_Draft} {d1 : Int} {r : Bool} (hF : F7 fuel d0 d1 = some r) :
    CallF Try.prog 7 [.agg [.d (.int .u8 d0.Wide), .d (.sl 4 (d0.Rows.map e_a4i8)), .d (.sl 1 (d0.C.map e_u8)), .d (.bool d0.Few)], .d (.int .u8 d1)] (.d (.bool r)) := by
  unfold F7 at hF
  refine callF_of (N := 94) (b := bodyOf Try.f7) Try.func7 (by kernel_rfl) rfl rfl ?_
  obtain ⟨y1, e1, hF⟩ := bnd hF
  refine J_adv 8 (J_callF (xs := []) [] (.d (.bool y1)) (by kernel_rfl) en11 (Res'.refl _) (F11_ok e1) ?_)
  refine J_adv 2 (J_bool 15 (b := !y1) (by kernel_rfl) (fun hb1 => ?_) (fun hb1 => ?_))
  · replace hF := ift hb1 hF
    have hr_ := Option.some.inj hF; subst hr_
    exact J_adv 5 (J_ret (xs := [.d (.bool false)]) [.d (.bool false)] rfl rfl (by kernel_rfl) (Res'.refl _) rfl)
  · replace hF := iff' hb1 hF
    obtain ⟨y2, e2, hF⟩ := bnd hF
    refine J_adv 5 (J_callF (xs := [.agg [.d (.int .u8 d0.Wide), .d (.sl 4 (d0.Rows.map e_a4i8)), .d (.sl 1 (d0.C.map e_u8)), .d (.bool d0.Few)]]) [.agg [.d (.int .u8 d0.Wide), .d (.sl 4 (d0.Rows.map e_a4i8)), .d (.sl 1 (d0.C.map e_u8)), .d (.bool d0.Few)]] (.tup [.d (.sl 1 (y2.1.map e_li64)), .d (.sl 1 (y2.2.map e_i64))]) (by kernel_rfl) en12 (Res'.refl _) (F12_ok e2) ?_)
    obtain ⟨hb2, hF⟩ := assd hF
    refine J_adv 12 (J_opt1 (o := chk (decide (((y2.1.map e_li64).length : Int) ≠ 0))) [] (by kernel_rfl) (ck hb2) ?_)
    obtain ⟨y3, e3, hF⟩ := bnd hF
    refine J_adv 6 (J_callF (xs := [.d (.sl 1 (y2.1.map e_li64)), .d (.sl 1 (y2.2.map e_i64))]) [.d (.sl 1 (y2.1.map e_li64)), .d (.sl 1 (y2.2.map e_i64))] (.tup [.agg [.d (.sl 4 (y3.1.List.map e_T_api_Rule)), .d (.int .i64 y3.1.Else)], .d (.int .i64 y3.2)]) (by kernel_rfl) en19 (Res'.refl _) (F19_ok e3) ?_)
    refine J_adv 8 (J_draw (by kernel_rfl) (by kernel_rfl) ?_)
    obtain ⟨l1, e4, hF⟩ := bnd hF
    refine JD_adv 2 (JD_opt2 (o := app2 [] (y2.1.map e_li64)) (l1.map e_li64) (by kernel_rfl) (by kernel_rfl) (am e4) ?_)
    obtain ⟨y4, e5, hF⟩ := bnd hF
    refine JD_adv 2 (JD_opt1 (o := geti (y2.1.map e_li64) (Int.tmod (IntKind.i64.wrap d1) ((y2.1.map e_li64).length : Int))) (e_li64 y4) (by kernel_rfl) (by kernel_rfl) (gm e5) ?_)
    obtain ⟨l2, e6, hF⟩ := bnd hF
    refine JD_adv 2 (JD_opt2 (o := app2 ((l1.map e_li64).drop 0) ([y4].map e_li64)) (l2.map e_li64) (by kernel_rfl) (by kernel_rfl) (am e6) ?_)
    obtain ⟨l3, e7, hF⟩ := bnd hF
    refine JD_adv 2 (JD_opt2 (o := app2 [] (y2.2.map e_i64)) (l3.map e_i64) (by kernel_rfl) (by kernel_rfl) (am e7) ?_)
    obtain ⟨y5, e8, hF⟩ := bnd hF
    refine JD_adv 2 (JD_opt1 (o := geti (y2.2.map e_i64) (Int.tmod (IntKind.i64.wrap d1) ((y2.1.map e_li64).length : Int))) (e_i64 y5) (by kernel_rfl) (by kernel_rfl) (gm e8) ?_)
    obtain ⟨l4, e9, hF⟩ := bnd hF
    refine JD_adv 2 (JD_opt2 (o := app2 ((l3.map e_i64).drop 0) ([y5].map e_i64)) (l4.map e_i64) (by kernel_rfl) (by kernel_rfl) (am e9) ?_)
    obtain ⟨y6, e10, hF⟩ := bnd hF
    refine JD_adv 0 (JD_callF (xs := [.d (.sl 1 (l2.map e_li64)), .d (.sl 1 (l4.map e_i64))]) [.d (.sl 1 (l2.map e_li64)), .d (.sl 1 (l4.map e_i64))] (.tup [.agg [.d (.sl 4 (y6.1.List.map e_T_api_Rule)), .d (.int .i64 y6.1.Else)], .d (.int .i64 y6.2)]) (by kernel_rfl) (by kernel_rfl) en19 (Res'.refl _) (F19_ok e10) ?_)
    refine JD_adv 6 (JD_end (by kernel_rfl) ?_)
    refine J_adv 1 (J_draw (by kernel_rfl) (by kernel_rfl) ?_)
    obtain ⟨l5, e11, hF⟩ := bnd hF
    refine JD_adv 2 (JD_opt2 (o := app2 [] (y2.1.map e_li64)) (l5.map e_li64) (by kernel_rfl) (by kernel_rfl) (am e11) ?_)
    obtain ⟨y7, e12, hF⟩ := bnd hF
    refine JD_adv 2 (JD_opt1 (o := geti (y2.1.map e_li64) (Int.tmod (IntKind.i64.wrap d1) ((y2.1.map e_li64).length : Int))) (e_li64 y7) (by kernel_rfl) (by kernel_rfl) (gm e12) ?_)
    obtain ⟨l6, e13, hF⟩ := bnd hF
    refine JD_adv 2 (JD_opt2 (o := app2 ((l5.map e_li64).drop 0) ([y7].map e_li64)) (l6.map e_li64) (by kernel_rfl) (by kernel_rfl) (am e13) ?_)
    obtain ⟨l7, e14, hF⟩ := bnd hF
    refine JD_adv 2 (JD_opt2 (o := app2 [] (y2.2.map e_i64)) (l7.map e_i64) (by kernel_rfl) (by kernel_rfl) (am e14) ?_)
    obtain ⟨y8, e15, hF⟩ := bnd hF
    refine JD_adv 2 (JD_opt1 (o := geti (y2.2.map e_i64) (Int.tmod (IntKind.i64.wrap d1) ((y2.1.map e_li64).length : Int))) (e_i64 y8) (by kernel_rfl) (by kernel_rfl) (gm e15) ?_)
    obtain ⟨l8, e16, hF⟩ := bnd hF
    refine JD_adv 4 (JD_opt2 (o := app2 ((l7.map e_i64).drop 0) ([Int.tmod (IntKind.i64.wrap (y8 + 1)) 4].map e_i64)) (l8.map e_i64) (by kernel_rfl) (by kernel_rfl) (am e16) ?_)
    obtain ⟨y9, e17, hF⟩ := bnd hF
    refine JD_adv 0 (JD_callF (xs := [.d (.sl 1 (l6.map e_li64)), .d (.sl 1 (l8.map e_i64))]) [.d (.sl 1 (l6.map e_li64)), .d (.sl 1 (l8.map e_i64))] (.tup [.agg [.d (.sl 4 (y9.1.List.map e_T_api_Rule)), .d (.int .i64 y9.1.Else)], .d (.int .i64 y9.2)]) (by kernel_rfl) (by kernel_rfl) en19 (Res'.refl _) (F19_ok e17) ?_)
    refine JD_adv 6 (JD_end (by kernel_rfl) ?_)
    obtain ⟨o1, hO, hF⟩ := bnd hF
    have hR1 : J none Try.prog 94 [] (finF Try.prog Try.f7 (.d (.bool r))) ⟨mkT [(4, .d (.bool o1))], [], [.ops (opsOf (cAt (bodyOf Try.f7) [1, 1, 1, 1, 1, 1, 1, 0])) [], .code (cAt (bodyOf Try.f7) [1, 1, 1, 1, 1, 1, 1, 1])]⟩ := by
      clear hO
      have hr_ := Option.some.inj hF; subst hr_
      exact J_adv 1 (J_ret (xs := [.d (.bool o1)]) [.d (.bool o1)] rfl rfl (by kernel_rfl) (Res'.refl _) rfl)
    clear hF; rename _ = some o1 => hF
    refine J_adv 6 (J_bool 81 (b := y3.2 == y6.2) (by kernel_rfl) (fun hb7 => ?_) (fun hb7 => ?_))
    · replace hF := ift hb7 hF
      refine J_adv 9 (J_bool 90 (b := ((y3.1.List.map e_T_api_Rule).length : Int) == ((y6.1.List.map e_T_api_Rule).length : Int)) (by kernel_rfl) (fun hb8 => ?_) (fun hb8 => ?_))
      · replace hF := ift hb8 hF
        have hr_ := Option.some.inj hF; subst hr_
        exact J_adv 4 (J_at [4] [] (T0 := [.ops (opsOf (cAt (bodyOf Try.f7) [1, 1, 1, 1, 1, 1, 1, 0])) [], .code (cAt (bodyOf Try.f7) [1, 1, 1, 1, 1, 1, 1, 1])]) (by kernel_rfl) rfl hR1)
      · replace hF := iff' hb8 hF
        have hr_ := Option.some.inj hF; subst hr_
        exact J_adv 4 (J_at [4] [] (T0 := [.ops (opsOf (cAt (bodyOf Try.f7) [1, 1, 1, 1, 1, 1, 1, 0])) [], .code (cAt (bodyOf Try.f7) [1, 1, 1, 1, 1, 1, 1, 1])]) (by kernel_rfl) rfl hR1)
    · replace hF := iff' hb7 hF
      have hr_ := Option.some.inj hF; subst hr_
      exact J_adv 13 (J_at [4] [] (T0 := [.ops (opsOf (cAt (bodyOf Try.f7) [1, 1, 1, 1, 1, 1, 1, 0])) [], .code (cAt (bodyOf Try.f7) [1, 1, 1, 1, 1, 1, 1, 1])]) (by kernel_rfl) rfl hR1)

end Go.Proofs.Ytljkgnjmigmcgaa
