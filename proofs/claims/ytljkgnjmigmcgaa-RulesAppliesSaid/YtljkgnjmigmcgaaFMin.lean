import Derived.Test.YtljkgnjmigmcgaaFOrd
import Derived.KernelRfl
set_option linter.unusedVariables false
set_option maxRecDepth 100000
namespace Go.Proofs.Ytljkgnjmigmcgaa
open Go Go.RowKit Kx

theorem en13 : entersT Try.prog 13 := enters_of Try.func13 (by kernel_rfl) (by kernel_rfl)

structure T_croupierref30_Wish where
  L : List A_a4i8
  Else : Int
  deriving DecidableEq
/- (croupier/croupierref30.Wish).Rules -/
def F13_L1 (d0 : T_croupierref30_Wish) (d1 : Int) : Nat → Int → (List T_api_Rule) → Option T_api_Rules
  | 0, _, _ => none
  | n_F13_L1 + 1, v2, l4 =>
    Option.bind (
      bif decide (v2 < ((d0.L.map e_a4i8).length : Int)) then
        (some (decide (v2 < 12)))
      else
        (some false)) fun o3 =>
    bif o3 then
      (Option.bind (geti d0.L v2) fun y3 =>
      ass (decide (d1 ≠ 0)) <|
      Option.bind (app l4 [(⟨Int.tmod (IntKind.i64.wrap (IntKind.u8.wrap y3.a0)) d1, IntKind.i64.wrap (1 + (IntKind.i64.wrap (Int.tmod (IntKind.u8.wrap y3.a1) 3))), Int.tmod (IntKind.i64.wrap y3.a2) 100, IntKind.i64.wrap (Int.tmod (IntKind.u8.wrap y3.a3) 4)⟩ : T_api_Rule)]) fun l5 =>
      (F13_L1 d0 d1 n_F13_L1) (IntKind.i64.wrap (v2 + 1)) l5)
    else
      (some (⟨l4, IntKind.i64.wrap (Int.tmod d0.Else 4)⟩ : T_api_Rules))
def F13 (fuel : Nat) (d0 : T_croupierref30_Wish) (d1 : Int) : Option T_api_Rules :=
  F13_L1 d0 d1 fuel 0 []
theorem F13_ok {fuel : Nat} {d0 : T_croupierref30_Wish} {d1 : Int} {r : T_api_Rules} (hF : F13 fuel d0 d1 = some r) :
    CallF Try.prog 13 [.agg [.d (.sl 4 (d0.L.map e_a4i8)), .d (.int .u8 d0.Else)], .d (.int .i64 d1)] (.agg [.d (.sl 4 (r.List.map e_T_api_Rule)), .d (.int .i64 r.Else)]) := by
  unfold F13 at hF
  refine callF_of (N := 57) (b := bodyOf Try.f13) Try.func13 (by kernel_rfl) rfl rfl ?_
  have hF13_L1 : ∀ (n_F13_L1 : Nat) (v2 : Int) (l4 : List T_api_Rule), F13_L1 d0 d1 n_F13_L1 v2 l4 = some r → J none Try.prog 57 [] (finF Try.prog Try.f13 (.agg [.d (.sl 4 (r.List.map e_T_api_Rule)), .d (.int .i64 r.Else)])) ⟨mkT [(1, .d (.int .i64 d1)), (2, .ptr 2 0), (4, .ptr 4 0), (5, .ptr 5 0), (6, .d (.int .i64 v2))], [(2, .box [.d (.sl 4 (d0.L.map e_a4i8)), .d (.int .u8 d0.Else)]), (4, .box [.esl 4, .d (.int .i64 0)]), (5, .box [.suf 54 0 0, .d (.int .i64 (IntKind.i64.wrap (Int.tmod d0.Else 4)))]), (54, .buf 0 66 4 (l4.map e_T_api_Rule))], [.inLoop (cAt (bodyOf Try.f13) [1, 1, 0, 1, 0, 0]), .inBlock 0, .code (cAt (bodyOf Try.f13) [1, 1, 1])]⟩ := by
    clear hF; intro n_F13_L1
    induction n_F13_L1 with
    | zero => intro v2 l4 hF; cases hF
    | succ n_F13_L1 ih_F13_L1 =>
      intro v2 l4 hF
      rw [F13_L1] at hF
      obtain ⟨o3, hO, hF⟩ := bnd hF
      have hR3 : J none Try.prog 57 [] (finF Try.prog Try.f13 (.agg [.d (.sl 4 (r.List.map e_T_api_Rule)), .d (.int .i64 r.Else)])) ⟨mkT [(1, .d (.int .i64 d1)), (2, .ptr 2 0), (4, .ptr 4 0), (5, .ptr 5 0), (6, .d (.int .i64 v2)), (21, .d (.bool o3))], [(2, .box [.d (.sl 4 (d0.L.map e_a4i8)), .d (.int .u8 d0.Else)]), (4, .box [.esl 4, .d (.int .i64 0)]), (5, .box [.suf 54 0 0, .d (.int .i64 (IntKind.i64.wrap (Int.tmod d0.Else 4)))]), (54, .buf 0 66 4 (l4.map e_T_api_Rule))], [.ops (opsOf (cAt (bodyOf Try.f13) [1, 1, 0, 1, 0, 0, 0, 0])) [], .code (cAt (bodyOf Try.f13) [1, 1, 0, 1, 0, 0, 0, 1]), .code (cAt (bodyOf Try.f13) [1, 1, 0, 1, 0, 0, 1]), .inLoop (cAt (bodyOf Try.f13) [1, 1, 0, 1, 0, 0]), .inBlock 0, .code (cAt (bodyOf Try.f13) [1, 1, 1])]⟩ := by
        clear hO
        refine J_adv 1 (J_bool 21 (b := o3) (by kernel_rfl) (fun hb13 => ?_) (fun hb13 => ?_))
        · replace hF := ift hb13 hF
          obtain ⟨y3, e5, hF⟩ := bnd hF
          refine J_adv 9 (J_opt1 (o := geti (d0.L.map e_a4i8) v2) (e_a4i8 y3) (by kernel_rfl) (gm e5) ?_)
          refine J_adv 4 (J_draw (by kernel_rfl) (by kernel_rfl) ?_)
          obtain ⟨hb14, hF⟩ := assd hF
          refine JD_adv 7 (JD_opt1 (o := chk (decide (d1 ≠ 0))) [] (by kernel_rfl) (by kernel_rfl) (ck hb14) ?_)
          obtain ⟨l5, e6, hF⟩ := bnd hF
          refine JD_adv 17 (JD_opt2 (o := app2 ((l4.map e_T_api_Rule).drop 0) ([(⟨Int.tmod (IntKind.i64.wrap (IntKind.u8.wrap y3.a0)) d1, IntKind.i64.wrap (1 + (IntKind.i64.wrap (Int.tmod (IntKind.u8.wrap y3.a1) 3))), Int.tmod (IntKind.i64.wrap y3.a2) 100, IntKind.i64.wrap (Int.tmod (IntKind.u8.wrap y3.a3) 4)⟩ : T_api_Rule)].map e_T_api_Rule)) (l5.map e_T_api_Rule) (by kernel_rfl) (by kernel_rfl) (am e6) ?_)
          refine JD_adv 2 (JD_end (by kernel_rfl) ?_)
          exact J_adv 6 (J_at [1, 2, 4, 5, 6] [2, 4, 5, 54] (T0 := [.inLoop (cAt (bodyOf Try.f13) [1, 1, 0, 1, 0, 0]), .inBlock 0, .code (cAt (bodyOf Try.f13) [1, 1, 1])]) (by kernel_rfl) rfl (ih_F13_L1 (IntKind.i64.wrap (v2 + 1)) l5 hF))
        · replace hF := iff' hb13 hF
          have hr_ := Option.some.inj hF; subst hr_
          exact J_adv 7 (J_ret (xs := [.agg [.d (.sl 4 (l4.map e_T_api_Rule)), .d (.int .i64 (IntKind.i64.wrap (Int.tmod d0.Else 4)))]]) [.agg [.d (.sl 4 (l4.map e_T_api_Rule)), .d (.int .i64 (IntKind.i64.wrap (Int.tmod d0.Else 4)))]] rfl rfl (by kernel_rfl) (Res'.refl _) rfl)
      clear hF; rename _ = some o3 => hF
      refine J_adv 10 (J_bool 18 (b := decide (v2 < ((d0.L.map e_a4i8).length : Int))) (by kernel_rfl) (fun hb15 => ?_) (fun hb15 => ?_))
      · replace hF := ift hb15 hF
        have hr_ := Option.some.inj hF; subst hr_
        exact J_adv 3 (J_at [1, 2, 4, 5, 6, 21] [2, 4, 5, 54] (T0 := [.ops (opsOf (cAt (bodyOf Try.f13) [1, 1, 0, 1, 0, 0, 0, 0])) [], .code (cAt (bodyOf Try.f13) [1, 1, 0, 1, 0, 0, 0, 1]), .code (cAt (bodyOf Try.f13) [1, 1, 0, 1, 0, 0, 1]), .inLoop (cAt (bodyOf Try.f13) [1, 1, 0, 1, 0, 0]), .inBlock 0, .code (cAt (bodyOf Try.f13) [1, 1, 1])]) (by kernel_rfl) rfl hR3)
      · replace hF := iff' hb15 hF
        have hr_ := Option.some.inj hF; subst hr_
        exact J_adv 3 (J_at [1, 2, 4, 5, 6, 21] [2, 4, 5, 54] (T0 := [.ops (opsOf (cAt (bodyOf Try.f13) [1, 1, 0, 1, 0, 0, 0, 0])) [], .code (cAt (bodyOf Try.f13) [1, 1, 0, 1, 0, 0, 0, 1]), .code (cAt (bodyOf Try.f13) [1, 1, 0, 1, 0, 0, 1]), .inLoop (cAt (bodyOf Try.f13) [1, 1, 0, 1, 0, 0]), .inBlock 0, .code (cAt (bodyOf Try.f13) [1, 1, 1])]) (by kernel_rfl) rfl hR3)
  refine J_adv 22 (J_ownc (n := 4) 5 0 54 66 4 (by kernel_rfl) (by kernel_rfl) ?_)
  exact J_adv 0 (J_at [1, 2, 4, 5, 6] [2, 4, 5, 54] (T0 := [.inLoop (cAt (bodyOf Try.f13) [1, 1, 0, 1, 0, 0]), .inBlock 0, .code (cAt (bodyOf Try.f13) [1, 1, 1])]) (by kernel_rfl) rfl (hF13_L1 fuel 0 [] hF))

/- croupier/croupierlaw30.RulesMine -/
def F5_L1 (fuel : Nat) (y2 : List (List Int) × List Int) (y4 : T_api_Rules) : Nat → Int → (List Int) → Option Bool
  | 0, _, _ => none
  | n_F5_L1 + 1, v2, l4 =>
    bif decide (v2 < ((y2.1.map e_li64).length : Int)) then
      (Option.bind (geti y2.1 v2) fun y9 =>
      Option.bind (F24 fuel y4 y9) fun y10 =>
      bif y10.2 != 0 then
        (some false)
      else
        (Option.bind (app l4 [y10.1]) fun l5 =>
        (F5_L1 fuel y2 y4 n_F5_L1) (IntKind.i64.wrap (v2 + 1)) l5))
    else
      (Option.bind (F17 fuel y4 y2.1 l4) fun y11 =>
      Option.bind (F19 fuel y2.1 l4) fun y12 =>
      Option.bind (F17 fuel y12.1 y2.1 l4) fun y13 =>
      Option.bind (
        bif y11.2 == 0 then
          (bif y11.1 then
            (bif y12.2 == 0 then
              (bif y13.2 == 0 then
                (bif y13.1 then
                  (some (decide (((y12.1.List.map e_T_api_Rule).length : Int) ≤ ((y4.List.map e_T_api_Rule).length : Int))))
                else
                  (some false))
              else
                (some false))
            else
              (some false))
          else
            (some false))
        else
          (some false)) fun o1 =>
      some o1)
def F5 (fuel : Nat) (d0 : T_croupierref30_Wish) (d1 : T_croupierref30_Draft) : Option Bool :=
  Option.bind (F11 fuel) fun y1 =>
  bif !y1 then
    (some false)
  else
    (Option.bind (F12 fuel d1) fun y2 =>
    Option.bind (geti y2.1 0) fun y3 =>
    Option.bind (F13 fuel d0 ((y3.map e_i64).length : Int)) fun y4 =>
    F5_L1 fuel y2 y4 fuel 0 [])
theorem F5_ok {fuel : Nat} {d0 : T_croupierref30_Wish} {d1 : T_croupierref30_Draft} {r : Bool} (hF : F5 fuel d0 d1 = some r) :
    CallF Try.prog 5 [.agg [.d (.sl 4 (d0.L.map e_a4i8)), .d (.int .u8 d0.Else)], .agg [.d (.int .u8 d1.Wide), .d (.sl 4 (d1.Rows.map e_a4i8)), .d (.sl 1 (d1.C.map e_u8)), .d (.bool d1.Few)]] (.d (.bool r)) := by
  unfold F5 at hF
  refine callF_of (N := 96) (b := bodyOf Try.f5) Try.func5 (by kernel_rfl) rfl rfl ?_
  obtain ⟨y1, e1, hF⟩ := bnd hF
  refine J_adv 9 (J_callF (xs := []) [] (.d (.bool y1)) (by kernel_rfl) en11 (Res'.refl _) (F11_ok e1) ?_)
  refine J_adv 2 (J_bool 20 (b := !y1) (by kernel_rfl) (fun hb1 => ?_) (fun hb1 => ?_))
  · replace hF := ift hb1 hF
    have hr_ := Option.some.inj hF; subst hr_
    exact J_adv 5 (J_ret (xs := [.d (.bool false)]) [.d (.bool false)] rfl rfl (by kernel_rfl) (Res'.refl _) rfl)
  · replace hF := iff' hb1 hF
    obtain ⟨y2, e2, hF⟩ := bnd hF
    refine J_adv 5 (J_callF (xs := [.agg [.d (.int .u8 d1.Wide), .d (.sl 4 (d1.Rows.map e_a4i8)), .d (.sl 1 (d1.C.map e_u8)), .d (.bool d1.Few)]]) [.agg [.d (.int .u8 d1.Wide), .d (.sl 4 (d1.Rows.map e_a4i8)), .d (.sl 1 (d1.C.map e_u8)), .d (.bool d1.Few)]] (.tup [.d (.sl 1 (y2.1.map e_li64)), .d (.sl 1 (y2.2.map e_i64))]) (by kernel_rfl) en12 (Res'.refl _) (F12_ok e2) ?_)
    refine J_adv 7 (J_draw (by kernel_rfl) (by kernel_rfl) ?_)
    obtain ⟨y3, e3, hF⟩ := bnd hF
    refine JD_adv 2 (JD_opt1 (o := geti (y2.1.map e_li64) 0) (e_li64 y3) (by kernel_rfl) (by kernel_rfl) (gm e3) ?_)
    obtain ⟨y4, e4, hF⟩ := bnd hF
    refine JD_adv 2 (JD_callF (xs := [.agg [.d (.sl 4 (d0.L.map e_a4i8)), .d (.int .u8 d0.Else)], .d (.int .i64 ((y3.map e_i64).length : Int))]) [.agg [.d (.sl 4 (d0.L.map e_a4i8)), .d (.int .u8 d0.Else)], .d (.int .i64 ((y3.map e_i64).length : Int))] (.agg [.d (.sl 4 (y4.List.map e_T_api_Rule)), .d (.int .i64 y4.Else)]) (by kernel_rfl) (by kernel_rfl) en13 (Res'.refl _) (F13_ok e4) ?_)
    refine JD_adv 2 (JD_end (by kernel_rfl) ?_)
    have hF5_L1 : ∀ (n_F5_L1 : Nat) (v2 : Int) (l4 : List Int), F5_L1 fuel y2 y4 n_F5_L1 v2 l4 = some r → J none Try.prog 96 [] (finF Try.prog Try.f5 (.d (.bool r))) ⟨mkT [(5, .d (.sl 1 (y2.1.map e_li64))), (7, .ptr 7 0), (8, .suf 49 0 0), (32, .d (.sl 1 (y2.1.map e_li64))), (33, .d (.int .i64 ((y2.1.map e_li64).length : Int))), (34, .d (.int .i64 v2))], [(7, .box [.d (.sl 4 (y4.List.map e_T_api_Rule)), .d (.int .i64 y4.Else)]), (49, .buf 0 3 1 (l4.map e_i64))], [.inLoop (cAt (bodyOf Try.f5) [1, 1, 1, 1, 1, 0, 1, 0, 0]), .inBlock 0, .code (cAt (bodyOf Try.f5) [1, 1, 1, 1, 1, 1])]⟩ := by
      clear hF; intro n_F5_L1
      induction n_F5_L1 with
      | zero => intro v2 l4 hF; cases hF
      | succ n_F5_L1 ih_F5_L1 =>
        intro v2 l4 hF
        rw [F5_L1] at hF
        refine J_adv 6 (J_bool 35 (b := decide (v2 < ((y2.1.map e_li64).length : Int))) (by kernel_rfl) (fun hb6 => ?_) (fun hb6 => ?_))
        · replace hF := ift hb6 hF
          obtain ⟨y9, e11, hF⟩ := bnd hF
          refine J_adv 6 (J_opt1 (o := geti (y2.1.map e_li64) v2) (e_li64 y9) (by kernel_rfl) (gm e11) ?_)
          obtain ⟨y10, e12, hF⟩ := bnd hF
          refine J_adv 7 (J_callF (xs := [.agg [.d (.sl 4 (y4.List.map e_T_api_Rule)), .d (.int .i64 y4.Else)], .d (.sl 1 (y9.map e_i64))]) [.agg [.d (.sl 4 (y4.List.map e_T_api_Rule)), .d (.int .i64 y4.Else)], .d (.sl 1 (y9.map e_i64))] (.tup [.d (.int .i64 y10.1), .d (.int .i64 y10.2)]) (by kernel_rfl) en24 (Res'.refl _) (F24_ok e12) ?_)
          refine J_adv 12 (J_bool 45 (b := y10.2 != 0) (by kernel_rfl) (fun hb7 => ?_) (fun hb7 => ?_))
          · replace hF := ift hb7 hF
            have hr_ := Option.some.inj hF; subst hr_
            exact J_adv 5 (J_ret (xs := [.d (.bool false)]) [.d (.bool false)] rfl rfl (by kernel_rfl) (Res'.refl _) rfl)
          · replace hF := iff' hb7 hF
            obtain ⟨l5, e13, hF⟩ := bnd hF
            refine J_adv 6 (J_opt2 (o := app2 ((l4.map e_i64).drop 0) ([y10.1].map e_i64)) (l5.map e_i64) (by kernel_rfl) (am e13) ?_)
            exact J_adv 7 (J_at [5, 7, 8, 32, 33, 34] [7, 49] (T0 := [.inLoop (cAt (bodyOf Try.f5) [1, 1, 1, 1, 1, 0, 1, 0, 0]), .inBlock 0, .code (cAt (bodyOf Try.f5) [1, 1, 1, 1, 1, 1])]) (by kernel_rfl) rfl (ih_F5_L1 (IntKind.i64.wrap (v2 + 1)) l5 hF))
        · replace hF := iff' hb6 hF
          obtain ⟨y11, e14, hF⟩ := bnd hF
          refine J_adv 7 (J_callF (xs := [.agg [.d (.sl 4 (y4.List.map e_T_api_Rule)), .d (.int .i64 y4.Else)], .d (.sl 1 (y2.1.map e_li64)), .d (.sl 1 (l4.map e_i64))]) [.agg [.d (.sl 4 (y4.List.map e_T_api_Rule)), .d (.int .i64 y4.Else)], .d (.sl 1 (y2.1.map e_li64)), .d (.sl 1 (l4.map e_i64))] (.tup [.d (.bool y11.1), .d (.int .i64 y11.2)]) (by kernel_rfl) en17 (Res'.refl _) (F17_ok e14) ?_)
          obtain ⟨y12, e15, hF⟩ := bnd hF
          refine J_adv 10 (J_callF (xs := [.d (.sl 1 (y2.1.map e_li64)), .d (.sl 1 (l4.map e_i64))]) [.d (.sl 1 (y2.1.map e_li64)), .d (.sl 1 (l4.map e_i64))] (.tup [.agg [.d (.sl 4 (y12.1.List.map e_T_api_Rule)), .d (.int .i64 y12.1.Else)], .d (.int .i64 y12.2)]) (by kernel_rfl) en19 (Res'.refl _) (F19_ok e15) ?_)
          obtain ⟨y13, e16, hF⟩ := bnd hF
          refine J_adv 12 (J_callF (xs := [.agg [.d (.sl 4 (y12.1.List.map e_T_api_Rule)), .d (.int .i64 y12.1.Else)], .d (.sl 1 (y2.1.map e_li64)), .d (.sl 1 (l4.map e_i64))]) [.agg [.d (.sl 4 (y12.1.List.map e_T_api_Rule)), .d (.int .i64 y12.1.Else)], .d (.sl 1 (y2.1.map e_li64)), .d (.sl 1 (l4.map e_i64))] (.tup [.d (.bool y13.1), .d (.int .i64 y13.2)]) (by kernel_rfl) en17 (Res'.refl _) (F17_ok e16) ?_)
          obtain ⟨o1, hO, hF⟩ := bnd hF
          have hR1 : J none Try.prog 96 [] (finF Try.prog Try.f5 (.d (.bool r))) ⟨mkT [(4, .d (.bool o1))], [], [.ops (opsOf (cAt (bodyOf Try.f5) [1, 1, 1, 1, 1, 1, 1, 1, 1, 0])) [], .code (cAt (bodyOf Try.f5) [1, 1, 1, 1, 1, 1, 1, 1, 1, 1])]⟩ := by
            clear hO
            have hr_ := Option.some.inj hF; subst hr_
            exact J_adv 1 (J_ret (xs := [.d (.bool o1)]) [.d (.bool o1)] rfl rfl (by kernel_rfl) (Res'.refl _) rfl)
          clear hF; rename _ = some o1 => hF
          refine J_adv 11 (J_bool 73 (b := y11.2 == 0) (by kernel_rfl) (fun hb18 => ?_) (fun hb18 => ?_))
          · replace hF := ift hb18 hF
            refine J_adv 3 (J_bool 76 (b := y11.1) (by kernel_rfl) (fun hb19 => ?_) (fun hb19 => ?_))
            · replace hF := ift hb19 hF
              refine J_adv 4 (J_bool 80 (b := y12.2 == 0) (by kernel_rfl) (fun hb20 => ?_) (fun hb20 => ?_))
              · replace hF := ift hb20 hF
                refine J_adv 4 (J_bool 84 (b := y13.2 == 0) (by kernel_rfl) (fun hb21 => ?_) (fun hb21 => ?_))
                · replace hF := ift hb21 hF
                  refine J_adv 3 (J_bool 87 (b := y13.1) (by kernel_rfl) (fun hb22 => ?_) (fun hb22 => ?_))
                  · replace hF := ift hb22 hF
                    have hr_ := Option.some.inj hF; subst hr_
                    exact J_adv 9 (J_at [4] [] (T0 := [.ops (opsOf (cAt (bodyOf Try.f5) [1, 1, 1, 1, 1, 1, 1, 1, 1, 0])) [], .code (cAt (bodyOf Try.f5) [1, 1, 1, 1, 1, 1, 1, 1, 1, 1])]) (by kernel_rfl) rfl hR1)
                  · replace hF := iff' hb22 hF
                    have hr_ := Option.some.inj hF; subst hr_
                    exact J_adv 9 (J_at [4] [] (T0 := [.ops (opsOf (cAt (bodyOf Try.f5) [1, 1, 1, 1, 1, 1, 1, 1, 1, 0])) [], .code (cAt (bodyOf Try.f5) [1, 1, 1, 1, 1, 1, 1, 1, 1, 1])]) (by kernel_rfl) rfl hR1)
                · replace hF := iff' hb21 hF
                  have hr_ := Option.some.inj hF; subst hr_
                  exact J_adv 12 (J_at [4] [] (T0 := [.ops (opsOf (cAt (bodyOf Try.f5) [1, 1, 1, 1, 1, 1, 1, 1, 1, 0])) [], .code (cAt (bodyOf Try.f5) [1, 1, 1, 1, 1, 1, 1, 1, 1, 1])]) (by kernel_rfl) rfl hR1)
              · replace hF := iff' hb20 hF
                have hr_ := Option.some.inj hF; subst hr_
                exact J_adv 16 (J_at [4] [] (T0 := [.ops (opsOf (cAt (bodyOf Try.f5) [1, 1, 1, 1, 1, 1, 1, 1, 1, 0])) [], .code (cAt (bodyOf Try.f5) [1, 1, 1, 1, 1, 1, 1, 1, 1, 1])]) (by kernel_rfl) rfl hR1)
            · replace hF := iff' hb19 hF
              have hr_ := Option.some.inj hF; subst hr_
              exact J_adv 20 (J_at [4] [] (T0 := [.ops (opsOf (cAt (bodyOf Try.f5) [1, 1, 1, 1, 1, 1, 1, 1, 1, 0])) [], .code (cAt (bodyOf Try.f5) [1, 1, 1, 1, 1, 1, 1, 1, 1, 1])]) (by kernel_rfl) rfl hR1)
          · replace hF := iff' hb18 hF
            have hr_ := Option.some.inj hF; subst hr_
            exact J_adv 23 (J_at [4] [] (T0 := [.ops (opsOf (cAt (bodyOf Try.f5) [1, 1, 1, 1, 1, 1, 1, 1, 1, 0])) [], .code (cAt (bodyOf Try.f5) [1, 1, 1, 1, 1, 1, 1, 1, 1, 1])]) (by kernel_rfl) rfl hR1)
    refine J_adv 13 (J_own (n := 1) 8 49 3 1 (by kernel_rfl) (by kernel_rfl) ?_)
    exact J_adv 0 (J_at [5, 7, 8, 32, 33, 34] [7, 49] (T0 := [.inLoop (cAt (bodyOf Try.f5) [1, 1, 1, 1, 1, 0, 1, 0, 0]), .inBlock 0, .code (cAt (bodyOf Try.f5) [1, 1, 1, 1, 1, 1])]) (by kernel_rfl) rfl (hF5_L1 fuel 0 [] hF))

end Go.Proofs.Ytljkgnjmigmcgaa
