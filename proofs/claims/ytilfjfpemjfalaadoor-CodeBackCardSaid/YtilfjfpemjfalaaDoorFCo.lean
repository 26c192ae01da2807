import Derived.Test.YtilfjfpemjfalaaDoorFA
import Derived.KernelRfl
set_option linter.unusedVariables false
set_option maxRecDepth 100000
namespace Go.Proofs.YtilfjfpemjfalaaDoor
open Go Go.RowKit Kx

theorem en7 : entersT Tryd.prog 7 := Kx.enters_of Tryd.func7 (by kernel_rfl) (by kernel_rfl)
theorem en8 : entersT Tryd.prog 8 := Kx.enters_of Tryd.func8 (by kernel_rfl) (by kernel_rfl)
theorem en41 : entersT Tryd.prog 41 := Kx.enters_of Tryd.func41 (by kernel_rfl) (by kernel_rfl)
theorem en22 : entersT Tryd.prog 22 := Kx.enters_of Tryd.func22 (by kernel_rfl) (by kernel_rfl)
theorem en23 : entersT Tryd.prog 23 := Kx.enters_of Tryd.func23 (by kernel_rfl) (by kernel_rfl)
theorem en10 : entersT Tryd.prog 10 := Kx.enters_of Tryd.func10 (by kernel_rfl) (by kernel_rfl)

structure A_a4i8 where
  a0 : Int
  a1 : Int
  a2 : Int
  a3 : Int
  deriving DecidableEq
structure T_croupierref30_Wish where
  L : List A_a4i8
  Else : Int
  deriving DecidableEq
def e_a4i8 (x : A_a4i8) : List Dat := [.int .i8 x.a0, .int .i8 x.a1, .int .i8 x.a2, .int .i8 x.a3]
/- (croupier/croupierref30.Wish).Rules -/
def F8_L1 (d0 : T_croupierref30_Wish) (d1 : Int) : Nat → Int → (List T_api_Rule) → Option T_api_Rules
  | 0, _, _ => none
  | n_F8_L1 + 1, v2, l4 =>
    Option.bind (
      bif decide (v2 < ((d0.L.map e_a4i8).length : Int)) then
        (some (decide (v2 < 12)))
      else
        (some false)) fun o3 =>
    bif o3 then
      (Option.bind (geti d0.L v2) fun y3 =>
      ass (decide (d1 ≠ 0)) <|
      Option.bind (app l4 [(⟨Int.tmod (IntKind.i64.wrap (IntKind.u8.wrap y3.a0)) d1, IntKind.i64.wrap (1 + (IntKind.i64.wrap (Int.tmod (IntKind.u8.wrap y3.a1) 3))), Int.tmod (IntKind.i64.wrap y3.a2) 100, IntKind.i64.wrap (Int.tmod (IntKind.u8.wrap y3.a3) 4)⟩ : T_api_Rule)]) fun l5 =>
      (F8_L1 d0 d1 n_F8_L1) (IntKind.i64.wrap (v2 + 1)) l5)
    else
      (some (⟨l4, IntKind.i64.wrap (Int.tmod d0.Else 4)⟩ : T_api_Rules))
def F8 (fuel : Nat) (d0 : T_croupierref30_Wish) (d1 : Int) : Option T_api_Rules :=
  F8_L1 d0 d1 fuel 0 []
theorem F8_ok {fuel : Nat} {d0 : T_croupierref30_Wish} {d1 : Int} {r : T_api_Rules} (hF : F8 fuel d0 d1 = some r) :
    CallF Tryd.prog 8 [.agg [.d (.sl 4 (d0.L.map e_a4i8)), .d (.int .u8 d0.Else)], .d (.int .i64 d1)] (.agg [.d (.sl 4 (r.List.map e_T_api_Rule)), .d (.int .i64 r.Else)]) := by
  unfold F8 at hF
  refine callF_of (N := 57) (b := bodyOf Tryd.f8) Tryd.func8 (by kernel_rfl) rfl rfl ?_
  have hF8_L1 : ∀ (n_F8_L1 : Nat) (v2 : Int) (l4 : List T_api_Rule), F8_L1 d0 d1 n_F8_L1 v2 l4 = some r → J none Tryd.prog 57 [] (finF Tryd.prog Tryd.f8 (.agg [.d (.sl 4 (r.List.map e_T_api_Rule)), .d (.int .i64 r.Else)])) ⟨mkT [(1, .d (.int .i64 d1)), (2, .ptr 2 0), (4, .ptr 4 0), (5, .ptr 5 0), (6, .d (.int .i64 v2))], [(2, .box 24 [.d (.sl 4 (d0.L.map e_a4i8)), .d (.int .u8 d0.Else)]), (4, .box 27 [.esl 4, .d (.int .i64 0)]), (5, .box 27 [.suf 54 0 0, .d (.int .i64 (IntKind.i64.wrap (Int.tmod d0.Else 4)))]), (54, .buf 0 57 4 (l4.map e_T_api_Rule))], [.inLoop (cAt (bodyOf Tryd.f8) [1, 1, 0, 1, 0, 0]), .inBlock 0, .code (cAt (bodyOf Tryd.f8) [1, 1, 1])]⟩ := by
    clear hF; intro n_F8_L1
    induction n_F8_L1 with
    | zero => intro v2 l4 hF; cases hF
    | succ n_F8_L1 ih_F8_L1 =>
      intro v2 l4 hF
      rw [F8_L1] at hF
      obtain ⟨o3, hO, hF⟩ := bnd hF
      have hR3 : J none Tryd.prog 57 [] (finF Tryd.prog Tryd.f8 (.agg [.d (.sl 4 (r.List.map e_T_api_Rule)), .d (.int .i64 r.Else)])) ⟨mkT [(1, .d (.int .i64 d1)), (2, .ptr 2 0), (4, .ptr 4 0), (5, .ptr 5 0), (6, .d (.int .i64 v2)), (21, .d (.bool o3))], [(2, .box 24 [.d (.sl 4 (d0.L.map e_a4i8)), .d (.int .u8 d0.Else)]), (4, .box 27 [.esl 4, .d (.int .i64 0)]), (5, .box 27 [.suf 54 0 0, .d (.int .i64 (IntKind.i64.wrap (Int.tmod d0.Else 4)))]), (54, .buf 0 57 4 (l4.map e_T_api_Rule))], [.ops (opsOf (cAt (bodyOf Tryd.f8) [1, 1, 0, 1, 0, 0, 0, 0])) [], .code (cAt (bodyOf Tryd.f8) [1, 1, 0, 1, 0, 0, 0, 1]), .code (cAt (bodyOf Tryd.f8) [1, 1, 0, 1, 0, 0, 1]), .inLoop (cAt (bodyOf Tryd.f8) [1, 1, 0, 1, 0, 0]), .inBlock 0, .code (cAt (bodyOf Tryd.f8) [1, 1, 1])]⟩ := by
        clear hO
        refine J_adv 1 (J_bool 21 (b := o3) (by kernel_rfl) (fun hb13 => ?_) (fun hb13 => ?_))
        · replace hF := ift hb13 hF
          obtain ⟨y3, e5, hF⟩ := bnd hF
          refine J_adv 9 (J_opt1 (o := geti (d0.L.map e_a4i8) v2) (e_a4i8 y3) (by kernel_rfl) (gm e5) ?_)
          refine J_adv 4 (J_draw (by kernel_rfl) (by kernel_rfl) ?_)
          obtain ⟨hb14, hF⟩ := assd hF
          refine JD_adv 7 (JD_opt1 (o := chk (decide (d1 ≠ 0))) [] (by kernel_rfl) (by kernel_rfl) (ck hb14) ?_)
          obtain ⟨l5, e6, hF⟩ := bnd hF
          refine JD_adv 17 (JD_opt2 (o := app2 ((l4.map e_T_api_Rule).drop 0) ([(⟨Int.tmod (IntKind.i64.wrap (IntKind.u8.wrap y3.a0)) d1, IntKind.i64.wrap (1 + (IntKind.i64.wrap (Int.tmod (IntKind.u8.wrap y3.a1) 3))), Int.tmod (IntKind.i64.wrap y3.a2) 100, IntKind.i64.wrap (Int.tmod (IntKind.u8.wrap y3.a3) 4)⟩ : T_api_Rule)].map e_T_api_Rule)) (l5.map e_T_api_Rule) (by kernel_rfl) (by kernel_rfl) (am e6) ?_)
          refine JD_adv 2 (JD_end (by kernel_rfl) ?_)
          exact J_adv 6 (J_at [1, 2, 4, 5, 6] [2, 4, 5, 54] (T0 := [.inLoop (cAt (bodyOf Tryd.f8) [1, 1, 0, 1, 0, 0]), .inBlock 0, .code (cAt (bodyOf Tryd.f8) [1, 1, 1])]) (by kernel_rfl) rfl (ih_F8_L1 (IntKind.i64.wrap (v2 + 1)) l5 hF))
        · replace hF := iff' hb13 hF
          have hr_ := Option.some.inj hF; subst hr_
          exact J_adv 7 (J_ret (xs := [.agg [.d (.sl 4 (l4.map e_T_api_Rule)), .d (.int .i64 (IntKind.i64.wrap (Int.tmod d0.Else 4)))]]) [.agg [.d (.sl 4 (l4.map e_T_api_Rule)), .d (.int .i64 (IntKind.i64.wrap (Int.tmod d0.Else 4)))]] rfl rfl (by kernel_rfl) (Res'.refl _) rfl)
      clear hF; rename _ = some o3 => hF
      refine J_adv 10 (J_bool 18 (b := decide (v2 < ((d0.L.map e_a4i8).length : Int))) (by kernel_rfl) (fun hb15 => ?_) (fun hb15 => ?_))
      · replace hF := ift hb15 hF
        have hr_ := Option.some.inj hF; subst hr_
        exact J_adv 3 (J_at [1, 2, 4, 5, 6, 21] [2, 4, 5, 54] (T0 := [.ops (opsOf (cAt (bodyOf Tryd.f8) [1, 1, 0, 1, 0, 0, 0, 0])) [], .code (cAt (bodyOf Tryd.f8) [1, 1, 0, 1, 0, 0, 0, 1]), .code (cAt (bodyOf Tryd.f8) [1, 1, 0, 1, 0, 0, 1]), .inLoop (cAt (bodyOf Tryd.f8) [1, 1, 0, 1, 0, 0]), .inBlock 0, .code (cAt (bodyOf Tryd.f8) [1, 1, 1])]) (by kernel_rfl) rfl hR3)
      · replace hF := iff' hb15 hF
        have hr_ := Option.some.inj hF; subst hr_
        exact J_adv 3 (J_at [1, 2, 4, 5, 6, 21] [2, 4, 5, 54] (T0 := [.ops (opsOf (cAt (bodyOf Tryd.f8) [1, 1, 0, 1, 0, 0, 0, 0])) [], .code (cAt (bodyOf Tryd.f8) [1, 1, 0, 1, 0, 0, 0, 1]), .code (cAt (bodyOf Tryd.f8) [1, 1, 0, 1, 0, 0, 1]), .inLoop (cAt (bodyOf Tryd.f8) [1, 1, 0, 1, 0, 0]), .inBlock 0, .code (cAt (bodyOf Tryd.f8) [1, 1, 1])]) (by kernel_rfl) rfl hR3)
  refine J_adv 22 (J_ownc (n := 4) 5 0 54 57 4 (by kernel_rfl) (by kernel_rfl) ?_)
  exact J_adv 0 (J_at [1, 2, 4, 5, 6] [2, 4, 5, 54] (T0 := [.inLoop (cAt (bodyOf Tryd.f8) [1, 1, 0, 1, 0, 0]), .inBlock 0, .code (cAt (bodyOf Tryd.f8) [1, 1, 1])]) (by kernel_rfl) rfl (hF8_L1 fuel 0 [] hF))

def e_T_api_Rules (x : T_api_Rules) : List Dat := [.sl 4 (x.List.map e_T_api_Rule), .int .i64 x.Else]
/- croupier/croupierref30.in -/
def F41 (d0 : Int) (d1 : Int) (d2 : Int) : Option Bool :=
  Option.bind (
    bif decide (d0 ≥ d1) then
      (some (decide (d0 ≤ d2)))
    else
      (some false)) fun o1 =>
  some o1
theorem F41_ok {d0 : Int} {d1 : Int} {d2 : Int} {r : Bool} (hF : F41 d0 d1 d2 = some r) :
    CallF Tryd.prog 41 [.d (.int .i64 d0), .d (.int .i64 d1), .d (.int .i64 d2)] (.d (.bool r)) := by
  unfold F41 at hF
  refine callF_of (N := 15) (b := bodyOf Tryd.f41) Tryd.func41 (by kernel_rfl) rfl rfl ?_
  obtain ⟨o1, hO, hF⟩ := bnd hF
  have hR1 : J none Tryd.prog 15 [] (finF Tryd.prog Tryd.f41 (.d (.bool r))) ⟨mkT [(6, .d (.bool o1))], [], [.ops (opsOf (cAt (bodyOf Tryd.f41) [1, 0])) [], .code (cAt (bodyOf Tryd.f41) [1, 1])]⟩ := by
    clear hO
    have hr_ := Option.some.inj hF; subst hr_
    exact J_adv 1 (J_ret (xs := [.d (.bool o1)]) [.d (.bool o1)] rfl rfl (by kernel_rfl) (Res'.refl _) rfl)
  clear hF; rename _ = some o1 => hF
  refine J_adv 10 (J_bool 10 (b := decide (d0 ≥ d1)) (by kernel_rfl) (fun hb3 => ?_) (fun hb3 => ?_))
  · replace hF := ift hb3 hF
    have hr_ := Option.some.inj hF; subst hr_
    exact J_adv 5 (J_at [6] [] (T0 := [.ops (opsOf (cAt (bodyOf Tryd.f41) [1, 0])) [], .code (cAt (bodyOf Tryd.f41) [1, 1])]) (by kernel_rfl) rfl hR1)
  · replace hF := iff' hb3 hF
    have hr_ := Option.some.inj hF; subst hr_
    exact J_adv 5 (J_at [6] [] (T0 := [.ops (opsOf (cAt (bodyOf Tryd.f41) [1, 0])) [], .code (cAt (bodyOf Tryd.f41) [1, 1])]) (by kernel_rfl) rfl hR1)

/- croupier/croupierref30.Good -/
def F22_L1 (d0 : T_api_Rules) : Nat → Int → Option Bool
  | 0, _ => none
  | n_F22_L1 + 1, v2 =>
    bif decide (v2 < ((d0.List.map e_T_api_Rule).length : Int)) then
      (Option.bind (geti d0.List v2) fun y29 =>
      Option.bind (
        Option.bind (F41 y29.Var 0 3) fun y38 =>
        bif !y38 then
          (some true)
        else
          (Option.bind (F41 y29.Test 1 3) fun y39 =>
          bif !y39 then
            (some true)
          else
            (Option.bind (F41 y29.Val (-99) 99) fun y40 =>
            bif !y40 then
              (some true)
            else
              (Option.bind (F41 y29.Then 0 3) fun y41 =>
              some (!y41))))) fun o4 =>
      bif o4 then
        (some false)
      else
        ((F22_L1 d0 n_F22_L1) (IntKind.i64.wrap (v2 + 1))))
    else
      (some true)
def F22 (fuel : Nat) (d0 : T_api_Rules) : Option Bool :=
  Option.bind (
    bif decide (((d0.List.map e_T_api_Rule).length : Int) > 12) then
      (some true)
    else
      (Option.bind (F41 d0.Else 0 3) fun y42 =>
      some (!y42))) fun o1 =>
  bif o1 then
    (some false)
  else
    (F22_L1 d0 fuel 0)
theorem F22_ok {fuel : Nat} {d0 : T_api_Rules} {r : Bool} (hF : F22 fuel d0 = some r) :
    CallF Tryd.prog 22 [.agg [.d (.sl 4 (d0.List.map e_T_api_Rule)), .d (.int .i64 d0.Else)]] (.d (.bool r)) := by
  unfold F22 at hF
  refine callF_of (N := 49) (b := bodyOf Tryd.f22) Tryd.func22 (by kernel_rfl) rfl rfl ?_
  obtain ⟨o1, hO, hF⟩ := bnd hF
  have hR1 : J none Tryd.prog 49 [] (finF Tryd.prog Tryd.f22 (.d (.bool r))) ⟨mkT [(1, .ptr 1 0), (14, .d (.bool o1))], [(1, .box 27 [.d (.sl 4 (d0.List.map e_T_api_Rule)), .d (.int .i64 d0.Else)])], [.ops (opsOf (cAt (bodyOf Tryd.f22) [1, 0, 0])) [], .code (cAt (bodyOf Tryd.f22) [1, 0, 1]), .code (cAt (bodyOf Tryd.f22) [1, 1])]⟩ := by
    clear hO
    refine J_adv 1 (J_bool 14 (b := o1) (by kernel_rfl) (fun hb3 => ?_) (fun hb3 => ?_))
    · replace hF := ift hb3 hF
      have hr_ := Option.some.inj hF; subst hr_
      exact J_adv 5 (J_ret (xs := [.d (.bool false)]) [.d (.bool false)] rfl rfl (by kernel_rfl) (Res'.refl _) rfl)
    · replace hF := iff' hb3 hF
      have hF22_L1 : ∀ (n_F22_L1 : Nat) (v2 : Int), F22_L1 d0 n_F22_L1 v2 = some r → J none Tryd.prog 49 [] (finF Tryd.prog Tryd.f22 (.d (.bool r))) ⟨mkT [(1, .ptr 1 0), (3, .d (.int .i64 v2))], [(1, .box 27 [.d (.sl 4 (d0.List.map e_T_api_Rule)), .d (.int .i64 d0.Else)])], [.inLoop (cAt (bodyOf Tryd.f22) [1, 1, 0, 1, 0, 0]), .inBlock 0, .code (cAt (bodyOf Tryd.f22) [1, 1, 1])]⟩ := by
        clear hF; intro n_F22_L1
        induction n_F22_L1 with
        | zero => intro v2 hF; cases hF
        | succ n_F22_L1 ih_F22_L1 =>
          intro v2 hF
          rw [F22_L1] at hF
          refine J_adv 10 (J_bool 19 (b := decide (v2 < ((d0.List.map e_T_api_Rule).length : Int))) (by kernel_rfl) (fun hb26 => ?_) (fun hb26 => ?_))
          · replace hF := ift hb26 hF
            obtain ⟨y29, e29, hF⟩ := bnd hF
            refine J_adv 9 (J_opt1 (o := geti (d0.List.map e_T_api_Rule) v2) (e_T_api_Rule y29) (by kernel_rfl) (gm e29) ?_)
            obtain ⟨o4, hO, hF⟩ := bnd hF
            have hR4 : J none Tryd.prog 49 [] (finF Tryd.prog Tryd.f22 (.d (.bool r))) ⟨mkT [(1, .ptr 1 0), (3, .d (.int .i64 v2)), (48, .d (.bool o4))], [(1, .box 27 [.d (.sl 4 (d0.List.map e_T_api_Rule)), .d (.int .i64 d0.Else)])], [.ops (opsOf (cAt (bodyOf Tryd.f22) [1, 1, 0, 1, 0, 0, 1, 0, 0, 1, 0])) [], .code (cAt (bodyOf Tryd.f22) [1, 1, 0, 1, 0, 0, 1, 0, 0, 1, 1]), .inBlock 1, .code (cAt (bodyOf Tryd.f22) [1, 1, 0, 1, 0, 0, 1, 1]), .inLoop (cAt (bodyOf Tryd.f22) [1, 1, 0, 1, 0, 0]), .inBlock 0, .code (cAt (bodyOf Tryd.f22) [1, 1, 1])]⟩ := by
              clear hO
              refine J_adv 1 (J_bool 48 (b := o4) (by kernel_rfl) (fun hb33 => ?_) (fun hb33 => ?_))
              · replace hF := ift hb33 hF
                have hr_ := Option.some.inj hF; subst hr_
                exact J_adv 5 (J_ret (xs := [.d (.bool false)]) [.d (.bool false)] rfl rfl (by kernel_rfl) (Res'.refl _) rfl)
              · replace hF := iff' hb33 hF
                exact J_adv 8 (J_at [1, 3] [1] (T0 := [.inLoop (cAt (bodyOf Tryd.f22) [1, 1, 0, 1, 0, 0]), .inBlock 0, .code (cAt (bodyOf Tryd.f22) [1, 1, 1])]) (by kernel_rfl) rfl (ih_F22_L1 (IntKind.i64.wrap (v2 + 1)) hF))
            clear hF; rename _ = some o4 => hF
            obtain ⟨y38, e38, hF⟩ := bnd hF
            refine J_adv 8 (J_callF (xs := [.d (.int .i64 y29.Var), .d (.int .i64 0), .d (.int .i64 3)]) [.d (.int .i64 y29.Var), .d (.int .i64 0), .d (.int .i64 3)] (.d (.bool y38)) (by kernel_rfl) en41 (Res'.refl _) (F41_ok e38) ?_)
            refine J_adv 2 (J_bool 31 (b := !y38) (by kernel_rfl) (fun hb34 => ?_) (fun hb34 => ?_))
            · replace hF := ift hb34 hF
              have hr_ := Option.some.inj hF; subst hr_
              exact J_adv 17 (J_at [1, 3, 48] [1] (T0 := [.ops (opsOf (cAt (bodyOf Tryd.f22) [1, 1, 0, 1, 0, 0, 1, 0, 0, 1, 0])) [], .code (cAt (bodyOf Tryd.f22) [1, 1, 0, 1, 0, 0, 1, 0, 0, 1, 1]), .inBlock 1, .code (cAt (bodyOf Tryd.f22) [1, 1, 0, 1, 0, 0, 1, 1]), .inLoop (cAt (bodyOf Tryd.f22) [1, 1, 0, 1, 0, 0]), .inBlock 0, .code (cAt (bodyOf Tryd.f22) [1, 1, 1])]) (by kernel_rfl) rfl hR4)
            · replace hF := iff' hb34 hF
              obtain ⟨y39, e39, hF⟩ := bnd hF
              refine J_adv 2 (J_callF (xs := [.d (.int .i64 y29.Test), .d (.int .i64 1), .d (.int .i64 3)]) [.d (.int .i64 y29.Test), .d (.int .i64 1), .d (.int .i64 3)] (.d (.bool y39)) (by kernel_rfl) en41 (Res'.refl _) (F41_ok e39) ?_)
              refine J_adv 3 (J_bool 37 (b := !y39) (by kernel_rfl) (fun hb35 => ?_) (fun hb35 => ?_))
              · replace hF := ift hb35 hF
                have hr_ := Option.some.inj hF; subst hr_
                exact J_adv 11 (J_at [1, 3, 48] [1] (T0 := [.ops (opsOf (cAt (bodyOf Tryd.f22) [1, 1, 0, 1, 0, 0, 1, 0, 0, 1, 0])) [], .code (cAt (bodyOf Tryd.f22) [1, 1, 0, 1, 0, 0, 1, 0, 0, 1, 1]), .inBlock 1, .code (cAt (bodyOf Tryd.f22) [1, 1, 0, 1, 0, 0, 1, 1]), .inLoop (cAt (bodyOf Tryd.f22) [1, 1, 0, 1, 0, 0]), .inBlock 0, .code (cAt (bodyOf Tryd.f22) [1, 1, 1])]) (by kernel_rfl) rfl hR4)
              · replace hF := iff' hb35 hF
                obtain ⟨y40, e40, hF⟩ := bnd hF
                refine J_adv 2 (J_callF (xs := [.d (.int .i64 y29.Val), .d (.int .i64 (-99)), .d (.int .i64 99)]) [.d (.int .i64 y29.Val), .d (.int .i64 (-99)), .d (.int .i64 99)] (.d (.bool y40)) (by kernel_rfl) en41 (Res'.refl _) (F41_ok e40) ?_)
                refine J_adv 3 (J_bool 43 (b := !y40) (by kernel_rfl) (fun hb36 => ?_) (fun hb36 => ?_))
                · replace hF := ift hb36 hF
                  have hr_ := Option.some.inj hF; subst hr_
                  exact J_adv 5 (J_at [1, 3, 48] [1] (T0 := [.ops (opsOf (cAt (bodyOf Tryd.f22) [1, 1, 0, 1, 0, 0, 1, 0, 0, 1, 0])) [], .code (cAt (bodyOf Tryd.f22) [1, 1, 0, 1, 0, 0, 1, 0, 0, 1, 1]), .inBlock 1, .code (cAt (bodyOf Tryd.f22) [1, 1, 0, 1, 0, 0, 1, 1]), .inLoop (cAt (bodyOf Tryd.f22) [1, 1, 0, 1, 0, 0]), .inBlock 0, .code (cAt (bodyOf Tryd.f22) [1, 1, 1])]) (by kernel_rfl) rfl hR4)
                · replace hF := iff' hb36 hF
                  obtain ⟨y41, e41, hF⟩ := bnd hF
                  refine J_adv 2 (J_callF (xs := [.d (.int .i64 y29.Then), .d (.int .i64 0), .d (.int .i64 3)]) [.d (.int .i64 y29.Then), .d (.int .i64 0), .d (.int .i64 3)] (.d (.bool y41)) (by kernel_rfl) en41 (Res'.refl _) (F41_ok e41) ?_)
                  have hr_ := Option.some.inj hF; subst hr_
                  exact J_adv 2 (J_at [1, 3, 48] [1] (T0 := [.ops (opsOf (cAt (bodyOf Tryd.f22) [1, 1, 0, 1, 0, 0, 1, 0, 0, 1, 0])) [], .code (cAt (bodyOf Tryd.f22) [1, 1, 0, 1, 0, 0, 1, 0, 0, 1, 1]), .inBlock 1, .code (cAt (bodyOf Tryd.f22) [1, 1, 0, 1, 0, 0, 1, 1]), .inLoop (cAt (bodyOf Tryd.f22) [1, 1, 0, 1, 0, 0]), .inBlock 0, .code (cAt (bodyOf Tryd.f22) [1, 1, 1])]) (by kernel_rfl) rfl hR4)
          · replace hF := iff' hb26 hF
            have hr_ := Option.some.inj hF; subst hr_
            exact J_adv 6 (J_ret (xs := [.d (.bool true)]) [.d (.bool true)] rfl rfl (by kernel_rfl) (Res'.refl _) rfl)
      exact J_adv 9 (J_at [1, 3] [1] (T0 := [.inLoop (cAt (bodyOf Tryd.f22) [1, 1, 0, 1, 0, 0]), .inBlock 0, .code (cAt (bodyOf Tryd.f22) [1, 1, 1])]) (by kernel_rfl) rfl (hF22_L1 fuel 0 hF))
  clear hF; rename _ = some o1 => hF
  refine J_adv 13 (J_bool 9 (b := decide (((d0.List.map e_T_api_Rule).length : Int) > 12)) (by kernel_rfl) (fun hb37 => ?_) (fun hb37 => ?_))
  · replace hF := ift hb37 hF
    have hr_ := Option.some.inj hF; subst hr_
    exact J_adv 5 (J_at [1, 14] [1] (T0 := [.ops (opsOf (cAt (bodyOf Tryd.f22) [1, 0, 0])) [], .code (cAt (bodyOf Tryd.f22) [1, 0, 1]), .code (cAt (bodyOf Tryd.f22) [1, 1])]) (by kernel_rfl) rfl hR1)
  · replace hF := iff' hb37 hF
    obtain ⟨y42, e42, hF⟩ := bnd hF
    refine J_adv 2 (J_callF (xs := [.d (.int .i64 d0.Else), .d (.int .i64 0), .d (.int .i64 3)]) [.d (.int .i64 d0.Else), .d (.int .i64 0), .d (.int .i64 3)] (.d (.bool y42)) (by kernel_rfl) en41 (Res'.refl _) (F41_ok e42) ?_)
    have hr_ := Option.some.inj hF; subst hr_
    exact J_adv 2 (J_at [1, 14] [1] (T0 := [.ops (opsOf (cAt (bodyOf Tryd.f22) [1, 0, 0])) [], .code (cAt (bodyOf Tryd.f22) [1, 0, 1]), .code (cAt (bodyOf Tryd.f22) [1, 1])]) (by kernel_rfl) rfl hR1)

/- croupier/croupierref31.Compiled -/
def F23_L1 (d0 : T_api_Rules) : Nat → Int → (List T_api_Instr) → Option (List T_api_Instr)
  | 0, _, _ => none
  | n_F23_L1 + 1, v2, l20 =>
    bif decide (v2 < ((d0.List.map e_T_api_Rule).length : Int)) then
      (Option.bind (geti d0.List v2) fun y3 =>
      bif y3.Test == 2 then
        (Option.bind (app l20 [(⟨2, y3.Var, y3.Val, IntKind.i64.wrap ((IntKind.i64.wrap (3 * v2)) + 2)⟩ : T_api_Instr)]) fun l21 =>
        Option.bind (app l21 [(⟨4, 0, 0, IntKind.i64.wrap ((IntKind.i64.wrap (3 * v2)) + 3)⟩ : T_api_Instr)]) fun l22 =>
        Option.bind (app l22 [(⟨5, 0, y3.Then, 0⟩ : T_api_Instr)]) fun l23 =>
        (F23_L1 d0 n_F23_L1) (IntKind.i64.wrap (v2 + 1)) l23)
      else
        (bif y3.Test == 3 then
          (Option.bind (app l20 [(⟨3, y3.Var, y3.Val, IntKind.i64.wrap ((IntKind.i64.wrap (3 * v2)) + 2)⟩ : T_api_Instr)]) fun l24 =>
          Option.bind (app l24 [(⟨4, 0, 0, IntKind.i64.wrap ((IntKind.i64.wrap (3 * v2)) + 3)⟩ : T_api_Instr)]) fun l25 =>
          Option.bind (app l25 [(⟨5, 0, y3.Then, 0⟩ : T_api_Instr)]) fun l26 =>
          (F23_L1 d0 n_F23_L1) (IntKind.i64.wrap (v2 + 1)) l26)
        else
          (Option.bind (app l20 [(⟨1, y3.Var, y3.Val, IntKind.i64.wrap ((IntKind.i64.wrap (3 * v2)) + 2)⟩ : T_api_Instr)]) fun l27 =>
          Option.bind (app l27 [(⟨4, 0, 0, IntKind.i64.wrap ((IntKind.i64.wrap (3 * v2)) + 3)⟩ : T_api_Instr)]) fun l28 =>
          Option.bind (app l28 [(⟨5, 0, y3.Then, 0⟩ : T_api_Instr)]) fun l29 =>
          (F23_L1 d0 n_F23_L1) (IntKind.i64.wrap (v2 + 1)) l29)))
    else
      (Option.bind (app l20 [(⟨5, 0, d0.Else, 0⟩ : T_api_Instr)]) fun l30 =>
      some l30)
def F23 (fuel : Nat) (d0 : T_api_Rules) : Option (List T_api_Instr) :=
  F23_L1 d0 fuel 0 []
theorem F23_ok {fuel : Nat} {d0 : T_api_Rules} {r : List T_api_Instr} (hF : F23 fuel d0 = some r) :
    CallF Tryd.prog 23 [.agg [.d (.sl 4 (d0.List.map e_T_api_Rule)), .d (.int .i64 d0.Else)]] (.d (.sl 4 (r.map e_T_api_Instr))) := by
  unfold F23 at hF
  refine callF_of (N := 56) (b := bodyOf Tryd.f23) Tryd.func23 (by kernel_rfl) rfl rfl ?_
  have hF23_L1 : ∀ (n_F23_L1 : Nat) (v2 : Int) (l20 : List T_api_Instr), F23_L1 d0 n_F23_L1 v2 l20 = some r → J none Tryd.prog 56 [] (finF Tryd.prog Tryd.f23 (.d (.sl 4 (r.map e_T_api_Instr)))) ⟨mkT [(1, .ptr 1 0), (3, .suf 36 0 0), (4, .d (.int .i64 v2))], [(1, .box 27 [.d (.sl 4 (d0.List.map e_T_api_Rule)), .d (.int .i64 d0.Else)]), (36, .buf 0 49 4 (l20.map e_T_api_Instr))], [.inLoop (cAt (bodyOf Tryd.f23) [1, 1, 0, 1, 0, 0]), .inBlock 0, .code (cAt (bodyOf Tryd.f23) [1, 1, 1])]⟩ := by
    clear hF; intro n_F23_L1
    induction n_F23_L1 with
    | zero => intro v2 l20 hF; cases hF
    | succ n_F23_L1 ih_F23_L1 =>
      intro v2 l20 hF
      rw [F23_L1] at hF
      refine J_adv 10 (J_bool 11 (b := decide (v2 < ((d0.List.map e_T_api_Rule).length : Int))) (by kernel_rfl) (fun hb7 => ?_) (fun hb7 => ?_))
      · replace hF := ift hb7 hF
        obtain ⟨y3, e21, hF⟩ := bnd hF
        refine J_adv 9 (J_opt1 (o := geti (d0.List.map e_T_api_Rule) v2) (e_T_api_Rule y3) (by kernel_rfl) (gm e21) ?_)
        refine J_adv 20 (J_bool 21 (b := y3.Test == 2) (by kernel_rfl) (fun hb8 => ?_) (fun hb8 => ?_))
        · replace hF := ift hb8 hF
          obtain ⟨l21, e22, hF⟩ := bnd hF
          refine J_adv 18 (J_opt2 (o := app2 ((l20.map e_T_api_Instr).drop 0) ([(⟨2, y3.Var, y3.Val, IntKind.i64.wrap ((IntKind.i64.wrap (3 * v2)) + 2)⟩ : T_api_Instr)].map e_T_api_Instr)) (l21.map e_T_api_Instr) (by kernel_rfl) (am e22) ?_)
          obtain ⟨l22, e23, hF⟩ := bnd hF
          refine J_adv 10 (J_opt2 (o := app2 ((l21.map e_T_api_Instr).drop 0) ([(⟨4, 0, 0, IntKind.i64.wrap ((IntKind.i64.wrap (3 * v2)) + 3)⟩ : T_api_Instr)].map e_T_api_Instr)) (l22.map e_T_api_Instr) (by kernel_rfl) (am e23) ?_)
          obtain ⟨l23, e24, hF⟩ := bnd hF
          refine J_adv 8 (J_opt2 (o := app2 ((l22.map e_T_api_Instr).drop 0) ([(⟨5, 0, y3.Then, 0⟩ : T_api_Instr)].map e_T_api_Instr)) (l23.map e_T_api_Instr) (by kernel_rfl) (am e24) ?_)
          exact J_adv 8 (J_at [1, 3, 4] [1, 36] (T0 := [.inLoop (cAt (bodyOf Tryd.f23) [1, 1, 0, 1, 0, 0]), .inBlock 0, .code (cAt (bodyOf Tryd.f23) [1, 1, 1])]) (by kernel_rfl) rfl (ih_F23_L1 (IntKind.i64.wrap (v2 + 1)) l23 hF))
        · replace hF := iff' hb8 hF
          refine J_adv 6 (J_bool 23 (b := y3.Test == 3) (by kernel_rfl) (fun hb9 => ?_) (fun hb9 => ?_))
          · replace hF := ift hb9 hF
            obtain ⟨l24, e25, hF⟩ := bnd hF
            refine J_adv 18 (J_opt2 (o := app2 ((l20.map e_T_api_Instr).drop 0) ([(⟨3, y3.Var, y3.Val, IntKind.i64.wrap ((IntKind.i64.wrap (3 * v2)) + 2)⟩ : T_api_Instr)].map e_T_api_Instr)) (l24.map e_T_api_Instr) (by kernel_rfl) (am e25) ?_)
            obtain ⟨l25, e26, hF⟩ := bnd hF
            refine J_adv 10 (J_opt2 (o := app2 ((l24.map e_T_api_Instr).drop 0) ([(⟨4, 0, 0, IntKind.i64.wrap ((IntKind.i64.wrap (3 * v2)) + 3)⟩ : T_api_Instr)].map e_T_api_Instr)) (l25.map e_T_api_Instr) (by kernel_rfl) (am e26) ?_)
            obtain ⟨l26, e27, hF⟩ := bnd hF
            refine J_adv 8 (J_opt2 (o := app2 ((l25.map e_T_api_Instr).drop 0) ([(⟨5, 0, y3.Then, 0⟩ : T_api_Instr)].map e_T_api_Instr)) (l26.map e_T_api_Instr) (by kernel_rfl) (am e27) ?_)
            exact J_adv 8 (J_at [1, 3, 4] [1, 36] (T0 := [.inLoop (cAt (bodyOf Tryd.f23) [1, 1, 0, 1, 0, 0]), .inBlock 0, .code (cAt (bodyOf Tryd.f23) [1, 1, 1])]) (by kernel_rfl) rfl (ih_F23_L1 (IntKind.i64.wrap (v2 + 1)) l26 hF))
          · replace hF := iff' hb9 hF
            obtain ⟨l27, e28, hF⟩ := bnd hF
            refine J_adv 16 (J_opt2 (o := app2 ((l20.map e_T_api_Instr).drop 0) ([(⟨1, y3.Var, y3.Val, IntKind.i64.wrap ((IntKind.i64.wrap (3 * v2)) + 2)⟩ : T_api_Instr)].map e_T_api_Instr)) (l27.map e_T_api_Instr) (by kernel_rfl) (am e28) ?_)
            obtain ⟨l28, e29, hF⟩ := bnd hF
            refine J_adv 10 (J_opt2 (o := app2 ((l27.map e_T_api_Instr).drop 0) ([(⟨4, 0, 0, IntKind.i64.wrap ((IntKind.i64.wrap (3 * v2)) + 3)⟩ : T_api_Instr)].map e_T_api_Instr)) (l28.map e_T_api_Instr) (by kernel_rfl) (am e29) ?_)
            obtain ⟨l29, e30, hF⟩ := bnd hF
            refine J_adv 8 (J_opt2 (o := app2 ((l28.map e_T_api_Instr).drop 0) ([(⟨5, 0, y3.Then, 0⟩ : T_api_Instr)].map e_T_api_Instr)) (l29.map e_T_api_Instr) (by kernel_rfl) (am e30) ?_)
            exact J_adv 8 (J_at [1, 3, 4] [1, 36] (T0 := [.inLoop (cAt (bodyOf Tryd.f23) [1, 1, 0, 1, 0, 0]), .inBlock 0, .code (cAt (bodyOf Tryd.f23) [1, 1, 1])]) (by kernel_rfl) rfl (ih_F23_L1 (IntKind.i64.wrap (v2 + 1)) l29 hF))
      · replace hF := iff' hb7 hF
        obtain ⟨l30, e31, hF⟩ := bnd hF
        refine J_adv 9 (J_opt2 (o := app2 ((l20.map e_T_api_Instr).drop 0) ([(⟨5, 0, d0.Else, 0⟩ : T_api_Instr)].map e_T_api_Instr)) (l30.map e_T_api_Instr) (by kernel_rfl) (am e31) ?_)
        have hr_ := Option.some.inj hF; subst hr_
        exact J_adv 2 (J_ret (xs := [.d (.sl 4 (l30.map e_T_api_Instr))]) [.d (.sl 4 (l30.map e_T_api_Instr))] rfl rfl (by kernel_rfl) (Res'.refl _) rfl)
  refine J_adv 16 (J_own (n := 4) 3 36 49 4 (by kernel_rfl) (by kernel_rfl) ?_)
  exact J_adv 0 (J_at [1, 3, 4] [1, 36] (T0 := [.inLoop (cAt (bodyOf Tryd.f23) [1, 1, 0, 1, 0, 0]), .inBlock 0, .code (cAt (bodyOf Tryd.f23) [1, 1, 1])]) (by kernel_rfl) rfl (hF23_L1 fuel 0 [] hF))

/- croupier/croupierref31.Compile -/
def F10 (fuel : Nat) (d0 : T_api_Rules) : Option (List T_api_Instr × Int) :=
  Option.bind (F22 fuel d0) fun y1 =>
  bif !y1 then
    (some ([], 300))
  else
    (Option.bind (F23 fuel d0) fun y2 =>
    some (y2, 0))
theorem F10_ok {fuel : Nat} {d0 : T_api_Rules} {r : List T_api_Instr × Int} (hF : F10 fuel d0 = some r) :
    CallF Tryd.prog 10 [.agg [.d (.sl 4 (d0.List.map e_T_api_Rule)), .d (.int .i64 d0.Else)]] (.tup [.d (.sl 4 (r.1.map e_T_api_Instr)), .d (.int .i64 r.2)]) := by
  unfold F10 at hF
  refine callF_of (N := 9) (b := bodyOf Tryd.f10) Tryd.func10 (by kernel_rfl) rfl rfl ?_
  obtain ⟨y1, e1, hF⟩ := bnd hF
  refine J_adv 10 (J_callF (xs := [.agg [.d (.sl 4 (d0.List.map e_T_api_Rule)), .d (.int .i64 d0.Else)]]) [.agg [.d (.sl 4 (d0.List.map e_T_api_Rule)), .d (.int .i64 d0.Else)]] (.d (.bool y1)) (by kernel_rfl) en22 (Res'.refl _) (F22_ok e1) ?_)
  refine J_adv 2 (J_bool 6 (b := !y1) (by kernel_rfl) (fun hb1 => ?_) (fun hb1 => ?_))
  · replace hF := ift hb1 hF
    have hr_ := Option.some.inj hF; subst hr_
    exact J_adv 6 (J_ret (xs := [.d (.sl 4 ([].map e_T_api_Instr)), .d (.int .i64 300)]) [.d (.sl 4 ([].map e_T_api_Instr)), .d (.int .i64 300)] rfl rfl (by kernel_rfl) (Res'.refl _) rfl)
  · replace hF := iff' hb1 hF
    obtain ⟨y2, e2, hF⟩ := bnd hF
    refine J_adv 5 (J_callF (xs := [.agg [.d (.sl 4 (d0.List.map e_T_api_Rule)), .d (.int .i64 d0.Else)]]) [.agg [.d (.sl 4 (d0.List.map e_T_api_Rule)), .d (.int .i64 d0.Else)]] (.d (.sl 4 (y2.map e_T_api_Instr))) (by kernel_rfl) en23 (Res'.refl _) (F23_ok e2) ?_)
    have hr_ := Option.some.inj hF; subst hr_
    exact J_adv 3 (J_ret (xs := [.d (.sl 4 (y2.map e_T_api_Instr)), .d (.int .i64 0)]) [.d (.sl 4 (y2.map e_T_api_Instr)), .d (.int .i64 0)] rfl rfl (by kernel_rfl) (Res'.refl _) rfl)

/- croupier/croupierlaw31.CodeCompiles -/
def F3_L1 (fuel : Nat) (d2 : T_api_Rules) (l1 : List T_api_Rule) (y2 : T_api_Rules) : Nat → Int → Option Bool
  | 0, _ => none
  | n_F3_L1 + 1, v2 =>
    bif decide (v2 < 2) then
      (Option.bind (geti [y2, (⟨l1, d2.Else⟩ : T_api_Rules)] v2) fun y15 =>
      Option.bind (F9 fuel y15) fun y16 =>
      Option.bind (F10 fuel y15) fun y17 =>
      Option.bind (
        bif y16.2 != y17.2 then
          (some true)
        else
          (Option.bind (F11 fuel y16.1 y17.1) fun y20 =>
          some (!y20))) fun o3 =>
      bif o3 then
        (some false)
      else
        ((F3_L1 fuel d2 l1 y2 n_F3_L1) (IntKind.i64.wrap (v2 + 1))))
    else
      (some true)
def F3 (fuel : Nat) (d0 : T_croupierref30_Wish) (d1 : Int) (d2 : T_api_Rules) : Option Bool :=
  Option.bind (F7 fuel) fun y1 =>
  bif !y1 then
    (some false)
  else
    (Option.bind (slc d2.List 0 (bif decide (14 < ((d2.List.map e_T_api_Rule).length : Int)) then 14 else ((d2.List.map e_T_api_Rule).length : Int))) fun l1 =>
    Option.bind (F8 fuel d0 (IntKind.i64.wrap (1 + (IntKind.i64.wrap (Int.tmod d1 4))))) fun y2 =>
    F3_L1 fuel d2 l1 y2 fuel 0)
theorem F3_ok {fuel : Nat} {d0 : T_croupierref30_Wish} {d1 : Int} {d2 : T_api_Rules} {r : Bool} (hF : F3 fuel d0 d1 d2 = some r) :
    CallF Tryd.prog 3 [.agg [.d (.sl 4 (d0.L.map e_a4i8)), .d (.int .u8 d0.Else)], .d (.int .u8 d1), .agg [.d (.sl 4 (d2.List.map e_T_api_Rule)), .d (.int .i64 d2.Else)]] (.d (.bool r)) := by
  unfold F3 at hF
  refine callF_of (N := 54) (b := bodyOf Tryd.f3) Tryd.func3 (by kernel_rfl) rfl rfl ?_
  obtain ⟨y1, e1, hF⟩ := bnd hF
  refine J_adv 9 (J_callF (xs := []) [] (.d (.bool y1)) (by kernel_rfl) en7 (Res'.refl _) (F7_ok e1) ?_)
  refine J_adv 2 (J_bool 14 (b := !y1) (by kernel_rfl) (fun hb1 => ?_) (fun hb1 => ?_))
  · replace hF := ift hb1 hF
    have hr_ := Option.some.inj hF; subst hr_
    exact J_adv 5 (J_ret (xs := [.d (.bool false)]) [.d (.bool false)] rfl rfl (by kernel_rfl) (Res'.refl _) rfl)
  · replace hF := iff' hb1 hF
    obtain ⟨l1, e2, hF⟩ := bnd hF
    refine J_adv 10 (J_opt2 (o := slc (d2.List.map e_T_api_Rule) 0 (bif decide (14 < ((d2.List.map e_T_api_Rule).length : Int)) then 14 else ((d2.List.map e_T_api_Rule).length : Int))) (l1.map e_T_api_Rule) (by kernel_rfl) (sm e2) ?_)
    refine J_adv 5 (J_draw (by kernel_rfl) (by kernel_rfl) ?_)
    obtain ⟨y2, e3, hF⟩ := bnd hF
    refine JD_adv 5 (JD_callF (xs := [.agg [.d (.sl 4 (d0.L.map e_a4i8)), .d (.int .u8 d0.Else)], .d (.int .i64 (IntKind.i64.wrap (1 + (IntKind.i64.wrap (Int.tmod d1 4)))))]) [.agg [.d (.sl 4 (d0.L.map e_a4i8)), .d (.int .u8 d0.Else)], .d (.int .i64 (IntKind.i64.wrap (1 + (IntKind.i64.wrap (Int.tmod d1 4)))))] (.agg [.d (.sl 4 (y2.List.map e_T_api_Rule)), .d (.int .i64 y2.Else)]) (by kernel_rfl) (by kernel_rfl) en8 (Res'.refl _) (F8_ok e3) ?_)
    refine JD_adv 3 (JD_end (by kernel_rfl) ?_)
    have hF3_L1 : ∀ (n_F3_L1 : Nat) (v2 : Int), F3_L1 fuel d2 l1 y2 n_F3_L1 v2 = some r → J none Tryd.prog 54 [] (finF Tryd.prog Tryd.f3 (.d (.bool r))) ⟨mkT [(30, .agg [.d (.sl 4 (y2.List.map e_T_api_Rule)), .d (.int .i64 y2.Else), .d (.sl 4 (l1.map e_T_api_Rule)), .d (.int .i64 d2.Else)]), (31, .d (.int .i64 v2))], [], [.inLoop (cAt (bodyOf Tryd.f3) [1, 1, 1, 0, 1, 0, 0]), .inBlock 0, .code (cAt (bodyOf Tryd.f3) [1, 1, 1, 1])]⟩ := by
      clear hF; intro n_F3_L1
      induction n_F3_L1 with
      | zero => intro v2 hF; cases hF
      | succ n_F3_L1 ih_F3_L1 =>
        intro v2 hF
        rw [F3_L1] at hF
        refine J_adv 6 (J_bool 32 (b := decide (v2 < 2)) (by kernel_rfl) (fun hb12 => ?_) (fun hb12 => ?_))
        · replace hF := ift hb12 hF
          obtain ⟨y15, e16, hF⟩ := bnd hF
          refine J_adv 6 (J_opt1 (o := geti (chunks 2 2 ([.sl 4 (y2.List.map e_T_api_Rule), .int .i64 y2.Else, .sl 4 (l1.map e_T_api_Rule), .int .i64 d2.Else] : List Dat)) v2) (e_T_api_Rules y15) (by kernel_rfl) (gm (f := e_T_api_Rules) e16) ?_)
          obtain ⟨y16, e17, hF⟩ := bnd hF
          refine J_adv 6 (J_callF (xs := [.agg [.d (.sl 4 (y15.List.map e_T_api_Rule)), .d (.int .i64 y15.Else)]]) [.agg [.d (.sl 4 (y15.List.map e_T_api_Rule)), .d (.int .i64 y15.Else)]] (.tup [.d (.sl 4 (y16.1.map e_T_api_Instr)), .d (.int .i64 y16.2)]) (by kernel_rfl) en9 (Res'.refl _) (F9_ok e17) ?_)
          obtain ⟨y17, e18, hF⟩ := bnd hF
          refine J_adv 9 (J_callF (xs := [.agg [.d (.sl 4 (y15.List.map e_T_api_Rule)), .d (.int .i64 y15.Else)]]) [.agg [.d (.sl 4 (y15.List.map e_T_api_Rule)), .d (.int .i64 y15.Else)]] (.tup [.d (.sl 4 (y17.1.map e_T_api_Instr)), .d (.int .i64 y17.2)]) (by kernel_rfl) en10 (Res'.refl _) (F10_ok e18) ?_)
          obtain ⟨o3, hO, hF⟩ := bnd hF
          have hR3 : J none Tryd.prog 54 [] (finF Tryd.prog Tryd.f3 (.d (.bool r))) ⟨mkT [(30, .agg [.d (.sl 4 (y2.List.map e_T_api_Rule)), .d (.int .i64 y2.Else), .d (.sl 4 (l1.map e_T_api_Rule)), .d (.int .i64 d2.Else)]), (31, .d (.int .i64 v2)), (52, .d (.bool o3))], [], [.ops (opsOf (cAt (bodyOf Tryd.f3) [1, 1, 1, 0, 1, 0, 0, 1, 1, 0, 0, 1, 1, 1, 0])) [], .code (cAt (bodyOf Tryd.f3) [1, 1, 1, 0, 1, 0, 0, 1, 1, 0, 0, 1, 1, 1, 1]), .inBlock 1, .code (cAt (bodyOf Tryd.f3) [1, 1, 1, 0, 1, 0, 0, 1, 1, 1]), .inLoop (cAt (bodyOf Tryd.f3) [1, 1, 1, 0, 1, 0, 0]), .inBlock 0, .code (cAt (bodyOf Tryd.f3) [1, 1, 1, 1])]⟩ := by
            clear hO
            refine J_adv 1 (J_bool 52 (b := o3) (by kernel_rfl) (fun hb15 => ?_) (fun hb15 => ?_))
            · replace hF := ift hb15 hF
              have hr_ := Option.some.inj hF; subst hr_
              exact J_adv 5 (J_ret (xs := [.d (.bool false)]) [.d (.bool false)] rfl rfl (by kernel_rfl) (Res'.refl _) rfl)
            · replace hF := iff' hb15 hF
              exact J_adv 7 (J_at [30, 31] [] (T0 := [.inLoop (cAt (bodyOf Tryd.f3) [1, 1, 1, 0, 1, 0, 0]), .inBlock 0, .code (cAt (bodyOf Tryd.f3) [1, 1, 1, 1])]) (by kernel_rfl) rfl (ih_F3_L1 (IntKind.i64.wrap (v2 + 1)) hF))
          clear hF; rename _ = some o3 => hF
          refine J_adv 12 (J_bool 47 (b := y16.2 != y17.2) (by kernel_rfl) (fun hb16 => ?_) (fun hb16 => ?_))
          · replace hF := ift hb16 hF
            have hr_ := Option.some.inj hF; subst hr_
            exact J_adv 5 (J_at [30, 31, 52] [] (T0 := [.ops (opsOf (cAt (bodyOf Tryd.f3) [1, 1, 1, 0, 1, 0, 0, 1, 1, 0, 0, 1, 1, 1, 0])) [], .code (cAt (bodyOf Tryd.f3) [1, 1, 1, 0, 1, 0, 0, 1, 1, 0, 0, 1, 1, 1, 1]), .inBlock 1, .code (cAt (bodyOf Tryd.f3) [1, 1, 1, 0, 1, 0, 0, 1, 1, 1]), .inLoop (cAt (bodyOf Tryd.f3) [1, 1, 1, 0, 1, 0, 0]), .inBlock 0, .code (cAt (bodyOf Tryd.f3) [1, 1, 1, 1])]) (by kernel_rfl) rfl hR3)
          · replace hF := iff' hb16 hF
            obtain ⟨y20, e21, hF⟩ := bnd hF
            refine J_adv 2 (J_callF (xs := [.d (.sl 4 (y16.1.map e_T_api_Instr)), .d (.sl 4 (y17.1.map e_T_api_Instr))]) [.d (.sl 4 (y16.1.map e_T_api_Instr)), .d (.sl 4 (y17.1.map e_T_api_Instr))] (.d (.bool y20)) (by kernel_rfl) en11 (Res'.refl _) (F11_ok e21) ?_)
            have hr_ := Option.some.inj hF; subst hr_
            exact J_adv 2 (J_at [30, 31, 52] [] (T0 := [.ops (opsOf (cAt (bodyOf Tryd.f3) [1, 1, 1, 0, 1, 0, 0, 1, 1, 0, 0, 1, 1, 1, 0])) [], .code (cAt (bodyOf Tryd.f3) [1, 1, 1, 0, 1, 0, 0, 1, 1, 0, 0, 1, 1, 1, 1]), .inBlock 1, .code (cAt (bodyOf Tryd.f3) [1, 1, 1, 0, 1, 0, 0, 1, 1, 1]), .inLoop (cAt (bodyOf Tryd.f3) [1, 1, 1, 0, 1, 0, 0]), .inBlock 0, .code (cAt (bodyOf Tryd.f3) [1, 1, 1, 1])]) (by kernel_rfl) rfl hR3)
        · replace hF := iff' hb12 hF
          have hr_ := Option.some.inj hF; subst hr_
          exact J_adv 6 (J_ret (xs := [.d (.bool true)]) [.d (.bool true)] rfl rfl (by kernel_rfl) (Res'.refl _) rfl)
    exact J_adv 2 (J_at [30, 31] [] (T0 := [.inLoop (cAt (bodyOf Tryd.f3) [1, 1, 1, 0, 1, 0, 0]), .inBlock 0, .code (cAt (bodyOf Tryd.f3) [1, 1, 1, 1])]) (by kernel_rfl) rfl (hF3_L1 fuel 0 hF))

end Go.Proofs.YtilfjfpemjfalaaDoor
