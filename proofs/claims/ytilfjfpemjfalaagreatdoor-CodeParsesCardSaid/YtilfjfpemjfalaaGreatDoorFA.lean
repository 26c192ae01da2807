import Derived.Test.YtilfjfpemjfalaaGreatDoorLb
import Derived.Test.YtilfjfpemjfalaaGreatDoorShelf
import Derived.Test.YtilfjfpemjfalaaGreatDoorProg
import Derived.KernelRfl
set_option linter.unusedVariables false
set_option maxRecDepth 100000
namespace Go.Proofs.YtilfjfpemjfalaaGreatDoor
open Go Go.RowKit Kx

theorem en30 : entersT Tryz.prog 30 := Kx.enters_of Tryz.func30 (by kernel_rfl) (by kernel_rfl)
theorem en85 : entersT Tryz.prog 85 := Kx.enters_of Tryz.func85 (by kernel_rfl) (by kernel_rfl)
theorem en87 : entersT Tryz.prog 87 := Kx.enters_of Tryz.func87 (by kernel_rfl) (by kernel_rfl)
theorem en103 : entersT Tryz.prog 103 := Kx.enters_of Tryz.func103 (by kernel_rfl) (by kernel_rfl)
theorem en86 : entersT Tryz.prog 86 := Kx.enters_of Tryz.func86 (by kernel_rfl) (by kernel_rfl)
theorem en55 : entersT Tryz.prog 55 := Kx.enters_of Tryz.func55 (by kernel_rfl) (by kernel_rfl)
theorem en54 : entersT Tryz.prog 54 := Kx.enters_of Tryz.func54 (by kernel_rfl) (by kernel_rfl)
theorem en25 : entersT Tryz.prog 25 := Kx.enters_of Tryz.func25 (by kernel_rfl) (by kernel_rfl)
theorem en33 : entersT Tryz.prog 33 := Kx.enters_of Tryz.func33 (by kernel_rfl) (by kernel_rfl)
theorem en31 : entersT Tryz.prog 31 := Kx.enters_of Tryz.func31 (by kernel_rfl) (by kernel_rfl)
theorem en83 : entersT Tryz.prog 83 := Kx.enters_of Tryz.func83 (by kernel_rfl) (by kernel_rfl)
theorem en47 : entersT Tryz.prog 47 := Kx.enters_of Tryz.func47 (by kernel_rfl) (by kernel_rfl)
theorem en48 : entersT Tryz.prog 48 := Kx.enters_of Tryz.func48 (by kernel_rfl) (by kernel_rfl)
theorem en49 : entersT Tryz.prog 49 := Kx.enters_of Tryz.func49 (by kernel_rfl) (by kernel_rfl)
theorem en50 : entersT Tryz.prog 50 := Kx.enters_of Tryz.func50 (by kernel_rfl) (by kernel_rfl)
theorem en51 : entersT Tryz.prog 51 := Kx.enters_of Tryz.func51 (by kernel_rfl) (by kernel_rfl)
theorem en18 : entersT Tryz.prog 18 := Kx.enters_of Tryz.func18 (by kernel_rfl) (by kernel_rfl)
theorem en44 : entersT Tryz.prog 44 := Kx.enters_of Tryz.func44 (by kernel_rfl) (by kernel_rfl)
theorem en76 : entersT Tryz.prog 76 := Kx.enters_of Tryz.func76 (by kernel_rfl) (by kernel_rfl)
theorem en77 : entersT Tryz.prog 77 := Kx.enters_of Tryz.func77 (by kernel_rfl) (by kernel_rfl)
theorem en78 : entersT Tryz.prog 78 := Kx.enters_of Tryz.func78 (by kernel_rfl) (by kernel_rfl)
theorem en98 : entersT Tryz.prog 98 := Kx.enters_of Tryz.func98 (by kernel_rfl) (by kernel_rfl)
theorem en79 : entersT Tryz.prog 79 := Kx.enters_of Tryz.func79 (by kernel_rfl) (by kernel_rfl)
theorem en45 : entersT Tryz.prog 45 := Kx.enters_of Tryz.func45 (by kernel_rfl) (by kernel_rfl)
theorem en43 : entersT Tryz.prog 43 := Kx.enters_of Tryz.func43 (by kernel_rfl) (by kernel_rfl)
theorem en75 : entersT Tryz.prog 75 := Kx.enters_of Tryz.func75 (by kernel_rfl) (by kernel_rfl)
theorem en15 : entersT Tryz.prog 15 := Kx.enters_of Tryz.func15 (by kernel_rfl) (by kernel_rfl)
theorem en27 : entersT Tryz.prog 27 := Kx.enters_of Tryz.func27 (by kernel_rfl) (by kernel_rfl)
theorem en52 : entersT Tryz.prog 52 := Kx.enters_of Tryz.func52 (by kernel_rfl) (by kernel_rfl)
theorem en20 : entersT Tryz.prog 20 := Kx.enters_of Tryz.func20 (by kernel_rfl) (by kernel_rfl)
theorem en17 : entersT Tryz.prog 17 := Kx.enters_of Tryz.func17 (by kernel_rfl) (by kernel_rfl)
theorem en35 : entersT Tryz.prog 35 := Kx.enters_of Tryz.func35 (by kernel_rfl) (by kernel_rfl)
theorem en63 : entersT Tryz.prog 63 := Kx.enters_of Tryz.func63 (by kernel_rfl) (by kernel_rfl)
theorem en34 : entersT Tryz.prog 34 := Kx.enters_of Tryz.func34 (by kernel_rfl) (by kernel_rfl)
theorem en32 : entersT Tryz.prog 32 := Kx.enters_of Tryz.func32 (by kernel_rfl) (by kernel_rfl)
theorem en64 : entersT Tryz.prog 64 := Kx.enters_of Tryz.func64 (by kernel_rfl) (by kernel_rfl)
theorem en36 : entersT Tryz.prog 36 := Kx.enters_of Tryz.func36 (by kernel_rfl) (by kernel_rfl)
theorem en37 : entersT Tryz.prog 37 := Kx.enters_of Tryz.func37 (by kernel_rfl) (by kernel_rfl)
theorem en95 : entersT Tryz.prog 95 := Kx.enters_of Tryz.func95 (by kernel_rfl) (by kernel_rfl)
theorem en65 : entersT Tryz.prog 65 := Kx.enters_of Tryz.func65 (by kernel_rfl) (by kernel_rfl)
theorem en66 : entersT Tryz.prog 66 := Kx.enters_of Tryz.func66 (by kernel_rfl) (by kernel_rfl)
theorem en67 : entersT Tryz.prog 67 := Kx.enters_of Tryz.func67 (by kernel_rfl) (by kernel_rfl)
theorem en68 : entersT Tryz.prog 68 := Kx.enters_of Tryz.func68 (by kernel_rfl) (by kernel_rfl)
theorem en69 : entersT Tryz.prog 69 := Kx.enters_of Tryz.func69 (by kernel_rfl) (by kernel_rfl)
theorem en11 : entersT Tryz.prog 11 := Kx.enters_of Tryz.func11 (by kernel_rfl) (by kernel_rfl)
theorem en29 : entersT Tryz.prog 29 := Kx.enters_of Tryz.func29 (by kernel_rfl) (by kernel_rfl)

structure T_api_Rule where
  Var : Int
  Test : Int
  Val : Int
  Then : Int
  deriving DecidableEq
structure T_api_Rules where
  List : List T_api_Rule
  Else : Int
  deriving DecidableEq
def e_T_api_Rule (x : T_api_Rule) : List Dat := [.int .i64 x.Var, .int .i64 x.Test, .int .i64 x.Val, .int .i64 x.Then]
/- croupier/croupierlaw31.rule -/
def F30 : Option T_api_Rules :=
  some (⟨[(⟨0, 2, 1, 2⟩ : T_api_Rule)], 3⟩ : T_api_Rules)
theorem F30_ok {r : T_api_Rules} (hF : F30 = some r) :
    CallF Tryz.prog 30 [] (.agg [.d (.sl 4 (r.List.map e_T_api_Rule)), .d (.int .i64 r.Else)]) := by
  unfold F30 at hF
  refine callF_of (N := 4) (b := bodyOf Tryz.f30) Tryz.func30 (by kernel_rfl) rfl rfl ?_
  have hr_ := Option.some.inj hF; subst hr_
  exact J_adv 11 (J_ret (xs := [.agg [.d (.sl 4 ([(⟨0, 2, 1, 2⟩ : T_api_Rule)].map e_T_api_Rule)), .d (.int .i64 3)]]) [.agg [.d (.sl 4 ([(⟨0, 2, 1, 2⟩ : T_api_Rule)].map e_T_api_Rule)), .d (.int .i64 3)]] rfl rfl (by kernel_rfl) (Res'.refl _) rfl)

structure T_api_Instr where
  Op : Int
  Var : Int
  Val : Int
  Go : Int
  deriving DecidableEq
def e_T_api_Instr (x : T_api_Instr) : List Dat := [.int .i64 x.Op, .int .i64 x.Var, .int .i64 x.Val, .int .i64 x.Go]
/- croupier/rules.in -/
def F85 (d0 : Int) (d1 : Int) (d2 : Int) : Option Bool :=
  Option.bind (
    bif decide (d0 ≥ d1) then
      (some (decide (d0 ≤ d2)))
    else
      (some false)) fun o1 =>
  some o1
theorem F85_ok {d0 : Int} {d1 : Int} {d2 : Int} {r : Bool} (hF : F85 d0 d1 d2 = some r) :
    CallF Tryz.prog 85 [.d (.int .i64 d0), .d (.int .i64 d1), .d (.int .i64 d2)] (.d (.bool r)) := by
  unfold F85 at hF
  refine callF_of (N := 15) (b := bodyOf Tryz.f85) Tryz.func85 (by kernel_rfl) rfl rfl ?_
  obtain ⟨o1, hO, hF⟩ := bnd hF
  have hR1 : J none Tryz.prog 15 [] (finF Tryz.prog Tryz.f85 (.d (.bool r))) ⟨mkT [(6, .d (.bool o1))], [], [.ops (opsOf (cAt (bodyOf Tryz.f85) [1, 0])) [], .code (cAt (bodyOf Tryz.f85) [1, 1])]⟩ := by
    clear hO
    have hr_ := Option.some.inj hF; subst hr_
    exact J_adv 1 (J_ret (xs := [.d (.bool o1)]) [.d (.bool o1)] rfl rfl (by kernel_rfl) (Res'.refl _) rfl)
  clear hF; rename _ = some o1 => hF
  refine J_adv 10 (J_bool 10 (b := decide (d0 ≥ d1)) (by kernel_rfl) (fun hb3 => ?_) (fun hb3 => ?_))
  · replace hF := ift hb3 hF
    have hr_ := Option.some.inj hF; subst hr_
    exact J_adv 5 (J_at [6] [] (T0 := [.ops (opsOf (cAt (bodyOf Tryz.f85) [1, 0])) [], .code (cAt (bodyOf Tryz.f85) [1, 1])]) (by kernel_rfl) rfl hR1)
  · replace hF := iff' hb3 hF
    have hr_ := Option.some.inj hF; subst hr_
    exact J_adv 5 (J_at [6] [] (T0 := [.ops (opsOf (cAt (bodyOf Tryz.f85) [1, 0])) [], .code (cAt (bodyOf Tryz.f85) [1, 1])]) (by kernel_rfl) rfl hR1)

/- croupier/rules.valid$1 -/
def F87 (d0 : T_api_Rule) : Option Bool :=
  Option.bind (
    Option.bind (F85 d0.Var 0 3) fun y9 =>
    bif !y9 then
      (some true)
    else
      (Option.bind (F85 d0.Test 1 3) fun y10 =>
      bif !y10 then
        (some true)
      else
        (Option.bind (F85 d0.Val (-99) 99) fun y11 =>
        bif !y11 then
          (some true)
        else
          (Option.bind (F85 d0.Then 0 3) fun y12 =>
          some (!y12))))) fun o1 =>
  some o1
theorem F87_ok {d0 : T_api_Rule} {r : Bool} (hF : F87 d0 = some r) :
    CallF Tryz.prog 87 [.agg [.d (.int .i64 d0.Var), .d (.int .i64 d0.Test), .d (.int .i64 d0.Val), .d (.int .i64 d0.Then)]] (.d (.bool r)) := by
  unfold F87 at hF
  refine callF_of (N := 25) (b := bodyOf Tryz.f87) Tryz.func87 (by kernel_rfl) rfl rfl ?_
  obtain ⟨o1, hO, hF⟩ := bnd hF
  have hR1 : J none Tryz.prog 25 [] (finF Tryz.prog Tryz.f87 (.d (.bool r))) ⟨mkT [(2, .d (.bool o1))], [], [.ops (opsOf (cAt (bodyOf Tryz.f87) [1, 0])) [], .code (cAt (bodyOf Tryz.f87) [1, 1])]⟩ := by
    clear hO
    have hr_ := Option.some.inj hF; subst hr_
    exact J_adv 1 (J_ret (xs := [.d (.bool o1)]) [.d (.bool o1)] rfl rfl (by kernel_rfl) (Res'.refl _) rfl)
  clear hF; rename _ = some o1 => hF
  obtain ⟨y9, e9, hF⟩ := bnd hF
  refine J_adv 9 (J_callF (xs := [.d (.int .i64 d0.Var), .d (.int .i64 0), .d (.int .i64 3)]) [.d (.int .i64 d0.Var), .d (.int .i64 0), .d (.int .i64 3)] (.d (.bool y9)) (by kernel_rfl) en85 (Res'.refl _) (F85_ok e9) ?_)
  refine J_adv 2 (J_bool 7 (b := !y9) (by kernel_rfl) (fun hb7 => ?_) (fun hb7 => ?_))
  · replace hF := ift hb7 hF
    have hr_ := Option.some.inj hF; subst hr_
    exact J_adv 18 (J_at [2] [] (T0 := [.ops (opsOf (cAt (bodyOf Tryz.f87) [1, 0])) [], .code (cAt (bodyOf Tryz.f87) [1, 1])]) (by kernel_rfl) rfl hR1)
  · replace hF := iff' hb7 hF
    obtain ⟨y10, e10, hF⟩ := bnd hF
    refine J_adv 2 (J_callF (xs := [.d (.int .i64 d0.Test), .d (.int .i64 1), .d (.int .i64 3)]) [.d (.int .i64 d0.Test), .d (.int .i64 1), .d (.int .i64 3)] (.d (.bool y10)) (by kernel_rfl) en85 (Res'.refl _) (F85_ok e10) ?_)
    refine J_adv 3 (J_bool 13 (b := !y10) (by kernel_rfl) (fun hb8 => ?_) (fun hb8 => ?_))
    · replace hF := ift hb8 hF
      have hr_ := Option.some.inj hF; subst hr_
      exact J_adv 12 (J_at [2] [] (T0 := [.ops (opsOf (cAt (bodyOf Tryz.f87) [1, 0])) [], .code (cAt (bodyOf Tryz.f87) [1, 1])]) (by kernel_rfl) rfl hR1)
    · replace hF := iff' hb8 hF
      obtain ⟨y11, e11, hF⟩ := bnd hF
      refine J_adv 2 (J_callF (xs := [.d (.int .i64 d0.Val), .d (.int .i64 (-99)), .d (.int .i64 99)]) [.d (.int .i64 d0.Val), .d (.int .i64 (-99)), .d (.int .i64 99)] (.d (.bool y11)) (by kernel_rfl) en85 (Res'.refl _) (F85_ok e11) ?_)
      refine J_adv 3 (J_bool 19 (b := !y11) (by kernel_rfl) (fun hb9 => ?_) (fun hb9 => ?_))
      · replace hF := ift hb9 hF
        have hr_ := Option.some.inj hF; subst hr_
        exact J_adv 6 (J_at [2] [] (T0 := [.ops (opsOf (cAt (bodyOf Tryz.f87) [1, 0])) [], .code (cAt (bodyOf Tryz.f87) [1, 1])]) (by kernel_rfl) rfl hR1)
      · replace hF := iff' hb9 hF
        obtain ⟨y12, e12, hF⟩ := bnd hF
        refine J_adv 2 (J_callF (xs := [.d (.int .i64 d0.Then), .d (.int .i64 0), .d (.int .i64 3)]) [.d (.int .i64 d0.Then), .d (.int .i64 0), .d (.int .i64 3)] (.d (.bool y12)) (by kernel_rfl) en85 (Res'.refl _) (F85_ok e12) ?_)
        have hr_ := Option.some.inj hF; subst hr_
        exact J_adv 3 (J_at [2] [] (T0 := [.ops (opsOf (cAt (bodyOf Tryz.f87) [1, 0])) [], .code (cAt (bodyOf Tryz.f87) [1, 1])]) (by kernel_rfl) rfl hR1)

/- slices.IndexFunc(()croupier/api.Rule,croupier/api.Rule) -/
def F103_L1 (d0 : List T_api_Rule) : Nat → Int → Option Int
  | 0, _ => none
  | n_F103_L1 + 1, v2 =>
    bif decide (v2 < ((d0.map e_T_api_Rule).length : Int)) then
      (Option.bind (geti d0 v2) fun y5 =>
      Option.bind (F87 y5) fun y6 =>
      bif y6 then
        (some v2)
      else
        ((F103_L1 d0 n_F103_L1) (IntKind.i64.wrap (v2 + 1))))
    else
      (some (-1))
def F103 (fuel : Nat) (d0 : List T_api_Rule) : Option Int :=
  F103_L1 d0 fuel 0
theorem F103_ok {fuel : Nat} {d0 : List T_api_Rule} {r : Int} (hF : F103 fuel d0 = some r) :
    CallF Tryz.prog 103 [.d (.sl 4 (d0.map e_T_api_Rule)), .d (.fnc 87)] (.d (.int .i64 r)) := by
  unfold F103 at hF
  refine callF_of (N := 19) (b := bodyOf Tryz.f103) Tryz.func103 (by kernel_rfl) rfl rfl ?_
  have hF103_L1 : ∀ (n_F103_L1 : Nat) (v2 : Int), F103_L1 d0 n_F103_L1 v2 = some r → J none Tryz.prog 19 [] (finF Tryz.prog Tryz.f103 (.d (.int .i64 r))) ⟨mkT [(0, .d (.sl 4 (d0.map e_T_api_Rule))), (1, .d (.fnc 87)), (7, .d (.int .i64 ((d0.map e_T_api_Rule).length : Int))), (8, .d (.int .i64 v2))], [], [.inLoop (cAt (bodyOf Tryz.f103) [1, 0, 1, 0, 0]), .inBlock 0, .code (cAt (bodyOf Tryz.f103) [1, 1])]⟩ := by
    clear hF; intro n_F103_L1
    induction n_F103_L1 with
    | zero => intro v2 hF; cases hF
    | succ n_F103_L1 ih_F103_L1 =>
      intro v2 hF
      rw [F103_L1] at hF
      refine J_adv 6 (J_bool 9 (b := decide (v2 < ((d0.map e_T_api_Rule).length : Int))) (by kernel_rfl) (fun hb5 => ?_) (fun hb5 => ?_))
      · replace hF := ift hb5 hF
        obtain ⟨y5, e5, hF⟩ := bnd hF
        refine J_adv 14 (J_opt1 (o := geti (d0.map e_T_api_Rule) v2) (e_T_api_Rule y5) (by kernel_rfl) (gm e5) ?_)
        obtain ⟨y6, e6, hF⟩ := bnd hF
        refine J_adv 1 (J_callF (xs := [.agg [.d (.int .i64 y5.Var), .d (.int .i64 y5.Test), .d (.int .i64 y5.Val), .d (.int .i64 y5.Then)]]) [.agg [.d (.int .i64 y5.Var), .d (.int .i64 y5.Test), .d (.int .i64 y5.Val), .d (.int .i64 y5.Then)]] (.d (.bool y6)) (by kernel_rfl) en87 (Res'.refl _) (F87_ok e6) ?_)
        refine J_adv 1 (J_bool 16 (b := y6) (by kernel_rfl) (fun hb6 => ?_) (fun hb6 => ?_))
        · replace hF := ift hb6 hF
          have hr_ := Option.some.inj hF; subst hr_
          exact J_adv 6 (J_ret (xs := [.d (.int .i64 v2)]) [.d (.int .i64 v2)] rfl rfl (by kernel_rfl) (Res'.refl _) rfl)
        · replace hF := iff' hb6 hF
          exact J_adv 7 (J_at [0, 1, 7, 8] [] (T0 := [.inLoop (cAt (bodyOf Tryz.f103) [1, 0, 1, 0, 0]), .inBlock 0, .code (cAt (bodyOf Tryz.f103) [1, 1])]) (by kernel_rfl) rfl (ih_F103_L1 (IntKind.i64.wrap (v2 + 1)) hF))
      · replace hF := iff' hb5 hF
        have hr_ := Option.some.inj hF; subst hr_
        exact J_adv 6 (J_ret (xs := [.d (.int .i64 (-1))]) [.d (.int .i64 (-1))] rfl rfl (by kernel_rfl) (Res'.refl _) rfl)
  exact J_adv 13 (J_at [0, 1, 7, 8] [] (T0 := [.inLoop (cAt (bodyOf Tryz.f103) [1, 0, 1, 0, 0]), .inBlock 0, .code (cAt (bodyOf Tryz.f103) [1, 1])]) (by kernel_rfl) rfl (hF103_L1 fuel 0 hF))

/- slices.ContainsFunc(()croupier/api.Rule,croupier/api.Rule) -/
def F86 (fuel : Nat) (d0 : List T_api_Rule) : Option Bool :=
  Option.bind (F103 fuel d0) fun y1 =>
  some (decide (y1 ≥ 0))
theorem F86_ok {fuel : Nat} {d0 : List T_api_Rule} {r : Bool} (hF : F86 fuel d0 = some r) :
    CallF Tryz.prog 86 [.d (.sl 4 (d0.map e_T_api_Rule)), .d (.fnc 87)] (.d (.bool r)) := by
  unfold F86 at hF
  refine callF_of (N := 9) (b := bodyOf Tryz.f86) Tryz.func86 (by kernel_rfl) rfl rfl ?_
  obtain ⟨y1, e1, hF⟩ := bnd hF
  refine J_adv 8 (J_callF (xs := [.d (.sl 4 (d0.map e_T_api_Rule)), .d (.fnc 87)]) [.d (.sl 4 (d0.map e_T_api_Rule)), .d (.fnc 87)] (.d (.int .i64 y1)) (by kernel_rfl) en103 (Res'.refl _) (F103_ok e1) ?_)
  have hr_ := Option.some.inj hF; subst hr_
  exact J_adv 3 (J_ret (xs := [.d (.bool (decide (y1 ≥ 0)))]) [.d (.bool (decide (y1 ≥ 0)))] rfl rfl (by kernel_rfl) (Res'.refl _) rfl)

/- croupier/rules.valid -/
def F55 (fuel : Nat) (d0 : T_api_Rules) : Option Bool :=
  Option.bind (
    bif decide (((d0.List.map e_T_api_Rule).length : Int) > 12) then
      (some true)
    else
      (Option.bind (F85 d0.Else 0 3) fun y4 =>
      some (!y4))) fun o1 =>
  bif o1 then
    (some false)
  else
    (Option.bind (F86 fuel d0.List) fun y3 =>
    some (!y3))
theorem F55_ok {fuel : Nat} {d0 : T_api_Rules} {r : Bool} (hF : F55 fuel d0 = some r) :
    CallF Tryz.prog 55 [.agg [.d (.sl 4 (d0.List.map e_T_api_Rule)), .d (.int .i64 d0.Else)]] (.d (.bool r)) := by
  unfold F55 at hF
  refine callF_of (N := 17) (b := bodyOf Tryz.f55) Tryz.func55 (by kernel_rfl) rfl rfl ?_
  obtain ⟨o1, hO, hF⟩ := bnd hF
  have hR1 : J none Tryz.prog 17 [] (finF Tryz.prog Tryz.f55 (.d (.bool r))) ⟨mkT [(1, .ptr 1 0), (12, .d (.bool o1))], [(1, .box 59 [.d (.sl 4 (d0.List.map e_T_api_Rule)), .d (.int .i64 d0.Else)])], [.ops (opsOf (cAt (bodyOf Tryz.f55) [1, 0, 0])) [], .code (cAt (bodyOf Tryz.f55) [1, 0, 1]), .code (cAt (bodyOf Tryz.f55) [1, 1])]⟩ := by
    clear hO
    refine J_adv 1 (J_bool 12 (b := o1) (by kernel_rfl) (fun hb3 => ?_) (fun hb3 => ?_))
    · replace hF := ift hb3 hF
      have hr_ := Option.some.inj hF; subst hr_
      exact J_adv 5 (J_ret (xs := [.d (.bool false)]) [.d (.bool false)] rfl rfl (by kernel_rfl) (Res'.refl _) rfl)
    · replace hF := iff' hb3 hF
      obtain ⟨y3, e3, hF⟩ := bnd hF
      refine J_adv 6 (J_callF (xs := [.d (.sl 4 (d0.List.map e_T_api_Rule)), .d (.fnc 87)]) [.d (.sl 4 (d0.List.map e_T_api_Rule)), .d (.fnc 87)] (.d (.bool y3)) (by kernel_rfl) en86 (Res'.refl _) (F86_ok e3) ?_)
      have hr_ := Option.some.inj hF; subst hr_
      exact J_adv 3 (J_ret (xs := [.d (.bool (!y3))]) [.d (.bool (!y3))] rfl rfl (by kernel_rfl) (Res'.refl _) rfl)
  clear hF; rename _ = some o1 => hF
  refine J_adv 13 (J_bool 7 (b := decide (((d0.List.map e_T_api_Rule).length : Int) > 12)) (by kernel_rfl) (fun hb4 => ?_) (fun hb4 => ?_))
  · replace hF := ift hb4 hF
    have hr_ := Option.some.inj hF; subst hr_
    exact J_adv 5 (J_at [1, 12] [1] (T0 := [.ops (opsOf (cAt (bodyOf Tryz.f55) [1, 0, 0])) [], .code (cAt (bodyOf Tryz.f55) [1, 0, 1]), .code (cAt (bodyOf Tryz.f55) [1, 1])]) (by kernel_rfl) rfl hR1)
  · replace hF := iff' hb4 hF
    obtain ⟨y4, e4, hF⟩ := bnd hF
    refine J_adv 2 (J_callF (xs := [.d (.int .i64 d0.Else), .d (.int .i64 0), .d (.int .i64 3)]) [.d (.int .i64 d0.Else), .d (.int .i64 0), .d (.int .i64 3)] (.d (.bool y4)) (by kernel_rfl) en85 (Res'.refl _) (F85_ok e4) ?_)
    have hr_ := Option.some.inj hF; subst hr_
    exact J_adv 2 (J_at [1, 12] [1] (T0 := [.ops (opsOf (cAt (bodyOf Tryz.f55) [1, 0, 0])) [], .code (cAt (bodyOf Tryz.f55) [1, 0, 1]), .code (cAt (bodyOf Tryz.f55) [1, 1])]) (by kernel_rfl) rfl hR1)

/- croupier/rules.Check -/
def F54 (fuel : Nat) (d0 : T_api_Rules) : Option Int :=
  Option.bind (F55 fuel d0) fun y1 =>
  bif !y1 then
    (some 300)
  else
    (some 0)
theorem F54_ok {fuel : Nat} {d0 : T_api_Rules} {r : Int} (hF : F54 fuel d0 = some r) :
    CallF Tryz.prog 54 [.agg [.d (.sl 4 (d0.List.map e_T_api_Rule)), .d (.int .i64 d0.Else)]] (.d (.int .i64 r)) := by
  unfold F54 at hF
  refine callF_of (N := 6) (b := bodyOf Tryz.f54) Tryz.func54 (by kernel_rfl) rfl rfl ?_
  obtain ⟨y1, e1, hF⟩ := bnd hF
  refine J_adv 9 (J_callF (xs := [.agg [.d (.sl 4 (d0.List.map e_T_api_Rule)), .d (.int .i64 d0.Else)]]) [.agg [.d (.sl 4 (d0.List.map e_T_api_Rule)), .d (.int .i64 d0.Else)]] (.d (.bool y1)) (by kernel_rfl) en55 (Res'.refl _) (F55_ok e1) ?_)
  refine J_adv 2 (J_bool 5 (b := !y1) (by kernel_rfl) (fun hb1 => ?_) (fun hb1 => ?_))
  · replace hF := ift hb1 hF
    have hr_ := Option.some.inj hF; subst hr_
    exact J_adv 5 (J_ret (xs := [.d (.int .i64 300)]) [.d (.int .i64 300)] rfl rfl (by kernel_rfl) (Res'.refl _) rfl)
  · replace hF := iff' hb1 hF
    have hr_ := Option.some.inj hF; subst hr_
    exact J_adv 6 (J_ret (xs := [.d (.int .i64 0)]) [.d (.int .i64 0)] rfl rfl (by kernel_rfl) (Res'.refl _) rfl)

/- croupier/code.Compile -/
def F25_L1 (d0 : T_api_Rules) : Nat → Int → (List T_api_Instr) → Option (List T_api_Instr × Int)
  | 0, _, _ => none
  | n_F25_L1 + 1, v2, l4 =>
    bif decide (v2 < ((d0.List.map e_T_api_Rule).length : Int)) then
      (Option.bind (geti d0.List v2) fun y4 =>
      Option.bind (app l4 [(⟨y4.Test, y4.Var, y4.Val, IntKind.i64.wrap ((IntKind.i64.wrap (3 * v2)) + 2)⟩ : T_api_Instr), (⟨4, 0, 0, IntKind.i64.wrap ((IntKind.i64.wrap (3 * v2)) + 3)⟩ : T_api_Instr), (⟨5, 0, y4.Then, 0⟩ : T_api_Instr)]) fun l5 =>
      (F25_L1 d0 n_F25_L1) (IntKind.i64.wrap (v2 + 1)) l5)
    else
      (Option.bind (app l4 [(⟨5, 0, d0.Else, 0⟩ : T_api_Instr)]) fun l6 =>
      some (l6, 0))
def F25 (fuel : Nat) (d0 : T_api_Rules) : Option (List T_api_Instr × Int) :=
  Option.bind (F54 fuel d0) fun y1 =>
  bif y1 != 0 then
    (some ([], y1))
  else
    (F25_L1 d0 fuel 0 [])
theorem F25_ok {fuel : Nat} {d0 : T_api_Rules} {r : List T_api_Instr × Int} (hF : F25 fuel d0 = some r) :
    CallF Tryz.prog 25 [.agg [.d (.sl 4 (d0.List.map e_T_api_Rule)), .d (.int .i64 d0.Else)]] (.tup [.d (.sl 4 (r.1.map e_T_api_Instr)), .d (.int .i64 r.2)]) := by
  unfold F25 at hF
  refine callF_of (N := 48) (b := bodyOf Tryz.f25) Tryz.func25 (by kernel_rfl) rfl rfl ?_
  obtain ⟨y1, e1, hF⟩ := bnd hF
  refine J_adv 10 (J_callF (xs := [.agg [.d (.sl 4 (d0.List.map e_T_api_Rule)), .d (.int .i64 d0.Else)]]) [.agg [.d (.sl 4 (d0.List.map e_T_api_Rule)), .d (.int .i64 d0.Else)]] (.d (.int .i64 y1)) (by kernel_rfl) en54 (Res'.refl _) (F54_ok e1) ?_)
  refine J_adv 7 (J_bool 11 (b := y1 != 0) (by kernel_rfl) (fun hb1 => ?_) (fun hb1 => ?_))
  · replace hF := ift hb1 hF
    have hr_ := Option.some.inj hF; subst hr_
    exact J_adv 7 (J_ret (xs := [.d (.sl 4 ([].map e_T_api_Instr)), .d (.int .i64 y1)]) [.d (.sl 4 ([].map e_T_api_Instr)), .d (.int .i64 y1)] rfl rfl (by kernel_rfl) (Res'.refl _) rfl)
  · replace hF := iff' hb1 hF
    have hF25_L1 : ∀ (n_F25_L1 : Nat) (v2 : Int) (l4 : List T_api_Instr), F25_L1 d0 n_F25_L1 v2 l4 = some r → J none Tryz.prog 48 [] (finF Tryz.prog Tryz.f25 (.tup [.d (.sl 4 (r.1.map e_T_api_Instr)), .d (.int .i64 r.2)])) ⟨mkT [(1, .ptr 1 0), (5, .suf 40 0 0), (14, .d (.sl 4 (d0.List.map e_T_api_Rule))), (15, .d (.int .i64 ((d0.List.map e_T_api_Rule).length : Int))), (16, .d (.int .i64 v2))], [(1, .box 59 [.d (.sl 4 (d0.List.map e_T_api_Rule)), .d (.int .i64 d0.Else)]), (40, .buf 0 66 4 (l4.map e_T_api_Instr))], [.inLoop (cAt (bodyOf Tryz.f25) [1, 1, 1, 0, 1, 0, 0]), .inBlock 0, .code (cAt (bodyOf Tryz.f25) [1, 1, 1, 1])]⟩ := by
      clear hF; intro n_F25_L1
      induction n_F25_L1 with
      | zero => intro v2 l4 hF; cases hF
      | succ n_F25_L1 ih_F25_L1 =>
        intro v2 l4 hF
        rw [F25_L1] at hF
        refine J_adv 6 (J_bool 17 (b := decide (v2 < ((d0.List.map e_T_api_Rule).length : Int))) (by kernel_rfl) (fun hb4 => ?_) (fun hb4 => ?_))
        · replace hF := ift hb4 hF
          obtain ⟨y4, e6, hF⟩ := bnd hF
          refine J_adv 7 (J_opt1 (o := geti (d0.List.map e_T_api_Rule) v2) (e_T_api_Rule y4) (by kernel_rfl) (gm e6) ?_)
          obtain ⟨l5, e7, hF⟩ := bnd hF
          refine J_adv 25 (J_opt2 (o := app2 ((l4.map e_T_api_Instr).drop 0) ([(⟨y4.Test, y4.Var, y4.Val, IntKind.i64.wrap ((IntKind.i64.wrap (3 * v2)) + 2)⟩ : T_api_Instr), (⟨4, 0, 0, IntKind.i64.wrap ((IntKind.i64.wrap (3 * v2)) + 3)⟩ : T_api_Instr), (⟨5, 0, y4.Then, 0⟩ : T_api_Instr)].map e_T_api_Instr)) (l5.map e_T_api_Instr) (by kernel_rfl) (am e7) ?_)
          exact J_adv 7 (J_at [1, 5, 14, 15, 16] [1, 40] (T0 := [.inLoop (cAt (bodyOf Tryz.f25) [1, 1, 1, 0, 1, 0, 0]), .inBlock 0, .code (cAt (bodyOf Tryz.f25) [1, 1, 1, 1])]) (by kernel_rfl) rfl (ih_F25_L1 (IntKind.i64.wrap (v2 + 1)) l5 hF))
        · replace hF := iff' hb4 hF
          obtain ⟨l6, e8, hF⟩ := bnd hF
          refine J_adv 9 (J_opt2 (o := app2 ((l4.map e_T_api_Instr).drop 0) ([(⟨5, 0, d0.Else, 0⟩ : T_api_Instr)].map e_T_api_Instr)) (l6.map e_T_api_Instr) (by kernel_rfl) (am e8) ?_)
          have hr_ := Option.some.inj hF; subst hr_
          exact J_adv 3 (J_ret (xs := [.d (.sl 4 (l6.map e_T_api_Instr)), .d (.int .i64 0)]) [.d (.sl 4 (l6.map e_T_api_Instr)), .d (.int .i64 0)] rfl rfl (by kernel_rfl) (Res'.refl _) rfl)
    refine J_adv 16 (J_own (n := 4) 5 40 66 4 (by kernel_rfl) (by kernel_rfl) ?_)
    exact J_adv 0 (J_at [1, 5, 14, 15, 16] [1, 40] (T0 := [.inLoop (cAt (bodyOf Tryz.f25) [1, 1, 1, 0, 1, 0, 0]), .inBlock 0, .code (cAt (bodyOf Tryz.f25) [1, 1, 1, 1])]) (by kernel_rfl) rfl (hF25_L1 fuel 0 [] hF))

/- croupier/code.in -/
def F33 (d0 : Int) (d1 : Int) (d2 : Int) : Option Bool :=
  Option.bind (
    bif decide (d0 ≥ d1) then
      (some (decide (d0 ≤ d2)))
    else
      (some false)) fun o1 =>
  some o1
theorem F33_ok {d0 : Int} {d1 : Int} {d2 : Int} {r : Bool} (hF : F33 d0 d1 d2 = some r) :
    CallF Tryz.prog 33 [.d (.int .i64 d0), .d (.int .i64 d1), .d (.int .i64 d2)] (.d (.bool r)) := by
  unfold F33 at hF
  refine callF_of (N := 15) (b := bodyOf Tryz.f33) Tryz.func33 (by kernel_rfl) rfl rfl ?_
  obtain ⟨o1, hO, hF⟩ := bnd hF
  have hR1 : J none Tryz.prog 15 [] (finF Tryz.prog Tryz.f33 (.d (.bool r))) ⟨mkT [(6, .d (.bool o1))], [], [.ops (opsOf (cAt (bodyOf Tryz.f33) [1, 0])) [], .code (cAt (bodyOf Tryz.f33) [1, 1])]⟩ := by
    clear hO
    have hr_ := Option.some.inj hF; subst hr_
    exact J_adv 1 (J_ret (xs := [.d (.bool o1)]) [.d (.bool o1)] rfl rfl (by kernel_rfl) (Res'.refl _) rfl)
  clear hF; rename _ = some o1 => hF
  refine J_adv 10 (J_bool 10 (b := decide (d0 ≥ d1)) (by kernel_rfl) (fun hb3 => ?_) (fun hb3 => ?_))
  · replace hF := ift hb3 hF
    have hr_ := Option.some.inj hF; subst hr_
    exact J_adv 5 (J_at [6] [] (T0 := [.ops (opsOf (cAt (bodyOf Tryz.f33) [1, 0])) [], .code (cAt (bodyOf Tryz.f33) [1, 1])]) (by kernel_rfl) rfl hR1)
  · replace hF := iff' hb3 hF
    have hr_ := Option.some.inj hF; subst hr_
    exact J_adv 5 (J_at [6] [] (T0 := [.ops (opsOf (cAt (bodyOf Tryz.f33) [1, 0])) [], .code (cAt (bodyOf Tryz.f33) [1, 1])]) (by kernel_rfl) rfl hR1)

/- croupier/code.valid -/
def F31_L1 (d0 : List T_api_Instr) : Nat → Int → Option Bool
  | 0, _ => none
  | n_F31_L1 + 1, v2 =>
    bif decide (v2 < ((d0.map e_T_api_Instr).length : Int)) then
      (Option.bind (geti d0 v2) fun y45 =>
      Option.bind (
        bif decide (y45.Go > v2) then
          (some (decide (y45.Go < ((d0.map e_T_api_Instr).length : Int))))
        else
          (some false)) fun o13 =>
      bif y45.Op == 1 then
        (Option.bind (
          bif o13 then
            (Option.bind (F33 y45.Var 0 3) fun y50 =>
            bif y50 then
              (Option.bind (F33 y45.Val (-99) 99) fun y51 =>
              some y51)
            else
              (some false))
          else
            (some false)) fun o14 =>
        bif !o14 then
          (some false)
        else
          ((F31_L1 d0 n_F31_L1) (IntKind.i64.wrap (v2 + 1))))
      else
        (bif y45.Op == 2 then
          (Option.bind (
            bif o13 then
              (Option.bind (F33 y45.Var 0 3) fun y56 =>
              bif y56 then
                (Option.bind (F33 y45.Val (-99) 99) fun y57 =>
                some y57)
              else
                (some false))
            else
              (some false)) fun o15 =>
          bif !o15 then
            (some false)
          else
            ((F31_L1 d0 n_F31_L1) (IntKind.i64.wrap (v2 + 1))))
        else
          (bif y45.Op == 3 then
            (Option.bind (
              bif o13 then
                (Option.bind (F33 y45.Var 0 3) fun y62 =>
                bif y62 then
                  (Option.bind (F33 y45.Val (-99) 99) fun y63 =>
                  some y63)
                else
                  (some false))
              else
                (some false)) fun o16 =>
            bif !o16 then
              (some false)
            else
              ((F31_L1 d0 n_F31_L1) (IntKind.i64.wrap (v2 + 1))))
          else
            (bif y45.Op == 4 then
              (Option.bind (
                bif o13 then
                  (bif y45.Var == 0 then
                    (some (y45.Val == 0))
                  else
                    (some false))
                else
                  (some false)) fun o17 =>
              bif !o17 then
                (some false)
              else
                ((F31_L1 d0 n_F31_L1) (IntKind.i64.wrap (v2 + 1))))
            else
              (bif y45.Op == 5 then
                (Option.bind (
                  Option.bind (F33 y45.Val 0 3) fun y66 =>
                  bif y66 then
                    (bif y45.Var == 0 then
                      (some (y45.Go == 0))
                    else
                      (some false))
                  else
                    (some false)) fun o18 =>
                bif !o18 then
                  (some false)
                else
                  ((F31_L1 d0 n_F31_L1) (IntKind.i64.wrap (v2 + 1))))
              else
                (some false))))))
    else
      (Option.bind (F33 ((d0.map e_T_api_Instr).length : Int) 1 40) fun y67 =>
      some y67)
def F31 (fuel : Nat) (d0 : List T_api_Instr) : Option Bool :=
  F31_L1 d0 fuel 0
theorem F31_ok {fuel : Nat} {d0 : List T_api_Instr} {r : Bool} (hF : F31 fuel d0 = some r) :
    CallF Tryz.prog 31 [.d (.sl 4 (d0.map e_T_api_Instr))] (.d (.bool r)) := by
  unfold F31 at hF
  refine callF_of (N := 76) (b := bodyOf Tryz.f31) Tryz.func31 (by kernel_rfl) rfl rfl ?_
  have hF31_L1 : ∀ (n_F31_L1 : Nat) (v2 : Int), F31_L1 d0 n_F31_L1 v2 = some r → J none Tryz.prog 76 [] (finF Tryz.prog Tryz.f31 (.d (.bool r))) ⟨mkT [(0, .d (.sl 4 (d0.map e_T_api_Instr))), (7, .d (.sl 4 (d0.map e_T_api_Instr))), (8, .d (.int .i64 ((d0.map e_T_api_Instr).length : Int))), (9, .d (.int .i64 v2))], [], [.inLoop (cAt (bodyOf Tryz.f31) [1, 0, 1, 0, 0]), .inBlock 0, .code (cAt (bodyOf Tryz.f31) [1, 1])]⟩ := by
    clear hF; intro n_F31_L1
    induction n_F31_L1 with
    | zero => intro v2 hF; cases hF
    | succ n_F31_L1 ih_F31_L1 =>
      intro v2 hF
      rw [F31_L1] at hF
      refine J_adv 6 (J_bool 10 (b := decide (v2 < ((d0.map e_T_api_Instr).length : Int))) (by kernel_rfl) (fun hb89 => ?_) (fun hb89 => ?_))
      · replace hF := ift hb89 hF
        obtain ⟨y45, e45, hF⟩ := bnd hF
        refine J_adv 7 (J_opt1 (o := geti (d0.map e_T_api_Instr) v2) (e_T_api_Instr y45) (by kernel_rfl) (gm e45) ?_)
        obtain ⟨o13, hO, hF⟩ := bnd hF
        have hR13 : J none Tryz.prog 76 [] (finF Tryz.prog Tryz.f31 (.d (.bool r))) ⟨mkT [(0, .d (.sl 4 (d0.map e_T_api_Instr))), (4, .ptr 4 0), (5, .d (.bool o13)), (7, .d (.sl 4 (d0.map e_T_api_Instr))), (8, .d (.int .i64 ((d0.map e_T_api_Instr).length : Int))), (9, .d (.int .i64 v2))], [(4, .box 66 [.d (.int .i64 y45.Op), .d (.int .i64 y45.Var), .d (.int .i64 y45.Val), .d (.int .i64 y45.Go)])], [.ops (opsOf (cAt (bodyOf Tryz.f31) [1, 0, 1, 0, 0, 1, 1, 0, 0, 1, 0])) [], .code (cAt (bodyOf Tryz.f31) [1, 0, 1, 0, 0, 1, 1, 0, 0, 1, 1]), .inBlock 1, .code (cAt (bodyOf Tryz.f31) [1, 0, 1, 0, 0, 1, 1, 1]), .inLoop (cAt (bodyOf Tryz.f31) [1, 0, 1, 0, 0]), .inBlock 0, .code (cAt (bodyOf Tryz.f31) [1, 1])]⟩ := by
          clear hO
          refine J_adv 18 (J_bool 27 (b := y45.Op == 1) (by kernel_rfl) (fun hb92 => ?_) (fun hb92 => ?_))
          · replace hF := ift hb92 hF
            obtain ⟨o14, hO, hF⟩ := bnd hF
            have hR14 : J none Tryz.prog 76 [] (finF Tryz.prog Tryz.f31 (.d (.bool r))) ⟨mkT [(0, .d (.sl 4 (d0.map e_T_api_Instr))), (6, .d (.bool o14)), (7, .d (.sl 4 (d0.map e_T_api_Instr))), (8, .d (.int .i64 ((d0.map e_T_api_Instr).length : Int))), (9, .d (.int .i64 v2))], [], [.ops (opsOf (cAt (bodyOf Tryz.f31) [1, 0, 1, 0, 0, 1, 1, 0, 0, 1, 1, 1, 0, 1, 0, 1, 0])) [], .inBlock 2, .code (cAt (bodyOf Tryz.f31) [1, 0, 1, 0, 0, 1, 1, 0, 0, 1, 1, 1, 1]), .inBlock 1, .code (cAt (bodyOf Tryz.f31) [1, 0, 1, 0, 0, 1, 1, 1]), .inLoop (cAt (bodyOf Tryz.f31) [1, 0, 1, 0, 0]), .inBlock 0, .code (cAt (bodyOf Tryz.f31) [1, 1])]⟩ := by
              clear hO
              refine J_adv 7 (J_bool 71 (b := !o14) (by kernel_rfl) (fun hb97 => ?_) (fun hb97 => ?_))
              · replace hF := ift hb97 hF
                have hr_ := Option.some.inj hF; subst hr_
                exact J_adv 5 (J_ret (xs := [.d (.bool false)]) [.d (.bool false)] rfl rfl (by kernel_rfl) (Res'.refl _) rfl)
              · replace hF := iff' hb97 hF
                exact J_adv 7 (J_at [0, 7, 8, 9] [] (T0 := [.inLoop (cAt (bodyOf Tryz.f31) [1, 0, 1, 0, 0]), .inBlock 0, .code (cAt (bodyOf Tryz.f31) [1, 1])]) (by kernel_rfl) rfl (ih_F31_L1 (IntKind.i64.wrap (v2 + 1)) hF))
            clear hF; rename _ = some o14 => hF
            refine J_adv 6 (J_bool 32 (b := o13) (by kernel_rfl) (fun hb98 => ?_) (fun hb98 => ?_))
            · replace hF := ift hb98 hF
              obtain ⟨y50, e50, hF⟩ := bnd hF
              refine J_adv 2 (J_callF (xs := [.d (.int .i64 y45.Var), .d (.int .i64 0), .d (.int .i64 3)]) [.d (.int .i64 y45.Var), .d (.int .i64 0), .d (.int .i64 3)] (.d (.bool y50)) (by kernel_rfl) en33 (Res'.refl _) (F33_ok e50) ?_)
              refine J_adv 2 (J_bool 37 (b := y50) (by kernel_rfl) (fun hb99 => ?_) (fun hb99 => ?_))
              · replace hF := ift hb99 hF
                obtain ⟨y51, e51, hF⟩ := bnd hF
                refine J_adv 2 (J_callF (xs := [.d (.int .i64 y45.Val), .d (.int .i64 (-99)), .d (.int .i64 99)]) [.d (.int .i64 y45.Val), .d (.int .i64 (-99)), .d (.int .i64 99)] (.d (.bool y51)) (by kernel_rfl) en33 (Res'.refl _) (F33_ok e51) ?_)
                have hr_ := Option.some.inj hF; subst hr_
                exact J_adv 2 (J_at [0, 6, 7, 8, 9] [] (T0 := [.ops (opsOf (cAt (bodyOf Tryz.f31) [1, 0, 1, 0, 0, 1, 1, 0, 0, 1, 1, 1, 0, 1, 0, 1, 0])) [], .inBlock 2, .code (cAt (bodyOf Tryz.f31) [1, 0, 1, 0, 0, 1, 1, 0, 0, 1, 1, 1, 1]), .inBlock 1, .code (cAt (bodyOf Tryz.f31) [1, 0, 1, 0, 0, 1, 1, 1]), .inLoop (cAt (bodyOf Tryz.f31) [1, 0, 1, 0, 0]), .inBlock 0, .code (cAt (bodyOf Tryz.f31) [1, 1])]) (by kernel_rfl) rfl hR14)
              · replace hF := iff' hb99 hF
                have hr_ := Option.some.inj hF; subst hr_
                exact J_adv 5 (J_at [0, 6, 7, 8, 9] [] (T0 := [.ops (opsOf (cAt (bodyOf Tryz.f31) [1, 0, 1, 0, 0, 1, 1, 0, 0, 1, 1, 1, 0, 1, 0, 1, 0])) [], .inBlock 2, .code (cAt (bodyOf Tryz.f31) [1, 0, 1, 0, 0, 1, 1, 0, 0, 1, 1, 1, 1]), .inBlock 1, .code (cAt (bodyOf Tryz.f31) [1, 0, 1, 0, 0, 1, 1, 1]), .inLoop (cAt (bodyOf Tryz.f31) [1, 0, 1, 0, 0]), .inBlock 0, .code (cAt (bodyOf Tryz.f31) [1, 1])]) (by kernel_rfl) rfl hR14)
            · replace hF := iff' hb98 hF
              have hr_ := Option.some.inj hF; subst hr_
              exact J_adv 10 (J_at [0, 6, 7, 8, 9] [] (T0 := [.ops (opsOf (cAt (bodyOf Tryz.f31) [1, 0, 1, 0, 0, 1, 1, 0, 0, 1, 1, 1, 0, 1, 0, 1, 0])) [], .inBlock 2, .code (cAt (bodyOf Tryz.f31) [1, 0, 1, 0, 0, 1, 1, 0, 0, 1, 1, 1, 1]), .inBlock 1, .code (cAt (bodyOf Tryz.f31) [1, 0, 1, 0, 0, 1, 1, 1]), .inLoop (cAt (bodyOf Tryz.f31) [1, 0, 1, 0, 0]), .inBlock 0, .code (cAt (bodyOf Tryz.f31) [1, 1])]) (by kernel_rfl) rfl hR14)
          · replace hF := iff' hb92 hF
            refine J_adv 6 (J_bool 27 (b := y45.Op == 2) (by kernel_rfl) (fun hb100 => ?_) (fun hb100 => ?_))
            · replace hF := ift hb100 hF
              obtain ⟨o15, hO, hF⟩ := bnd hF
              have hR15 : J none Tryz.prog 76 [] (finF Tryz.prog Tryz.f31 (.d (.bool r))) ⟨mkT [(0, .d (.sl 4 (d0.map e_T_api_Instr))), (6, .d (.bool o15)), (7, .d (.sl 4 (d0.map e_T_api_Instr))), (8, .d (.int .i64 ((d0.map e_T_api_Instr).length : Int))), (9, .d (.int .i64 v2))], [], [.ops (opsOf (cAt (bodyOf Tryz.f31) [1, 0, 1, 0, 0, 1, 1, 0, 0, 1, 1, 1, 0, 1, 0, 1, 0])) [], .inBlock 2, .code (cAt (bodyOf Tryz.f31) [1, 0, 1, 0, 0, 1, 1, 0, 0, 1, 1, 1, 1]), .inBlock 1, .code (cAt (bodyOf Tryz.f31) [1, 0, 1, 0, 0, 1, 1, 1]), .inLoop (cAt (bodyOf Tryz.f31) [1, 0, 1, 0, 0]), .inBlock 0, .code (cAt (bodyOf Tryz.f31) [1, 1])]⟩ := by
                clear hO
                refine J_adv 7 (J_bool 71 (b := !o15) (by kernel_rfl) (fun hb105 => ?_) (fun hb105 => ?_))
                · replace hF := ift hb105 hF
                  have hr_ := Option.some.inj hF; subst hr_
                  exact J_adv 5 (J_ret (xs := [.d (.bool false)]) [.d (.bool false)] rfl rfl (by kernel_rfl) (Res'.refl _) rfl)
                · replace hF := iff' hb105 hF
                  exact J_adv 7 (J_at [0, 7, 8, 9] [] (T0 := [.inLoop (cAt (bodyOf Tryz.f31) [1, 0, 1, 0, 0]), .inBlock 0, .code (cAt (bodyOf Tryz.f31) [1, 1])]) (by kernel_rfl) rfl (ih_F31_L1 (IntKind.i64.wrap (v2 + 1)) hF))
              clear hF; rename _ = some o15 => hF
              refine J_adv 6 (J_bool 32 (b := o13) (by kernel_rfl) (fun hb106 => ?_) (fun hb106 => ?_))
              · replace hF := ift hb106 hF
                obtain ⟨y56, e56, hF⟩ := bnd hF
                refine J_adv 2 (J_callF (xs := [.d (.int .i64 y45.Var), .d (.int .i64 0), .d (.int .i64 3)]) [.d (.int .i64 y45.Var), .d (.int .i64 0), .d (.int .i64 3)] (.d (.bool y56)) (by kernel_rfl) en33 (Res'.refl _) (F33_ok e56) ?_)
                refine J_adv 2 (J_bool 37 (b := y56) (by kernel_rfl) (fun hb107 => ?_) (fun hb107 => ?_))
                · replace hF := ift hb107 hF
                  obtain ⟨y57, e57, hF⟩ := bnd hF
                  refine J_adv 2 (J_callF (xs := [.d (.int .i64 y45.Val), .d (.int .i64 (-99)), .d (.int .i64 99)]) [.d (.int .i64 y45.Val), .d (.int .i64 (-99)), .d (.int .i64 99)] (.d (.bool y57)) (by kernel_rfl) en33 (Res'.refl _) (F33_ok e57) ?_)
                  have hr_ := Option.some.inj hF; subst hr_
                  exact J_adv 2 (J_at [0, 6, 7, 8, 9] [] (T0 := [.ops (opsOf (cAt (bodyOf Tryz.f31) [1, 0, 1, 0, 0, 1, 1, 0, 0, 1, 1, 1, 0, 1, 0, 1, 0])) [], .inBlock 2, .code (cAt (bodyOf Tryz.f31) [1, 0, 1, 0, 0, 1, 1, 0, 0, 1, 1, 1, 1]), .inBlock 1, .code (cAt (bodyOf Tryz.f31) [1, 0, 1, 0, 0, 1, 1, 1]), .inLoop (cAt (bodyOf Tryz.f31) [1, 0, 1, 0, 0]), .inBlock 0, .code (cAt (bodyOf Tryz.f31) [1, 1])]) (by kernel_rfl) rfl hR15)
                · replace hF := iff' hb107 hF
                  have hr_ := Option.some.inj hF; subst hr_
                  exact J_adv 5 (J_at [0, 6, 7, 8, 9] [] (T0 := [.ops (opsOf (cAt (bodyOf Tryz.f31) [1, 0, 1, 0, 0, 1, 1, 0, 0, 1, 1, 1, 0, 1, 0, 1, 0])) [], .inBlock 2, .code (cAt (bodyOf Tryz.f31) [1, 0, 1, 0, 0, 1, 1, 0, 0, 1, 1, 1, 1]), .inBlock 1, .code (cAt (bodyOf Tryz.f31) [1, 0, 1, 0, 0, 1, 1, 1]), .inLoop (cAt (bodyOf Tryz.f31) [1, 0, 1, 0, 0]), .inBlock 0, .code (cAt (bodyOf Tryz.f31) [1, 1])]) (by kernel_rfl) rfl hR15)
              · replace hF := iff' hb106 hF
                have hr_ := Option.some.inj hF; subst hr_
                exact J_adv 10 (J_at [0, 6, 7, 8, 9] [] (T0 := [.ops (opsOf (cAt (bodyOf Tryz.f31) [1, 0, 1, 0, 0, 1, 1, 0, 0, 1, 1, 1, 0, 1, 0, 1, 0])) [], .inBlock 2, .code (cAt (bodyOf Tryz.f31) [1, 0, 1, 0, 0, 1, 1, 0, 0, 1, 1, 1, 1]), .inBlock 1, .code (cAt (bodyOf Tryz.f31) [1, 0, 1, 0, 0, 1, 1, 1]), .inLoop (cAt (bodyOf Tryz.f31) [1, 0, 1, 0, 0]), .inBlock 0, .code (cAt (bodyOf Tryz.f31) [1, 1])]) (by kernel_rfl) rfl hR15)
            · replace hF := iff' hb100 hF
              refine J_adv 5 (J_bool 27 (b := y45.Op == 3) (by kernel_rfl) (fun hb108 => ?_) (fun hb108 => ?_))
              · replace hF := ift hb108 hF
                obtain ⟨o16, hO, hF⟩ := bnd hF
                have hR16 : J none Tryz.prog 76 [] (finF Tryz.prog Tryz.f31 (.d (.bool r))) ⟨mkT [(0, .d (.sl 4 (d0.map e_T_api_Instr))), (6, .d (.bool o16)), (7, .d (.sl 4 (d0.map e_T_api_Instr))), (8, .d (.int .i64 ((d0.map e_T_api_Instr).length : Int))), (9, .d (.int .i64 v2))], [], [.ops (opsOf (cAt (bodyOf Tryz.f31) [1, 0, 1, 0, 0, 1, 1, 0, 0, 1, 1, 1, 0, 1, 0, 1, 0])) [], .inBlock 2, .code (cAt (bodyOf Tryz.f31) [1, 0, 1, 0, 0, 1, 1, 0, 0, 1, 1, 1, 1]), .inBlock 1, .code (cAt (bodyOf Tryz.f31) [1, 0, 1, 0, 0, 1, 1, 1]), .inLoop (cAt (bodyOf Tryz.f31) [1, 0, 1, 0, 0]), .inBlock 0, .code (cAt (bodyOf Tryz.f31) [1, 1])]⟩ := by
                  clear hO
                  refine J_adv 7 (J_bool 71 (b := !o16) (by kernel_rfl) (fun hb113 => ?_) (fun hb113 => ?_))
                  · replace hF := ift hb113 hF
                    have hr_ := Option.some.inj hF; subst hr_
                    exact J_adv 5 (J_ret (xs := [.d (.bool false)]) [.d (.bool false)] rfl rfl (by kernel_rfl) (Res'.refl _) rfl)
                  · replace hF := iff' hb113 hF
                    exact J_adv 7 (J_at [0, 7, 8, 9] [] (T0 := [.inLoop (cAt (bodyOf Tryz.f31) [1, 0, 1, 0, 0]), .inBlock 0, .code (cAt (bodyOf Tryz.f31) [1, 1])]) (by kernel_rfl) rfl (ih_F31_L1 (IntKind.i64.wrap (v2 + 1)) hF))
                clear hF; rename _ = some o16 => hF
                refine J_adv 4 (J_bool 32 (b := o13) (by kernel_rfl) (fun hb114 => ?_) (fun hb114 => ?_))
                · replace hF := ift hb114 hF
                  obtain ⟨y62, e62, hF⟩ := bnd hF
                  refine J_adv 2 (J_callF (xs := [.d (.int .i64 y45.Var), .d (.int .i64 0), .d (.int .i64 3)]) [.d (.int .i64 y45.Var), .d (.int .i64 0), .d (.int .i64 3)] (.d (.bool y62)) (by kernel_rfl) en33 (Res'.refl _) (F33_ok e62) ?_)
                  refine J_adv 2 (J_bool 37 (b := y62) (by kernel_rfl) (fun hb115 => ?_) (fun hb115 => ?_))
                  · replace hF := ift hb115 hF
                    obtain ⟨y63, e63, hF⟩ := bnd hF
                    refine J_adv 2 (J_callF (xs := [.d (.int .i64 y45.Val), .d (.int .i64 (-99)), .d (.int .i64 99)]) [.d (.int .i64 y45.Val), .d (.int .i64 (-99)), .d (.int .i64 99)] (.d (.bool y63)) (by kernel_rfl) en33 (Res'.refl _) (F33_ok e63) ?_)
                    have hr_ := Option.some.inj hF; subst hr_
                    exact J_adv 2 (J_at [0, 6, 7, 8, 9] [] (T0 := [.ops (opsOf (cAt (bodyOf Tryz.f31) [1, 0, 1, 0, 0, 1, 1, 0, 0, 1, 1, 1, 0, 1, 0, 1, 0])) [], .inBlock 2, .code (cAt (bodyOf Tryz.f31) [1, 0, 1, 0, 0, 1, 1, 0, 0, 1, 1, 1, 1]), .inBlock 1, .code (cAt (bodyOf Tryz.f31) [1, 0, 1, 0, 0, 1, 1, 1]), .inLoop (cAt (bodyOf Tryz.f31) [1, 0, 1, 0, 0]), .inBlock 0, .code (cAt (bodyOf Tryz.f31) [1, 1])]) (by kernel_rfl) rfl hR16)
                  · replace hF := iff' hb115 hF
                    have hr_ := Option.some.inj hF; subst hr_
                    exact J_adv 5 (J_at [0, 6, 7, 8, 9] [] (T0 := [.ops (opsOf (cAt (bodyOf Tryz.f31) [1, 0, 1, 0, 0, 1, 1, 0, 0, 1, 1, 1, 0, 1, 0, 1, 0])) [], .inBlock 2, .code (cAt (bodyOf Tryz.f31) [1, 0, 1, 0, 0, 1, 1, 0, 0, 1, 1, 1, 1]), .inBlock 1, .code (cAt (bodyOf Tryz.f31) [1, 0, 1, 0, 0, 1, 1, 1]), .inLoop (cAt (bodyOf Tryz.f31) [1, 0, 1, 0, 0]), .inBlock 0, .code (cAt (bodyOf Tryz.f31) [1, 1])]) (by kernel_rfl) rfl hR16)
                · replace hF := iff' hb114 hF
                  have hr_ := Option.some.inj hF; subst hr_
                  exact J_adv 10 (J_at [0, 6, 7, 8, 9] [] (T0 := [.ops (opsOf (cAt (bodyOf Tryz.f31) [1, 0, 1, 0, 0, 1, 1, 0, 0, 1, 1, 1, 0, 1, 0, 1, 0])) [], .inBlock 2, .code (cAt (bodyOf Tryz.f31) [1, 0, 1, 0, 0, 1, 1, 0, 0, 1, 1, 1, 1]), .inBlock 1, .code (cAt (bodyOf Tryz.f31) [1, 0, 1, 0, 0, 1, 1, 1]), .inLoop (cAt (bodyOf Tryz.f31) [1, 0, 1, 0, 0]), .inBlock 0, .code (cAt (bodyOf Tryz.f31) [1, 1])]) (by kernel_rfl) rfl hR16)
              · replace hF := iff' hb108 hF
                refine J_adv 6 (J_bool 42 (b := y45.Op == 4) (by kernel_rfl) (fun hb116 => ?_) (fun hb116 => ?_))
                · replace hF := ift hb116 hF
                  obtain ⟨o17, hO, hF⟩ := bnd hF
                  have hR17 : J none Tryz.prog 76 [] (finF Tryz.prog Tryz.f31 (.d (.bool r))) ⟨mkT [(0, .d (.sl 4 (d0.map e_T_api_Instr))), (6, .d (.bool o17)), (7, .d (.sl 4 (d0.map e_T_api_Instr))), (8, .d (.int .i64 ((d0.map e_T_api_Instr).length : Int))), (9, .d (.int .i64 v2))], [], [.ops (opsOf (cAt (bodyOf Tryz.f31) [1, 0, 1, 0, 0, 1, 1, 0, 0, 1, 1, 1, 0, 1, 0, 1, 1, 1, 0])) [], .inBlock 2, .code (cAt (bodyOf Tryz.f31) [1, 0, 1, 0, 0, 1, 1, 0, 0, 1, 1, 1, 1]), .inBlock 1, .code (cAt (bodyOf Tryz.f31) [1, 0, 1, 0, 0, 1, 1, 1]), .inLoop (cAt (bodyOf Tryz.f31) [1, 0, 1, 0, 0]), .inBlock 0, .code (cAt (bodyOf Tryz.f31) [1, 1])]⟩ := by
                    clear hO
                    refine J_adv 7 (J_bool 71 (b := !o17) (by kernel_rfl) (fun hb121 => ?_) (fun hb121 => ?_))
                    · replace hF := ift hb121 hF
                      have hr_ := Option.some.inj hF; subst hr_
                      exact J_adv 5 (J_ret (xs := [.d (.bool false)]) [.d (.bool false)] rfl rfl (by kernel_rfl) (Res'.refl _) rfl)
                    · replace hF := iff' hb121 hF
                      exact J_adv 7 (J_at [0, 7, 8, 9] [] (T0 := [.inLoop (cAt (bodyOf Tryz.f31) [1, 0, 1, 0, 0]), .inBlock 0, .code (cAt (bodyOf Tryz.f31) [1, 1])]) (by kernel_rfl) rfl (ih_F31_L1 (IntKind.i64.wrap (v2 + 1)) hF))
                  clear hF; rename _ = some o17 => hF
                  refine J_adv 4 (J_bool 45 (b := o13) (by kernel_rfl) (fun hb122 => ?_) (fun hb122 => ?_))
                  · replace hF := ift hb122 hF
                    refine J_adv 5 (J_bool 50 (b := y45.Var == 0) (by kernel_rfl) (fun hb123 => ?_) (fun hb123 => ?_))
                    · replace hF := ift hb123 hF
                      have hr_ := Option.some.inj hF; subst hr_
                      exact J_adv 5 (J_at [0, 6, 7, 8, 9] [] (T0 := [.ops (opsOf (cAt (bodyOf Tryz.f31) [1, 0, 1, 0, 0, 1, 1, 0, 0, 1, 1, 1, 0, 1, 0, 1, 1, 1, 0])) [], .inBlock 2, .code (cAt (bodyOf Tryz.f31) [1, 0, 1, 0, 0, 1, 1, 0, 0, 1, 1, 1, 1]), .inBlock 1, .code (cAt (bodyOf Tryz.f31) [1, 0, 1, 0, 0, 1, 1, 1]), .inLoop (cAt (bodyOf Tryz.f31) [1, 0, 1, 0, 0]), .inBlock 0, .code (cAt (bodyOf Tryz.f31) [1, 1])]) (by kernel_rfl) rfl hR17)
                    · replace hF := iff' hb123 hF
                      have hr_ := Option.some.inj hF; subst hr_
                      exact J_adv 5 (J_at [0, 6, 7, 8, 9] [] (T0 := [.ops (opsOf (cAt (bodyOf Tryz.f31) [1, 0, 1, 0, 0, 1, 1, 0, 0, 1, 1, 1, 0, 1, 0, 1, 1, 1, 0])) [], .inBlock 2, .code (cAt (bodyOf Tryz.f31) [1, 0, 1, 0, 0, 1, 1, 0, 0, 1, 1, 1, 1]), .inBlock 1, .code (cAt (bodyOf Tryz.f31) [1, 0, 1, 0, 0, 1, 1, 1]), .inLoop (cAt (bodyOf Tryz.f31) [1, 0, 1, 0, 0]), .inBlock 0, .code (cAt (bodyOf Tryz.f31) [1, 1])]) (by kernel_rfl) rfl hR17)
                  · replace hF := iff' hb122 hF
                    have hr_ := Option.some.inj hF; subst hr_
                    exact J_adv 10 (J_at [0, 6, 7, 8, 9] [] (T0 := [.ops (opsOf (cAt (bodyOf Tryz.f31) [1, 0, 1, 0, 0, 1, 1, 0, 0, 1, 1, 1, 0, 1, 0, 1, 1, 1, 0])) [], .inBlock 2, .code (cAt (bodyOf Tryz.f31) [1, 0, 1, 0, 0, 1, 1, 0, 0, 1, 1, 1, 1]), .inBlock 1, .code (cAt (bodyOf Tryz.f31) [1, 0, 1, 0, 0, 1, 1, 1]), .inLoop (cAt (bodyOf Tryz.f31) [1, 0, 1, 0, 0]), .inBlock 0, .code (cAt (bodyOf Tryz.f31) [1, 1])]) (by kernel_rfl) rfl hR17)
                · replace hF := iff' hb116 hF
                  refine J_adv 6 (J_bool 55 (b := y45.Op == 5) (by kernel_rfl) (fun hb124 => ?_) (fun hb124 => ?_))
                  · replace hF := ift hb124 hF
                    obtain ⟨o18, hO, hF⟩ := bnd hF
                    have hR18 : J none Tryz.prog 76 [] (finF Tryz.prog Tryz.f31 (.d (.bool r))) ⟨mkT [(0, .d (.sl 4 (d0.map e_T_api_Instr))), (6, .d (.bool o18)), (7, .d (.sl 4 (d0.map e_T_api_Instr))), (8, .d (.int .i64 ((d0.map e_T_api_Instr).length : Int))), (9, .d (.int .i64 v2))], [], [.ops (opsOf (cAt (bodyOf Tryz.f31) [1, 0, 1, 0, 0, 1, 1, 0, 0, 1, 1, 1, 0, 1, 0, 1, 1, 1, 1, 1, 0])) [], .inBlock 2, .code (cAt (bodyOf Tryz.f31) [1, 0, 1, 0, 0, 1, 1, 0, 0, 1, 1, 1, 1]), .inBlock 1, .code (cAt (bodyOf Tryz.f31) [1, 0, 1, 0, 0, 1, 1, 1]), .inLoop (cAt (bodyOf Tryz.f31) [1, 0, 1, 0, 0]), .inBlock 0, .code (cAt (bodyOf Tryz.f31) [1, 1])]⟩ := by
                      clear hO
                      refine J_adv 7 (J_bool 71 (b := !o18) (by kernel_rfl) (fun hb129 => ?_) (fun hb129 => ?_))
                      · replace hF := ift hb129 hF
                        have hr_ := Option.some.inj hF; subst hr_
                        exact J_adv 5 (J_ret (xs := [.d (.bool false)]) [.d (.bool false)] rfl rfl (by kernel_rfl) (Res'.refl _) rfl)
                      · replace hF := iff' hb129 hF
                        exact J_adv 7 (J_at [0, 7, 8, 9] [] (T0 := [.inLoop (cAt (bodyOf Tryz.f31) [1, 0, 1, 0, 0]), .inBlock 0, .code (cAt (bodyOf Tryz.f31) [1, 1])]) (by kernel_rfl) rfl (ih_F31_L1 (IntKind.i64.wrap (v2 + 1)) hF))
                    clear hF; rename _ = some o18 => hF
                    obtain ⟨y66, e66, hF⟩ := bnd hF
                    refine J_adv 4 (J_callF (xs := [.d (.int .i64 y45.Val), .d (.int .i64 0), .d (.int .i64 3)]) [.d (.int .i64 y45.Val), .d (.int .i64 0), .d (.int .i64 3)] (.d (.bool y66)) (by kernel_rfl) en33 (Res'.refl _) (F33_ok e66) ?_)
                    refine J_adv 1 (J_bool 60 (b := y66) (by kernel_rfl) (fun hb130 => ?_) (fun hb130 => ?_))
                    · replace hF := ift hb130 hF
                      refine J_adv 5 (J_bool 65 (b := y45.Var == 0) (by kernel_rfl) (fun hb131 => ?_) (fun hb131 => ?_))
                      · replace hF := ift hb131 hF
                        have hr_ := Option.some.inj hF; subst hr_
                        exact J_adv 5 (J_at [0, 6, 7, 8, 9] [] (T0 := [.ops (opsOf (cAt (bodyOf Tryz.f31) [1, 0, 1, 0, 0, 1, 1, 0, 0, 1, 1, 1, 0, 1, 0, 1, 1, 1, 1, 1, 0])) [], .inBlock 2, .code (cAt (bodyOf Tryz.f31) [1, 0, 1, 0, 0, 1, 1, 0, 0, 1, 1, 1, 1]), .inBlock 1, .code (cAt (bodyOf Tryz.f31) [1, 0, 1, 0, 0, 1, 1, 1]), .inLoop (cAt (bodyOf Tryz.f31) [1, 0, 1, 0, 0]), .inBlock 0, .code (cAt (bodyOf Tryz.f31) [1, 1])]) (by kernel_rfl) rfl hR18)
                      · replace hF := iff' hb131 hF
                        have hr_ := Option.some.inj hF; subst hr_
                        exact J_adv 5 (J_at [0, 6, 7, 8, 9] [] (T0 := [.ops (opsOf (cAt (bodyOf Tryz.f31) [1, 0, 1, 0, 0, 1, 1, 0, 0, 1, 1, 1, 0, 1, 0, 1, 1, 1, 1, 1, 0])) [], .inBlock 2, .code (cAt (bodyOf Tryz.f31) [1, 0, 1, 0, 0, 1, 1, 0, 0, 1, 1, 1, 1]), .inBlock 1, .code (cAt (bodyOf Tryz.f31) [1, 0, 1, 0, 0, 1, 1, 1]), .inLoop (cAt (bodyOf Tryz.f31) [1, 0, 1, 0, 0]), .inBlock 0, .code (cAt (bodyOf Tryz.f31) [1, 1])]) (by kernel_rfl) rfl hR18)
                    · replace hF := iff' hb130 hF
                      have hr_ := Option.some.inj hF; subst hr_
                      exact J_adv 10 (J_at [0, 6, 7, 8, 9] [] (T0 := [.ops (opsOf (cAt (bodyOf Tryz.f31) [1, 0, 1, 0, 0, 1, 1, 0, 0, 1, 1, 1, 0, 1, 0, 1, 1, 1, 1, 1, 0])) [], .inBlock 2, .code (cAt (bodyOf Tryz.f31) [1, 0, 1, 0, 0, 1, 1, 0, 0, 1, 1, 1, 1]), .inBlock 1, .code (cAt (bodyOf Tryz.f31) [1, 0, 1, 0, 0, 1, 1, 1]), .inLoop (cAt (bodyOf Tryz.f31) [1, 0, 1, 0, 0]), .inBlock 0, .code (cAt (bodyOf Tryz.f31) [1, 1])]) (by kernel_rfl) rfl hR18)
                  · replace hF := iff' hb124 hF
                    have hr_ := Option.some.inj hF; subst hr_
                    exact J_adv 13 (J_ret (xs := [.d (.bool false)]) [.d (.bool false)] rfl rfl (by kernel_rfl) (Res'.refl _) rfl)
        clear hF; rename _ = some o13 => hF
        refine J_adv 12 (J_bool 18 (b := decide (y45.Go > v2)) (by kernel_rfl) (fun hb132 => ?_) (fun hb132 => ?_))
        · replace hF := ift hb132 hF
          have hr_ := Option.some.inj hF; subst hr_
          exact J_adv 7 (J_at [0, 4, 5, 7, 8, 9] [4] (T0 := [.ops (opsOf (cAt (bodyOf Tryz.f31) [1, 0, 1, 0, 0, 1, 1, 0, 0, 1, 0])) [], .code (cAt (bodyOf Tryz.f31) [1, 0, 1, 0, 0, 1, 1, 0, 0, 1, 1]), .inBlock 1, .code (cAt (bodyOf Tryz.f31) [1, 0, 1, 0, 0, 1, 1, 1]), .inLoop (cAt (bodyOf Tryz.f31) [1, 0, 1, 0, 0]), .inBlock 0, .code (cAt (bodyOf Tryz.f31) [1, 1])]) (by kernel_rfl) rfl hR13)
        · replace hF := iff' hb132 hF
          have hr_ := Option.some.inj hF; subst hr_
          exact J_adv 7 (J_at [0, 4, 5, 7, 8, 9] [4] (T0 := [.ops (opsOf (cAt (bodyOf Tryz.f31) [1, 0, 1, 0, 0, 1, 1, 0, 0, 1, 0])) [], .code (cAt (bodyOf Tryz.f31) [1, 0, 1, 0, 0, 1, 1, 0, 0, 1, 1]), .inBlock 1, .code (cAt (bodyOf Tryz.f31) [1, 0, 1, 0, 0, 1, 1, 1]), .inLoop (cAt (bodyOf Tryz.f31) [1, 0, 1, 0, 0]), .inBlock 0, .code (cAt (bodyOf Tryz.f31) [1, 1])]) (by kernel_rfl) rfl hR13)
      · replace hF := iff' hb89 hF
        obtain ⟨y67, e67, hF⟩ := bnd hF
        refine J_adv 6 (J_callF (xs := [.d (.int .i64 ((d0.map e_T_api_Instr).length : Int)), .d (.int .i64 1), .d (.int .i64 40)]) [.d (.int .i64 ((d0.map e_T_api_Instr).length : Int)), .d (.int .i64 1), .d (.int .i64 40)] (.d (.bool y67)) (by kernel_rfl) en33 (Res'.refl _) (F33_ok e67) ?_)
        have hr_ := Option.some.inj hF; subst hr_
        exact J_adv 2 (J_ret (xs := [.d (.bool y67)]) [.d (.bool y67)] rfl rfl (by kernel_rfl) (Res'.refl _) rfl)
  exact J_adv 13 (J_at [0, 7, 8, 9] [] (T0 := [.inLoop (cAt (bodyOf Tryz.f31) [1, 0, 1, 0, 0]), .inBlock 0, .code (cAt (bodyOf Tryz.f31) [1, 1])]) (by kernel_rfl) rfl (hF31_L1 fuel 0 hF))

def e_s (x : List UInt8) : List Dat := [.str x]
/- (*strings.Builder).copyCheck -/
def F83 : Option Unit :=
  some ()
theorem F83_ok {r : Unit} (hF : F83 = some r) :
    CallR Tryz.prog 83 [(2000, .box 101 [.d .nilp, .esl 1])] [.ptr 2000 0] [(2000, .box 101 [.ptr 2000 0, .esl 1])] (.tup []) := by
  unfold F83 at hF
  refine callR_of (N := 20) (b := bodyOf Tryz.f83) Tryz.func83 (by kernel_rfl) rfl rfl ?_
  refine J_adv 13 (J_callX (xs := [.ptr 2000 0]) (.ptr 2000 0) (by kernel_rfl) (callX_noEscape Tryz.func101 (by kernel_rfl) (by kernel_rfl) (by kernel_rfl) rfl _) ?_)
  have hr_ := Option.some.inj hF; subst hr_
  exact J_adv 5 (J_retR (xs := []) [] rfl (by kernel_rfl) (by kernel_rfl) (Res'.refl _) rfl)

def e_u8 (x : Int) : List Dat := [.int .u8 x]
/- (*strings.Builder).WriteString -/
def F47 (d0 : List UInt8) : Option (Int × Bool × List Int) :=
  Option.bind (F83) fun y1 =>
  Option.bind (app [] (d0.map toI)) fun l1 =>
  some ((d0.length : Int), false, l1)
theorem F47_ok {d0 : List UInt8} {r : Int × Bool × List Int} (hF : F47 d0 = some r) :
    CallR Tryz.prog 47 [(2000, .box 101 [.d .nilp, .esl 1])] [.ptr 2000 0, .d (.str d0)] [(2000, .box 101 [.ptr 2000 0, .suf 2001 0 0]), (2001, .buf 0 5 1 (r.2.2.map e_u8))] (.tup [.d (.int .i64 r.1), .d (.ife r.2.1)]) := by
  unfold F47 at hF
  refine callR_of (N := 19) (b := bodyOf Tryz.f47) Tryz.func47 (by kernel_rfl) rfl rfl ?_
  obtain ⟨y1, e1, hF⟩ := bnd hF
  refine J_adv 8 (J_callR (os := [(2000, .box 101 [.d .nilp, .esl 1])]) (xs := [.ptr 2000 0]) [(2000, 2000)] [.ptr 2000 0] [(2000, .box 101 [.ptr 2000 0, .esl 1])] (.tup []) (by kernel_rfl) (by kernel_rfl) en83 (Res'.refl _) (F83_ok e1) ?_)
  obtain ⟨l1, e2, hF⟩ := bnd hF
  refine J_adv 9 (J_opt2 (o := app2 [] (d0.map byteD)) (l1.map e_u8) (by kernel_rfl) (ams (f := e_u8) (fun _ => rfl) e2) ?_)
  refine J_adv 11 (J_at (S0 := [(4, .d (.int .i64 (d0.length : Int))), (5, .d (.ife false))]) (O0 := [(14, .buf 0 5 1 (l1.map e_u8)), (2000, .box 101 [.ptr 2000 0, .suf 14 0 0])]) (T0 := [.code (cAt (bodyOf Tryz.f47) [1, 1, 1, 1])]) [4, 5] [14, 2000] (by kernel_rfl) rfl ?_)
  refine J_adv 0 (J_ren [(2000, 2000), (14, 2001)] (by kernel_rfl) (by kernel_rfl) (by kernel_rfl) (by kernel_rfl) ?_)
  have hr_ := Option.some.inj hF; subst hr_
  exact J_adv 0 (J_retR (xs := [.d (.int .i64 (d0.length : Int)), .d (.ife false)]) [.d (.int .i64 (d0.length : Int)), .d (.ife false)] rfl (by kernel_rfl) (by kernel_rfl) (Res'.refl _) rfl)

def e_pi64 (x : Int) : List Dat := [.pt [.int .i64 x]]
/- croupier/code.fields -/
def F48 (d0 : T_api_Instr) : Option (List Int) :=
  bif d0.Op == 4 then
    (some [d0.Go])
  else
    (bif d0.Op == 5 then
      (some [d0.Val])
    else
      (some [d0.Var, d0.Val, d0.Go]))
theorem F48_ok {d0 : T_api_Instr} {r : List Int} (hF : F48 d0 = some r) :
    CallF Tryz.prog 48 [.agg [.d (.int .i64 d0.Op), .d (.int .i64 d0.Var), .d (.int .i64 d0.Val), .d (.int .i64 d0.Go)]] (.d (.sl 1 (r.map e_pi64))) := by
  unfold F48 at hF
  refine callF_of (N := 17) (b := bodyOf Tryz.f48) Tryz.func48 (by kernel_rfl) rfl rfl ?_
  refine J_adv 17 (J_bool 5 (b := d0.Op == 4) (by kernel_rfl) (fun hb1 => ?_) (fun hb1 => ?_))
  · replace hF := ift hb1 hF
    have hr_ := Option.some.inj hF; subst hr_
    exact J_adv 7 (J_ret (xs := [.d (.sl 1 ([d0.Go].map e_pi64))]) [.d (.sl 1 ([d0.Go].map e_pi64))] rfl rfl (by kernel_rfl) (Res'.refl _) rfl)
  · replace hF := iff' hb1 hF
    refine J_adv 6 (J_bool 9 (b := d0.Op == 5) (by kernel_rfl) (fun hb2 => ?_) (fun hb2 => ?_))
    · replace hF := ift hb2 hF
      have hr_ := Option.some.inj hF; subst hr_
      exact J_adv 7 (J_ret (xs := [.d (.sl 1 ([d0.Val].map e_pi64))]) [.d (.sl 1 ([d0.Val].map e_pi64))] rfl rfl (by kernel_rfl) (Res'.refl _) rfl)
    · replace hF := iff' hb2 hF
      have hr_ := Option.some.inj hF; subst hr_
      exact J_adv 11 (J_ret (xs := [.d (.sl 1 ([d0.Var, d0.Val, d0.Go].map e_pi64))]) [.d (.sl 1 ([d0.Var, d0.Val, d0.Go].map e_pi64))] rfl rfl (by kernel_rfl) (Res'.refl _) rfl)

/- strconv.Itoa -/
def F49 (d0 : Int) : Option (List UInt8) := itoaF d0
theorem F49_ok {d0 : Int} {r : List UInt8} (hF : F49 d0 = some r) : CallF Tryz.prog 49 [.d (.int .i64 d0)] (.d (.str r)) := itoa_callF (gn := 2) (by kernel_rfl) (by kernel_rfl) Tryz.strconv_Itoa hF

/- (*strings.Builder).copyCheck -/
def F83a (d0 : List Int) : Option Unit :=
  some ()
theorem F83a_ok {d0 : List Int} {r : Unit} (hF : F83a d0 = some r) :
    CallR Tryz.prog 83 [(2000, .box 101 [.ptr 2000 0, .suf 2001 0 0]), (2001, .buf 0 5 1 (d0.map e_u8))] [.ptr 2000 0] [(2000, .box 101 [.ptr 2000 0, .suf 2001 0 0]), (2001, .buf 0 5 1 (d0.map e_u8))] (.tup []) := by
  unfold F83a at hF
  refine callR_of (N := 20) (b := bodyOf Tryz.f83) Tryz.func83 (by kernel_rfl) rfl rfl ?_
  have hr_ := Option.some.inj hF; subst hr_
  exact J_adv 20 (J_retR (xs := []) [] rfl (by kernel_rfl) (by kernel_rfl) (Res'.refl _) rfl)

/- (*strings.Builder).WriteString -/
def F47a (d0 : List UInt8) (d1 : List Int) : Option (Int × Bool × List Int) :=
  Option.bind (F83a d1) fun y1 =>
  Option.bind (app d1 (d0.map toI)) fun l1 =>
  some ((d0.length : Int), false, l1)
theorem F47a_ok {d0 : List UInt8} {d1 : List Int} {r : Int × Bool × List Int} (hF : F47a d0 d1 = some r) :
    CallR Tryz.prog 47 [(2000, .box 101 [.ptr 2000 0, .suf 2001 0 0]), (2001, .buf 0 5 1 (d1.map e_u8))] [.ptr 2000 0, .d (.str d0)] [(2000, .box 101 [.ptr 2000 0, .suf 2001 1 0]), (2001, .buf 1 5 1 (r.2.2.map e_u8))] (.tup [.d (.int .i64 r.1), .d (.ife r.2.1)]) := by
  unfold F47a at hF
  refine callR_of (N := 19) (b := bodyOf Tryz.f47) Tryz.func47 (by kernel_rfl) rfl rfl ?_
  obtain ⟨y1, e1, hF⟩ := bnd hF
  refine J_adv 8 (J_callR (os := [(2000, .box 101 [.ptr 2000 0, .suf 2001 0 0]), (2001, .buf 0 5 1 (d1.map e_u8))]) (xs := [.ptr 2000 0]) [(2000, 2000), (2001, 2001)] [.ptr 2000 0] [(2000, .box 101 [.ptr 2000 0, .suf 2001 0 0]), (2001, .buf 0 5 1 (d1.map e_u8))] (.tup []) (by kernel_rfl) (by kernel_rfl) en83 (Res'.refl _) (F83a_ok e1) ?_)
  obtain ⟨l1, e2, hF⟩ := bnd hF
  refine J_adv 9 (J_opt2 (o := app2 ((d1.map e_u8).drop 0) (d0.map byteD)) (l1.map e_u8) (by kernel_rfl) (ams (f := e_u8) (fun _ => rfl) e2) ?_)
  have hr_ := Option.some.inj hF; subst hr_
  exact J_adv 11 (J_retR (xs := [.d (.int .i64 (d0.length : Int)), .d (.ife false)]) [.d (.int .i64 (d0.length : Int)), .d (.ife false)] rfl (by kernel_rfl) (by kernel_rfl) (Res'.refl _) rfl)

/- (*strings.Builder).WriteByte -/
def F50 (d0 : Int) (d1 : List Int) : Option (Bool × List Int) :=
  Option.bind (F83a d1) fun y1 =>
  Option.bind (app d1 [d0]) fun l1 =>
  some (false, l1)
theorem F50_ok {d0 : Int} {d1 : List Int} {r : Bool × List Int} (hF : F50 d0 d1 = some r) :
    CallR Tryz.prog 50 [(2000, .box 101 [.ptr 2000 0, .suf 2001 0 0]), (2001, .buf 0 5 1 (d1.map e_u8))] [.ptr 2000 0, .d (.int .u8 d0)] [(2000, .box 101 [.ptr 2000 0, .suf 2001 1 0]), (2001, .buf 1 5 1 (r.2.map e_u8))] (.d (.ife r.1)) := by
  unfold F50 at hF
  refine callR_of (N := 17) (b := bodyOf Tryz.f50) Tryz.func50 (by kernel_rfl) rfl rfl ?_
  obtain ⟨y1, e1, hF⟩ := bnd hF
  refine J_adv 7 (J_callR (os := [(2000, .box 101 [.ptr 2000 0, .suf 2001 0 0]), (2001, .buf 0 5 1 (d1.map e_u8))]) (xs := [.ptr 2000 0]) [(2000, 2000), (2001, 2001)] [.ptr 2000 0] [(2000, .box 101 [.ptr 2000 0, .suf 2001 0 0]), (2001, .buf 0 5 1 (d1.map e_u8))] (.tup []) (by kernel_rfl) (by kernel_rfl) en83 (Res'.refl _) (F83a_ok e1) ?_)
  obtain ⟨l1, e2, hF⟩ := bnd hF
  refine J_adv 10 (J_opt2 (o := app2 ((d1.map e_u8).drop 0) ([d0].map e_u8)) (l1.map e_u8) (by kernel_rfl) (am e2) ?_)
  have hr_ := Option.some.inj hF; subst hr_
  exact J_adv 8 (J_retR (xs := [.d (.ife false)]) [.d (.ife false)] rfl (by kernel_rfl) (by kernel_rfl) (Res'.refl _) rfl)

/- (*strings.Builder).String -/
def F51 (d0 : List Int) : Option (List UInt8) :=
  ass (decide (0 < (d0.map e_u8).length)) <|
  Option.bind (ustr d0 0 ((d0.map e_u8).length : Int)) fun x1 =>
  some x1
theorem F51_ok {d0 : List Int} {r : List UInt8} (hF : F51 d0 = some r) :
    CallR Tryz.prog 51 [(2000, .box 101 [.ptr 2000 0, .suf 2001 0 0]), (2001, .buf 0 5 1 (d0.map e_u8))] [.ptr 2000 0] [(2000, .box 101 [.ptr 2000 0, .suf 2001 0 0]), (2001, .fzs 0 1 (d0.map e_u8))] (.d (.str r)) := by
  unfold F51 at hF
  refine callR_of (N := 14) (b := bodyOf Tryz.f51) Tryz.func51 (by kernel_rfl) rfl rfl ?_
  refine J_adv 5 (J_draw (by kernel_rfl) (by kernel_rfl) ?_)
  obtain ⟨hb1, hF⟩ := assd hF
  refine JD_adv 4 (JD_opt1 (o := chk (decide (0 < (d0.map e_u8).length))) [] (by kernel_rfl) (by kernel_rfl) (ck hb1) ?_)
  obtain ⟨x1, e1, hF⟩ := bnd hF
  refine JD_adv 5 (JD_opt1 (o := usd (d0.map e_u8) 0 ((d0.map e_u8).length : Int)) [.str x1] (by kernel_rfl) (by kernel_rfl) (usm (f := e_u8) (fun _ => rfl) e1) ?_)
  refine JD_adv 1 (JD_end (by kernel_rfl) ?_)
  have hr_ := Option.some.inj hF; subst hr_
  exact J_adv 0 (J_retR (xs := [.d (.str x1)]) [.d (.str x1)] rfl (by kernel_rfl) (by kernel_rfl) (Res'.refl _) rfl)

/- croupier/code.Print -/
def F18_L3 (v11 : Int) (y63 : List Int) (rec_F18_L2 : Int → (List Int) → Option (List UInt8 × Int)) : Nat → Int → (List Int) → Option (List UInt8 × Int)
  | 0, _, _ => none
  | n_F18_L3 + 1, v13, l13 =>
    bif decide (v13 < ((y63.map e_pi64).length : Int)) then
      (Option.bind (geti y63 v13) fun y70 =>
      Option.bind (F49 y70) fun y71 =>
      ass (decide ([32].length + y71.length ≤ 4611686018427387904)) <|
      Option.bind (F47a ([32] ++ y71) l13) fun y72 =>
      (F18_L3 v11 y63 rec_F18_L2 n_F18_L3) (IntKind.i64.wrap (v13 + 1)) y72.2.2)
    else
      (Option.bind (F50 10 l13) fun y73 =>
      rec_F18_L2 (IntKind.i64.wrap (v11 + 1)) y73.2)
def F18_L2 (fuel : Nat) (d0 : List T_api_Instr) : Nat → Int → (List Int) → Option (List UInt8 × Int)
  | 0, _, _ => none
  | n_F18_L2 + 1, v11, l11 =>
    bif decide (v11 < ((d0.map e_T_api_Instr).length : Int)) then
      (Option.bind (geti d0 v11) fun y60 =>
      Option.bind (geti [[], [101, 113], [108, 101], [103, 101], [103, 111], [97, 99, 116]] y60.Op) fun y61 =>
      Option.bind (F47a y61 l11) fun y62 =>
      Option.bind (F48 y60) fun y63 =>
      F18_L3 v11 y63 (F18_L2 fuel d0 n_F18_L2) fuel 0 y62.2.2)
    else
      (Option.bind (F51 l11) fun y74 =>
      some (y74, 0))
def F18_L1 (fuel : Nat) (d0 : List T_api_Instr) (y21 : List Int) : Nat → Int → (List Int) → Option (List UInt8 × Int)
  | 0, _, _ => none
  | n_F18_L1 + 1, v5, l5 =>
    bif decide (v5 < ((y21.map e_pi64).length : Int)) then
      (Option.bind (geti y21 v5) fun y28 =>
      Option.bind (F49 y28) fun y29 =>
      ass (decide ([32].length + y29.length ≤ 4611686018427387904)) <|
      Option.bind (F47a ([32] ++ y29) l5) fun y30 =>
      (F18_L1 fuel d0 y21 n_F18_L1) (IntKind.i64.wrap (v5 + 1)) y30.2.2)
    else
      (Option.bind (F50 10 l5) fun y31 =>
      F18_L2 fuel d0 fuel (IntKind.i64.wrap (0 + 1)) y31.2)
def F18 (fuel : Nat) (d0 : List T_api_Instr) : Option (List UInt8 × Int) :=
  Option.bind (F31 fuel d0) fun y1 =>
  bif !y1 then
    (some ([], 310))
  else
    (bif decide (0 < ((d0.map e_T_api_Instr).length : Int)) then
      (Option.bind (geti d0 0) fun y18 =>
      Option.bind (geti [[], [101, 113], [108, 101], [103, 101], [103, 111], [97, 99, 116]] y18.Op) fun y19 =>
      Option.bind (F47 y19) fun y20 =>
      Option.bind (F48 y18) fun y21 =>
      F18_L1 fuel d0 y21 fuel 0 y20.2.2)
    else
      (none))
theorem F18_ok {fuel : Nat} {d0 : List T_api_Instr} {r : List UInt8 × Int} (hF : F18 fuel d0 = some r) :
    CallF Tryz.prog 18 [.d (.sl 4 (d0.map e_T_api_Instr))] (.tup [.d (.str r.1), .d (.int .i64 r.2)]) := by
  unfold F18 at hF
  refine callF_of (N := 40) (b := bodyOf Tryz.f18) Tryz.func18 (by kernel_rfl) rfl rfl ?_
  obtain ⟨y1, e1, hF⟩ := bnd hF
  refine J_adv 9 (J_callF (xs := [.d (.sl 4 (d0.map e_T_api_Instr))]) [.d (.sl 4 (d0.map e_T_api_Instr))] (.d (.bool y1)) (by kernel_rfl) en31 (Res'.refl _) (F31_ok e1) ?_)
  refine J_adv 2 (J_bool 11 (b := !y1) (by kernel_rfl) (fun hb1 => ?_) (fun hb1 => ?_))
  · replace hF := ift hb1 hF
    have hr_ := Option.some.inj hF; subst hr_
    exact J_adv 6 (J_ret (xs := [.d (.str []), .d (.int .i64 310)]) [.d (.str []), .d (.int .i64 310)] rfl rfl (by kernel_rfl) (Res'.refl _) rfl)
  · replace hF := iff' hb1 hF
    refine J_adv 21 (J_bool 15 (b := decide (0 < ((d0.map e_T_api_Instr).length : Int))) (by kernel_rfl) (fun hb10 => ?_) (fun hb10 => ?_))
    · replace hF := ift hb10 hF
      obtain ⟨y18, e18, hF⟩ := bnd hF
      refine J_adv 6 (J_opt1 (o := geti (d0.map e_T_api_Instr) 0) (e_T_api_Instr y18) (by kernel_rfl) (gm e18) ?_)
      obtain ⟨y19, e19, hF⟩ := bnd hF
      refine J_adv 8 (J_opt1 (o := geti (chunks 1 6 (([.str [], .str [101, 113], .str [108, 101], .str [103, 101], .str [103, 111], .str [97, 99, 116]] : List Dat).drop 0)) y18.Op) (e_s y19) (by kernel_rfl) (gm (f := e_s) e19) ?_)
      obtain ⟨y20, e20, hF⟩ := bnd hF
      refine J_adv 1 (J_callR (os := [(2000, .box 101 [.d .nilp, .esl 1])]) (xs := [.ptr 2000 0, .d (.str y19)]) [(4, 2000), (22, 2001)] [.ptr 2000 0, .d (.str y19)] [(2000, .box 101 [.ptr 2000 0, .suf 2001 0 0]), (2001, .buf 0 5 1 (y20.2.2.map e_u8))] (.tup [.d (.int .i64 y20.1), .d (.ife y20.2.1)]) (by kernel_rfl) (by kernel_rfl) en47 (Res'.refl _) (F47_ok e20) ?_)
      obtain ⟨y21, e21, hF⟩ := bnd hF
      refine J_adv 5 (J_callF (xs := [.agg [.d (.int .i64 y18.Op), .d (.int .i64 y18.Var), .d (.int .i64 y18.Val), .d (.int .i64 y18.Go)]]) [.agg [.d (.int .i64 y18.Op), .d (.int .i64 y18.Var), .d (.int .i64 y18.Val), .d (.int .i64 y18.Go)]] (.d (.sl 1 (y21.map e_pi64))) (by kernel_rfl) en48 (Res'.refl _) (F48_ok e21) ?_)
      have hF18_L1 : ∀ (n_F18_L1 : Nat) (v5 : Int) (l5 : List Int), F18_L1 fuel d0 y21 n_F18_L1 v5 l5 = some r → J none Tryz.prog 40 [] (finF Tryz.prog Tryz.f18 (.tup [.d (.str r.1), .d (.int .i64 r.2)])) ⟨mkT [(4, .ptr 4 0), (12, .d (.sl 4 (d0.map e_T_api_Instr))), (13, .d (.int .i64 ((d0.map e_T_api_Instr).length : Int))), (14, .d (.int .i64 0)), (24, .d (.sl 1 (y21.map e_pi64))), (25, .d (.int .i64 ((y21.map e_pi64).length : Int))), (26, .d (.int .i64 v5))], [(4, .box 101 [.ptr 4 0, .suf 22 0 0]), (22, .buf 0 5 1 (l5.map e_u8))], [.inLoop (cAt (bodyOf Tryz.f18) [1, 1, 1, 0, 1, 0, 0, 1, 1, 0, 0, 1, 1, 0, 1, 0, 0]), .inBlock 2, .code (cAt (bodyOf Tryz.f18) [1, 1, 1, 0, 1, 0, 0, 1, 1, 0, 0, 1, 1, 1]), .inBlock 1, .code (cAt (bodyOf Tryz.f18) [1, 1, 1, 0, 1, 0, 0, 1, 1, 1]), .inLoop (cAt (bodyOf Tryz.f18) [1, 1, 1, 0, 1, 0, 0]), .inBlock 0, .code (cAt (bodyOf Tryz.f18) [1, 1, 1, 1])]⟩ := by
        clear hF; intro n_F18_L1
        induction n_F18_L1 with
        | zero => intro v5 l5 hF; cases hF
        | succ n_F18_L1 ih_F18_L1 =>
          intro v5 l5 hF
          rw [F18_L1] at hF
          refine J_adv 6 (J_bool 27 (b := decide (v5 < ((y21.map e_pi64).length : Int))) (by kernel_rfl) (fun hb15 => ?_) (fun hb15 => ?_))
          · replace hF := ift hb15 hF
            obtain ⟨y28, e28, hF⟩ := bnd hF
            refine J_adv 6 (J_opt1 (o := geti (y21.map e_pi64) v5) (e_pi64 y28) (by kernel_rfl) (gm e28) ?_)
            obtain ⟨y29, e29, hF⟩ := bnd hF
            refine J_adv 7 (J_callF (xs := [.d (.int .i64 y28)]) [.d (.int .i64 y28)] (.d (.str y29)) (by kernel_rfl) en49 (Res'.refl _) (F49_ok e29) ?_)
            obtain ⟨hb16, hF⟩ := assd hF
            refine J_adv 0 (J_opt1 (o := chk (decide ([32].length + y29.length ≤ 4611686018427387904))) [] (by kernel_rfl) (ck hb16) ?_)
            obtain ⟨y30, e30, hF⟩ := bnd hF
            refine J_adv 0 (J_callR (os := [(2000, .box 101 [.ptr 2000 0, .suf 2001 0 0]), (2001, .buf 0 5 1 (l5.map e_u8))]) (xs := [.ptr 2000 0, .d (.str ([32] ++ y29))]) [(4, 2000), (22, 2001)] [.ptr 2000 0, .d (.str ([32] ++ y29))] [(2000, .box 101 [.ptr 2000 0, .suf 2001 1 0]), (2001, .buf 1 5 1 (y30.2.2.map e_u8))] (.tup [.d (.int .i64 y30.1), .d (.ife y30.2.1)]) (by kernel_rfl) (by kernel_rfl) en47 (Res'.refl _) (F47a_ok e30) ?_)
            exact J_adv 6 (J_at [4, 12, 13, 14, 24, 25, 26] [4, 22] (T0 := [.inLoop (cAt (bodyOf Tryz.f18) [1, 1, 1, 0, 1, 0, 0, 1, 1, 0, 0, 1, 1, 0, 1, 0, 0]), .inBlock 2, .code (cAt (bodyOf Tryz.f18) [1, 1, 1, 0, 1, 0, 0, 1, 1, 0, 0, 1, 1, 1]), .inBlock 1, .code (cAt (bodyOf Tryz.f18) [1, 1, 1, 0, 1, 0, 0, 1, 1, 1]), .inLoop (cAt (bodyOf Tryz.f18) [1, 1, 1, 0, 1, 0, 0]), .inBlock 0, .code (cAt (bodyOf Tryz.f18) [1, 1, 1, 1])]) (by kernel_rfl) rfl (ih_F18_L1 (IntKind.i64.wrap (v5 + 1)) y30.2.2 hF))
          · replace hF := iff' hb15 hF
            obtain ⟨y31, e31, hF⟩ := bnd hF
            refine J_adv 3 (J_callR (os := [(2000, .box 101 [.ptr 2000 0, .suf 2001 0 0]), (2001, .buf 0 5 1 (l5.map e_u8))]) (xs := [.ptr 2000 0, .d (.int .u8 10)]) [(4, 2000), (22, 2001)] [.ptr 2000 0, .d (.int .u8 10)] [(2000, .box 101 [.ptr 2000 0, .suf 2001 1 0]), (2001, .buf 1 5 1 (y31.2.map e_u8))] (.d (.ife y31.1)) (by kernel_rfl) (by kernel_rfl) en50 (Res'.refl _) (F50_ok e31) ?_)
            have hF18_L2 : ∀ (n_F18_L2 : Nat) (v11 : Int) (l11 : List Int), F18_L2 fuel d0 n_F18_L2 v11 l11 = some r → J none Tryz.prog 40 [] (finF Tryz.prog Tryz.f18 (.tup [.d (.str r.1), .d (.int .i64 r.2)])) ⟨mkT [(4, .ptr 4 0), (12, .d (.sl 4 (d0.map e_T_api_Instr))), (13, .d (.int .i64 ((d0.map e_T_api_Instr).length : Int))), (14, .d (.int .i64 v11))], [(4, .box 101 [.ptr 4 0, .suf 22 0 0]), (22, .buf 0 5 1 (l11.map e_u8))], [.inLoop (cAt (bodyOf Tryz.f18) [1, 1, 1, 0, 1, 0, 0]), .inBlock 0, .code (cAt (bodyOf Tryz.f18) [1, 1, 1, 1])]⟩ := by
              clear hF; intro n_F18_L2
              induction n_F18_L2 with
              | zero => intro v11 l11 hF; cases hF
              | succ n_F18_L2 ih_F18_L2 =>
                intro v11 l11 hF
                rw [F18_L2] at hF
                refine J_adv 6 (J_bool 15 (b := decide (v11 < ((d0.map e_T_api_Instr).length : Int))) (by kernel_rfl) (fun hb31 => ?_) (fun hb31 => ?_))
                · replace hF := ift hb31 hF
                  obtain ⟨y60, e60, hF⟩ := bnd hF
                  refine J_adv 6 (J_opt1 (o := geti (d0.map e_T_api_Instr) v11) (e_T_api_Instr y60) (by kernel_rfl) (gm e60) ?_)
                  obtain ⟨y61, e61, hF⟩ := bnd hF
                  refine J_adv 8 (J_opt1 (o := geti (chunks 1 6 (([.str [], .str [101, 113], .str [108, 101], .str [103, 101], .str [103, 111], .str [97, 99, 116]] : List Dat).drop 0)) y60.Op) (e_s y61) (by kernel_rfl) (gm (f := e_s) e61) ?_)
                  obtain ⟨y62, e62, hF⟩ := bnd hF
                  refine J_adv 1 (J_callR (os := [(2000, .box 101 [.ptr 2000 0, .suf 2001 0 0]), (2001, .buf 0 5 1 (l11.map e_u8))]) (xs := [.ptr 2000 0, .d (.str y61)]) [(4, 2000), (22, 2001)] [.ptr 2000 0, .d (.str y61)] [(2000, .box 101 [.ptr 2000 0, .suf 2001 1 0]), (2001, .buf 1 5 1 (y62.2.2.map e_u8))] (.tup [.d (.int .i64 y62.1), .d (.ife y62.2.1)]) (by kernel_rfl) (by kernel_rfl) en47 (Res'.refl _) (F47a_ok e62) ?_)
                  refine J_adv 3 (J_at (S0 := [(4, .ptr 4 0), (6, .ptr 6 0), (12, .d (.sl 4 (d0.map e_T_api_Instr))), (13, .d (.int .i64 ((d0.map e_T_api_Instr).length : Int))), (14, .d (.int .i64 v11))]) (O0 := [(4, .box 101 [.ptr 4 0, .suf 22 0 0]), (6, .box 66 [.d (.int .i64 y60.Op), .d (.int .i64 y60.Var), .d (.int .i64 y60.Val), .d (.int .i64 y60.Go)]), (22, .buf 0 5 1 (y62.2.2.map e_u8))]) (T0 := [.code (cAt (bodyOf Tryz.f18) [1, 1, 1, 0, 1, 0, 0, 1, 1, 0, 0, 1, 1, 0, 0]), .code (cAt (bodyOf Tryz.f18) [1, 1, 1, 0, 1, 0, 0, 1, 1, 0, 0, 1, 1, 0, 1]), .code (cAt (bodyOf Tryz.f18) [1, 1, 1, 0, 1, 0, 0, 1, 1, 0, 0, 1, 1, 1]), .inBlock 1, .code (cAt (bodyOf Tryz.f18) [1, 1, 1, 0, 1, 0, 0, 1, 1, 1]), .inLoop (cAt (bodyOf Tryz.f18) [1, 1, 1, 0, 1, 0, 0]), .inBlock 0, .code (cAt (bodyOf Tryz.f18) [1, 1, 1, 1])]) [4, 6, 12, 13, 14] [4, 6, 22] (by kernel_rfl) rfl ?_)
                  obtain ⟨y63, e63, hF⟩ := bnd hF
                  refine J_adv 2 (J_callF (xs := [.agg [.d (.int .i64 y60.Op), .d (.int .i64 y60.Var), .d (.int .i64 y60.Val), .d (.int .i64 y60.Go)]]) [.agg [.d (.int .i64 y60.Op), .d (.int .i64 y60.Var), .d (.int .i64 y60.Val), .d (.int .i64 y60.Go)]] (.d (.sl 1 (y63.map e_pi64))) (by kernel_rfl) en48 (Res'.refl _) (F48_ok e63) ?_)
                  have hF18_L3 : ∀ (n_F18_L3 : Nat) (v13 : Int) (l13 : List Int), F18_L3 v11 y63 (F18_L2 fuel d0 n_F18_L2) n_F18_L3 v13 l13 = some r → J none Tryz.prog 40 [] (finF Tryz.prog Tryz.f18 (.tup [.d (.str r.1), .d (.int .i64 r.2)])) ⟨mkT [(4, .ptr 4 0), (12, .d (.sl 4 (d0.map e_T_api_Instr))), (13, .d (.int .i64 ((d0.map e_T_api_Instr).length : Int))), (14, .d (.int .i64 v11)), (24, .d (.sl 1 (y63.map e_pi64))), (25, .d (.int .i64 ((y63.map e_pi64).length : Int))), (26, .d (.int .i64 v13))], [(4, .box 101 [.ptr 4 0, .suf 22 0 0]), (22, .buf 0 5 1 (l13.map e_u8))], [.inLoop (cAt (bodyOf Tryz.f18) [1, 1, 1, 0, 1, 0, 0, 1, 1, 0, 0, 1, 1, 0, 1, 0, 0]), .inBlock 2, .code (cAt (bodyOf Tryz.f18) [1, 1, 1, 0, 1, 0, 0, 1, 1, 0, 0, 1, 1, 1]), .inBlock 1, .code (cAt (bodyOf Tryz.f18) [1, 1, 1, 0, 1, 0, 0, 1, 1, 1]), .inLoop (cAt (bodyOf Tryz.f18) [1, 1, 1, 0, 1, 0, 0]), .inBlock 0, .code (cAt (bodyOf Tryz.f18) [1, 1, 1, 1])]⟩ := by
                    clear hF; intro n_F18_L3
                    induction n_F18_L3 with
                    | zero => intro v13 l13 hF; cases hF
                    | succ n_F18_L3 ih_F18_L3 =>
                      intro v13 l13 hF
                      rw [F18_L3] at hF
                      refine J_adv 6 (J_bool 27 (b := decide (v13 < ((y63.map e_pi64).length : Int))) (by kernel_rfl) (fun hb36 => ?_) (fun hb36 => ?_))
                      · replace hF := ift hb36 hF
                        obtain ⟨y70, e70, hF⟩ := bnd hF
                        refine J_adv 6 (J_opt1 (o := geti (y63.map e_pi64) v13) (e_pi64 y70) (by kernel_rfl) (gm e70) ?_)
                        obtain ⟨y71, e71, hF⟩ := bnd hF
                        refine J_adv 7 (J_callF (xs := [.d (.int .i64 y70)]) [.d (.int .i64 y70)] (.d (.str y71)) (by kernel_rfl) en49 (Res'.refl _) (F49_ok e71) ?_)
                        obtain ⟨hb37, hF⟩ := assd hF
                        refine J_adv 0 (J_opt1 (o := chk (decide ([32].length + y71.length ≤ 4611686018427387904))) [] (by kernel_rfl) (ck hb37) ?_)
                        obtain ⟨y72, e72, hF⟩ := bnd hF
                        refine J_adv 0 (J_callR (os := [(2000, .box 101 [.ptr 2000 0, .suf 2001 0 0]), (2001, .buf 0 5 1 (l13.map e_u8))]) (xs := [.ptr 2000 0, .d (.str ([32] ++ y71))]) [(4, 2000), (22, 2001)] [.ptr 2000 0, .d (.str ([32] ++ y71))] [(2000, .box 101 [.ptr 2000 0, .suf 2001 1 0]), (2001, .buf 1 5 1 (y72.2.2.map e_u8))] (.tup [.d (.int .i64 y72.1), .d (.ife y72.2.1)]) (by kernel_rfl) (by kernel_rfl) en47 (Res'.refl _) (F47a_ok e72) ?_)
                        exact J_adv 6 (J_at [4, 12, 13, 14, 24, 25, 26] [4, 22] (T0 := [.inLoop (cAt (bodyOf Tryz.f18) [1, 1, 1, 0, 1, 0, 0, 1, 1, 0, 0, 1, 1, 0, 1, 0, 0]), .inBlock 2, .code (cAt (bodyOf Tryz.f18) [1, 1, 1, 0, 1, 0, 0, 1, 1, 0, 0, 1, 1, 1]), .inBlock 1, .code (cAt (bodyOf Tryz.f18) [1, 1, 1, 0, 1, 0, 0, 1, 1, 1]), .inLoop (cAt (bodyOf Tryz.f18) [1, 1, 1, 0, 1, 0, 0]), .inBlock 0, .code (cAt (bodyOf Tryz.f18) [1, 1, 1, 1])]) (by kernel_rfl) rfl (ih_F18_L3 (IntKind.i64.wrap (v13 + 1)) y72.2.2 hF))
                      · replace hF := iff' hb36 hF
                        obtain ⟨y73, e73, hF⟩ := bnd hF
                        refine J_adv 3 (J_callR (os := [(2000, .box 101 [.ptr 2000 0, .suf 2001 0 0]), (2001, .buf 0 5 1 (l13.map e_u8))]) (xs := [.ptr 2000 0, .d (.int .u8 10)]) [(4, 2000), (22, 2001)] [.ptr 2000 0, .d (.int .u8 10)] [(2000, .box 101 [.ptr 2000 0, .suf 2001 1 0]), (2001, .buf 1 5 1 (y73.2.map e_u8))] (.d (.ife y73.1)) (by kernel_rfl) (by kernel_rfl) en50 (Res'.refl _) (F50_ok e73) ?_)
                        exact J_adv 6 (J_at [4, 12, 13, 14] [4, 22] (T0 := [.inLoop (cAt (bodyOf Tryz.f18) [1, 1, 1, 0, 1, 0, 0]), .inBlock 0, .code (cAt (bodyOf Tryz.f18) [1, 1, 1, 1])]) (by kernel_rfl) rfl (ih_F18_L2 (IntKind.i64.wrap (v11 + 1)) y73.2 hF))
                  exact J_adv 5 (J_at [4, 12, 13, 14, 24, 25, 26] [4, 22] (T0 := [.inLoop (cAt (bodyOf Tryz.f18) [1, 1, 1, 0, 1, 0, 0, 1, 1, 0, 0, 1, 1, 0, 1, 0, 0]), .inBlock 2, .code (cAt (bodyOf Tryz.f18) [1, 1, 1, 0, 1, 0, 0, 1, 1, 0, 0, 1, 1, 1]), .inBlock 1, .code (cAt (bodyOf Tryz.f18) [1, 1, 1, 0, 1, 0, 0, 1, 1, 1]), .inLoop (cAt (bodyOf Tryz.f18) [1, 1, 1, 0, 1, 0, 0]), .inBlock 0, .code (cAt (bodyOf Tryz.f18) [1, 1, 1, 1])]) (by kernel_rfl) rfl (hF18_L3 fuel 0 y62.2.2 hF))
                · replace hF := iff' hb31 hF
                  obtain ⟨y74, e74, hF⟩ := bnd hF
                  refine J_adv 4 (J_callR (os := [(2000, .box 101 [.ptr 2000 0, .suf 2001 0 0]), (2001, .buf 0 5 1 (l11.map e_u8))]) (xs := [.ptr 2000 0]) [(4, 2000), (22, 2001)] [.ptr 2000 0] [(2000, .box 101 [.ptr 2000 0, .suf 2001 0 0]), (2001, .fzs 0 1 (l11.map e_u8))] (.d (.str y74)) (by kernel_rfl) (by kernel_rfl) en51 (Res'.refl _) (F51_ok e74) ?_)
                  have hr_ := Option.some.inj hF; subst hr_
                  exact J_adv 3 (J_ret (xs := [.d (.str y74), .d (.int .i64 0)]) [.d (.str y74), .d (.int .i64 0)] rfl rfl (by kernel_rfl) (Res'.refl _) rfl)
            exact J_adv 6 (J_at [4, 12, 13, 14] [4, 22] (T0 := [.inLoop (cAt (bodyOf Tryz.f18) [1, 1, 1, 0, 1, 0, 0]), .inBlock 0, .code (cAt (bodyOf Tryz.f18) [1, 1, 1, 1])]) (by kernel_rfl) rfl (hF18_L2 fuel (IntKind.i64.wrap (0 + 1)) y31.2 hF))
      exact J_adv 5 (J_at [4, 12, 13, 14, 24, 25, 26] [4, 22] (T0 := [.inLoop (cAt (bodyOf Tryz.f18) [1, 1, 1, 0, 1, 0, 0, 1, 1, 0, 0, 1, 1, 0, 1, 0, 0]), .inBlock 2, .code (cAt (bodyOf Tryz.f18) [1, 1, 1, 0, 1, 0, 0, 1, 1, 0, 0, 1, 1, 1]), .inBlock 1, .code (cAt (bodyOf Tryz.f18) [1, 1, 1, 0, 1, 0, 0, 1, 1, 1]), .inLoop (cAt (bodyOf Tryz.f18) [1, 1, 1, 0, 1, 0, 0]), .inBlock 0, .code (cAt (bodyOf Tryz.f18) [1, 1, 1, 1])]) (by kernel_rfl) rfl (hF18_L1 fuel 0 y20.2.2 hF))
    · replace hF := iff' hb10 hF
      cases hF

/- croupier/code.lines -/
def F44 (d0 : List UInt8) : Option (List UInt8) :=
  some d0
theorem F44_ok {d0 : List UInt8} {r : List UInt8} (hF : F44 d0 = some r) :
    CallR Tryz.prog 44 [] [.d (.str d0)] [(2000, .box 9 [.d (.str r)])] (.fn 75 [] [.ptr 2000 0]) := by
  unfold F44 at hF
  refine callR_of (N := 4) (b := bodyOf Tryz.f44) Tryz.func44 (by kernel_rfl) rfl rfl ?_
  refine J_adv 10 (J_at (S0 := [(2, .fn 75 [] [.ptr 1 0])]) (O0 := [(1, .box 9 [.d (.str d0)])]) (T0 := [.code (cAt (bodyOf Tryz.f44) [1, 1])]) [2] [1] (by kernel_rfl) rfl ?_)
  refine J_adv 0 (J_ren [(1, 2000)] (by kernel_rfl) (by kernel_rfl) (by kernel_rfl) (by kernel_rfl) ?_)
  have hr_ := Option.some.inj hF; subst hr_
  exact J_adv 0 (J_retRR (xs := [.fn 75 [] [.ptr 2000 0]]) [.fn 75 [] [.ptr 2000 0]] rfl (by kernel_rfl) (by kernel_rfl) (Res'.refl _) rfl)

/- strings.Cut -/
def F76 (d0 : List UInt8) (d1 : List UInt8) : Option (List UInt8 × List UInt8 × Bool) := cutF d0 d1
theorem F76_ok {d0 : List UInt8} {d1 : List UInt8} {r : List UInt8 × List UInt8 × Bool} (hF : F76 d0 d1 = some r) : CallF Tryz.prog 76 [.d (.str d0), .d (.str d1)] (.tup [.d (.str r.1), .d (.str r.2.1), .d (.bool r.2.2)]) := cut_callF (List.Mem.head _) Tryz.strings_Cut hF

def y_s (x : List UInt8) : List Kx.V := [.d (.str x)]
/- croupier/code.lines$1 -/
def F75_L1 : Nat → (List UInt8) → Option (List (List UInt8) × Bool)
  | 0, _ => none
  | n_F75_L1 + 1, x2 =>
    bif !(x2 == []) then
      (Option.bind (F76 x2 [10]) fun y3 =>
      bif !y3.2.2 then
        (some ([], true))
      else
        (Option.bind (
          (F75_L1 n_F75_L1) y3.2.1) fun l3 =>
        some (y3.1 :: l3.1, l3.2)))
    else
      (some ([], false))
def F75 (fuel : Nat) (d0 : List UInt8) : Option (List (List UInt8) × Bool) :=
  F75_L1 fuel d0
theorem F75_ok {fuel : Nat} {d0 : List UInt8} {r : List (List UInt8) × Bool} (hF : F75 fuel d0 = some r) :
    IterC Tryz.prog 75 [(2000, .frn 2000), (2001, .box 9 [.d (.str d0)])] [.yl 2000, .ptr 2001 0] (r.1.map y_s) r.2 := by
  unfold F75 at hF
  refine iterC_of (N := 23) (b := bodyOf Tryz.f75) Tryz.func75 (by kernel_rfl) rfl rfl (fun yl_ Inv_ Stop_ Pan_ hR_ => ?_)
  have hF75_L1 : ∀ (n_F75_L1 : Nat) (r : List (List UInt8) × Bool) (x2 : List UInt8), F75_L1 n_F75_L1 x2 = some r → J none Tryz.prog 23 [] (finI Tryz.prog Tryz.f75 yl_ Inv_ Stop_ Pan_ r.2 (some (r.1.map y_s))) ⟨mkT [(0, .yl 2000), (1, .ptr 2001 0)], [(2000, .frn 2000), (2001, .box 9 [.d (.str x2)])], [.inLoop (cAt (bodyOf Tryz.f75) [0, 0]), .inBlock 0]⟩ := by
    clear hF; intro n_F75_L1
    induction n_F75_L1 with
    | zero => intro r x2 hF; cases hF
    | succ n_F75_L1 ih_F75_L1 =>
      intro r x2 hF
      rw [F75_L1] at hF
      refine J_adv 7 (J_bool 7 (b := !(x2 == [])) (by kernel_rfl) (fun hb5 => ?_) (fun hb5 => ?_))
      · replace hF := ift hb5 hF
        obtain ⟨y3, e3, hF⟩ := bnd hF
        refine J_adv 6 (J_callF (xs := [.d (.str x2), .d (.str [10])]) [.d (.str x2), .d (.str [10])] (.tup [.d (.str y3.1), .d (.str y3.2.1), .d (.bool y3.2.2)]) (by kernel_rfl) en76 (Res'.refl _) (F76_ok e3) ?_)
        refine J_adv 14 (J_bool 15 (b := !y3.2.2) (by kernel_rfl) (fun hb6 => ?_) (fun hb6 => ?_))
        · replace hF := ift hb6 hF
          have hr_ := Option.some.inj hF; subst hr_
          exact J_adv 4 (J_pan (by kernel_rfl) (by kernel_rfl) (JP_I hR_))
        · replace hF := iff' hb6 hF
          obtain ⟨l3, hY_, hr_⟩ := bnd hF
          clear hF; have hr_ := Option.some.inj hr_; subst hr_; have hF := hY_; clear hY_
          refine J_adv 7 (J_yield hR_ (xs := [.d (.str y3.1)]) [.d (.str y3.1)] (ys := l3.1.map y_s) (by kernel_rfl) (by kernel_rfl) (Res'.refl _) ?_ ?_)
          rotate_left
          ·
            exact J_adv 3 (J_doneI hR_ (.inr rfl) rfl rfl (by kernel_rfl))
          ·
            exact J_adv 9 (J_at [0, 1] [2000, 2001] (T0 := [.inLoop (cAt (bodyOf Tryz.f75) [0, 0]), .inBlock 0]) (by kernel_rfl) rfl (ih_F75_L1 _ y3.2.1 hF))
      · replace hF := iff' hb5 hF
        have hr_ := Option.some.inj hF; subst hr_
        exact J_adv 2 (J_doneI hR_ (.inl ⟨rfl, rfl⟩) rfl rfl (by kernel_rfl))
  exact J_adv 2 (J_at [0, 1] [2000, 2001] (T0 := [.inLoop (cAt (bodyOf Tryz.f75) [0, 0]), .inBlock 0]) (by kernel_rfl) rfl (hF75_L1 fuel _ d0 hF))

/- strings.Split -/
def F77 (d0 : List UInt8) (d1 : List UInt8) : Option (List (List UInt8)) := splitF d0 d1
theorem F77_ok {d0 : List UInt8} {d1 : List UInt8} {r : List (List UInt8)} (hF : F77 d0 d1 = some r) : CallF Tryz.prog 77 [.d (.str d0), .d (.str d1)] (.d (.sl 1 (r.map e_s))) := split_callF (f := e_s) (List.Mem.head _) Tryz.strings_Split (fun _ => rfl) hF

/- slices.Index(()string,string) -/
def F78 (d0 : List (List UInt8)) (d1 : List UInt8) : Option Int := match d0 with | [] => none | a :: l => idxF (a :: l) d1
theorem F78_ok {d0 : List (List UInt8)} {d1 : List UInt8} {r : Int} (hF : F78 d0 d1 = some r) : CallF Tryz.prog 78 [.d (.sl 1 (d0.map e_s)), .d (.str d1)] (.d (.int .i64 r)) := by
  cases d0 with
  | nil => cases hF
  | cons a l => exact index_callF (f := e_s) Tryz.slices_Index_string (fun _ => rfl) (by intro h; cases h) hF

/- strconv.Atoi -/
def F98 (d0 : List UInt8) : Option (Int × Bool) := atoiF d0
theorem F98_ok {d0 : List UInt8} {r : Int × Bool} (hF : F98 d0 = some r) : CallF Tryz.prog 98 [.d (.str d0)] (.tup [.d (.int .i64 r.1), .d (.ife r.2)]) := atoi_callF (gs := 3) (gr := 4) (by kernel_rfl) (by kernel_rfl) Tryz.strconv_Atoi_ok Tryz.strconv_Atoi_bad Tryz.strconv_Atoi_range hF

/- croupier/code.number -/
def F79 (d0 : List UInt8) : Option (Option Int) :=
  Option.bind (F98 d0) fun y1 =>
  Option.bind (
    bif !!y1.2 then
      (some true)
    else
      (Option.bind (F49 y1.1) fun y4 =>
      some (!(y4 == d0)))) fun o1 =>
  bif o1 then
    (some none)
  else
    (some (some y1.1))
theorem F79_ok {d0 : List UInt8} {r : Option Int} (hF : F79 d0 = some r) :
    CallO Tryz.prog 79 [.d (.str d0)] (r.map fun r => .d (.int .i64 r)) := by
  unfold F79 at hF
  refine callO_of (N := 21) (b := bodyOf Tryz.f79) Tryz.func79 (by kernel_rfl) rfl rfl ?_
  obtain ⟨y1, e1, hF⟩ := bnd hF
  refine J_adv 7 (J_callF (xs := [.d (.str d0)]) [.d (.str d0)] (.tup [.d (.int .i64 y1.1), .d (.ife y1.2)]) (by kernel_rfl) en98 (Res'.refl _) (F98_ok e1) ?_)
  obtain ⟨o1, hO, hF⟩ := bnd hF
  have hR1 : J none Tryz.prog 21 [] (finO Tryz.prog Tryz.f79 (r.map fun r => .d (.int .i64 r))) ⟨mkT [(3, .d (.int .i64 y1.1)), (17, .d (.bool o1))], [], [.ops (opsOf (cAt (bodyOf Tryz.f79) [1, 1, 0, 0])) [], .code (cAt (bodyOf Tryz.f79) [1, 1, 0, 1]), .code (cAt (bodyOf Tryz.f79) [1, 1, 1])]⟩ := by
    clear hO
    refine J_adv 1 (J_bool 17 (b := o1) (by kernel_rfl) (fun hb3 => ?_) (fun hb3 => ?_))
    · replace hF := ift hb3 hF
      have hr_ := Option.some.inj hF; subst hr_
      exact J_adv 4 (J_pan (by kernel_rfl) (by kernel_rfl) JP_fin)
    · replace hF := iff' hb3 hF
      have hr_ := Option.some.inj hF; subst hr_
      exact J_adv 7 (J_ret (xs := [.d (.int .i64 y1.1)]) [.d (.int .i64 y1.1)] rfl rfl (by kernel_rfl) (Res'.refl _) rfl)
  clear hF; rename _ = some o1 => hF
  refine J_adv 12 (J_bool 12 (b := !!y1.2) (by kernel_rfl) (fun hb4 => ?_) (fun hb4 => ?_))
  · replace hF := ift hb4 hF
    have hr_ := Option.some.inj hF; subst hr_
    exact J_adv 5 (J_at [3, 17] [] (T0 := [.ops (opsOf (cAt (bodyOf Tryz.f79) [1, 1, 0, 0])) [], .code (cAt (bodyOf Tryz.f79) [1, 1, 0, 1]), .code (cAt (bodyOf Tryz.f79) [1, 1, 1])]) (by kernel_rfl) rfl hR1)
  · replace hF := iff' hb4 hF
    obtain ⟨y4, e4, hF⟩ := bnd hF
    refine J_adv 1 (J_callF (xs := [.d (.int .i64 y1.1)]) [.d (.int .i64 y1.1)] (.d (.str y4)) (by kernel_rfl) en49 (Res'.refl _) (F49_ok e4) ?_)
    have hr_ := Option.some.inj hF; subst hr_
    exact J_adv 3 (J_at [3, 17] [] (T0 := [.ops (opsOf (cAt (bodyOf Tryz.f79) [1, 1, 0, 0])) [], .code (cAt (bodyOf Tryz.f79) [1, 1, 0, 1]), .code (cAt (bodyOf Tryz.f79) [1, 1, 1])]) (by kernel_rfl) rfl hR1)

/- croupier/code.instruction -/
def F45 (d0 : List UInt8) : Option (Option T_api_Instr) :=
  Option.bind (F77 d0 [32]) fun y1 =>
  Option.bind (slc [[], [101, 113], [108, 101], [103, 101], [103, 111], [97, 99, 116]] 1 (6 : Int)) fun l1 =>
  Option.bind (geti y1 0) fun y2 =>
  Option.bind (F78 l1 y2) fun y3 =>
  bif decide ((IntKind.i64.wrap (y3 + 1)) ≥ 4) then
    (Option.bind (
      bif (IntKind.i64.wrap (y3 + 1)) == 0 then
        (some true)
      else
        (some (((y1.map e_s).length : Int) != 2))) fun o1 =>
    bif o1 then
      (some none)
    else
      (bif (IntKind.i64.wrap (y3 + 1)) == 4 then
        (Option.bind (geti y1 1) fun y4 =>
        pbind (F79 y4) fun y5 =>
        some (some (⟨IntKind.i64.wrap (y3 + 1), 0, 0, y5⟩ : T_api_Instr)))
      else
        (bif (IntKind.i64.wrap (y3 + 1)) == 5 then
          (Option.bind (geti y1 1) fun y6 =>
          pbind (F79 y6) fun y7 =>
          some (some (⟨IntKind.i64.wrap (y3 + 1), 0, y7, 0⟩ : T_api_Instr)))
        else
          (Option.bind (geti y1 1) fun y8 =>
          Option.bind (geti y1 2) fun y9 =>
          Option.bind (geti y1 3) fun y10 =>
          pbind (F79 y8) fun y11 =>
          pbind (F79 y9) fun y12 =>
          pbind (F79 y10) fun y13 =>
          some (some (⟨IntKind.i64.wrap (y3 + 1), y11, y12, y13⟩ : T_api_Instr))))))
  else
    (Option.bind (
      bif (IntKind.i64.wrap (y3 + 1)) == 0 then
        (some true)
      else
        (some (((y1.map e_s).length : Int) != 4))) fun o2 =>
    bif o2 then
      (some none)
    else
      (bif (IntKind.i64.wrap (y3 + 1)) == 4 then
        (Option.bind (geti y1 1) fun y14 =>
        pbind (F79 y14) fun y15 =>
        some (some (⟨IntKind.i64.wrap (y3 + 1), 0, 0, y15⟩ : T_api_Instr)))
      else
        (bif (IntKind.i64.wrap (y3 + 1)) == 5 then
          (Option.bind (geti y1 1) fun y16 =>
          pbind (F79 y16) fun y17 =>
          some (some (⟨IntKind.i64.wrap (y3 + 1), 0, y17, 0⟩ : T_api_Instr)))
        else
          (Option.bind (geti y1 1) fun y18 =>
          Option.bind (geti y1 2) fun y19 =>
          Option.bind (geti y1 3) fun y20 =>
          pbind (F79 y18) fun y21 =>
          pbind (F79 y19) fun y22 =>
          pbind (F79 y20) fun y23 =>
          some (some (⟨IntKind.i64.wrap (y3 + 1), y21, y22, y23⟩ : T_api_Instr))))))
theorem F45_ok {d0 : List UInt8} {r : Option T_api_Instr} (hF : F45 d0 = some r) :
    CallO Tryz.prog 45 [.d (.str d0)] (r.map fun r => .agg [.d (.int .i64 r.Op), .d (.int .i64 r.Var), .d (.int .i64 r.Val), .d (.int .i64 r.Go)]) := by
  unfold F45 at hF
  refine callO_of (N := 60) (b := bodyOf Tryz.f45) Tryz.func45 (by kernel_rfl) rfl rfl ?_
  obtain ⟨y1, e1, hF⟩ := bnd hF
  refine J_adv 7 (J_callF (xs := [.d (.str d0), .d (.str [32])]) [.d (.str d0), .d (.str [32])] (.d (.sl 1 (y1.map e_s))) (by kernel_rfl) en77 (Res'.refl _) (F77_ok e1) ?_)
  refine J_adv 3 (J_draw (by kernel_rfl) (by kernel_rfl) ?_)
  obtain ⟨l1, e2, hF⟩ := bnd hF
  refine JD_adv 0 (JD_opt2 (o := slc (chunks 1 6 (([.str [], .str [101, 113], .str [108, 101], .str [103, 101], .str [103, 111], .str [97, 99, 116]] : List Dat).drop 0)) 1 (6 : Int)) (l1.map e_s) (by kernel_rfl) (by kernel_rfl) (sm (f := e_s) e2) ?_)
  obtain ⟨y2, e3, hF⟩ := bnd hF
  refine JD_adv 1 (JD_opt1 (o := geti (y1.map e_s) 0) (e_s y2) (by kernel_rfl) (by kernel_rfl) (gm e3) ?_)
  obtain ⟨y3, e4, hF⟩ := bnd hF
  refine JD_adv 1 (JD_callF (xs := [.d (.sl 1 (l1.map e_s)), .d (.str y2)]) [.d (.sl 1 (l1.map e_s)), .d (.str y2)] (.d (.int .i64 y3)) (by kernel_rfl) (by kernel_rfl) en78 (Res'.refl _) (F78_ok e4) ?_)
  refine JD_adv 2 (JD_end (by kernel_rfl) ?_)
  refine J_adv 10 (J_bool 16 (b := decide ((IntKind.i64.wrap (y3 + 1)) ≥ 4)) (by kernel_rfl) (fun hb1 => ?_) (fun hb1 => ?_))
  · replace hF := ift hb1 hF
    obtain ⟨o1, hO, hF⟩ := bnd hF
    have hR1 : J none Tryz.prog 60 [] (finO Tryz.prog Tryz.f45 (r.map fun r => .agg [.d (.int .i64 r.Op), .d (.int .i64 r.Var), .d (.int .i64 r.Val), .d (.int .i64 r.Go)])) ⟨mkT [(2, .ptr 2 0), (3, .d (.sl 1 (y1.map e_s))), (4, .d (.int .i64 (IntKind.i64.wrap (y3 + 1)))), (24, .d (.bool o1))], [(2, .box 66 [.d (.int .i64 0), .d (.int .i64 0), .d (.int .i64 0), .d (.int .i64 0)])], [.ops (opsOf (cAt (bodyOf Tryz.f45) [1, 1, 1, 1, 1, 0, 0])) [], .code (cAt (bodyOf Tryz.f45) [1, 1, 1, 1, 1, 0, 1]), .code (cAt (bodyOf Tryz.f45) [1, 1, 1, 1, 1, 1])]⟩ := by
      clear hO
      refine J_adv 1 (J_bool 24 (b := o1) (by kernel_rfl) (fun hb4 => ?_) (fun hb4 => ?_))
      · replace hF := ift hb4 hF
        have hr_ := Option.some.inj hF; subst hr_
        exact J_adv 4 (J_pan (by kernel_rfl) (by kernel_rfl) JP_fin)
      · replace hF := iff' hb4 hF
        refine J_adv 20 (J_bool 45 (b := (IntKind.i64.wrap (y3 + 1)) == 4) (by kernel_rfl) (fun hb5 => ?_) (fun hb5 => ?_))
        · replace hF := ift hb5 hF
          obtain ⟨y4, e5, hF⟩ := bnd hF
          refine J_adv 3 (J_opt1 (o := geti (y1.map e_s) 1) (e_s y4) (by kernel_rfl) (gm e5) ?_)
          rcases pbnd hF with ⟨e7, hr_⟩ | ⟨y5, e6, hF⟩
          · subst hr_; exact J_adv 1 (J_callP (xs := [.d (.str y4)]) [.d (.str y4)] (by kernel_rfl) (by kernel_rfl) en79 (Res'.refl _) (by kernel_rfl) (F79_ok e7) JP_fin)
          refine J_adv 1 (J_callF (xs := [.d (.str y4)]) [.d (.str y4)] (.d (.int .i64 y5)) (by kernel_rfl) en79 (Res'.refl _) (F79_ok e6) ?_)
          have hr_ := Option.some.inj hF; subst hr_
          exact J_adv 9 (J_ret (xs := [.agg [.d (.int .i64 (IntKind.i64.wrap (y3 + 1))), .d (.int .i64 0), .d (.int .i64 0), .d (.int .i64 y5)]]) [.agg [.d (.int .i64 (IntKind.i64.wrap (y3 + 1))), .d (.int .i64 0), .d (.int .i64 0), .d (.int .i64 y5)]] rfl rfl (by kernel_rfl) (Res'.refl _) rfl)
        · replace hF := iff' hb5 hF
          refine J_adv 6 (J_bool 52 (b := (IntKind.i64.wrap (y3 + 1)) == 5) (by kernel_rfl) (fun hb6 => ?_) (fun hb6 => ?_))
          · replace hF := ift hb6 hF
            obtain ⟨y6, e8, hF⟩ := bnd hF
            refine J_adv 3 (J_opt1 (o := geti (y1.map e_s) 1) (e_s y6) (by kernel_rfl) (gm e8) ?_)
            rcases pbnd hF with ⟨e10, hr_⟩ | ⟨y7, e9, hF⟩
            · subst hr_; exact J_adv 1 (J_callP (xs := [.d (.str y6)]) [.d (.str y6)] (by kernel_rfl) (by kernel_rfl) en79 (Res'.refl _) (by kernel_rfl) (F79_ok e10) JP_fin)
            refine J_adv 1 (J_callF (xs := [.d (.str y6)]) [.d (.str y6)] (.d (.int .i64 y7)) (by kernel_rfl) en79 (Res'.refl _) (F79_ok e9) ?_)
            have hr_ := Option.some.inj hF; subst hr_
            exact J_adv 9 (J_ret (xs := [.agg [.d (.int .i64 (IntKind.i64.wrap (y3 + 1))), .d (.int .i64 0), .d (.int .i64 y7), .d (.int .i64 0)]]) [.agg [.d (.int .i64 (IntKind.i64.wrap (y3 + 1))), .d (.int .i64 0), .d (.int .i64 y7), .d (.int .i64 0)]] rfl rfl (by kernel_rfl) (Res'.refl _) rfl)
          · replace hF := iff' hb6 hF
            obtain ⟨y8, e11, hF⟩ := bnd hF
            obtain ⟨y9, e12, hF⟩ := bnd hF
            obtain ⟨y10, e13, hF⟩ := bnd hF
            rcases pbnd hF with ⟨e15, hr_⟩ | ⟨y11, e14, hF⟩
            · subst hr_
              refine J_adv 1 (J_drawQ 3 (by kernel_rfl) (by kernel_rfl) ?_)
              refine JDQ_adv 1 (JDQ_opt1 (o := geti (y1.map e_s) 1) (e_s y8) (by kernel_rfl) (by kernel_rfl) (gm e11) ?_)
              refine JDQ_adv 1 (JDQ_callP (xs := [.d (.str y8)]) [.d (.str y8)] (by kernel_rfl) (by kernel_rfl) en79 (Res'.refl _) (F79_ok e15) ?_)
              refine JDQ_adv 1 (JDQ_opt1 (o := geti (y1.map e_s) 2) (e_s y9) (by kernel_rfl) (by kernel_rfl) (gm e12) ?_)
              refine JDQ_adv 3 (JDQ_opt1 (o := geti (y1.map e_s) 3) (e_s y10) (by kernel_rfl) (by kernel_rfl) (gm e13) ?_)
              exact JDQ_adv 8 (JDQ_end (by kernel_rfl) (by kernel_rfl) JP_fin)
            rcases pbnd hF with ⟨e17, hr_⟩ | ⟨y12, e16, hF⟩
            · subst hr_
              refine J_adv 1 (J_drawQ 7 (by kernel_rfl) (by kernel_rfl) ?_)
              refine JDQ_adv 1 (JDQ_opt1 (o := geti (y1.map e_s) 1) (e_s y8) (by kernel_rfl) (by kernel_rfl) (gm e11) ?_)
              refine JDQ_adv 1 (JDQ_callF (xs := [.d (.str y8)]) [.d (.str y8)] (.d (.int .i64 y11)) (by kernel_rfl) (by kernel_rfl) en79 (Res'.refl _) (F79_ok e14) ?_)
              refine JDQ_adv 1 (JDQ_opt1 (o := geti (y1.map e_s) 2) (e_s y9) (by kernel_rfl) (by kernel_rfl) (gm e12) ?_)
              refine JDQ_adv 1 (JDQ_callP (xs := [.d (.str y9)]) [.d (.str y9)] (by kernel_rfl) (by kernel_rfl) en79 (Res'.refl _) (F79_ok e17) ?_)
              refine JDQ_adv 1 (JDQ_opt1 (o := geti (y1.map e_s) 3) (e_s y10) (by kernel_rfl) (by kernel_rfl) (gm e13) ?_)
              exact JDQ_adv 8 (JDQ_end (by kernel_rfl) (by kernel_rfl) JP_fin)
            rcases pbnd hF with ⟨e19, hr_⟩ | ⟨y13, e18, hF⟩
            · subst hr_
              refine J_adv 1 (J_drawQ 11 (by kernel_rfl) (by kernel_rfl) ?_)
              refine JDQ_adv 1 (JDQ_opt1 (o := geti (y1.map e_s) 1) (e_s y8) (by kernel_rfl) (by kernel_rfl) (gm e11) ?_)
              refine JDQ_adv 1 (JDQ_callF (xs := [.d (.str y8)]) [.d (.str y8)] (.d (.int .i64 y11)) (by kernel_rfl) (by kernel_rfl) en79 (Res'.refl _) (F79_ok e14) ?_)
              refine JDQ_adv 1 (JDQ_opt1 (o := geti (y1.map e_s) 2) (e_s y9) (by kernel_rfl) (by kernel_rfl) (gm e12) ?_)
              refine JDQ_adv 1 (JDQ_callF (xs := [.d (.str y9)]) [.d (.str y9)] (.d (.int .i64 y12)) (by kernel_rfl) (by kernel_rfl) en79 (Res'.refl _) (F79_ok e16) ?_)
              refine JDQ_adv 1 (JDQ_opt1 (o := geti (y1.map e_s) 3) (e_s y10) (by kernel_rfl) (by kernel_rfl) (gm e13) ?_)
              refine JDQ_adv 1 (JDQ_callP (xs := [.d (.str y10)]) [.d (.str y10)] (by kernel_rfl) (by kernel_rfl) en79 (Res'.refl _) (F79_ok e19) ?_)
              exact JDQ_adv 6 (JDQ_end (by kernel_rfl) (by kernel_rfl) JP_fin)
            refine J_adv 1 (J_draw (by kernel_rfl) (by kernel_rfl) ?_)
            refine JD_adv 1 (JD_opt1 (o := geti (y1.map e_s) 1) (e_s y8) (by kernel_rfl) (by kernel_rfl) (gm e11) ?_)
            refine JD_adv 1 (JD_callF (xs := [.d (.str y8)]) [.d (.str y8)] (.d (.int .i64 y11)) (by kernel_rfl) (by kernel_rfl) en79 (Res'.refl _) (F79_ok e14) ?_)
            refine JD_adv 1 (JD_opt1 (o := geti (y1.map e_s) 2) (e_s y9) (by kernel_rfl) (by kernel_rfl) (gm e12) ?_)
            refine JD_adv 1 (JD_callF (xs := [.d (.str y9)]) [.d (.str y9)] (.d (.int .i64 y12)) (by kernel_rfl) (by kernel_rfl) en79 (Res'.refl _) (F79_ok e16) ?_)
            refine JD_adv 1 (JD_opt1 (o := geti (y1.map e_s) 3) (e_s y10) (by kernel_rfl) (by kernel_rfl) (gm e13) ?_)
            refine JD_adv 1 (JD_callF (xs := [.d (.str y10)]) [.d (.str y10)] (.d (.int .i64 y13)) (by kernel_rfl) (by kernel_rfl) en79 (Res'.refl _) (F79_ok e18) ?_)
            refine JD_adv 6 (JD_end (by kernel_rfl) ?_)
            have hr_ := Option.some.inj hF; subst hr_
            exact J_adv 6 (J_ret (xs := [.agg [.d (.int .i64 (IntKind.i64.wrap (y3 + 1))), .d (.int .i64 y11), .d (.int .i64 y12), .d (.int .i64 y13)]]) [.agg [.d (.int .i64 (IntKind.i64.wrap (y3 + 1))), .d (.int .i64 y11), .d (.int .i64 y12), .d (.int .i64 y13)]] rfl rfl (by kernel_rfl) (Res'.refl _) rfl)
    clear hF; rename _ = some o1 => hF
    refine J_adv 10 (J_bool 19 (b := (IntKind.i64.wrap (y3 + 1)) == 0) (by kernel_rfl) (fun hb7 => ?_) (fun hb7 => ?_))
    · replace hF := ift hb7 hF
      have hr_ := Option.some.inj hF; subst hr_
      exact J_adv 5 (J_at [2, 3, 4, 24] [2] (T0 := [.ops (opsOf (cAt (bodyOf Tryz.f45) [1, 1, 1, 1, 1, 0, 0])) [], .code (cAt (bodyOf Tryz.f45) [1, 1, 1, 1, 1, 0, 1]), .code (cAt (bodyOf Tryz.f45) [1, 1, 1, 1, 1, 1])]) (by kernel_rfl) rfl hR1)
    · replace hF := iff' hb7 hF
      have hr_ := Option.some.inj hF; subst hr_
      exact J_adv 5 (J_at [2, 3, 4, 24] [2] (T0 := [.ops (opsOf (cAt (bodyOf Tryz.f45) [1, 1, 1, 1, 1, 0, 0])) [], .code (cAt (bodyOf Tryz.f45) [1, 1, 1, 1, 1, 0, 1]), .code (cAt (bodyOf Tryz.f45) [1, 1, 1, 1, 1, 1])]) (by kernel_rfl) rfl hR1)
  · replace hF := iff' hb1 hF
    obtain ⟨o2, hO, hF⟩ := bnd hF
    have hR2 : J none Tryz.prog 60 [] (finO Tryz.prog Tryz.f45 (r.map fun r => .agg [.d (.int .i64 r.Op), .d (.int .i64 r.Var), .d (.int .i64 r.Val), .d (.int .i64 r.Go)])) ⟨mkT [(2, .ptr 2 0), (3, .d (.sl 1 (y1.map e_s))), (4, .d (.int .i64 (IntKind.i64.wrap (y3 + 1)))), (24, .d (.bool o2))], [(2, .box 66 [.d (.int .i64 0), .d (.int .i64 0), .d (.int .i64 0), .d (.int .i64 0)])], [.ops (opsOf (cAt (bodyOf Tryz.f45) [1, 1, 1, 1, 1, 0, 0])) [], .code (cAt (bodyOf Tryz.f45) [1, 1, 1, 1, 1, 0, 1]), .code (cAt (bodyOf Tryz.f45) [1, 1, 1, 1, 1, 1])]⟩ := by
      clear hO
      refine J_adv 1 (J_bool 24 (b := o2) (by kernel_rfl) (fun hb10 => ?_) (fun hb10 => ?_))
      · replace hF := ift hb10 hF
        have hr_ := Option.some.inj hF; subst hr_
        exact J_adv 4 (J_pan (by kernel_rfl) (by kernel_rfl) JP_fin)
      · replace hF := iff' hb10 hF
        refine J_adv 20 (J_bool 45 (b := (IntKind.i64.wrap (y3 + 1)) == 4) (by kernel_rfl) (fun hb11 => ?_) (fun hb11 => ?_))
        · replace hF := ift hb11 hF
          obtain ⟨y14, e20, hF⟩ := bnd hF
          refine J_adv 3 (J_opt1 (o := geti (y1.map e_s) 1) (e_s y14) (by kernel_rfl) (gm e20) ?_)
          rcases pbnd hF with ⟨e22, hr_⟩ | ⟨y15, e21, hF⟩
          · subst hr_; exact J_adv 1 (J_callP (xs := [.d (.str y14)]) [.d (.str y14)] (by kernel_rfl) (by kernel_rfl) en79 (Res'.refl _) (by kernel_rfl) (F79_ok e22) JP_fin)
          refine J_adv 1 (J_callF (xs := [.d (.str y14)]) [.d (.str y14)] (.d (.int .i64 y15)) (by kernel_rfl) en79 (Res'.refl _) (F79_ok e21) ?_)
          have hr_ := Option.some.inj hF; subst hr_
          exact J_adv 9 (J_ret (xs := [.agg [.d (.int .i64 (IntKind.i64.wrap (y3 + 1))), .d (.int .i64 0), .d (.int .i64 0), .d (.int .i64 y15)]]) [.agg [.d (.int .i64 (IntKind.i64.wrap (y3 + 1))), .d (.int .i64 0), .d (.int .i64 0), .d (.int .i64 y15)]] rfl rfl (by kernel_rfl) (Res'.refl _) rfl)
        · replace hF := iff' hb11 hF
          refine J_adv 6 (J_bool 52 (b := (IntKind.i64.wrap (y3 + 1)) == 5) (by kernel_rfl) (fun hb12 => ?_) (fun hb12 => ?_))
          · replace hF := ift hb12 hF
            obtain ⟨y16, e23, hF⟩ := bnd hF
            refine J_adv 3 (J_opt1 (o := geti (y1.map e_s) 1) (e_s y16) (by kernel_rfl) (gm e23) ?_)
            rcases pbnd hF with ⟨e25, hr_⟩ | ⟨y17, e24, hF⟩
            · subst hr_; exact J_adv 1 (J_callP (xs := [.d (.str y16)]) [.d (.str y16)] (by kernel_rfl) (by kernel_rfl) en79 (Res'.refl _) (by kernel_rfl) (F79_ok e25) JP_fin)
            refine J_adv 1 (J_callF (xs := [.d (.str y16)]) [.d (.str y16)] (.d (.int .i64 y17)) (by kernel_rfl) en79 (Res'.refl _) (F79_ok e24) ?_)
            have hr_ := Option.some.inj hF; subst hr_
            exact J_adv 9 (J_ret (xs := [.agg [.d (.int .i64 (IntKind.i64.wrap (y3 + 1))), .d (.int .i64 0), .d (.int .i64 y17), .d (.int .i64 0)]]) [.agg [.d (.int .i64 (IntKind.i64.wrap (y3 + 1))), .d (.int .i64 0), .d (.int .i64 y17), .d (.int .i64 0)]] rfl rfl (by kernel_rfl) (Res'.refl _) rfl)
          · replace hF := iff' hb12 hF
            obtain ⟨y18, e26, hF⟩ := bnd hF
            obtain ⟨y19, e27, hF⟩ := bnd hF
            obtain ⟨y20, e28, hF⟩ := bnd hF
            rcases pbnd hF with ⟨e30, hr_⟩ | ⟨y21, e29, hF⟩
            · subst hr_
              refine J_adv 1 (J_drawQ 3 (by kernel_rfl) (by kernel_rfl) ?_)
              refine JDQ_adv 1 (JDQ_opt1 (o := geti (y1.map e_s) 1) (e_s y18) (by kernel_rfl) (by kernel_rfl) (gm e26) ?_)
              refine JDQ_adv 1 (JDQ_callP (xs := [.d (.str y18)]) [.d (.str y18)] (by kernel_rfl) (by kernel_rfl) en79 (Res'.refl _) (F79_ok e30) ?_)
              refine JDQ_adv 1 (JDQ_opt1 (o := geti (y1.map e_s) 2) (e_s y19) (by kernel_rfl) (by kernel_rfl) (gm e27) ?_)
              refine JDQ_adv 3 (JDQ_opt1 (o := geti (y1.map e_s) 3) (e_s y20) (by kernel_rfl) (by kernel_rfl) (gm e28) ?_)
              exact JDQ_adv 8 (JDQ_end (by kernel_rfl) (by kernel_rfl) JP_fin)
            rcases pbnd hF with ⟨e32, hr_⟩ | ⟨y22, e31, hF⟩
            · subst hr_
              refine J_adv 1 (J_drawQ 7 (by kernel_rfl) (by kernel_rfl) ?_)
              refine JDQ_adv 1 (JDQ_opt1 (o := geti (y1.map e_s) 1) (e_s y18) (by kernel_rfl) (by kernel_rfl) (gm e26) ?_)
              refine JDQ_adv 1 (JDQ_callF (xs := [.d (.str y18)]) [.d (.str y18)] (.d (.int .i64 y21)) (by kernel_rfl) (by kernel_rfl) en79 (Res'.refl _) (F79_ok e29) ?_)
              refine JDQ_adv 1 (JDQ_opt1 (o := geti (y1.map e_s) 2) (e_s y19) (by kernel_rfl) (by kernel_rfl) (gm e27) ?_)
              refine JDQ_adv 1 (JDQ_callP (xs := [.d (.str y19)]) [.d (.str y19)] (by kernel_rfl) (by kernel_rfl) en79 (Res'.refl _) (F79_ok e32) ?_)
              refine JDQ_adv 1 (JDQ_opt1 (o := geti (y1.map e_s) 3) (e_s y20) (by kernel_rfl) (by kernel_rfl) (gm e28) ?_)
              exact JDQ_adv 8 (JDQ_end (by kernel_rfl) (by kernel_rfl) JP_fin)
            rcases pbnd hF with ⟨e34, hr_⟩ | ⟨y23, e33, hF⟩
            · subst hr_
              refine J_adv 1 (J_drawQ 11 (by kernel_rfl) (by kernel_rfl) ?_)
              refine JDQ_adv 1 (JDQ_opt1 (o := geti (y1.map e_s) 1) (e_s y18) (by kernel_rfl) (by kernel_rfl) (gm e26) ?_)
              refine JDQ_adv 1 (JDQ_callF (xs := [.d (.str y18)]) [.d (.str y18)] (.d (.int .i64 y21)) (by kernel_rfl) (by kernel_rfl) en79 (Res'.refl _) (F79_ok e29) ?_)
              refine JDQ_adv 1 (JDQ_opt1 (o := geti (y1.map e_s) 2) (e_s y19) (by kernel_rfl) (by kernel_rfl) (gm e27) ?_)
              refine JDQ_adv 1 (JDQ_callF (xs := [.d (.str y19)]) [.d (.str y19)] (.d (.int .i64 y22)) (by kernel_rfl) (by kernel_rfl) en79 (Res'.refl _) (F79_ok e31) ?_)
              refine JDQ_adv 1 (JDQ_opt1 (o := geti (y1.map e_s) 3) (e_s y20) (by kernel_rfl) (by kernel_rfl) (gm e28) ?_)
              refine JDQ_adv 1 (JDQ_callP (xs := [.d (.str y20)]) [.d (.str y20)] (by kernel_rfl) (by kernel_rfl) en79 (Res'.refl _) (F79_ok e34) ?_)
              exact JDQ_adv 6 (JDQ_end (by kernel_rfl) (by kernel_rfl) JP_fin)
            refine J_adv 1 (J_draw (by kernel_rfl) (by kernel_rfl) ?_)
            refine JD_adv 1 (JD_opt1 (o := geti (y1.map e_s) 1) (e_s y18) (by kernel_rfl) (by kernel_rfl) (gm e26) ?_)
            refine JD_adv 1 (JD_callF (xs := [.d (.str y18)]) [.d (.str y18)] (.d (.int .i64 y21)) (by kernel_rfl) (by kernel_rfl) en79 (Res'.refl _) (F79_ok e29) ?_)
            refine JD_adv 1 (JD_opt1 (o := geti (y1.map e_s) 2) (e_s y19) (by kernel_rfl) (by kernel_rfl) (gm e27) ?_)
            refine JD_adv 1 (JD_callF (xs := [.d (.str y19)]) [.d (.str y19)] (.d (.int .i64 y22)) (by kernel_rfl) (by kernel_rfl) en79 (Res'.refl _) (F79_ok e31) ?_)
            refine JD_adv 1 (JD_opt1 (o := geti (y1.map e_s) 3) (e_s y20) (by kernel_rfl) (by kernel_rfl) (gm e28) ?_)
            refine JD_adv 1 (JD_callF (xs := [.d (.str y20)]) [.d (.str y20)] (.d (.int .i64 y23)) (by kernel_rfl) (by kernel_rfl) en79 (Res'.refl _) (F79_ok e33) ?_)
            refine JD_adv 6 (JD_end (by kernel_rfl) ?_)
            have hr_ := Option.some.inj hF; subst hr_
            exact J_adv 6 (J_ret (xs := [.agg [.d (.int .i64 (IntKind.i64.wrap (y3 + 1))), .d (.int .i64 y21), .d (.int .i64 y22), .d (.int .i64 y23)]]) [.agg [.d (.int .i64 (IntKind.i64.wrap (y3 + 1))), .d (.int .i64 y21), .d (.int .i64 y22), .d (.int .i64 y23)]] rfl rfl (by kernel_rfl) (Res'.refl _) rfl)
    clear hF; rename _ = some o2 => hF
    refine J_adv 8 (J_bool 19 (b := (IntKind.i64.wrap (y3 + 1)) == 0) (by kernel_rfl) (fun hb13 => ?_) (fun hb13 => ?_))
    · replace hF := ift hb13 hF
      have hr_ := Option.some.inj hF; subst hr_
      exact J_adv 5 (J_at [2, 3, 4, 24] [2] (T0 := [.ops (opsOf (cAt (bodyOf Tryz.f45) [1, 1, 1, 1, 1, 0, 0])) [], .code (cAt (bodyOf Tryz.f45) [1, 1, 1, 1, 1, 0, 1]), .code (cAt (bodyOf Tryz.f45) [1, 1, 1, 1, 1, 1])]) (by kernel_rfl) rfl hR2)
    · replace hF := iff' hb13 hF
      have hr_ := Option.some.inj hF; subst hr_
      exact J_adv 5 (J_at [2, 3, 4, 24] [2] (T0 := [.ops (opsOf (cAt (bodyOf Tryz.f45) [1, 1, 1, 1, 1, 0, 0])) [], .code (cAt (bodyOf Tryz.f45) [1, 1, 1, 1, 1, 0, 1]), .code (cAt (bodyOf Tryz.f45) [1, 1, 1, 1, 1, 1])]) (by kernel_rfl) rfl hR2)

theorem F43dp : DefP Tryz.prog 43 [.ptr 2001 0, .ptr 2002 0] [(2001, .box 29 [.undef]), (2002, .box 34 [.undef])] [(2001, .box 29 [.esl 4]), (2002, .box 34 [.d (.int .i64 5)])] := by
  refine defP_of (N := 6) (d := 3) (v := .tup []) Tryz.func43 rfl (by kernel_rfl) rfl rfl rfl rfl ?_
  exact J_adv 12 (J_retR (xs := []) [] rfl (by kernel_rfl) (by kernel_rfl) (Res'.refl _) rfl)

theorem F43dr : DefR Tryz.prog [2001, 2002] 43 [.ptr 2001 0, .ptr 2002 0] := by
  refine defR_of (N := 6) (d := 3) (v := .tup []) [2001, 2002] Tryz.func43 rfl (by kernel_rfl) rfl rfl rfl rfl ?_
  exact J_adv 9 (J_ret (xs := []) [] rfl rfl (by kernel_rfl) (Res'.refl _) rfl)

/- croupier/code.Parse -/
def F15_L1 (fuel : Nat) (ys1 : List (List UInt8) × Bool) : List (List UInt8) → (List T_api_Instr) → Option (List T_api_Instr × Int)
  | [], l4 =>
    bif ys1.2 then
      (some ([], 5))
    else
      (Option.bind (F31 fuel l4) fun y8 =>
      bif !y8 then
        (some ([], 5))
      else
        (some (l4, 0)))
  | y6 :: ys_F15_L1, l4 =>
    rbind (F45 y6) ([], 5) fun y7 =>
    Option.bind (app l4 [y7]) fun l5 =>
    (F15_L1 fuel ys1 ys_F15_L1) l5
def F15 (fuel : Nat) (d0 : List UInt8) : Option (List T_api_Instr × Int) :=
  bif decide ((d0.length : Int) > 2000) then
    (some ([], 3))
  else
    (Option.bind (F44 d0) fun y1 =>
    Option.bind (F75 fuel y1) fun ys1 =>
    F15_L1 fuel ys1 ys1.1 [])
theorem F15_ok {fuel : Nat} {d0 : List UInt8} {r : List T_api_Instr × Int} (hF : F15 fuel d0 = some r) :
    CallF Tryz.prog 15 [.d (.str d0)] (.tup [.d (.sl 4 (r.1.map e_T_api_Instr)), .d (.int .i64 r.2)]) := by
  unfold F15 at hF
  refine callM_of (N := 23) (b := bodyOf Tryz.f15) Tryz.func15 (by kernel_rfl) rfl rfl (fun w00_ M00_ => ?_)
  refine J_adv 12 (J_bool 7 (b := decide ((d0.length : Int) > 2000)) (by kernel_rfl) (fun hb1 => ?_) (fun hb1 => ?_))
  · replace hF := ift hb1 hF
    have hr_ := Option.some.inj hF; subst hr_
    exact J_adv 6 (J_retM (xs := [.d (.sl 4 ([].map e_T_api_Instr)), .d (.int .i64 3)]) [.d (.sl 4 ([].map e_T_api_Instr)), .d (.int .i64 3)] rfl rfl (by kernel_rfl) (Res'.refl _) rfl (by kernel_rfl))
  · replace hF := iff' hb1 hF
    refine J_adv 5 (J_renM [(2, 2001), (3, 2002)] (by kernel_rfl) (by kernel_rfl) (by kernel_rfl) ?_)
    refine J_defer (g := 43) (cap := [.ptr 2001 0, .ptr 2002 0]) [2001, 2002] rfl (by kernel_rfl) (fun hr_ base_ door_ => ?_)
    obtain ⟨y1, e1, hF⟩ := bnd hF
    refine J_adv 5 (J_callR (os := []) (xs := [.d (.str d0)]) [(10, 2000)] [.d (.str d0)] [(2000, .box 9 [.d (.str y1)])] (.fn 75 [] [.ptr 2000 0]) (by kernel_rfl) (by kernel_rfl) en44 (Res'.refl _) (F44_ok e1) ?_)
    refine J_adv 2 (J_at (S0 := [(2, .ptr 2001 0), (3, .ptr 2002 0), (10, .fn 75 [] [.ptr 10 0])]) (O0 := [(10, .box 9 [.d (.str y1)]), (2001, .box 29 [.esl 4]), (2002, .box 34 [.d (.int .i64 0)])]) (T0 := [.code (cAt (bodyOf Tryz.f15) [1, 1, 1, 0, 1, 0]), .inBlock 0, .code (cAt (bodyOf Tryz.f15) [1, 1, 1, 1])]) [2, 3, 10] [10, 2001, 2002] (by kernel_rfl) rfl ?_)
    refine J_ren [(10, 10), (2001, 2001), (2002, 2002)] (by kernel_rfl) (by kernel_rfl) (by kernel_rfl) (by kernel_rfl) ?_
    refine J_at (S0 := [(2, .ptr 2001 0), (3, .ptr 2002 0), (10, .fn 75 [] [.ptr 10 0])]) (O0 := [(10, .box 9 [.d (.str y1)]), (2001, .box 29 [.esl 4]), (2002, .box 34 [.d (.int .i64 0)])]) (T0 := [.code (cAt (bodyOf Tryz.f15) [1, 1, 1, 0, 1, 0]), .inBlock 0, .code (cAt (bodyOf Tryz.f15) [1, 1, 1, 1])]) [2, 3, 10] [10, 2001, 2002] (by kernel_rfl) rfl ?_
    obtain ⟨ys1, e2, hF⟩ := bnd hF
    obtain ⟨GP_, hGP_⟩ : ∃ G : List (Nat × IObj) → Prop, G = (fun ob => ∃ (l4 : List T_api_Instr), ob = [(16, .buf 0 66 4 (l4.map e_T_api_Instr)), (2001, .box 29 [.suf 16 0 0]), (2002, .box 34 [.d (.int .i64 0)])] ∧ r = ([], 5)) := ⟨_, rfl⟩
    obtain ⟨G_, hG_⟩ : ∃ G : List (List Kx.V) → List (Nat × IObj) → Prop, G = (fun yv ob => ∃ (yl_ : List (List UInt8)) (l4 : List T_api_Instr), yv = yl_.map y_s ∧ ob = [(16, .buf 0 66 4 (l4.map e_T_api_Instr)), (2001, .box 29 [.suf 16 0 0]), (2002, .box 34 [.d (.int .i64 0)])] ∧ F15_L1 fuel ys1 yl_ l4 = some r) := ⟨_, rfl⟩
    obtain ⟨GX_, hGX_⟩ : ∃ G : Code → List (Nat × IObj) → Prop, G = (fun j ob => False) := ⟨_, rfl⟩
    refine J_adv 0 (J_ownc (n := 4) 2001 0 16 66 4 (by kernel_rfl) (by kernel_rfl) ?_)
    refine J_rangeD (P := Tryz.prog) (g := (.tmp 10)) (ps := #[11]) (asg := (cAt (bodyOf Tryz.f15) [1, 1, 1, 0, 1, 0, 0])) (bo := (cAt (bodyOf Tryz.f15) [1, 1, 1, 0, 1, 0, 1])) (k := [.inBlock 0, .code (cAt (bodyOf Tryz.f15) [1, 1, 1, 1])]) (gf := 75) (first := []) (cap := [.ptr 10 0]) (xs := [.ptr 2001 0]) (os := [(2001, .box 9 [.d (.str y1)])]) (S1 := [(2, .ptr 2001 0), (3, .ptr 2002 0)]) (ob0 := [(16, .buf 0 66 4 ([].map e_T_api_Instr)), (2001, .box 29 [.suf 16 0 0]), (2002, .box 34 [.d (.int .i64 0)])]) [(10, 2001)] [2, 3] [16, 2001, 2002] [.ptr 2001 0] (ysAll := ys1.1.map y_s) [2001, 2002] [2001, 2002] G_ GX_ GP_ rfl (by kernel_rfl) rfl (by kernel_rfl) rfl (by kernel_rfl) (Res'.refl _) en75 (F75_ok e2) (by kernel_rfl) (by kernel_rfl) (by kernel_rfl) (by kernel_rfl) ?_ ?_ ?_ ?_ ?_ ⟨by kernel_rfl, by kernel_rfl⟩ ?_ ?_ ?_ ?_ ?_
    · rw [hG_]; exact ⟨ys1.1, [], rfl, by kernel_rfl, hF⟩
    · intro yv_ ob_ h_; rw [hG_] at h_; obtain ⟨_, _, _, rfl, _⟩ := h_; kernel_rfl
    · intro j_ ob_ h_; rw [hGX_] at h_; exact h_.elim
    · intro ob_ h_; rw [hGP_] at h_; obtain ⟨_, rfl, _⟩ := h_; kernel_rfl
    · intro _ ob_ h_; rw [hG_] at h_; obtain ⟨_, _, _, rfl, _⟩ := h_; kernel_rfl
    · intro x_ hxa_ hxb_ hxp_ yv_ ysv_ ob_ h_; rw [hG_] at h_
      obtain ⟨yl_, l4, hy_, rfl, hF⟩ := h_
      cases yl_ with
      | nil => cases hy_
      | cons y6 ys_F15_L1 =>
        cases hy_; rw [F15_L1] at hF
        refine hJ_of (by kernel_rfl) ?_
        refine J_at (S0 := [(2, .ptr 2001 0), (3, .ptr 2002 0), (11, .d (.str y6))]) (O0 := [(3000, .raw x_.D (.deferred (some []))), (3001, .raw x_.L (.loop (recOf x_ .ready none))), (16, .buf 0 66 4 (l4.map e_T_api_Instr)), (2001, .box 29 [.suf 16 0 0]), (2002, .box 34 [.d (.int .i64 0)])]) (T0 := [.code (cAt (bodyOf Tryz.f15) [1, 1, 1, 0, 1, 0, 0]), .begR x_.L, .code (cAt (bodyOf Tryz.f15) [1, 1, 1, 0, 1, 0, 1])]) [2, 3, 11] [3000, 3001, 16, 2001, 2002] (by kernel_rfl) rfl ?_
        refine J_adv 3 (J_at (S0 := [(2, .ptr 2001 0), (3, .ptr 2002 0), (4, .d (.str y6)), (11, .d (.str y6))]) (O0 := [(3000, .raw x_.D (.deferred (some []))), (3001, .raw x_.L (.loop (recOf x_ .ready none))), (16, .buf 0 66 4 (l4.map e_T_api_Instr)), (2001, .box 29 [.suf 16 0 0]), (2002, .box 34 [.d (.int .i64 0)])]) (T0 := [.begR x_.L, .code (cAt (bodyOf Tryz.f15) [1, 1, 1, 0, 1, 0, 1])]) [2, 3, 4, 11] [3000, 3001, 16, 2001, 2002] (by kernel_rfl) rfl ?_)
        refine J_begR (l := x_.L) (q := 3001) (k := [.code (cAt (bodyOf Tryz.f15) [1, 1, 1, 0, 1, 0, 1])]) (rec := recOf x_ .ready none) rfl rfl rfl ?_
        rcases rbnd hF with ⟨e10, hr_⟩ | ⟨y7, e9, hF⟩
        ·
          refine J_adv 1 (J_drawQ 2 (by kernel_rfl) (by kernel_rfl) ?_)
          refine JDQ_adv 2 (JDQ_callP (xs := [.d (.str y6)]) [.d (.str y6)] (by kernel_rfl) (by kernel_rfl) en45 (Res'.refl _) (F45_ok e10) ?_)
          exact JDQ_adv 3 (JDQ_endB (rob x_ .busy none [(16, .buf 0 66 4 (l4.map e_T_api_Instr)), (2001, .box 29 [.suf 16 0 0]), (2002, .box 34 [.d (.int .i64 0)])]) (by kernel_rfl) (by kernel_rfl) (by kernel_rfl) (JP_B [(16, .buf 0 66 4 (l4.map e_T_api_Instr)), (2001, .box 29 [.suf 16 0 0]), (2002, .box 34 [.d (.int .i64 0)])] (by kernel_rfl) (by rw [hGP_]; exact ⟨l4, rfl, hr_⟩)))
        refine J_adv 1 (J_draw (by kernel_rfl) (by kernel_rfl) ?_)
        refine JD_adv 2 (JD_callF (xs := [.d (.str y6)]) [.d (.str y6)] (.agg [.d (.int .i64 y7.Op), .d (.int .i64 y7.Var), .d (.int .i64 y7.Val), .d (.int .i64 y7.Go)]) (by kernel_rfl) (by kernel_rfl) en45 (Res'.refl _) (F45_ok e9) ?_)
        obtain ⟨l5, e11, hF⟩ := bnd hF
        refine JD_adv 1 (JD_opt2 (o := app2 ((l4.map e_T_api_Instr).drop 0) ([y7].map e_T_api_Instr)) (l5.map e_T_api_Instr) (by kernel_rfl) (by kernel_rfl) (am e11) ?_)
        refine JD_adv 1 (JD_end (by kernel_rfl) ?_)
        refine J_adv 1 (J_at (S0 := []) (O0 := rob x_ .busy none [(16, .buf 0 66 4 (l5.map e_T_api_Instr)), (2001, .box 29 [.suf 16 0 0]), (2002, .box 34 [.d (.int .i64 0)])]) (T0 := []) [] [3000, 3001, 16, 2001, 2002] (by kernel_rfl) rfl ?_)
        exact J_endB rfl [(16, .buf 0 66 4 (l5.map e_T_api_Instr)), (2001, .box 29 [.suf 16 0 0]), (2002, .box 34 [.d (.int .i64 0)])] rfl rfl (by kernel_rfl) (by rw [hG_]; exact ⟨ys_F15_L1, l5, rfl, rfl, hF⟩)
    · intro hfl_ D_ ob_ h_; rw [hG_] at h_
      obtain ⟨yl_, l4, hy_, rfl, hF⟩ := h_
      cases yl_ with
      | cons _ _ => cases hy_
      | nil =>
        clear hy_; rw [F15_L1] at hF
        replace hF := iff' hfl_ hF
        refine J_renH door_ [(16, 16), (2001, 2001), (2002, 2002)] (by kernel_rfl) (by kernel_rfl) (by kernel_rfl) (by kernel_rfl) ?_
        refine J_adv 0 (J_at (S0 := [(2, .ptr 2001 0), (3, .ptr 2002 0)]) (O0 := [(16, .buf 0 66 4 (l4.map e_T_api_Instr)), (2001, .box 29 [.suf 16 0 0]), (2002, .box 34 [.d (.int .i64 0)])]) (T0 := [.inBlock 0, .code (cAt (bodyOf Tryz.f15) [1, 1, 1, 1])]) [2, 3] [16, 2001, 2002] (by kernel_rfl) rfl ?_)
        obtain ⟨y8, e12, hF⟩ := bnd hF
        refine J_adv 5 (J_callF (xs := [.d (.sl 4 (l4.map e_T_api_Instr))]) [.d (.sl 4 (l4.map e_T_api_Instr))] (.d (.bool y8)) (by kernel_rfl) en31 (Res'.refl _) (F31_ok e12) ?_)
        refine J_adv 2 (J_bool 19 (b := !y8) (by kernel_rfl) (fun hb2 => ?_) (fun hb2 => ?_))
        · replace hF := ift hb2 hF
          have hr_ := Option.some.inj hF; subst hr_
          exact J_adv 4 (J_pan (by kernel_rfl) (by kernel_rfl) (JP_D (obs := [(2001, .box 29 [.d (.sl 4 (l4.map e_T_api_Instr))]), (2002, .box 34 [.d (.int .i64 0)])]) (os' := [(2001, .box 29 [.esl 4]), (2002, .box 34 [.d (.int .i64 5)])]) (rs := Tryz.f15.results.toList) (vs := [.esl 4, .d (.int .i64 5)]) (xs := [.d (.sl 4 ([].map e_T_api_Instr)), .d (.int .i64 5)]) (wr := []) [2001, 2002] [.d (.sl 4 ([].map e_T_api_Instr)), .d (.int .i64 5)] door_ F43dp en43 (by kernel_rfl) (by kernel_rfl) (by kernel_rfl) (by kernel_rfl) (by kernel_rfl) (by kernel_rfl) (by kernel_rfl) (Res'.refl _) rfl (by kernel_rfl)))
        · replace hF := iff' hb2 hF
          have hr_ := Option.some.inj hF; subst hr_
          exact J_adv 8 (J_retD (xs := [.d (.sl 4 (l4.map e_T_api_Instr)), .d (.int .i64 0)]) [2001, 2002] [.d (.sl 4 (l4.map e_T_api_Instr)), .d (.int .i64 0)] door_ F43dr en43 rfl rfl (by kernel_rfl) (Res'.refl _) rfl (by kernel_rfl))
    · intro D_ ob_ j_ h_; rw [hGX_] at h_
      exact h_.elim
    · intro hfl_ D_ ob_ h_; rw [hG_] at h_
      obtain ⟨yl_, l4, hy_, rfl, hF⟩ := h_
      cases yl_ with
      | cons _ _ => cases hy_
      | nil =>
        rw [F15_L1] at hF; replace hF := ift hfl_ hF; have hr_ := Option.some.inj hF; subst hr_
        exact (JP_D (obs := [(2001, .box 29 [.undef]), (2002, .box 34 [.d (.int .i64 0)])]) (os' := [(2001, .box 29 [.esl 4]), (2002, .box 34 [.d (.int .i64 5)])]) (rs := Tryz.f15.results.toList) (vs := [.esl 4, .d (.int .i64 5)]) (xs := [.d (.sl 4 ([].map e_T_api_Instr)), .d (.int .i64 5)]) (wr := []) [2001, 2002] [.d (.sl 4 ([].map e_T_api_Instr)), .d (.int .i64 5)] door_ F43dp en43 (by kernel_rfl) (by kernel_rfl) (by kernel_rfl) (by kernel_rfl) (by kernel_rfl) (by kernel_rfl) (by kernel_rfl) (Res'.refl _) rfl (by kernel_rfl))
    · intro D_ ob_ h_; rw [hGP_] at h_; obtain ⟨l4, rfl, hr_⟩ := h_; subst hr_
      exact (JP_D (obs := [(2001, .box 29 [.undef]), (2002, .box 34 [.d (.int .i64 0)])]) (os' := [(2001, .box 29 [.esl 4]), (2002, .box 34 [.d (.int .i64 5)])]) (rs := Tryz.f15.results.toList) (vs := [.esl 4, .d (.int .i64 5)]) (xs := [.d (.sl 4 ([].map e_T_api_Instr)), .d (.int .i64 5)]) (wr := []) [2001, 2002] [.d (.sl 4 ([].map e_T_api_Instr)), .d (.int .i64 5)] door_ F43dp en43 (by kernel_rfl) (by kernel_rfl) (by kernel_rfl) (by kernel_rfl) (by kernel_rfl) (by kernel_rfl) (by kernel_rfl) (Res'.refl _) rfl (by kernel_rfl))

/- croupier/croupierlaw31.act -/
def F27 (d0 : Int) : Option T_api_Instr :=
  some (⟨5, 0, d0, 0⟩ : T_api_Instr)
theorem F27_ok {d0 : Int} {r : T_api_Instr} (hF : F27 d0 = some r) :
    CallF Tryz.prog 27 [.d (.int .i64 d0)] (.agg [.d (.int .i64 r.Op), .d (.int .i64 r.Var), .d (.int .i64 r.Val), .d (.int .i64 r.Go)]) := by
  unfold F27 at hF
  refine callF_of (N := 5) (b := bodyOf Tryz.f27) Tryz.func27 (by kernel_rfl) rfl rfl ?_
  have hr_ := Option.some.inj hF; subst hr_
  exact J_adv 10 (J_ret (xs := [.agg [.d (.int .i64 5), .d (.int .i64 0), .d (.int .i64 d0), .d (.int .i64 0)]]) [.agg [.d (.int .i64 5), .d (.int .i64 0), .d (.int .i64 d0), .d (.int .i64 0)]] rfl rfl (by kernel_rfl) (Res'.refl _) rfl)

def e_b (x : Bool) : List Dat := [.bool x]
/- croupier/code.reached -/
def F52_A2 (v2 : Int) (rec_F52_L1 : Int → (List Bool) → Option (List Bool)) (l17 : List Bool) : Option (List Bool) :=
  rec_F52_L1 (IntKind.i64.wrap (v2 + 1)) l17
def F52_L1 (d0 : List T_api_Instr) : Nat → Int → (List Bool) → Option (List Bool)
  | 0, _, _ => none
  | n_F52_L1 + 1, v2, l14 =>
    bif decide (v2 < ((d0.map e_T_api_Instr).length : Int)) then
      (Option.bind (geti d0 v2) fun y32 =>
      Option.bind (
        Option.bind (geti l14 v2) fun y37 =>
        bif !y37 then
          (some true)
        else
          (some (y32.Op == 5))) fun o6 =>
      bif o6 then
        (F52_A2 v2 (F52_L1 d0 n_F52_L1) l14)
      else
        (Option.bind (geti l14 y32.Go) fun y35 =>
        Option.bind (some (l14.set (0 + Int.toNat y32.Go) true)) fun l18 =>
        bif y32.Op != 4 then
          (Option.bind (geti l18 (IntKind.i64.wrap (v2 + 1))) fun y36 =>
          Option.bind (some (l18.set (0 + Int.toNat (IntKind.i64.wrap (v2 + 1))) true)) fun l19 =>
          F52_A2 v2 (F52_L1 d0 n_F52_L1) l19)
        else
          (F52_A2 v2 (F52_L1 d0 n_F52_L1) l18)))
    else
      (some l14)
def F52 (fuel : Nat) (d0 : List T_api_Instr) : Option (List Bool) :=
  Option.bind (mkL (IntKind.i64.wrap (((d0.map e_T_api_Instr).length : Int) + 1)) (IntKind.i64.wrap (((d0.map e_T_api_Instr).length : Int) + 1)) false) fun l1 =>
  Option.bind (geti l1 0) fun y1 =>
  Option.bind (some (l1.set (0 + Int.toNat 0) true)) fun l2 =>
  F52_L1 d0 fuel 0 l2
theorem F52_ok {fuel : Nat} {d0 : List T_api_Instr} {r : List Bool} (hF : F52 fuel d0 = some r) :
    CallF Tryz.prog 52 [.d (.sl 4 (d0.map e_T_api_Instr))] (.d (.sl 1 (r.map e_b))) := by
  unfold F52 at hF
  refine callF_of (N := 42) (b := bodyOf Tryz.f52) Tryz.func52 (by kernel_rfl) rfl rfl ?_
  obtain ⟨l1, e1, hF⟩ := bnd hF
  refine J_adv 9 (J_opt2 (o := mk2 (IntKind.i64.wrap (((d0.map e_T_api_Instr).length : Int) + 1)) (IntKind.i64.wrap (((d0.map e_T_api_Instr).length : Int) + 1)) (e_b false)) (l1.map e_b) (by kernel_rfl) (mm e1) ?_)
  obtain ⟨y1, e2, hF⟩ := bnd hF
  refine J_adv 5 (J_opt1 (o := geti (l1.map e_b) 0) (e_b y1) (by kernel_rfl) (gm e2) ?_)
  obtain ⟨l2, e3, hF⟩ := bnd hF
  have hst := stm (f := e_b) (z := true) (k := 0) (xs := [.bool true]) (gj e2) rfl
  refine J_adv 0 (J_opt2 (o := (match (l1.map e_b)[0 + Int.toNat 0]? with | some old => some ((l1.map e_b).set (0 + Int.toNat 0) (setD old 0 [.bool true])) | none => none)) (l2.map e_b) (by kernel_rfl) (by cases e3; exact hst) ?_)
  have hF52_L1 : ∀ (n_F52_L1 : Nat) (v2 : Int) (l14 : List Bool), F52_L1 d0 n_F52_L1 v2 l14 = some r → J none Tryz.prog 42 [] (finF Tryz.prog Tryz.f52 (.d (.sl 1 (r.map e_b)))) ⟨mkT [(3, .suf 9 0 0), (12, .d (.sl 4 (d0.map e_T_api_Instr))), (13, .d (.int .i64 ((d0.map e_T_api_Instr).length : Int))), (14, .d (.int .i64 v2))], [(9, .buf 0 4 1 (l14.map e_b))], [.inLoop (cAt (bodyOf Tryz.f52) [1, 1, 1, 0, 1, 0, 0]), .inBlock 0, .code (cAt (bodyOf Tryz.f52) [1, 1, 1, 1])]⟩ := by
    clear hF; intro n_F52_L1
    induction n_F52_L1 with
    | zero => intro v2 l14 hF; cases hF
    | succ n_F52_L1 ih_F52_L1 =>
      intro v2 l14 hF
      rw [F52_L1] at hF
      refine J_adv 6 (J_bool 15 (b := decide (v2 < ((d0.map e_T_api_Instr).length : Int))) (by kernel_rfl) (fun hb23 => ?_) (fun hb23 => ?_))
      · replace hF := ift hb23 hF
        have hF52_A2 : ∀ (l17 : List Bool), F52_A2 v2 (F52_L1 d0 n_F52_L1) l17 = some r → J none Tryz.prog 42 [] (finF Tryz.prog Tryz.f52 (.d (.sl 1 (r.map e_b)))) ⟨mkT [(3, .suf 9 0 0), (12, .d (.sl 4 (d0.map e_T_api_Instr))), (13, .d (.int .i64 ((d0.map e_T_api_Instr).length : Int))), (14, .d (.int .i64 v2))], [(9, .buf 0 4 1 (l17.map e_b))], [.code (cAt (bodyOf Tryz.f52) [1, 1, 1, 0, 1, 0, 0, 1, 1, 1]), .inLoop (cAt (bodyOf Tryz.f52) [1, 1, 1, 0, 1, 0, 0]), .inBlock 0, .code (cAt (bodyOf Tryz.f52) [1, 1, 1, 1])]⟩ := by
          intro l17 hF
          unfold F52_A2 at hF
          exact J_adv 4 (J_at [3, 12, 13, 14] [9] (T0 := [.inLoop (cAt (bodyOf Tryz.f52) [1, 1, 1, 0, 1, 0, 0]), .inBlock 0, .code (cAt (bodyOf Tryz.f52) [1, 1, 1, 1])]) (by kernel_rfl) rfl (ih_F52_L1 (IntKind.i64.wrap (v2 + 1)) l17 hF))
        obtain ⟨y32, e44, hF⟩ := bnd hF
        refine J_adv 7 (J_opt1 (o := geti (d0.map e_T_api_Instr) v2) (e_T_api_Instr y32) (by kernel_rfl) (gm e44) ?_)
        obtain ⟨o6, hO, hF⟩ := bnd hF
        have hR6 : J none Tryz.prog 42 [] (finF Tryz.prog Tryz.f52 (.d (.sl 1 (r.map e_b)))) ⟨mkT [(3, .suf 9 0 0), (4, .d (.int .i64 v2)), (5, .ptr 5 0), (12, .d (.sl 4 (d0.map e_T_api_Instr))), (13, .d (.int .i64 ((d0.map e_T_api_Instr).length : Int))), (14, .d (.int .i64 v2)), (28, .d (.bool o6))], [(5, .box 66 [.d (.int .i64 y32.Op), .d (.int .i64 y32.Var), .d (.int .i64 y32.Val), .d (.int .i64 y32.Go)]), (9, .buf 0 4 1 (l14.map e_b))], [.ops (opsOf (cAt (bodyOf Tryz.f52) [1, 1, 1, 0, 1, 0, 0, 1, 1, 0, 0, 1, 0, 0])) [], .code (cAt (bodyOf Tryz.f52) [1, 1, 1, 0, 1, 0, 0, 1, 1, 0, 0, 1, 0, 1]), .code (cAt (bodyOf Tryz.f52) [1, 1, 1, 0, 1, 0, 0, 1, 1, 0, 0, 1, 1]), .inBlock 1, .code (cAt (bodyOf Tryz.f52) [1, 1, 1, 0, 1, 0, 0, 1, 1, 1]), .inLoop (cAt (bodyOf Tryz.f52) [1, 1, 1, 0, 1, 0, 0]), .inBlock 0, .code (cAt (bodyOf Tryz.f52) [1, 1, 1, 1])]⟩ := by
          clear hO
          refine J_adv 1 (J_bool 28 (b := o6) (by kernel_rfl) (fun hb31 => ?_) (fun hb31 => ?_))
          · replace hF := ift hb31 hF
            exact J_adv 2 (J_at [3, 12, 13, 14] [9] (T0 := [.code (cAt (bodyOf Tryz.f52) [1, 1, 1, 0, 1, 0, 0, 1, 1, 1]), .inLoop (cAt (bodyOf Tryz.f52) [1, 1, 1, 0, 1, 0, 0]), .inBlock 0, .code (cAt (bodyOf Tryz.f52) [1, 1, 1, 1])]) (by kernel_rfl) rfl (hF52_A2 l14 hF))
          · replace hF := iff' hb31 hF
            obtain ⟨y35, e47, hF⟩ := bnd hF
            refine J_adv 7 (J_opt1 (o := geti (l14.map e_b) y32.Go) (e_b y35) (by kernel_rfl) (gm e47) ?_)
            obtain ⟨l18, e48, hF⟩ := bnd hF
            have hst := stm (f := e_b) (z := true) (k := 0) (xs := [.bool true]) (gj e47) rfl
            refine J_adv 0 (J_opt2 (o := (match (l14.map e_b)[0 + Int.toNat y32.Go]? with | some old => some ((l14.map e_b).set (0 + Int.toNat y32.Go) (setD old 0 [.bool true])) | none => none)) (l18.map e_b) (by kernel_rfl) (by cases e48; exact hst) ?_)
            refine J_adv 7 (J_bool 35 (b := y32.Op != 4) (by kernel_rfl) (fun hb32 => ?_) (fun hb32 => ?_))
            · replace hF := ift hb32 hF
              obtain ⟨y36, e49, hF⟩ := bnd hF
              refine J_adv 5 (J_opt1 (o := geti (l18.map e_b) (IntKind.i64.wrap (v2 + 1))) (e_b y36) (by kernel_rfl) (gm e49) ?_)
              obtain ⟨l19, e50, hF⟩ := bnd hF
              have hst := stm (f := e_b) (z := true) (k := 0) (xs := [.bool true]) (gj e49) rfl
              refine J_adv 0 (J_opt2 (o := (match (l18.map e_b)[0 + Int.toNat (IntKind.i64.wrap (v2 + 1))]? with | some old => some ((l18.map e_b).set (0 + Int.toNat (IntKind.i64.wrap (v2 + 1))) (setD old 0 [.bool true])) | none => none)) (l19.map e_b) (by kernel_rfl) (by cases e50; exact hst) ?_)
              exact J_adv 2 (J_at [3, 12, 13, 14] [9] (T0 := [.code (cAt (bodyOf Tryz.f52) [1, 1, 1, 0, 1, 0, 0, 1, 1, 1]), .inLoop (cAt (bodyOf Tryz.f52) [1, 1, 1, 0, 1, 0, 0]), .inBlock 0, .code (cAt (bodyOf Tryz.f52) [1, 1, 1, 1])]) (by kernel_rfl) rfl (hF52_A2 l19 hF))
            · replace hF := iff' hb32 hF
              exact J_adv 3 (J_at [3, 12, 13, 14] [9] (T0 := [.code (cAt (bodyOf Tryz.f52) [1, 1, 1, 0, 1, 0, 0, 1, 1, 1]), .inLoop (cAt (bodyOf Tryz.f52) [1, 1, 1, 0, 1, 0, 0]), .inBlock 0, .code (cAt (bodyOf Tryz.f52) [1, 1, 1, 1])]) (by kernel_rfl) rfl (hF52_A2 l18 hF))
        clear hF; rename _ = some o6 => hF
        obtain ⟨y37, e51, hF⟩ := bnd hF
        refine J_adv 10 (J_opt1 (o := geti (l14.map e_b) v2) (e_b y37) (by kernel_rfl) (gm e51) ?_)
        refine J_adv 0 (J_opt1 (o := (l14.map e_b)[0 + Int.toNat v2]?) (e_b y37) (by kernel_rfl) (gjm (gj e51)) ?_)
        refine J_adv 2 (J_bool 24 (b := !y37) (by kernel_rfl) (fun hb33 => ?_) (fun hb33 => ?_))
        · replace hF := ift hb33 hF
          have hr_ := Option.some.inj hF; subst hr_
          exact J_adv 4 (J_at [3, 4, 5, 12, 13, 14, 28] [5, 9] (T0 := [.ops (opsOf (cAt (bodyOf Tryz.f52) [1, 1, 1, 0, 1, 0, 0, 1, 1, 0, 0, 1, 0, 0])) [], .code (cAt (bodyOf Tryz.f52) [1, 1, 1, 0, 1, 0, 0, 1, 1, 0, 0, 1, 0, 1]), .code (cAt (bodyOf Tryz.f52) [1, 1, 1, 0, 1, 0, 0, 1, 1, 0, 0, 1, 1]), .inBlock 1, .code (cAt (bodyOf Tryz.f52) [1, 1, 1, 0, 1, 0, 0, 1, 1, 1]), .inLoop (cAt (bodyOf Tryz.f52) [1, 1, 1, 0, 1, 0, 0]), .inBlock 0, .code (cAt (bodyOf Tryz.f52) [1, 1, 1, 1])]) (by kernel_rfl) rfl hR6)
        · replace hF := iff' hb33 hF
          have hr_ := Option.some.inj hF; subst hr_
          exact J_adv 4 (J_at [3, 4, 5, 12, 13, 14, 28] [5, 9] (T0 := [.ops (opsOf (cAt (bodyOf Tryz.f52) [1, 1, 1, 0, 1, 0, 0, 1, 1, 0, 0, 1, 0, 0])) [], .code (cAt (bodyOf Tryz.f52) [1, 1, 1, 0, 1, 0, 0, 1, 1, 0, 0, 1, 0, 1]), .code (cAt (bodyOf Tryz.f52) [1, 1, 1, 0, 1, 0, 0, 1, 1, 0, 0, 1, 1]), .inBlock 1, .code (cAt (bodyOf Tryz.f52) [1, 1, 1, 0, 1, 0, 0, 1, 1, 1]), .inLoop (cAt (bodyOf Tryz.f52) [1, 1, 1, 0, 1, 0, 0]), .inBlock 0, .code (cAt (bodyOf Tryz.f52) [1, 1, 1, 1])]) (by kernel_rfl) rfl hR6)
      · replace hF := iff' hb23 hF
        have hr_ := Option.some.inj hF; subst hr_
        exact J_adv 7 (J_ret (xs := [.d (.sl 1 (l14.map e_b))]) [.d (.sl 1 (l14.map e_b))] rfl rfl (by kernel_rfl) (Res'.refl _) rfl)
  exact J_adv 10 (J_at [3, 12, 13, 14] [9] (T0 := [.inLoop (cAt (bodyOf Tryz.f52) [1, 1, 1, 0, 1, 0, 0]), .inBlock 0, .code (cAt (bodyOf Tryz.f52) [1, 1, 1, 1])]) (by kernel_rfl) rfl (hF52_L1 fuel 0 l2 hF))

def e_i64 (x : Int) : List Dat := [.int .i64 x]
/- croupier/code.Trim -/
def F20_A2 (v6 : Int) (rec_F20_L1 : Int → Int → (List Int) → Option (List T_api_Instr × Int)) (v7 : Int) (l11 : List Int) : Option (List T_api_Instr × Int) :=
  rec_F20_L1 v7 (IntKind.i64.wrap (v6 + 1)) l11
def F20_A4 (v9 : Int) (rec_F20_L3 : Int → (List T_api_Instr) → Option (List T_api_Instr × Int)) (l27 : List T_api_Instr) : Option (List T_api_Instr × Int) :=
  rec_F20_L3 (IntKind.i64.wrap (v9 + 1)) l27
def F20_L3 (d0 : List T_api_Instr) (l9 : List Int) (y2 : List Bool) : Nat → Int → (List T_api_Instr) → Option (List T_api_Instr × Int)
  | 0, _, _ => none
  | n_F20_L3 + 1, v9, l24 =>
    bif decide (v9 < ((d0.map e_T_api_Instr).length : Int)) then
      (Option.bind (geti d0 v9) fun y30 =>
      Option.bind (geti y2 v9) fun y31 =>
      bif !y31 then
        (F20_A4 v9 (F20_L3 d0 l9 y2 n_F20_L3) l24)
      else
        (bif y30.Op != 5 then
          (Option.bind (geti l9 y30.Go) fun y32 =>
          Option.bind (app l24 [(⟨y30.Op, y30.Var, y30.Val, y32⟩ : T_api_Instr)]) fun l28 =>
          F20_A4 v9 (F20_L3 d0 l9 y2 n_F20_L3) l28)
        else
          (Option.bind (app l24 [y30]) fun l29 =>
          F20_A4 v9 (F20_L3 d0 l9 y2 n_F20_L3) l29)))
    else
      (some (l24, 0))
def F20_L1 (fuel : Nat) (d0 : List T_api_Instr) (y2 : List Bool) : Nat → Int → Int → (List Int) → Option (List T_api_Instr × Int)
  | 0, _, _, _ => none
  | n_F20_L1 + 1, v5, v6, l9 =>
    bif decide (v6 < ((d0.map e_T_api_Instr).length : Int)) then
      (Option.bind (geti l9 v6) fun y13 =>
      Option.bind (some (l9.set (0 + Int.toNat v6) v5)) fun l12 =>
      Option.bind (geti y2 v6) fun y14 =>
      bif y14 then
        (F20_A2 v6 (F20_L1 fuel d0 y2 n_F20_L1) (IntKind.i64.wrap (v5 + 1)) l12)
      else
        (F20_A2 v6 (F20_L1 fuel d0 y2 n_F20_L1) v5 l12))
    else
      (F20_L3 d0 l9 y2 fuel 0 [])
def F20 (fuel : Nat) (d0 : List T_api_Instr) : Option (List T_api_Instr × Int) :=
  Option.bind (F31 fuel d0) fun y1 =>
  bif !y1 then
    (some ([], 310))
  else
    (Option.bind (F52 fuel d0) fun y2 =>
    Option.bind (mkL ((d0.map e_T_api_Instr).length : Int) ((d0.map e_T_api_Instr).length : Int) 0) fun l1 =>
    F20_L1 fuel d0 y2 fuel 0 0 l1)
theorem F20_ok {fuel : Nat} {d0 : List T_api_Instr} {r : List T_api_Instr × Int} (hF : F20 fuel d0 = some r) :
    CallF Tryz.prog 20 [.d (.sl 4 (d0.map e_T_api_Instr))] (.tup [.d (.sl 4 (r.1.map e_T_api_Instr)), .d (.int .i64 r.2)]) := by
  unfold F20 at hF
  refine callF_of (N := 62) (b := bodyOf Tryz.f20) Tryz.func20 (by kernel_rfl) rfl rfl ?_
  obtain ⟨y1, e1, hF⟩ := bnd hF
  refine J_adv 9 (J_callF (xs := [.d (.sl 4 (d0.map e_T_api_Instr))]) [.d (.sl 4 (d0.map e_T_api_Instr))] (.d (.bool y1)) (by kernel_rfl) en31 (Res'.refl _) (F31_ok e1) ?_)
  refine J_adv 2 (J_bool 13 (b := !y1) (by kernel_rfl) (fun hb1 => ?_) (fun hb1 => ?_))
  · replace hF := ift hb1 hF
    have hr_ := Option.some.inj hF; subst hr_
    exact J_adv 6 (J_ret (xs := [.d (.sl 4 ([].map e_T_api_Instr)), .d (.int .i64 310)]) [.d (.sl 4 ([].map e_T_api_Instr)), .d (.int .i64 310)] rfl rfl (by kernel_rfl) (Res'.refl _) rfl)
  · replace hF := iff' hb1 hF
    obtain ⟨y2, e2, hF⟩ := bnd hF
    refine J_adv 5 (J_callF (xs := [.d (.sl 4 (d0.map e_T_api_Instr))]) [.d (.sl 4 (d0.map e_T_api_Instr))] (.d (.sl 1 (y2.map e_b))) (by kernel_rfl) en52 (Res'.refl _) (F52_ok e2) ?_)
    obtain ⟨l1, e3, hF⟩ := bnd hF
    refine J_adv 6 (J_opt2 (o := mk2 ((d0.map e_T_api_Instr).length : Int) ((d0.map e_T_api_Instr).length : Int) (e_i64 0)) (l1.map e_i64) (by kernel_rfl) (mm e3) ?_)
    have hF20_L1 : ∀ (n_F20_L1 : Nat) (v5 : Int) (v6 : Int) (l9 : List Int), F20_L1 fuel d0 y2 n_F20_L1 v5 v6 l9 = some r → J none Tryz.prog 62 [] (finF Tryz.prog Tryz.f20 (.tup [.d (.sl 4 (r.1.map e_T_api_Instr)), .d (.int .i64 r.2)])) ⟨mkT [(0, .d (.sl 4 (d0.map e_T_api_Instr))), (4, .d (.sl 1 (y2.map e_b))), (5, .suf 18 0 0), (6, .d (.int .i64 v5)), (20, .d (.int .i64 ((d0.map e_T_api_Instr).length : Int))), (21, .d (.int .i64 v6))], [(18, .buf 0 3 1 (l9.map e_i64))], [.inLoop (cAt (bodyOf Tryz.f20) [1, 1, 1, 1, 1, 0, 1, 0, 0]), .inBlock 0, .code (cAt (bodyOf Tryz.f20) [1, 1, 1, 1, 1, 1])]⟩ := by
      clear hF; intro n_F20_L1
      induction n_F20_L1 with
      | zero => intro v5 v6 l9 hF; cases hF
      | succ n_F20_L1 ih_F20_L1 =>
        intro v5 v6 l9 hF
        rw [F20_L1] at hF
        refine J_adv 6 (J_bool 22 (b := decide (v6 < ((d0.map e_T_api_Instr).length : Int))) (by kernel_rfl) (fun hb8 => ?_) (fun hb8 => ?_))
        · replace hF := ift hb8 hF
          have hF20_A2 : ∀ (v7 : Int) (l11 : List Int), F20_A2 v6 (F20_L1 fuel d0 y2 n_F20_L1) v7 l11 = some r → J none Tryz.prog 62 [] (finF Tryz.prog Tryz.f20 (.tup [.d (.sl 4 (r.1.map e_T_api_Instr)), .d (.int .i64 r.2)])) ⟨mkT [(0, .d (.sl 4 (d0.map e_T_api_Instr))), (4, .d (.sl 1 (y2.map e_b))), (5, .suf 18 0 0), (6, .d (.int .i64 v7)), (20, .d (.int .i64 ((d0.map e_T_api_Instr).length : Int))), (21, .d (.int .i64 v6))], [(18, .buf 0 3 1 (l11.map e_i64))], [.code (cAt (bodyOf Tryz.f20) [1, 1, 1, 1, 1, 0, 1, 0, 0, 1, 1, 1]), .inLoop (cAt (bodyOf Tryz.f20) [1, 1, 1, 1, 1, 0, 1, 0, 0]), .inBlock 0, .code (cAt (bodyOf Tryz.f20) [1, 1, 1, 1, 1, 1])]⟩ := by
            intro v7 l11 hF
            unfold F20_A2 at hF
            exact J_adv 4 (J_at [0, 4, 5, 6, 20, 21] [18] (T0 := [.inLoop (cAt (bodyOf Tryz.f20) [1, 1, 1, 1, 1, 0, 1, 0, 0]), .inBlock 0, .code (cAt (bodyOf Tryz.f20) [1, 1, 1, 1, 1, 1])]) (by kernel_rfl) rfl (ih_F20_L1 v7 (IntKind.i64.wrap (v6 + 1)) l11 hF))
          obtain ⟨y13, e19, hF⟩ := bnd hF
          refine J_adv 14 (J_opt1 (o := geti (l9.map e_i64) v6) (e_i64 y13) (by kernel_rfl) (gm e19) ?_)
          obtain ⟨l12, e20, hF⟩ := bnd hF
          have hst := stm (f := e_i64) (z := v5) (k := 0) (xs := [.int .i64 v5]) (gj e19) rfl
          refine J_adv 0 (J_opt2 (o := (match (l9.map e_i64)[0 + Int.toNat v6]? with | some old => some ((l9.map e_i64).set (0 + Int.toNat v6) (setD old 0 [.int .i64 v5])) | none => none)) (l12.map e_i64) (by kernel_rfl) (by cases e20; exact hst) ?_)
          obtain ⟨y14, e21, hF⟩ := bnd hF
          refine J_adv 5 (J_opt1 (o := geti (y2.map e_b) v6) (e_b y14) (by kernel_rfl) (gm e21) ?_)
          refine J_adv 2 (J_bool 31 (b := y14) (by kernel_rfl) (fun hb10 => ?_) (fun hb10 => ?_))
          · replace hF := ift hb10 hF
            exact J_adv 7 (J_at [0, 4, 5, 6, 20, 21] [18] (T0 := [.code (cAt (bodyOf Tryz.f20) [1, 1, 1, 1, 1, 0, 1, 0, 0, 1, 1, 1]), .inLoop (cAt (bodyOf Tryz.f20) [1, 1, 1, 1, 1, 0, 1, 0, 0]), .inBlock 0, .code (cAt (bodyOf Tryz.f20) [1, 1, 1, 1, 1, 1])]) (by kernel_rfl) rfl (hF20_A2 (IntKind.i64.wrap (v5 + 1)) l12 hF))
          · replace hF := iff' hb10 hF
            exact J_adv 3 (J_at [0, 4, 5, 6, 20, 21] [18] (T0 := [.code (cAt (bodyOf Tryz.f20) [1, 1, 1, 1, 1, 0, 1, 0, 0, 1, 1, 1]), .inLoop (cAt (bodyOf Tryz.f20) [1, 1, 1, 1, 1, 0, 1, 0, 0]), .inBlock 0, .code (cAt (bodyOf Tryz.f20) [1, 1, 1, 1, 1, 1])]) (by kernel_rfl) rfl (hF20_A2 v5 l12 hF))
        · replace hF := iff' hb8 hF
          have hF20_L3 : ∀ (n_F20_L3 : Nat) (v9 : Int) (l24 : List T_api_Instr), F20_L3 d0 l9 y2 n_F20_L3 v9 l24 = some r → J none Tryz.prog 62 [] (finF Tryz.prog Tryz.f20 (.tup [.d (.sl 4 (r.1.map e_T_api_Instr)), .d (.int .i64 r.2)])) ⟨mkT [(4, .d (.sl 1 (y2.map e_b))), (5, .suf 18 0 0), (8, .suf 59 0 0), (35, .d (.sl 4 (d0.map e_T_api_Instr))), (36, .d (.int .i64 ((d0.map e_T_api_Instr).length : Int))), (37, .d (.int .i64 v9))], [(18, .buf 0 3 1 (l9.map e_i64)), (59, .buf 0 66 4 (l24.map e_T_api_Instr))], [.inLoop (cAt (bodyOf Tryz.f20) [1, 1, 1, 1, 1, 1, 1, 0, 1, 0, 0]), .inBlock 2, .code (cAt (bodyOf Tryz.f20) [1, 1, 1, 1, 1, 1, 1, 1])]⟩ := by
            clear hF; intro n_F20_L3
            induction n_F20_L3 with
            | zero => intro v9 l24 hF; cases hF
            | succ n_F20_L3 ih_F20_L3 =>
              intro v9 l24 hF
              rw [F20_L3] at hF
              refine J_adv 6 (J_bool 38 (b := decide (v9 < ((d0.map e_T_api_Instr).length : Int))) (by kernel_rfl) (fun hb21 => ?_) (fun hb21 => ?_))
              · replace hF := ift hb21 hF
                have hF20_A4 : ∀ (l27 : List T_api_Instr), F20_A4 v9 (F20_L3 d0 l9 y2 n_F20_L3) l27 = some r → J none Tryz.prog 62 [] (finF Tryz.prog Tryz.f20 (.tup [.d (.sl 4 (r.1.map e_T_api_Instr)), .d (.int .i64 r.2)])) ⟨mkT [(4, .d (.sl 1 (y2.map e_b))), (5, .suf 18 0 0), (8, .suf 59 0 0), (35, .d (.sl 4 (d0.map e_T_api_Instr))), (36, .d (.int .i64 ((d0.map e_T_api_Instr).length : Int))), (37, .d (.int .i64 v9))], [(18, .buf 0 3 1 (l9.map e_i64)), (59, .buf 0 66 4 (l27.map e_T_api_Instr))], [.code (cAt (bodyOf Tryz.f20) [1, 1, 1, 1, 1, 1, 1, 0, 1, 0, 0, 1, 1, 1]), .inLoop (cAt (bodyOf Tryz.f20) [1, 1, 1, 1, 1, 1, 1, 0, 1, 0, 0]), .inBlock 2, .code (cAt (bodyOf Tryz.f20) [1, 1, 1, 1, 1, 1, 1, 1])]⟩ := by
                  intro l27 hF
                  unfold F20_A4 at hF
                  exact J_adv 4 (J_at [4, 5, 8, 35, 36, 37] [18, 59] (T0 := [.inLoop (cAt (bodyOf Tryz.f20) [1, 1, 1, 1, 1, 1, 1, 0, 1, 0, 0]), .inBlock 2, .code (cAt (bodyOf Tryz.f20) [1, 1, 1, 1, 1, 1, 1, 1])]) (by kernel_rfl) rfl (ih_F20_L3 (IntKind.i64.wrap (v9 + 1)) l27 hF))
                obtain ⟨y30, e47, hF⟩ := bnd hF
                refine J_adv 7 (J_opt1 (o := geti (d0.map e_T_api_Instr) v9) (e_T_api_Instr y30) (by kernel_rfl) (gm e47) ?_)
                obtain ⟨y31, e48, hF⟩ := bnd hF
                refine J_adv 10 (J_opt1 (o := geti (y2.map e_b) v9) (e_b y31) (by kernel_rfl) (gm e48) ?_)
                refine J_adv 3 (J_bool 46 (b := !y31) (by kernel_rfl) (fun hb24 => ?_) (fun hb24 => ?_))
                · replace hF := ift hb24 hF
                  exact J_adv 2 (J_at [4, 5, 8, 35, 36, 37] [18, 59] (T0 := [.code (cAt (bodyOf Tryz.f20) [1, 1, 1, 1, 1, 1, 1, 0, 1, 0, 0, 1, 1, 1]), .inLoop (cAt (bodyOf Tryz.f20) [1, 1, 1, 1, 1, 1, 1, 0, 1, 0, 0]), .inBlock 2, .code (cAt (bodyOf Tryz.f20) [1, 1, 1, 1, 1, 1, 1, 1])]) (by kernel_rfl) rfl (hF20_A4 l24 hF))
                · replace hF := iff' hb24 hF
                  refine J_adv 9 (J_bool 49 (b := y30.Op != 5) (by kernel_rfl) (fun hb25 => ?_) (fun hb25 => ?_))
                  · replace hF := ift hb25 hF
                    obtain ⟨y32, e49, hF⟩ := bnd hF
                    refine J_adv 5 (J_opt1 (o := geti (l9.map e_i64) y30.Go) (e_i64 y32) (by kernel_rfl) (gm e49) ?_)
                    refine J_adv 0 (J_opt1 (o := (l9.map e_i64)[0 + Int.toNat y30.Go]?) (e_i64 y32) (by kernel_rfl) (gjm (gj e49)) ?_)
                    obtain ⟨l28, e50, hF⟩ := bnd hF
                    refine J_adv 7 (J_opt2 (o := app2 ((l24.map e_T_api_Instr).drop 0) ([(⟨y30.Op, y30.Var, y30.Val, y32⟩ : T_api_Instr)].map e_T_api_Instr)) (l28.map e_T_api_Instr) (by kernel_rfl) (am e50) ?_)
                    exact J_adv 3 (J_at [4, 5, 8, 35, 36, 37] [18, 59] (T0 := [.code (cAt (bodyOf Tryz.f20) [1, 1, 1, 1, 1, 1, 1, 0, 1, 0, 0, 1, 1, 1]), .inLoop (cAt (bodyOf Tryz.f20) [1, 1, 1, 1, 1, 1, 1, 0, 1, 0, 0]), .inBlock 2, .code (cAt (bodyOf Tryz.f20) [1, 1, 1, 1, 1, 1, 1, 1])]) (by kernel_rfl) rfl (hF20_A4 l28 hF))
                  · replace hF := iff' hb25 hF
                    obtain ⟨l29, e51, hF⟩ := bnd hF
                    refine J_adv 6 (J_opt2 (o := app2 ((l24.map e_T_api_Instr).drop 0) ([y30].map e_T_api_Instr)) (l29.map e_T_api_Instr) (by kernel_rfl) (am e51) ?_)
                    exact J_adv 3 (J_at [4, 5, 8, 35, 36, 37] [18, 59] (T0 := [.code (cAt (bodyOf Tryz.f20) [1, 1, 1, 1, 1, 1, 1, 0, 1, 0, 0, 1, 1, 1]), .inLoop (cAt (bodyOf Tryz.f20) [1, 1, 1, 1, 1, 1, 1, 0, 1, 0, 0]), .inBlock 2, .code (cAt (bodyOf Tryz.f20) [1, 1, 1, 1, 1, 1, 1, 1])]) (by kernel_rfl) rfl (hF20_A4 l29 hF))
              · replace hF := iff' hb21 hF
                have hr_ := Option.some.inj hF; subst hr_
                exact J_adv 8 (J_ret (xs := [.d (.sl 4 (l24.map e_T_api_Instr)), .d (.int .i64 0)]) [.d (.sl 4 (l24.map e_T_api_Instr)), .d (.int .i64 0)] rfl rfl (by kernel_rfl) (Res'.refl _) rfl)
          refine J_adv 15 (J_own (n := 4) 8 59 66 4 (by kernel_rfl) (by kernel_rfl) ?_)
          exact J_adv 0 (J_at [4, 5, 8, 35, 36, 37] [18, 59] (T0 := [.inLoop (cAt (bodyOf Tryz.f20) [1, 1, 1, 1, 1, 1, 1, 0, 1, 0, 0]), .inBlock 2, .code (cAt (bodyOf Tryz.f20) [1, 1, 1, 1, 1, 1, 1, 1])]) (by kernel_rfl) rfl (hF20_L3 fuel 0 [] hF))
    exact J_adv 15 (J_at [0, 4, 5, 6, 20, 21] [18] (T0 := [.inLoop (cAt (bodyOf Tryz.f20) [1, 1, 1, 1, 1, 0, 1, 0, 0]), .inBlock 0, .code (cAt (bodyOf Tryz.f20) [1, 1, 1, 1, 1, 1])]) (by kernel_rfl) rfl (hF20_L1 fuel 0 0 l1 hF))

/- croupier/croupierref31.Same -/
def F17_L1 (d0 : List T_api_Instr) (d1 : List T_api_Instr) : Nat → Int → Option Bool
  | 0, _ => none
  | n_F17_L1 + 1, v2 =>
    bif decide (v2 < ((d0.map e_T_api_Instr).length : Int)) then
      (Option.bind (geti d0 v2) fun y5 =>
      Option.bind (geti d1 v2) fun y6 =>
      bif !((y5.Op == y6.Op) && ((y5.Var == y6.Var) && ((y5.Val == y6.Val) && ((y5.Go == y6.Go) && true)))) then
        (some false)
      else
        ((F17_L1 d0 d1 n_F17_L1) (IntKind.i64.wrap (v2 + 1))))
    else
      (some true)
def F17 (fuel : Nat) (d0 : List T_api_Instr) (d1 : List T_api_Instr) : Option Bool :=
  bif ((d0.map e_T_api_Instr).length : Int) != ((d1.map e_T_api_Instr).length : Int) then
    (some false)
  else
    (F17_L1 d0 d1 fuel 0)
theorem F17_ok {fuel : Nat} {d0 : List T_api_Instr} {d1 : List T_api_Instr} {r : Bool} (hF : F17 fuel d0 d1 = some r) :
    CallF Tryz.prog 17 [.d (.sl 4 (d0.map e_T_api_Instr)), .d (.sl 4 (d1.map e_T_api_Instr))] (.d (.bool r)) := by
  unfold F17 at hF
  refine callF_of (N := 26) (b := bodyOf Tryz.f17) Tryz.func17 (by kernel_rfl) rfl rfl ?_
  refine J_adv 13 (J_bool 10 (b := ((d0.map e_T_api_Instr).length : Int) != ((d1.map e_T_api_Instr).length : Int)) (by kernel_rfl) (fun hb1 => ?_) (fun hb1 => ?_))
  · replace hF := ift hb1 hF
    have hr_ := Option.some.inj hF; subst hr_
    exact J_adv 5 (J_ret (xs := [.d (.bool false)]) [.d (.bool false)] rfl rfl (by kernel_rfl) (Res'.refl _) rfl)
  · replace hF := iff' hb1 hF
    have hF17_L1 : ∀ (n_F17_L1 : Nat) (v2 : Int), F17_L1 d0 d1 n_F17_L1 v2 = some r → J none Tryz.prog 26 [] (finF Tryz.prog Tryz.f17 (.d (.bool r))) ⟨mkT [(0, .d (.sl 4 (d0.map e_T_api_Instr))), (1, .d (.sl 4 (d1.map e_T_api_Instr))), (5, .d (.int .i64 v2))], [], [.inLoop (cAt (bodyOf Tryz.f17) [1, 1, 0, 1, 0, 0]), .inBlock 0, .code (cAt (bodyOf Tryz.f17) [1, 1, 1])]⟩ := by
      clear hF; intro n_F17_L1
      induction n_F17_L1 with
      | zero => intro v2 hF; cases hF
      | succ n_F17_L1 ih_F17_L1 =>
        intro v2 hF
        rw [F17_L1] at hF
        refine J_adv 9 (J_bool 14 (b := decide (v2 < ((d0.map e_T_api_Instr).length : Int))) (by kernel_rfl) (fun hb6 => ?_) (fun hb6 => ?_))
        · replace hF := ift hb6 hF
          refine J_adv 5 (J_draw (by kernel_rfl) (by kernel_rfl) ?_)
          obtain ⟨y5, e5, hF⟩ := bnd hF
          refine JD_adv 2 (JD_opt1 (o := geti (d0.map e_T_api_Instr) v2) (e_T_api_Instr y5) (by kernel_rfl) (by kernel_rfl) (gm e5) ?_)
          obtain ⟨y6, e6, hF⟩ := bnd hF
          refine JD_adv 3 (JD_opt1 (o := geti (d1.map e_T_api_Instr) v2) (e_T_api_Instr y6) (by kernel_rfl) (by kernel_rfl) (gm e6) ?_)
          refine JD_adv 2 (JD_end (by kernel_rfl) ?_)
          refine J_adv 0 (J_bool 25 (b := !((y5.Op == y6.Op) && ((y5.Var == y6.Var) && ((y5.Val == y6.Val) && ((y5.Go == y6.Go) && true))))) (by kernel_rfl) (fun hb7 => ?_) (fun hb7 => ?_))
          · replace hF := ift hb7 hF
            have hr_ := Option.some.inj hF; subst hr_
            exact J_adv 5 (J_ret (xs := [.d (.bool false)]) [.d (.bool false)] rfl rfl (by kernel_rfl) (Res'.refl _) rfl)
          · replace hF := iff' hb7 hF
            exact J_adv 8 (J_at [0, 1, 5] [] (T0 := [.inLoop (cAt (bodyOf Tryz.f17) [1, 1, 0, 1, 0, 0]), .inBlock 0, .code (cAt (bodyOf Tryz.f17) [1, 1, 1])]) (by kernel_rfl) rfl (ih_F17_L1 (IntKind.i64.wrap (v2 + 1)) hF))
        · replace hF := iff' hb6 hF
          have hr_ := Option.some.inj hF; subst hr_
          exact J_adv 6 (J_ret (xs := [.d (.bool true)]) [.d (.bool true)] rfl rfl (by kernel_rfl) (Res'.refl _) rfl)
    exact J_adv 9 (J_at [0, 1, 5] [] (T0 := [.inLoop (cAt (bodyOf Tryz.f17) [1, 1, 0, 1, 0, 0]), .inBlock 0, .code (cAt (bodyOf Tryz.f17) [1, 1, 1])]) (by kernel_rfl) rfl (hF17_L1 fuel 0 hF))

/- croupier/code.Run$2 -/
def F35 (d0 : Int) : Option Bool :=
  Option.bind (F33 d0 (-99) 99) fun y1 =>
  some (!y1)
theorem F35_ok {d0 : Int} {r : Bool} (hF : F35 d0 = some r) :
    CallF Tryz.prog 35 [.d (.int .i64 d0)] (.d (.bool r)) := by
  unfold F35 at hF
  refine callF_of (N := 6) (b := bodyOf Tryz.f35) Tryz.func35 (by kernel_rfl) rfl rfl ?_
  obtain ⟨y1, e1, hF⟩ := bnd hF
  refine J_adv 7 (J_callF (xs := [.d (.int .i64 d0), .d (.int .i64 (-99)), .d (.int .i64 99)]) [.d (.int .i64 d0), .d (.int .i64 (-99)), .d (.int .i64 99)] (.d (.bool y1)) (by kernel_rfl) en33 (Res'.refl _) (F33_ok e1) ?_)
  have hr_ := Option.some.inj hF; subst hr_
  exact J_adv 3 (J_ret (xs := [.d (.bool (!y1))]) [.d (.bool (!y1))] rfl rfl (by kernel_rfl) (Res'.refl _) rfl)

/- slices.IndexFunc(()int,int) -/
def F63_L1 (d0 : List Int) : Nat → Int → Option Int
  | 0, _ => none
  | n_F63_L1 + 1, v2 =>
    bif decide (v2 < ((d0.map e_i64).length : Int)) then
      (Option.bind (geti d0 v2) fun y5 =>
      Option.bind (F35 y5) fun y6 =>
      bif y6 then
        (some v2)
      else
        ((F63_L1 d0 n_F63_L1) (IntKind.i64.wrap (v2 + 1))))
    else
      (some (-1))
def F63 (fuel : Nat) (d0 : List Int) : Option Int :=
  F63_L1 d0 fuel 0
theorem F63_ok {fuel : Nat} {d0 : List Int} {r : Int} (hF : F63 fuel d0 = some r) :
    CallF Tryz.prog 63 [.d (.sl 1 (d0.map e_i64)), .d (.fnc 35)] (.d (.int .i64 r)) := by
  unfold F63 at hF
  refine callF_of (N := 19) (b := bodyOf Tryz.f63) Tryz.func63 (by kernel_rfl) rfl rfl ?_
  have hF63_L1 : ∀ (n_F63_L1 : Nat) (v2 : Int), F63_L1 d0 n_F63_L1 v2 = some r → J none Tryz.prog 19 [] (finF Tryz.prog Tryz.f63 (.d (.int .i64 r))) ⟨mkT [(0, .d (.sl 1 (d0.map e_i64))), (1, .d (.fnc 35)), (7, .d (.int .i64 ((d0.map e_i64).length : Int))), (8, .d (.int .i64 v2))], [], [.inLoop (cAt (bodyOf Tryz.f63) [1, 0, 1, 0, 0]), .inBlock 0, .code (cAt (bodyOf Tryz.f63) [1, 1])]⟩ := by
    clear hF; intro n_F63_L1
    induction n_F63_L1 with
    | zero => intro v2 hF; cases hF
    | succ n_F63_L1 ih_F63_L1 =>
      intro v2 hF
      rw [F63_L1] at hF
      refine J_adv 6 (J_bool 9 (b := decide (v2 < ((d0.map e_i64).length : Int))) (by kernel_rfl) (fun hb5 => ?_) (fun hb5 => ?_))
      · replace hF := ift hb5 hF
        obtain ⟨y5, e5, hF⟩ := bnd hF
        refine J_adv 14 (J_opt1 (o := geti (d0.map e_i64) v2) (e_i64 y5) (by kernel_rfl) (gm e5) ?_)
        obtain ⟨y6, e6, hF⟩ := bnd hF
        refine J_adv 1 (J_callF (xs := [.d (.int .i64 y5)]) [.d (.int .i64 y5)] (.d (.bool y6)) (by kernel_rfl) en35 (Res'.refl _) (F35_ok e6) ?_)
        refine J_adv 1 (J_bool 16 (b := y6) (by kernel_rfl) (fun hb6 => ?_) (fun hb6 => ?_))
        · replace hF := ift hb6 hF
          have hr_ := Option.some.inj hF; subst hr_
          exact J_adv 6 (J_ret (xs := [.d (.int .i64 v2)]) [.d (.int .i64 v2)] rfl rfl (by kernel_rfl) (Res'.refl _) rfl)
        · replace hF := iff' hb6 hF
          exact J_adv 7 (J_at [0, 1, 7, 8] [] (T0 := [.inLoop (cAt (bodyOf Tryz.f63) [1, 0, 1, 0, 0]), .inBlock 0, .code (cAt (bodyOf Tryz.f63) [1, 1])]) (by kernel_rfl) rfl (ih_F63_L1 (IntKind.i64.wrap (v2 + 1)) hF))
      · replace hF := iff' hb5 hF
        have hr_ := Option.some.inj hF; subst hr_
        exact J_adv 6 (J_ret (xs := [.d (.int .i64 (-1))]) [.d (.int .i64 (-1))] rfl rfl (by kernel_rfl) (Res'.refl _) rfl)
  exact J_adv 13 (J_at [0, 1, 7, 8] [] (T0 := [.inLoop (cAt (bodyOf Tryz.f63) [1, 0, 1, 0, 0]), .inBlock 0, .code (cAt (bodyOf Tryz.f63) [1, 1])]) (by kernel_rfl) rfl (hF63_L1 fuel 0 hF))

/- slices.ContainsFunc(()int,int) -/
def F34 (fuel : Nat) (d0 : List Int) : Option Bool :=
  Option.bind (F63 fuel d0) fun y1 =>
  some (decide (y1 ≥ 0))
theorem F34_ok {fuel : Nat} {d0 : List Int} {r : Bool} (hF : F34 fuel d0 = some r) :
    CallF Tryz.prog 34 [.d (.sl 1 (d0.map e_i64)), .d (.fnc 35)] (.d (.bool r)) := by
  unfold F34 at hF
  refine callF_of (N := 9) (b := bodyOf Tryz.f34) Tryz.func34 (by kernel_rfl) rfl rfl ?_
  obtain ⟨y1, e1, hF⟩ := bnd hF
  refine J_adv 8 (J_callF (xs := [.d (.sl 1 (d0.map e_i64)), .d (.fnc 35)]) [.d (.sl 1 (d0.map e_i64)), .d (.fnc 35)] (.d (.int .i64 y1)) (by kernel_rfl) en63 (Res'.refl _) (F63_ok e1) ?_)
  have hr_ := Option.some.inj hF; subst hr_
  exact J_adv 3 (J_ret (xs := [.d (.bool (decide (y1 ≥ 0)))]) [.d (.bool (decide (y1 ≥ 0)))] rfl rfl (by kernel_rfl) (Res'.refl _) rfl)

/- croupier/code.Run$1 -/
def F32 (d0 : T_api_Instr) (d1 : List Int) : Option Bool :=
  Option.bind (
    bif decide (d0.Op ≤ 3) then
      (some (decide (d0.Var ≥ ((d1.map e_i64).length : Int))))
    else
      (some false)) fun o1 =>
  some o1
theorem F32_ok {d0 : T_api_Instr} {d1 : List Int} {r : Bool} (hF : F32 d0 d1 = some r) :
    CallF Tryz.prog 32 [.agg [.d (.int .i64 d0.Op), .d (.int .i64 d0.Var), .d (.int .i64 d0.Val), .d (.int .i64 d0.Go)], .rp [.sl 1 (d1.map e_i64)] 0] (.d (.bool r)) := by
  unfold F32 at hF
  refine callF_of (N := 14) (b := bodyOf Tryz.f32) Tryz.func32 (by kernel_rfl) rfl rfl ?_
  obtain ⟨o1, hO, hF⟩ := bnd hF
  have hR1 : J none Tryz.prog 14 [] (finF Tryz.prog Tryz.f32 (.d (.bool r))) ⟨mkT [(3, .d (.bool o1))], [], [.ops (opsOf (cAt (bodyOf Tryz.f32) [1, 0])) [], .code (cAt (bodyOf Tryz.f32) [1, 1])]⟩ := by
    clear hO
    have hr_ := Option.some.inj hF; subst hr_
    exact J_adv 1 (J_ret (xs := [.d (.bool o1)]) [.d (.bool o1)] rfl rfl (by kernel_rfl) (Res'.refl _) rfl)
  clear hF; rename _ = some o1 => hF
  refine J_adv 11 (J_bool 7 (b := decide (d0.Op ≤ 3)) (by kernel_rfl) (fun hb3 => ?_) (fun hb3 => ?_))
  · replace hF := ift hb3 hF
    have hr_ := Option.some.inj hF; subst hr_
    exact J_adv 7 (J_at [3] [] (T0 := [.ops (opsOf (cAt (bodyOf Tryz.f32) [1, 0])) [], .code (cAt (bodyOf Tryz.f32) [1, 1])]) (by kernel_rfl) rfl hR1)
  · replace hF := iff' hb3 hF
    have hr_ := Option.some.inj hF; subst hr_
    exact J_adv 7 (J_at [3] [] (T0 := [.ops (opsOf (cAt (bodyOf Tryz.f32) [1, 0])) [], .code (cAt (bodyOf Tryz.f32) [1, 1])]) (by kernel_rfl) rfl hR1)

/- slices.IndexFunc(()croupier/api.Instr,croupier/api.Instr) -/
def F64_L1 (d0 : List T_api_Instr) (d1 : List Int) : Nat → Int → Option Int
  | 0, _ => none
  | n_F64_L1 + 1, v2 =>
    bif decide (v2 < ((d0.map e_T_api_Instr).length : Int)) then
      (Option.bind (geti d0 v2) fun y5 =>
      Option.bind (F32 y5 d1) fun y6 =>
      bif y6 then
        (some v2)
      else
        ((F64_L1 d0 d1 n_F64_L1) (IntKind.i64.wrap (v2 + 1))))
    else
      (some (-1))
def F64 (fuel : Nat) (d0 : List T_api_Instr) (d1 : List Int) : Option Int :=
  F64_L1 d0 d1 fuel 0
theorem F64_ok {fuel : Nat} {d0 : List T_api_Instr} {d1 : List Int} {r : Int} (hF : F64 fuel d0 d1 = some r) :
    CallF Tryz.prog 64 [.d (.sl 4 (d0.map e_T_api_Instr)), .fn 32 [] [.rp [.sl 1 (d1.map e_i64)] 0]] (.d (.int .i64 r)) := by
  unfold F64 at hF
  refine callF_of (N := 19) (b := bodyOf Tryz.f64) Tryz.func64 (by kernel_rfl) rfl rfl ?_
  have hF64_L1 : ∀ (n_F64_L1 : Nat) (v2 : Int), F64_L1 d0 d1 n_F64_L1 v2 = some r → J none Tryz.prog 19 [] (finF Tryz.prog Tryz.f64 (.d (.int .i64 r))) ⟨mkT [(0, .d (.sl 4 (d0.map e_T_api_Instr))), (1, .fn 32 [] [.rp [.sl 1 (d1.map e_i64)] 0]), (7, .d (.int .i64 ((d0.map e_T_api_Instr).length : Int))), (8, .d (.int .i64 v2))], [], [.inLoop (cAt (bodyOf Tryz.f64) [1, 0, 1, 0, 0]), .inBlock 0, .code (cAt (bodyOf Tryz.f64) [1, 1])]⟩ := by
    clear hF; intro n_F64_L1
    induction n_F64_L1 with
    | zero => intro v2 hF; cases hF
    | succ n_F64_L1 ih_F64_L1 =>
      intro v2 hF
      rw [F64_L1] at hF
      refine J_adv 6 (J_bool 9 (b := decide (v2 < ((d0.map e_T_api_Instr).length : Int))) (by kernel_rfl) (fun hb5 => ?_) (fun hb5 => ?_))
      · replace hF := ift hb5 hF
        obtain ⟨y5, e5, hF⟩ := bnd hF
        refine J_adv 14 (J_opt1 (o := geti (d0.map e_T_api_Instr) v2) (e_T_api_Instr y5) (by kernel_rfl) (gm e5) ?_)
        obtain ⟨y6, e6, hF⟩ := bnd hF
        refine J_adv 1 (J_callF (xs := [.agg [.d (.int .i64 y5.Op), .d (.int .i64 y5.Var), .d (.int .i64 y5.Val), .d (.int .i64 y5.Go)], .rp [.sl 1 (d1.map e_i64)] 0]) [.agg [.d (.int .i64 y5.Op), .d (.int .i64 y5.Var), .d (.int .i64 y5.Val), .d (.int .i64 y5.Go)], .rp [.sl 1 (d1.map e_i64)] 0] (.d (.bool y6)) (by kernel_rfl) en32 (Res'.refl _) (F32_ok e6) ?_)
        refine J_adv 1 (J_bool 16 (b := y6) (by kernel_rfl) (fun hb6 => ?_) (fun hb6 => ?_))
        · replace hF := ift hb6 hF
          have hr_ := Option.some.inj hF; subst hr_
          exact J_adv 6 (J_ret (xs := [.d (.int .i64 v2)]) [.d (.int .i64 v2)] rfl rfl (by kernel_rfl) (Res'.refl _) rfl)
        · replace hF := iff' hb6 hF
          exact J_adv 7 (J_at [0, 1, 7, 8] [] (T0 := [.inLoop (cAt (bodyOf Tryz.f64) [1, 0, 1, 0, 0]), .inBlock 0, .code (cAt (bodyOf Tryz.f64) [1, 1])]) (by kernel_rfl) rfl (ih_F64_L1 (IntKind.i64.wrap (v2 + 1)) hF))
      · replace hF := iff' hb5 hF
        have hr_ := Option.some.inj hF; subst hr_
        exact J_adv 6 (J_ret (xs := [.d (.int .i64 (-1))]) [.d (.int .i64 (-1))] rfl rfl (by kernel_rfl) (Res'.refl _) rfl)
  exact J_adv 13 (J_at [0, 1, 7, 8] [] (T0 := [.inLoop (cAt (bodyOf Tryz.f64) [1, 0, 1, 0, 0]), .inBlock 0, .code (cAt (bodyOf Tryz.f64) [1, 1])]) (by kernel_rfl) rfl (hF64_L1 fuel 0 hF))

/- slices.ContainsFunc(()croupier/api.Instr,croupier/api.Instr) -/
def F36 (fuel : Nat) (d0 : List T_api_Instr) (d1 : List Int) : Option Bool :=
  Option.bind (F64 fuel d0 d1) fun y1 =>
  some (decide (y1 ≥ 0))
theorem F36_ok {fuel : Nat} {d0 : List T_api_Instr} {d1 : List Int} {r : Bool} (hF : F36 fuel d0 d1 = some r) :
    CallF Tryz.prog 36 [.d (.sl 4 (d0.map e_T_api_Instr)), .fn 32 [] [.rp [.sl 1 (d1.map e_i64)] 0]] (.d (.bool r)) := by
  unfold F36 at hF
  refine callF_of (N := 9) (b := bodyOf Tryz.f36) Tryz.func36 (by kernel_rfl) rfl rfl ?_
  obtain ⟨y1, e1, hF⟩ := bnd hF
  refine J_adv 8 (J_callF (xs := [.d (.sl 4 (d0.map e_T_api_Instr)), .fn 32 [] [.rp [.sl 1 (d1.map e_i64)] 0]]) [.d (.sl 4 (d0.map e_T_api_Instr)), .fn 32 [] [.rp [.sl 1 (d1.map e_i64)] 0]] (.d (.int .i64 y1)) (by kernel_rfl) en64 (Res'.refl _) (F64_ok e1) ?_)
  have hr_ := Option.some.inj hF; subst hr_
  exact J_adv 3 (J_ret (xs := [.d (.bool (decide (y1 ≥ 0)))]) [.d (.bool (decide (y1 ≥ 0)))] rfl rfl (by kernel_rfl) (Res'.refl _) rfl)

/- croupier/code.operations -/
def F37 : Option Unit :=
  some ()
theorem F37_ok {r : Unit} (hF : F37 = some r) :
    CallR Tryz.prog 37 [] [] [(2000, .mapo (.int .i64) false 1 [(.int .i64 1, [.fnc 65]), (.int .i64 2, [.fnc 66]), (.int .i64 3, [.fnc 67]), (.int .i64 4, [.fnc 68]), (.int .i64 5, [.fnc 69])])] (.mp 2000) := by
  unfold F37 at hF
  refine callR_of (N := 3) (b := bodyOf Tryz.f37) Tryz.func37 (by kernel_rfl) rfl rfl ?_
  refine J_adv 15 (J_at (S0 := [(0, .mp 1)]) (O0 := [(1, .mapo (.int .i64) false 1 [(.int .i64 1, [.fnc 65]), (.int .i64 2, [.fnc 66]), (.int .i64 3, [.fnc 67]), (.int .i64 4, [.fnc 68]), (.int .i64 5, [.fnc 69])])]) (T0 := [.code (cAt (bodyOf Tryz.f37) [1, 1])]) [0] [1] (by kernel_rfl) rfl ?_)
  refine J_adv 0 (J_ren [(1, 2000)] (by kernel_rfl) (by kernel_rfl) (by kernel_rfl) (by kernel_rfl) ?_)
  have hr_ := Option.some.inj hF; subst hr_
  exact J_adv 0 (J_retRR (xs := [.mp 2000]) [.mp 2000] rfl (by kernel_rfl) (by kernel_rfl) (Res'.refl _) rfl)

/- (*croupier/code.machine).jump -/
def F95 (d0 : T_api_Instr) (d1 : Bool) (d2 : List Int) (d3 : Int) (d4 : Bool) (d5 : Int) : Option Int :=
  bif d1 then
    (some d0.Go)
  else
    (some (IntKind.i64.wrap (d3 + 1)))
theorem F95_ok {d0 : T_api_Instr} {d1 : Bool} {d2 : List Int} {d3 : Int} {d4 : Bool} {d5 : Int} {r : Int} (hF : F95 d0 d1 d2 d3 d4 d5 = some r) :
    CallR Tryz.prog 95 [(2000, .box 84 [.d (.sl 1 (d2.map e_i64)), .d (.int .i64 d3), .d (.bool d4), .d (.int .i64 d5)])] [.ptr 2000 0, .agg [.d (.int .i64 d0.Op), .d (.int .i64 d0.Var), .d (.int .i64 d0.Val), .d (.int .i64 d0.Go)], .d (.bool d1)] [(2000, .box 84 [.d (.sl 1 (d2.map e_i64)), .d (.int .i64 r), .d (.bool d4), .d (.int .i64 d5)])] (.tup []) := by
  unfold F95 at hF
  refine callR_of (N := 19) (b := bodyOf Tryz.f95) Tryz.func95 (by kernel_rfl) rfl rfl ?_
  refine J_adv 8 (J_bool 6 (b := d1) (by kernel_rfl) (fun hb1 => ?_) (fun hb1 => ?_))
  · replace hF := ift hb1 hF
    have hr_ := Option.some.inj hF; subst hr_
    exact J_adv 9 (J_retR (xs := []) [] rfl (by kernel_rfl) (by kernel_rfl) (Res'.refl _) rfl)
  · replace hF := iff' hb1 hF
    have hr_ := Option.some.inj hF; subst hr_
    exact J_adv 11 (J_retR (xs := []) [] rfl (by kernel_rfl) (by kernel_rfl) (Res'.refl _) rfl)

/- (*croupier/code.machine).eq -/
def F65 (d0 : T_api_Instr) (d1 : List Int) (d2 : Int) (d3 : Bool) (d4 : Int) : Option Int :=
  Option.bind (geti d1 d0.Var) fun y1 =>
  Option.bind (F95 d0 (y1 == d0.Val) d1 d2 d3 d4) fun y2 =>
  some y2
theorem F65_ok {d0 : T_api_Instr} {d1 : List Int} {d2 : Int} {d3 : Bool} {d4 : Int} {r : Int} (hF : F65 d0 d1 d2 d3 d4 = some r) :
    CallR Tryz.prog 65 [(2000, .box 84 [.d (.sl 1 (d1.map e_i64)), .d (.int .i64 d2), .d (.bool d3), .d (.int .i64 d4)])] [.ptr 2000 0, .agg [.d (.int .i64 d0.Op), .d (.int .i64 d0.Var), .d (.int .i64 d0.Val), .d (.int .i64 d0.Go)]] [(2000, .box 84 [.d (.sl 1 (d1.map e_i64)), .d (.int .i64 r), .d (.bool d3), .d (.int .i64 d4)])] (.tup []) := by
  unfold F65 at hF
  refine callR_of (N := 19) (b := bodyOf Tryz.f65) Tryz.func65 (by kernel_rfl) rfl rfl ?_
  refine J_adv 4 (J_draw (by kernel_rfl) (by kernel_rfl) ?_)
  obtain ⟨y1, e1, hF⟩ := bnd hF
  refine JD_adv 9 (JD_opt1 (o := geti (d1.map e_i64) d0.Var) (e_i64 y1) (by kernel_rfl) (by kernel_rfl) (gm e1) ?_)
  obtain ⟨y2, e2, hF⟩ := bnd hF
  refine JD_adv 4 (JD_callR (os := [(2000, .box 84 [.d (.sl 1 (d1.map e_i64)), .d (.int .i64 d2), .d (.bool d3), .d (.int .i64 d4)])]) (xs := [.ptr 2000 0, .agg [.d (.int .i64 d0.Op), .d (.int .i64 d0.Var), .d (.int .i64 d0.Val), .d (.int .i64 d0.Go)], .d (.bool (y1 == d0.Val))]) [(2000, 2000)] [.ptr 2000 0, .agg [.d (.int .i64 d0.Op), .d (.int .i64 d0.Var), .d (.int .i64 d0.Val), .d (.int .i64 d0.Go)], .d (.bool (y1 == d0.Val))] [(2000, .box 84 [.d (.sl 1 (d1.map e_i64)), .d (.int .i64 y2), .d (.bool d3), .d (.int .i64 d4)])] (.tup []) (by kernel_rfl) (by kernel_rfl) en95 (Res'.refl _) (F95_ok e2) ?_)
  refine JD_adv 0 (JD_end (by kernel_rfl) ?_)
  have hr_ := Option.some.inj hF; subst hr_
  exact J_adv 0 (J_retR (xs := []) [] rfl (by kernel_rfl) (by kernel_rfl) (Res'.refl _) rfl)

/- (*croupier/code.machine).le -/
def F66 (d0 : T_api_Instr) (d1 : List Int) (d2 : Int) (d3 : Bool) (d4 : Int) : Option Int :=
  Option.bind (geti d1 d0.Var) fun y1 =>
  Option.bind (F95 d0 (decide (y1 ≤ d0.Val)) d1 d2 d3 d4) fun y2 =>
  some y2
theorem F66_ok {d0 : T_api_Instr} {d1 : List Int} {d2 : Int} {d3 : Bool} {d4 : Int} {r : Int} (hF : F66 d0 d1 d2 d3 d4 = some r) :
    CallR Tryz.prog 66 [(2000, .box 84 [.d (.sl 1 (d1.map e_i64)), .d (.int .i64 d2), .d (.bool d3), .d (.int .i64 d4)])] [.ptr 2000 0, .agg [.d (.int .i64 d0.Op), .d (.int .i64 d0.Var), .d (.int .i64 d0.Val), .d (.int .i64 d0.Go)]] [(2000, .box 84 [.d (.sl 1 (d1.map e_i64)), .d (.int .i64 r), .d (.bool d3), .d (.int .i64 d4)])] (.tup []) := by
  unfold F66 at hF
  refine callR_of (N := 19) (b := bodyOf Tryz.f66) Tryz.func66 (by kernel_rfl) rfl rfl ?_
  refine J_adv 4 (J_draw (by kernel_rfl) (by kernel_rfl) ?_)
  obtain ⟨y1, e1, hF⟩ := bnd hF
  refine JD_adv 9 (JD_opt1 (o := geti (d1.map e_i64) d0.Var) (e_i64 y1) (by kernel_rfl) (by kernel_rfl) (gm e1) ?_)
  obtain ⟨y2, e2, hF⟩ := bnd hF
  refine JD_adv 4 (JD_callR (os := [(2000, .box 84 [.d (.sl 1 (d1.map e_i64)), .d (.int .i64 d2), .d (.bool d3), .d (.int .i64 d4)])]) (xs := [.ptr 2000 0, .agg [.d (.int .i64 d0.Op), .d (.int .i64 d0.Var), .d (.int .i64 d0.Val), .d (.int .i64 d0.Go)], .d (.bool (decide (y1 ≤ d0.Val)))]) [(2000, 2000)] [.ptr 2000 0, .agg [.d (.int .i64 d0.Op), .d (.int .i64 d0.Var), .d (.int .i64 d0.Val), .d (.int .i64 d0.Go)], .d (.bool (decide (y1 ≤ d0.Val)))] [(2000, .box 84 [.d (.sl 1 (d1.map e_i64)), .d (.int .i64 y2), .d (.bool d3), .d (.int .i64 d4)])] (.tup []) (by kernel_rfl) (by kernel_rfl) en95 (Res'.refl _) (F95_ok e2) ?_)
  refine JD_adv 0 (JD_end (by kernel_rfl) ?_)
  have hr_ := Option.some.inj hF; subst hr_
  exact J_adv 0 (J_retR (xs := []) [] rfl (by kernel_rfl) (by kernel_rfl) (Res'.refl _) rfl)

/- (*croupier/code.machine).ge -/
def F67 (d0 : T_api_Instr) (d1 : List Int) (d2 : Int) (d3 : Bool) (d4 : Int) : Option Int :=
  Option.bind (geti d1 d0.Var) fun y1 =>
  Option.bind (F95 d0 (decide (y1 ≥ d0.Val)) d1 d2 d3 d4) fun y2 =>
  some y2
theorem F67_ok {d0 : T_api_Instr} {d1 : List Int} {d2 : Int} {d3 : Bool} {d4 : Int} {r : Int} (hF : F67 d0 d1 d2 d3 d4 = some r) :
    CallR Tryz.prog 67 [(2000, .box 84 [.d (.sl 1 (d1.map e_i64)), .d (.int .i64 d2), .d (.bool d3), .d (.int .i64 d4)])] [.ptr 2000 0, .agg [.d (.int .i64 d0.Op), .d (.int .i64 d0.Var), .d (.int .i64 d0.Val), .d (.int .i64 d0.Go)]] [(2000, .box 84 [.d (.sl 1 (d1.map e_i64)), .d (.int .i64 r), .d (.bool d3), .d (.int .i64 d4)])] (.tup []) := by
  unfold F67 at hF
  refine callR_of (N := 19) (b := bodyOf Tryz.f67) Tryz.func67 (by kernel_rfl) rfl rfl ?_
  refine J_adv 4 (J_draw (by kernel_rfl) (by kernel_rfl) ?_)
  obtain ⟨y1, e1, hF⟩ := bnd hF
  refine JD_adv 9 (JD_opt1 (o := geti (d1.map e_i64) d0.Var) (e_i64 y1) (by kernel_rfl) (by kernel_rfl) (gm e1) ?_)
  obtain ⟨y2, e2, hF⟩ := bnd hF
  refine JD_adv 4 (JD_callR (os := [(2000, .box 84 [.d (.sl 1 (d1.map e_i64)), .d (.int .i64 d2), .d (.bool d3), .d (.int .i64 d4)])]) (xs := [.ptr 2000 0, .agg [.d (.int .i64 d0.Op), .d (.int .i64 d0.Var), .d (.int .i64 d0.Val), .d (.int .i64 d0.Go)], .d (.bool (decide (y1 ≥ d0.Val)))]) [(2000, 2000)] [.ptr 2000 0, .agg [.d (.int .i64 d0.Op), .d (.int .i64 d0.Var), .d (.int .i64 d0.Val), .d (.int .i64 d0.Go)], .d (.bool (decide (y1 ≥ d0.Val)))] [(2000, .box 84 [.d (.sl 1 (d1.map e_i64)), .d (.int .i64 y2), .d (.bool d3), .d (.int .i64 d4)])] (.tup []) (by kernel_rfl) (by kernel_rfl) en95 (Res'.refl _) (F95_ok e2) ?_)
  refine JD_adv 0 (JD_end (by kernel_rfl) ?_)
  have hr_ := Option.some.inj hF; subst hr_
  exact J_adv 0 (J_retR (xs := []) [] rfl (by kernel_rfl) (by kernel_rfl) (Res'.refl _) rfl)

/- (*croupier/code.machine).goes -/
def F68 (d0 : T_api_Instr) (d1 : List Int) (d2 : Int) (d3 : Bool) (d4 : Int) : Option Int :=
  Option.bind (F95 d0 true d1 d2 d3 d4) fun y1 =>
  some y1
theorem F68_ok {d0 : T_api_Instr} {d1 : List Int} {d2 : Int} {d3 : Bool} {d4 : Int} {r : Int} (hF : F68 d0 d1 d2 d3 d4 = some r) :
    CallR Tryz.prog 68 [(2000, .box 84 [.d (.sl 1 (d1.map e_i64)), .d (.int .i64 d2), .d (.bool d3), .d (.int .i64 d4)])] [.ptr 2000 0, .agg [.d (.int .i64 d0.Op), .d (.int .i64 d0.Var), .d (.int .i64 d0.Val), .d (.int .i64 d0.Go)]] [(2000, .box 84 [.d (.sl 1 (d1.map e_i64)), .d (.int .i64 r), .d (.bool d3), .d (.int .i64 d4)])] (.tup []) := by
  unfold F68 at hF
  refine callR_of (N := 7) (b := bodyOf Tryz.f68) Tryz.func68 (by kernel_rfl) rfl rfl ?_
  obtain ⟨y1, e1, hF⟩ := bnd hF
  refine J_adv 7 (J_callR (os := [(2000, .box 84 [.d (.sl 1 (d1.map e_i64)), .d (.int .i64 d2), .d (.bool d3), .d (.int .i64 d4)])]) (xs := [.ptr 2000 0, .agg [.d (.int .i64 d0.Op), .d (.int .i64 d0.Var), .d (.int .i64 d0.Val), .d (.int .i64 d0.Go)], .d (.bool true)]) [(2000, 2000)] [.ptr 2000 0, .agg [.d (.int .i64 d0.Op), .d (.int .i64 d0.Var), .d (.int .i64 d0.Val), .d (.int .i64 d0.Go)], .d (.bool true)] [(2000, .box 84 [.d (.sl 1 (d1.map e_i64)), .d (.int .i64 y1), .d (.bool d3), .d (.int .i64 d4)])] (.tup []) (by kernel_rfl) (by kernel_rfl) en95 (Res'.refl _) (F95_ok e1) ?_)
  have hr_ := Option.some.inj hF; subst hr_
  exact J_adv 1 (J_retR (xs := []) [] rfl (by kernel_rfl) (by kernel_rfl) (Res'.refl _) rfl)

/- (*croupier/code.machine).act -/
def F69 (d0 : T_api_Instr) (d1 : List Int) (d2 : Int) (d3 : Bool) (d4 : Int) : Option (Bool × Int) :=
  some (true, d0.Val)
theorem F69_ok {d0 : T_api_Instr} {d1 : List Int} {d2 : Int} {d3 : Bool} {d4 : Int} {r : Bool × Int} (hF : F69 d0 d1 d2 d3 d4 = some r) :
    CallR Tryz.prog 69 [(2000, .box 84 [.d (.sl 1 (d1.map e_i64)), .d (.int .i64 d2), .d (.bool d3), .d (.int .i64 d4)])] [.ptr 2000 0, .agg [.d (.int .i64 d0.Op), .d (.int .i64 d0.Var), .d (.int .i64 d0.Val), .d (.int .i64 d0.Go)]] [(2000, .box 84 [.d (.sl 1 (d1.map e_i64)), .d (.int .i64 d2), .d (.bool r.1), .d (.int .i64 r.2)])] (.tup []) := by
  unfold F69 at hF
  refine callR_of (N := 12) (b := bodyOf Tryz.f69) Tryz.func69 (by kernel_rfl) rfl rfl ?_
  refine J_adv 4 (J_draw (by kernel_rfl) (by kernel_rfl) ?_)
  refine JD_adv 10 (JD_end (by kernel_rfl) ?_)
  have hr_ := Option.some.inj hF; subst hr_
  exact J_adv 0 (J_retR (xs := []) [] rfl (by kernel_rfl) (by kernel_rfl) (Res'.refl _) rfl)

/- croupier/code.Run -/
def F11_L1 (d0 : List T_api_Instr) (d1 : List Int) : Nat → Int → Int → Bool → Int → Option (Int × Int × Int)
  | 0, _, _, _, _ => none
  | n_F11_L1 + 1, v4, v5, t3, v6 =>
    bif !t3 then
      (Option.bind (geti d0 v5) fun y21 =>
      bif decide (y21.Op = 1) then
        (Option.bind (F65 y21 d1 v5 t3 v6) fun y22 =>
        (F11_L1 d0 d1 n_F11_L1) (IntKind.i64.wrap (v4 + 1)) y22 t3 v6)
      else bif decide (y21.Op = 2) then
        (Option.bind (F66 y21 d1 v5 t3 v6) fun y23 =>
        (F11_L1 d0 d1 n_F11_L1) (IntKind.i64.wrap (v4 + 1)) y23 t3 v6)
      else bif decide (y21.Op = 3) then
        (Option.bind (F67 y21 d1 v5 t3 v6) fun y24 =>
        (F11_L1 d0 d1 n_F11_L1) (IntKind.i64.wrap (v4 + 1)) y24 t3 v6)
      else bif decide (y21.Op = 4) then
        (Option.bind (F68 y21 d1 v5 t3 v6) fun y25 =>
        (F11_L1 d0 d1 n_F11_L1) (IntKind.i64.wrap (v4 + 1)) y25 t3 v6)
      else bif decide (y21.Op = 5) then
        (Option.bind (F69 y21 d1 v5 t3 v6) fun y26 =>
        (F11_L1 d0 d1 n_F11_L1) (IntKind.i64.wrap (v4 + 1)) v5 y26.1 y26.2)
      else none)
    else
      (some (v6, v4, 0))
def F11 (fuel : Nat) (d0 : List T_api_Instr) (d1 : List Int) : Option (Int × Int × Int) :=
  Option.bind (F31 fuel d0) fun y1 =>
  bif !y1 then
    (some (0, 0, 310))
  else
    (Option.bind (
      Option.bind (F33 ((d1.map e_i64).length : Int) 1 4) fun y27 =>
      bif !y27 then
        (some true)
      else
        (Option.bind (F34 fuel d1) fun y28 =>
        bif y28 then
          (some true)
        else
          (Option.bind (F36 fuel d0 d1) fun y29 =>
          some y29))) fun o1 =>
    bif o1 then
      (some (0, 0, 2))
    else
      (Option.bind (F37) fun y8 =>
      F11_L1 d0 d1 fuel 0 0 false 0))
theorem F11_ok {fuel : Nat} {d0 : List T_api_Instr} {d1 : List Int} {r : Int × Int × Int} (hF : F11 fuel d0 d1 = some r) :
    CallF Tryz.prog 11 [.d (.sl 4 (d0.map e_T_api_Instr)), .d (.sl 1 (d1.map e_i64))] (.tup [.d (.int .i64 r.1), .d (.int .i64 r.2.1), .d (.int .i64 r.2.2)]) := by
  unfold F11 at hF
  refine callF_of (N := 59) (b := bodyOf Tryz.f11) Tryz.func11 (by kernel_rfl) rfl rfl ?_
  obtain ⟨y1, e1, hF⟩ := bnd hF
  refine J_adv 11 (J_callF (xs := [.d (.sl 4 (d0.map e_T_api_Instr))]) [.d (.sl 4 (d0.map e_T_api_Instr))] (.d (.bool y1)) (by kernel_rfl) en31 (Res'.refl _) (F31_ok e1) ?_)
  refine J_adv 2 (J_bool 13 (b := !y1) (by kernel_rfl) (fun hb1 => ?_) (fun hb1 => ?_))
  · replace hF := ift hb1 hF
    have hr_ := Option.some.inj hF; subst hr_
    exact J_adv 7 (J_ret (xs := [.d (.int .i64 0), .d (.int .i64 0), .d (.int .i64 310)]) [.d (.int .i64 0), .d (.int .i64 0), .d (.int .i64 310)] rfl rfl (by kernel_rfl) (Res'.refl _) rfl)
  · replace hF := iff' hb1 hF
    obtain ⟨o1, hO, hF⟩ := bnd hF
    have hR1 : J none Tryz.prog 59 [] (finF Tryz.prog Tryz.f11 (.tup [.d (.int .i64 r.1), .d (.int .i64 r.2.1), .d (.int .i64 r.2.2)])) ⟨mkT [(0, .d (.sl 4 (d0.map e_T_api_Instr))), (3, .ptr 3 0), (5, .d (.int .i64 0)), (27, .d (.bool o1))], [(3, .fzb [.d (.sl 1 (d1.map e_i64))])], [.ops (opsOf (cAt (bodyOf Tryz.f11) [1, 1, 1, 0, 0])) [], .code (cAt (bodyOf Tryz.f11) [1, 1, 1, 0, 1]), .code (cAt (bodyOf Tryz.f11) [1, 1, 1, 1])]⟩ := by
      clear hO
      refine J_adv 1 (J_bool 27 (b := o1) (by kernel_rfl) (fun hb6 => ?_) (fun hb6 => ?_))
      · replace hF := ift hb6 hF
        have hr_ := Option.some.inj hF; subst hr_
        exact J_adv 7 (J_ret (xs := [.d (.int .i64 0), .d (.int .i64 0), .d (.int .i64 2)]) [.d (.int .i64 0), .d (.int .i64 0), .d (.int .i64 2)] rfl rfl (by kernel_rfl) (Res'.refl _) rfl)
      · replace hF := iff' hb6 hF
        obtain ⟨y8, e8, hF⟩ := bnd hF
        refine J_adv 13 (J_callR (os := []) (xs := []) [(32, 2000)] [] [(2000, .mapo (.int .i64) false 1 [(.int .i64 1, [.fnc 65]), (.int .i64 2, [.fnc 66]), (.int .i64 3, [.fnc 67]), (.int .i64 4, [.fnc 68]), (.int .i64 5, [.fnc 69])])] (.mp 2000) (by kernel_rfl) (by kernel_rfl) en37 (Res'.refl _) (F37_ok e8) ?_)
        have hF11_L1 : ∀ (n_F11_L1 : Nat) (v4 : Int) (v5 : Int) (t3 : Bool) (v6 : Int), F11_L1 d0 d1 n_F11_L1 v4 v5 t3 v6 = some r → J none Tryz.prog 59 [] (finF Tryz.prog Tryz.f11 (.tup [.d (.int .i64 r.1), .d (.int .i64 r.2.1), .d (.int .i64 r.2.2)])) ⟨mkT [(0, .d (.sl 4 (d0.map e_T_api_Instr))), (5, .d (.int .i64 v4)), (8, .ptr 31 0), (9, .mp 32)], [(31, .box 84 [.d (.sl 1 (d1.map e_i64)), .d (.int .i64 v5), .d (.bool t3), .d (.int .i64 v6)]), (32, .mapo (.int .i64) false 1 [(.int .i64 1, [.fnc 65]), (.int .i64 2, [.fnc 66]), (.int .i64 3, [.fnc 67]), (.int .i64 4, [.fnc 68]), (.int .i64 5, [.fnc 69])])], [.inLoop (cAt (bodyOf Tryz.f11) [1, 1, 1, 1, 1, 0, 1, 0, 0]), .inBlock 0, .code (cAt (bodyOf Tryz.f11) [1, 1, 1, 1, 1, 1])]⟩ := by
          clear hF; intro n_F11_L1
          induction n_F11_L1 with
          | zero => intro v4 v5 t3 v6 hF; cases hF
          | succ n_F11_L1 ih_F11_L1 =>
            intro v4 v5 t3 v6 hF
            rw [F11_L1] at hF
            refine J_adv 10 (J_bool 37 (b := !t3) (by kernel_rfl) (fun hb18 => ?_) (fun hb18 => ?_))
            · replace hF := ift hb18 hF
              obtain ⟨y21, e21, hF⟩ := bnd hF
              refine J_adv 11 (J_opt1 (o := geti (d0.map e_T_api_Instr) v5) (e_T_api_Instr y21) (by kernel_rfl) (gm e21) ?_)
              rcases Bool.eq_false_or_eq_true (decide (y21.Op = 1)) with hb19 | hb19
              · replace hF := ift hb19 hF
                refine J_adv 8 (J_opt1 (o := some (mlook [(.int .i64 1, [.fnc 65]), (.int .i64 2, [.fnc 66]), (.int .i64 3, [.fnc 67]), (.int .i64 4, [.fnc 68]), (.int .i64 5, [.fnc 69])] (.int .i64 y21.Op) [.nilf])) [.fnc 65] (by kernel_rfl) (by rw [of_decide_eq_true hb19]; rfl) ?_)
                obtain ⟨y22, e22, hF⟩ := bnd hF
                refine J_adv 2 (J_callR (os := [(2000, .box 84 [.d (.sl 1 (d1.map e_i64)), .d (.int .i64 v5), .d (.bool t3), .d (.int .i64 v6)])]) (xs := [.ptr 2000 0, .agg [.d (.int .i64 y21.Op), .d (.int .i64 y21.Var), .d (.int .i64 y21.Val), .d (.int .i64 y21.Go)]]) [(31, 2000)] [.ptr 2000 0, .agg [.d (.int .i64 y21.Op), .d (.int .i64 y21.Var), .d (.int .i64 y21.Val), .d (.int .i64 y21.Go)]] [(2000, .box 84 [.d (.sl 1 (d1.map e_i64)), .d (.int .i64 y22), .d (.bool t3), .d (.int .i64 v6)])] (.tup []) (by kernel_rfl) (by kernel_rfl) en65 (Res'.refl _) (F65_ok e22) ?_)
                exact J_adv 7 (J_at [0, 5, 8, 9] [31, 32] (T0 := [.inLoop (cAt (bodyOf Tryz.f11) [1, 1, 1, 1, 1, 0, 1, 0, 0]), .inBlock 0, .code (cAt (bodyOf Tryz.f11) [1, 1, 1, 1, 1, 1])]) (by kernel_rfl) rfl (ih_F11_L1 (IntKind.i64.wrap (v4 + 1)) y22 t3 v6 hF))
              · replace hF := iff' hb19 hF
                rcases Bool.eq_false_or_eq_true (decide (y21.Op = 2)) with hb20 | hb20
                · replace hF := ift hb20 hF
                  refine J_adv 8 (J_opt1 (o := some (mlook [(.int .i64 1, [.fnc 65]), (.int .i64 2, [.fnc 66]), (.int .i64 3, [.fnc 67]), (.int .i64 4, [.fnc 68]), (.int .i64 5, [.fnc 69])] (.int .i64 y21.Op) [.nilf])) [.fnc 66] (by kernel_rfl) (by rw [of_decide_eq_true hb20]; rfl) ?_)
                  obtain ⟨y23, e23, hF⟩ := bnd hF
                  refine J_adv 2 (J_callR (os := [(2000, .box 84 [.d (.sl 1 (d1.map e_i64)), .d (.int .i64 v5), .d (.bool t3), .d (.int .i64 v6)])]) (xs := [.ptr 2000 0, .agg [.d (.int .i64 y21.Op), .d (.int .i64 y21.Var), .d (.int .i64 y21.Val), .d (.int .i64 y21.Go)]]) [(31, 2000)] [.ptr 2000 0, .agg [.d (.int .i64 y21.Op), .d (.int .i64 y21.Var), .d (.int .i64 y21.Val), .d (.int .i64 y21.Go)]] [(2000, .box 84 [.d (.sl 1 (d1.map e_i64)), .d (.int .i64 y23), .d (.bool t3), .d (.int .i64 v6)])] (.tup []) (by kernel_rfl) (by kernel_rfl) en66 (Res'.refl _) (F66_ok e23) ?_)
                  exact J_adv 7 (J_at [0, 5, 8, 9] [31, 32] (T0 := [.inLoop (cAt (bodyOf Tryz.f11) [1, 1, 1, 1, 1, 0, 1, 0, 0]), .inBlock 0, .code (cAt (bodyOf Tryz.f11) [1, 1, 1, 1, 1, 1])]) (by kernel_rfl) rfl (ih_F11_L1 (IntKind.i64.wrap (v4 + 1)) y23 t3 v6 hF))
                · replace hF := iff' hb20 hF
                  rcases Bool.eq_false_or_eq_true (decide (y21.Op = 3)) with hb21 | hb21
                  · replace hF := ift hb21 hF
                    refine J_adv 8 (J_opt1 (o := some (mlook [(.int .i64 1, [.fnc 65]), (.int .i64 2, [.fnc 66]), (.int .i64 3, [.fnc 67]), (.int .i64 4, [.fnc 68]), (.int .i64 5, [.fnc 69])] (.int .i64 y21.Op) [.nilf])) [.fnc 67] (by kernel_rfl) (by rw [of_decide_eq_true hb21]; rfl) ?_)
                    obtain ⟨y24, e24, hF⟩ := bnd hF
                    refine J_adv 2 (J_callR (os := [(2000, .box 84 [.d (.sl 1 (d1.map e_i64)), .d (.int .i64 v5), .d (.bool t3), .d (.int .i64 v6)])]) (xs := [.ptr 2000 0, .agg [.d (.int .i64 y21.Op), .d (.int .i64 y21.Var), .d (.int .i64 y21.Val), .d (.int .i64 y21.Go)]]) [(31, 2000)] [.ptr 2000 0, .agg [.d (.int .i64 y21.Op), .d (.int .i64 y21.Var), .d (.int .i64 y21.Val), .d (.int .i64 y21.Go)]] [(2000, .box 84 [.d (.sl 1 (d1.map e_i64)), .d (.int .i64 y24), .d (.bool t3), .d (.int .i64 v6)])] (.tup []) (by kernel_rfl) (by kernel_rfl) en67 (Res'.refl _) (F67_ok e24) ?_)
                    exact J_adv 7 (J_at [0, 5, 8, 9] [31, 32] (T0 := [.inLoop (cAt (bodyOf Tryz.f11) [1, 1, 1, 1, 1, 0, 1, 0, 0]), .inBlock 0, .code (cAt (bodyOf Tryz.f11) [1, 1, 1, 1, 1, 1])]) (by kernel_rfl) rfl (ih_F11_L1 (IntKind.i64.wrap (v4 + 1)) y24 t3 v6 hF))
                  · replace hF := iff' hb21 hF
                    rcases Bool.eq_false_or_eq_true (decide (y21.Op = 4)) with hb22 | hb22
                    · replace hF := ift hb22 hF
                      refine J_adv 8 (J_opt1 (o := some (mlook [(.int .i64 1, [.fnc 65]), (.int .i64 2, [.fnc 66]), (.int .i64 3, [.fnc 67]), (.int .i64 4, [.fnc 68]), (.int .i64 5, [.fnc 69])] (.int .i64 y21.Op) [.nilf])) [.fnc 68] (by kernel_rfl) (by rw [of_decide_eq_true hb22]; rfl) ?_)
                      obtain ⟨y25, e25, hF⟩ := bnd hF
                      refine J_adv 2 (J_callR (os := [(2000, .box 84 [.d (.sl 1 (d1.map e_i64)), .d (.int .i64 v5), .d (.bool t3), .d (.int .i64 v6)])]) (xs := [.ptr 2000 0, .agg [.d (.int .i64 y21.Op), .d (.int .i64 y21.Var), .d (.int .i64 y21.Val), .d (.int .i64 y21.Go)]]) [(31, 2000)] [.ptr 2000 0, .agg [.d (.int .i64 y21.Op), .d (.int .i64 y21.Var), .d (.int .i64 y21.Val), .d (.int .i64 y21.Go)]] [(2000, .box 84 [.d (.sl 1 (d1.map e_i64)), .d (.int .i64 y25), .d (.bool t3), .d (.int .i64 v6)])] (.tup []) (by kernel_rfl) (by kernel_rfl) en68 (Res'.refl _) (F68_ok e25) ?_)
                      exact J_adv 7 (J_at [0, 5, 8, 9] [31, 32] (T0 := [.inLoop (cAt (bodyOf Tryz.f11) [1, 1, 1, 1, 1, 0, 1, 0, 0]), .inBlock 0, .code (cAt (bodyOf Tryz.f11) [1, 1, 1, 1, 1, 1])]) (by kernel_rfl) rfl (ih_F11_L1 (IntKind.i64.wrap (v4 + 1)) y25 t3 v6 hF))
                    · replace hF := iff' hb22 hF
                      rcases Bool.eq_false_or_eq_true (decide (y21.Op = 5)) with hb23 | hb23
                      · replace hF := ift hb23 hF
                        refine J_adv 8 (J_opt1 (o := some (mlook [(.int .i64 1, [.fnc 65]), (.int .i64 2, [.fnc 66]), (.int .i64 3, [.fnc 67]), (.int .i64 4, [.fnc 68]), (.int .i64 5, [.fnc 69])] (.int .i64 y21.Op) [.nilf])) [.fnc 69] (by kernel_rfl) (by rw [of_decide_eq_true hb23]; rfl) ?_)
                        obtain ⟨y26, e26, hF⟩ := bnd hF
                        refine J_adv 2 (J_callR (os := [(2000, .box 84 [.d (.sl 1 (d1.map e_i64)), .d (.int .i64 v5), .d (.bool t3), .d (.int .i64 v6)])]) (xs := [.ptr 2000 0, .agg [.d (.int .i64 y21.Op), .d (.int .i64 y21.Var), .d (.int .i64 y21.Val), .d (.int .i64 y21.Go)]]) [(31, 2000)] [.ptr 2000 0, .agg [.d (.int .i64 y21.Op), .d (.int .i64 y21.Var), .d (.int .i64 y21.Val), .d (.int .i64 y21.Go)]] [(2000, .box 84 [.d (.sl 1 (d1.map e_i64)), .d (.int .i64 v5), .d (.bool y26.1), .d (.int .i64 y26.2)])] (.tup []) (by kernel_rfl) (by kernel_rfl) en69 (Res'.refl _) (F69_ok e26) ?_)
                        exact J_adv 7 (J_at [0, 5, 8, 9] [31, 32] (T0 := [.inLoop (cAt (bodyOf Tryz.f11) [1, 1, 1, 1, 1, 0, 1, 0, 0]), .inBlock 0, .code (cAt (bodyOf Tryz.f11) [1, 1, 1, 1, 1, 1])]) (by kernel_rfl) rfl (ih_F11_L1 (IntKind.i64.wrap (v4 + 1)) v5 y26.1 y26.2 hF))
                      · replace hF := iff' hb23 hF
                        cases hF
            · replace hF := iff' hb18 hF
              have hr_ := Option.some.inj hF; subst hr_
              exact J_adv 13 (J_ret (xs := [.d (.int .i64 v6), .d (.int .i64 v4), .d (.int .i64 0)]) [.d (.int .i64 v6), .d (.int .i64 v4), .d (.int .i64 0)] rfl rfl (by kernel_rfl) (Res'.refl _) rfl)
        exact J_adv 4 (J_at [0, 5, 8, 9] [31, 32] (T0 := [.inLoop (cAt (bodyOf Tryz.f11) [1, 1, 1, 1, 1, 0, 1, 0, 0]), .inBlock 0, .code (cAt (bodyOf Tryz.f11) [1, 1, 1, 1, 1, 1])]) (by kernel_rfl) rfl (hF11_L1 fuel 0 0 false 0 hF))
    clear hF; rename _ = some o1 => hF
    obtain ⟨y27, e27, hF⟩ := bnd hF
    refine J_adv 12 (J_callF (xs := [.d (.int .i64 ((d1.map e_i64).length : Int)), .d (.int .i64 1), .d (.int .i64 4)]) [.d (.int .i64 ((d1.map e_i64).length : Int)), .d (.int .i64 1), .d (.int .i64 4)] (.d (.bool y27)) (by kernel_rfl) en33 (Res'.refl _) (F33_ok e27) ?_)
    refine J_adv 2 (J_bool 19 (b := !y27) (by kernel_rfl) (fun hb24 => ?_) (fun hb24 => ?_))
    · replace hF := ift hb24 hF
      refine J_adv 8 (J_frz (te := 25) 3 [.d (.sl 1 (d1.map e_i64))] (by kernel_rfl) (by kernel_rfl) ?_)
      have hr_ := Option.some.inj hF; subst hr_
      exact J_adv 0 (J_at [0, 3, 5, 27] [3] (T0 := [.ops (opsOf (cAt (bodyOf Tryz.f11) [1, 1, 1, 0, 0])) [], .code (cAt (bodyOf Tryz.f11) [1, 1, 1, 0, 1]), .code (cAt (bodyOf Tryz.f11) [1, 1, 1, 1])]) (by kernel_rfl) rfl hR1)
    · replace hF := iff' hb24 hF
      obtain ⟨y28, e28, hF⟩ := bnd hF
      refine J_adv 1 (J_callF (xs := [.d (.sl 1 (d1.map e_i64)), .d (.fnc 35)]) [.d (.sl 1 (d1.map e_i64)), .d (.fnc 35)] (.d (.bool y28)) (by kernel_rfl) en34 (Res'.refl _) (F34_ok e28) ?_)
      refine J_adv 2 (J_bool 23 (b := y28) (by kernel_rfl) (fun hb25 => ?_) (fun hb25 => ?_))
      · replace hF := ift hb25 hF
        refine J_adv 4 (J_frz (te := 25) 3 [.d (.sl 1 (d1.map e_i64))] (by kernel_rfl) (by kernel_rfl) ?_)
        have hr_ := Option.some.inj hF; subst hr_
        exact J_adv 0 (J_at [0, 3, 5, 27] [3] (T0 := [.ops (opsOf (cAt (bodyOf Tryz.f11) [1, 1, 1, 0, 0])) [], .code (cAt (bodyOf Tryz.f11) [1, 1, 1, 0, 1]), .code (cAt (bodyOf Tryz.f11) [1, 1, 1, 1])]) (by kernel_rfl) rfl hR1)
      · replace hF := iff' hb25 hF
        obtain ⟨y29, e29, hF⟩ := bnd hF
        refine J_adv 2 (J_callF (xs := [.d (.sl 4 (d0.map e_T_api_Instr)), .fn 32 [] [.rp [.sl 1 (d1.map e_i64)] 0]]) [.d (.sl 4 (d0.map e_T_api_Instr)), .fn 32 [] [.rp [.sl 1 (d1.map e_i64)] 0]] (.d (.bool y29)) (by kernel_rfl) en36 (Res'.refl _) (F36_ok e29) ?_)
        have hr_ := Option.some.inj hF; subst hr_
        exact J_adv 1 (J_at [0, 3, 5, 27] [3] (T0 := [.ops (opsOf (cAt (bodyOf Tryz.f11) [1, 1, 1, 0, 0])) [], .code (cAt (bodyOf Tryz.f11) [1, 1, 1, 0, 1]), .code (cAt (bodyOf Tryz.f11) [1, 1, 1, 1])]) (by kernel_rfl) rfl hR1)

/- croupier/croupierlaw31.runs -/
def F29 (fuel : Nat) (d0 : List T_api_Instr) (d1 : Int) (d2 : Int) (d3 : List Int) : Option Bool :=
  Option.bind (F11 fuel d0 d3) fun y1 =>
  Option.bind (
    bif y1.1 == d1 then
      (bif y1.2.1 == d2 then
        (some (y1.2.2 == 0))
      else
        (some false))
    else
      (some false)) fun o1 =>
  some o1
theorem F29_ok {fuel : Nat} {d0 : List T_api_Instr} {d1 : Int} {d2 : Int} {d3 : List Int} {r : Bool} (hF : F29 fuel d0 d1 d2 d3 = some r) :
    CallF Tryz.prog 29 [.d (.sl 4 (d0.map e_T_api_Instr)), .d (.int .i64 d1), .d (.int .i64 d2), .d (.sl 1 (d3.map e_i64))] (.d (.bool r)) := by
  unfold F29 at hF
  refine callF_of (N := 31) (b := bodyOf Tryz.f29) Tryz.func29 (by kernel_rfl) rfl rfl ?_
  obtain ⟨y1, e1, hF⟩ := bnd hF
  refine J_adv 8 (J_callF (xs := [.d (.sl 4 (d0.map e_T_api_Instr)), .d (.sl 1 (d3.map e_i64))]) [.d (.sl 4 (d0.map e_T_api_Instr)), .d (.sl 1 (d3.map e_i64))] (.tup [.d (.int .i64 y1.1), .d (.int .i64 y1.2.1), .d (.int .i64 y1.2.2)]) (by kernel_rfl) en11 (Res'.refl _) (F11_ok e1) ?_)
  obtain ⟨o1, hO, hF⟩ := bnd hF
  have hR1 : J none Tryz.prog 31 [] (finF Tryz.prog Tryz.f29 (.d (.bool r))) ⟨mkT [(8, .d (.bool o1))], [], [.ops (opsOf (cAt (bodyOf Tryz.f29) [1, 1, 0])) [], .code (cAt (bodyOf Tryz.f29) [1, 1, 1])]⟩ := by
    clear hO
    have hr_ := Option.some.inj hF; subst hr_
    exact J_adv 1 (J_ret (xs := [.d (.bool o1)]) [.d (.bool o1)] rfl rfl (by kernel_rfl) (Res'.refl _) rfl)
  clear hF; rename _ = some o1 => hF
  refine J_adv 14 (J_bool 22 (b := y1.1 == d1) (by kernel_rfl) (fun hb5 => ?_) (fun hb5 => ?_))
  · replace hF := ift hb5 hF
    refine J_adv 5 (J_bool 27 (b := y1.2.1 == d2) (by kernel_rfl) (fun hb6 => ?_) (fun hb6 => ?_))
    · replace hF := ift hb6 hF
      have hr_ := Option.some.inj hF; subst hr_
      exact J_adv 4 (J_at [8] [] (T0 := [.ops (opsOf (cAt (bodyOf Tryz.f29) [1, 1, 0])) [], .code (cAt (bodyOf Tryz.f29) [1, 1, 1])]) (by kernel_rfl) rfl hR1)
    · replace hF := iff' hb6 hF
      have hr_ := Option.some.inj hF; subst hr_
      exact J_adv 4 (J_at [8] [] (T0 := [.ops (opsOf (cAt (bodyOf Tryz.f29) [1, 1, 0])) [], .code (cAt (bodyOf Tryz.f29) [1, 1, 1])]) (by kernel_rfl) rfl hR1)
  · replace hF := iff' hb5 hF
    have hr_ := Option.some.inj hF; subst hr_
    exact J_adv 9 (J_at [8] [] (T0 := [.ops (opsOf (cAt (bodyOf Tryz.f29) [1, 1, 0])) [], .code (cAt (bodyOf Tryz.f29) [1, 1, 1])]) (by kernel_rfl) rfl hR1)

/- croupier/croupierlaw31.wakes -/
def F8 (fuel : Nat) : Option Bool :=
  Option.bind (F30) fun y1 =>
  Option.bind (F25 fuel y1) fun y2 =>
  Option.bind (F18 fuel y2.1) fun y3 =>
  Option.bind (F15 fuel [108, 101, 32, 48, 32, 49, 32, 50, 10, 103, 111, 32, 51, 10, 97, 99, 116, 32, 50, 10, 97, 99, 116, 32, 51, 10]) fun y4 =>
  Option.bind (F27 1) fun y5 =>
  Option.bind (F27 2) fun y6 =>
  Option.bind (F20 fuel [(⟨4, 0, 0, 2⟩ : T_api_Instr), y5, y6]) fun y7 =>
  Option.bind (
    bif y2.2 == 0 then
      (bif y3.2 == 0 then
        (bif y4.2 == 0 then
          (bif y7.2 == 0 then
            (bif y3.1 == [108, 101, 32, 48, 32, 49, 32, 50, 10, 103, 111, 32, 51, 10, 97, 99, 116, 32, 50, 10, 97, 99, 116, 32, 51, 10] then
              (Option.bind (F17 fuel y2.1 y4.1) fun y18 =>
              bif y18 then
                (Option.bind (F29 fuel y2.1 2 2 [1]) fun y19 =>
                bif y19 then
                  (Option.bind (F29 fuel y2.1 3 3 [5]) fun y20 =>
                  bif y20 then
                    (Option.bind (F27 2) fun y21 =>
                    Option.bind (F17 fuel y7.1 [(⟨4, 0, 0, 1⟩ : T_api_Instr), y21]) fun y22 =>
                    some y22)
                  else
                    (some false))
                else
                  (some false))
              else
                (some false))
            else
              (some false))
          else
            (some false))
        else
          (some false))
      else
        (some false))
    else
      (some false)) fun o1 =>
  some o1
theorem F8_ok {fuel : Nat} {r : Bool} (hF : F8 fuel = some r) :
    CallF Tryz.prog 8 [] (.d (.bool r)) := by
  unfold F8 at hF
  refine callF_of (N := 71) (b := bodyOf Tryz.f8) Tryz.func8 (by kernel_rfl) rfl rfl ?_
  obtain ⟨y1, e1, hF⟩ := bnd hF
  refine J_adv 6 (J_callF (xs := []) [] (.agg [.d (.sl 4 (y1.List.map e_T_api_Rule)), .d (.int .i64 y1.Else)]) (by kernel_rfl) en30 (Res'.refl _) (F30_ok e1) ?_)
  obtain ⟨y2, e2, hF⟩ := bnd hF
  refine J_adv 0 (J_callF (xs := [.agg [.d (.sl 4 (y1.List.map e_T_api_Rule)), .d (.int .i64 y1.Else)]]) [.agg [.d (.sl 4 (y1.List.map e_T_api_Rule)), .d (.int .i64 y1.Else)]] (.tup [.d (.sl 4 (y2.1.map e_T_api_Instr)), .d (.int .i64 y2.2)]) (by kernel_rfl) en25 (Res'.refl _) (F25_ok e2) ?_)
  obtain ⟨y3, e3, hF⟩ := bnd hF
  refine J_adv 9 (J_callF (xs := [.d (.sl 4 (y2.1.map e_T_api_Instr))]) [.d (.sl 4 (y2.1.map e_T_api_Instr))] (.tup [.d (.str y3.1), .d (.int .i64 y3.2)]) (by kernel_rfl) en18 (Res'.refl _) (F18_ok e3) ?_)
  obtain ⟨y4, e4, hF⟩ := bnd hF
  refine J_adv 8 (J_callF (xs := [.d (.str [108, 101, 32, 48, 32, 49, 32, 50, 10, 103, 111, 32, 51, 10, 97, 99, 116, 32, 50, 10, 97, 99, 116, 32, 51, 10])]) [.d (.str [108, 101, 32, 48, 32, 49, 32, 50, 10, 103, 111, 32, 51, 10, 97, 99, 116, 32, 50, 10, 97, 99, 116, 32, 51, 10])] (.tup [.d (.sl 4 (y4.1.map e_T_api_Instr)), .d (.int .i64 y4.2)]) (by kernel_rfl) en15 (Res'.refl _) (F15_ok e4) ?_)
  obtain ⟨y5, e5, hF⟩ := bnd hF
  refine J_adv 9 (J_callF (xs := [.d (.int .i64 1)]) [.d (.int .i64 1)] (.agg [.d (.int .i64 y5.Op), .d (.int .i64 y5.Var), .d (.int .i64 y5.Val), .d (.int .i64 y5.Go)]) (by kernel_rfl) en27 (Res'.refl _) (F27_ok e5) ?_)
  obtain ⟨y6, e6, hF⟩ := bnd hF
  refine J_adv 0 (J_callF (xs := [.d (.int .i64 2)]) [.d (.int .i64 2)] (.agg [.d (.int .i64 y6.Op), .d (.int .i64 y6.Var), .d (.int .i64 y6.Val), .d (.int .i64 y6.Go)]) (by kernel_rfl) en27 (Res'.refl _) (F27_ok e6) ?_)
  obtain ⟨y7, e7, hF⟩ := bnd hF
  refine J_adv 1 (J_callF (xs := [.d (.sl 4 ([(⟨4, 0, 0, 2⟩ : T_api_Instr), y5, y6].map e_T_api_Instr))]) [.d (.sl 4 ([(⟨4, 0, 0, 2⟩ : T_api_Instr), y5, y6].map e_T_api_Instr))] (.tup [.d (.sl 4 (y7.1.map e_T_api_Instr)), .d (.int .i64 y7.2)]) (by kernel_rfl) en20 (Res'.refl _) (F20_ok e7) ?_)
  obtain ⟨o1, hO, hF⟩ := bnd hF
  have hR1 : J none Tryz.prog 71 [] (finF Tryz.prog Tryz.f8 (.d (.bool r))) ⟨mkT [(0, .d (.bool o1))], [], [.ops (opsOf (cAt (bodyOf Tryz.f8) [1, 1, 1, 1, 1, 0])) [], .code (cAt (bodyOf Tryz.f8) [1, 1, 1, 1, 1, 1])]⟩ := by
    clear hO
    have hr_ := Option.some.inj hF; subst hr_
    exact J_adv 1 (J_ret (xs := [.d (.bool o1)]) [.d (.bool o1)] rfl rfl (by kernel_rfl) (Res'.refl _) rfl)
  clear hF; rename _ = some o1 => hF
  refine J_adv 11 (J_bool 33 (b := y2.2 == 0) (by kernel_rfl) (fun hb17 => ?_) (fun hb17 => ?_))
  · replace hF := ift hb17 hF
    refine J_adv 4 (J_bool 37 (b := y3.2 == 0) (by kernel_rfl) (fun hb18 => ?_) (fun hb18 => ?_))
    · replace hF := ift hb18 hF
      refine J_adv 4 (J_bool 41 (b := y4.2 == 0) (by kernel_rfl) (fun hb19 => ?_) (fun hb19 => ?_))
      · replace hF := ift hb19 hF
        refine J_adv 4 (J_bool 45 (b := y7.2 == 0) (by kernel_rfl) (fun hb20 => ?_) (fun hb20 => ?_))
        · replace hF := ift hb20 hF
          refine J_adv 4 (J_bool 49 (b := y3.1 == [108, 101, 32, 48, 32, 49, 32, 50, 10, 103, 111, 32, 51, 10, 97, 99, 116, 32, 50, 10, 97, 99, 116, 32, 51, 10]) (by kernel_rfl) (fun hb21 => ?_) (fun hb21 => ?_))
          · replace hF := ift hb21 hF
            obtain ⟨y18, e18, hF⟩ := bnd hF
            refine J_adv 2 (J_callF (xs := [.d (.sl 4 (y2.1.map e_T_api_Instr)), .d (.sl 4 (y4.1.map e_T_api_Instr))]) [.d (.sl 4 (y2.1.map e_T_api_Instr)), .d (.sl 4 (y4.1.map e_T_api_Instr))] (.d (.bool y18)) (by kernel_rfl) en17 (Res'.refl _) (F17_ok e18) ?_)
            refine J_adv 2 (J_bool 54 (b := y18) (by kernel_rfl) (fun hb22 => ?_) (fun hb22 => ?_))
            · replace hF := ift hb22 hF
              obtain ⟨y19, e19, hF⟩ := bnd hF
              refine J_adv 2 (J_callF (xs := [.d (.sl 4 (y2.1.map e_T_api_Instr)), .d (.int .i64 2), .d (.int .i64 2), .d (.sl 1 ([1].map e_i64))]) [.d (.sl 4 (y2.1.map e_T_api_Instr)), .d (.int .i64 2), .d (.int .i64 2), .d (.sl 1 ([1].map e_i64))] (.d (.bool y19)) (by kernel_rfl) en29 (Res'.refl _) (F29_ok e19) ?_)
              refine J_adv 2 (J_bool 59 (b := y19) (by kernel_rfl) (fun hb23 => ?_) (fun hb23 => ?_))
              · replace hF := ift hb23 hF
                obtain ⟨y20, e20, hF⟩ := bnd hF
                refine J_adv 2 (J_callF (xs := [.d (.sl 4 (y2.1.map e_T_api_Instr)), .d (.int .i64 3), .d (.int .i64 3), .d (.sl 1 ([5].map e_i64))]) [.d (.sl 4 (y2.1.map e_T_api_Instr)), .d (.int .i64 3), .d (.int .i64 3), .d (.sl 1 ([5].map e_i64))] (.d (.bool y20)) (by kernel_rfl) en29 (Res'.refl _) (F29_ok e20) ?_)
                refine J_adv 2 (J_bool 64 (b := y20) (by kernel_rfl) (fun hb24 => ?_) (fun hb24 => ?_))
                · replace hF := ift hb24 hF
                  obtain ⟨y21, e21, hF⟩ := bnd hF
                  refine J_adv 2 (J_callF (xs := [.d (.int .i64 2)]) [.d (.int .i64 2)] (.agg [.d (.int .i64 y21.Op), .d (.int .i64 y21.Var), .d (.int .i64 y21.Val), .d (.int .i64 y21.Go)]) (by kernel_rfl) en27 (Res'.refl _) (F27_ok e21) ?_)
                  obtain ⟨y22, e22, hF⟩ := bnd hF
                  refine J_adv 1 (J_callF (xs := [.d (.sl 4 (y7.1.map e_T_api_Instr)), .d (.sl 4 ([(⟨4, 0, 0, 1⟩ : T_api_Instr), y21].map e_T_api_Instr))]) [.d (.sl 4 (y7.1.map e_T_api_Instr)), .d (.sl 4 ([(⟨4, 0, 0, 1⟩ : T_api_Instr), y21].map e_T_api_Instr))] (.d (.bool y22)) (by kernel_rfl) en17 (Res'.refl _) (F17_ok e22) ?_)
                  have hr_ := Option.some.inj hF; subst hr_
                  exact J_adv 2 (J_at [0] [] (T0 := [.ops (opsOf (cAt (bodyOf Tryz.f8) [1, 1, 1, 1, 1, 0])) [], .code (cAt (bodyOf Tryz.f8) [1, 1, 1, 1, 1, 1])]) (by kernel_rfl) rfl hR1)
                · replace hF := iff' hb24 hF
                  have hr_ := Option.some.inj hF; subst hr_
                  exact J_adv 7 (J_at [0] [] (T0 := [.ops (opsOf (cAt (bodyOf Tryz.f8) [1, 1, 1, 1, 1, 0])) [], .code (cAt (bodyOf Tryz.f8) [1, 1, 1, 1, 1, 1])]) (by kernel_rfl) rfl hR1)
              · replace hF := iff' hb23 hF
                have hr_ := Option.some.inj hF; subst hr_
                exact J_adv 12 (J_at [0] [] (T0 := [.ops (opsOf (cAt (bodyOf Tryz.f8) [1, 1, 1, 1, 1, 0])) [], .code (cAt (bodyOf Tryz.f8) [1, 1, 1, 1, 1, 1])]) (by kernel_rfl) rfl hR1)
            · replace hF := iff' hb22 hF
              have hr_ := Option.some.inj hF; subst hr_
              exact J_adv 17 (J_at [0] [] (T0 := [.ops (opsOf (cAt (bodyOf Tryz.f8) [1, 1, 1, 1, 1, 0])) [], .code (cAt (bodyOf Tryz.f8) [1, 1, 1, 1, 1, 1])]) (by kernel_rfl) rfl hR1)
          · replace hF := iff' hb21 hF
            have hr_ := Option.some.inj hF; subst hr_
            exact J_adv 22 (J_at [0] [] (T0 := [.ops (opsOf (cAt (bodyOf Tryz.f8) [1, 1, 1, 1, 1, 0])) [], .code (cAt (bodyOf Tryz.f8) [1, 1, 1, 1, 1, 1])]) (by kernel_rfl) rfl hR1)
        · replace hF := iff' hb20 hF
          have hr_ := Option.some.inj hF; subst hr_
          exact J_adv 26 (J_at [0] [] (T0 := [.ops (opsOf (cAt (bodyOf Tryz.f8) [1, 1, 1, 1, 1, 0])) [], .code (cAt (bodyOf Tryz.f8) [1, 1, 1, 1, 1, 1])]) (by kernel_rfl) rfl hR1)
      · replace hF := iff' hb19 hF
        have hr_ := Option.some.inj hF; subst hr_
        exact J_adv 30 (J_at [0] [] (T0 := [.ops (opsOf (cAt (bodyOf Tryz.f8) [1, 1, 1, 1, 1, 0])) [], .code (cAt (bodyOf Tryz.f8) [1, 1, 1, 1, 1, 1])]) (by kernel_rfl) rfl hR1)
    · replace hF := iff' hb18 hF
      have hr_ := Option.some.inj hF; subst hr_
      exact J_adv 34 (J_at [0] [] (T0 := [.ops (opsOf (cAt (bodyOf Tryz.f8) [1, 1, 1, 1, 1, 0])) [], .code (cAt (bodyOf Tryz.f8) [1, 1, 1, 1, 1, 1])]) (by kernel_rfl) rfl hR1)
  · replace hF := iff' hb17 hF
    have hr_ := Option.some.inj hF; subst hr_
    exact J_adv 38 (J_at [0] [] (T0 := [.ops (opsOf (cAt (bodyOf Tryz.f8) [1, 1, 1, 1, 1, 0])) [], .code (cAt (bodyOf Tryz.f8) [1, 1, 1, 1, 1, 1])]) (by kernel_rfl) rfl hR1)

end Go.Proofs.YtilfjfpemjfalaaGreatDoor
