import Derived.Test.YtljkgnjmigmcgaaRya
import Derived.Test.YtljkgnjmigmcgaaProg
import Derived.KernelRfl
set_option linter.unusedVariables false
set_option maxRecDepth 100000
namespace Go.Proofs.Ytljkgnjmigmcgaa
open Go Go.RowKit Kx

theorem en47 : entersT Try.prog 47 := enters_of Try.func47 (by kernel_rfl) (by kernel_rfl)
theorem en56 : entersT Try.prog 56 := enters_of Try.func56 (by kernel_rfl) (by kernel_rfl)
theorem en59 : entersT Try.prog 59 := enters_of Try.func59 (by kernel_rfl) (by kernel_rfl)
theorem en55 : entersT Try.prog 55 := enters_of Try.func55 (by kernel_rfl) (by kernel_rfl)
theorem en45 : entersT Try.prog 45 := enters_of Try.func45 (by kernel_rfl) (by kernel_rfl)
theorem en33 : entersT Try.prog 33 := enters_of Try.func33 (by kernel_rfl) (by kernel_rfl)
theorem en36 : entersT Try.prog 36 := enters_of Try.func36 (by kernel_rfl) (by kernel_rfl)
theorem en51 : entersT Try.prog 51 := enters_of Try.func51 (by kernel_rfl) (by kernel_rfl)
theorem en37 : entersT Try.prog 37 := enters_of Try.func37 (by kernel_rfl) (by kernel_rfl)
theorem en58 : entersT Try.prog 58 := enters_of Try.func58 (by kernel_rfl) (by kernel_rfl)
theorem en60 : entersT Try.prog 60 := enters_of Try.func60 (by kernel_rfl) (by kernel_rfl)
theorem en61 : entersT Try.prog 61 := enters_of Try.func61 (by kernel_rfl) (by kernel_rfl)
theorem en62 : entersT Try.prog 62 := enters_of Try.func62 (by kernel_rfl) (by kernel_rfl)
theorem en52 : entersT Try.prog 52 := enters_of Try.func52 (by kernel_rfl) (by kernel_rfl)
theorem en39 : entersT Try.prog 39 := enters_of Try.func39 (by kernel_rfl) (by kernel_rfl)
theorem en38 : entersT Try.prog 38 := enters_of Try.func38 (by kernel_rfl) (by kernel_rfl)
theorem en49 : entersT Try.prog 49 := enters_of Try.func49 (by kernel_rfl) (by kernel_rfl)
theorem en57 : entersT Try.prog 57 := enters_of Try.func57 (by kernel_rfl) (by kernel_rfl)
theorem en48 : entersT Try.prog 48 := enters_of Try.func48 (by kernel_rfl) (by kernel_rfl)
theorem en32 : entersT Try.prog 32 := enters_of Try.func32 (by kernel_rfl) (by kernel_rfl)
theorem en50 : entersT Try.prog 50 := enters_of Try.func50 (by kernel_rfl) (by kernel_rfl)
theorem en34 : entersT Try.prog 34 := enters_of Try.func34 (by kernel_rfl) (by kernel_rfl)
theorem en46 : entersT Try.prog 46 := enters_of Try.func46 (by kernel_rfl) (by kernel_rfl)
theorem en24 : entersT Try.prog 24 := enters_of Try.func24 (by kernel_rfl) (by kernel_rfl)
theorem en29 : entersT Try.prog 29 := enters_of Try.func29 (by kernel_rfl) (by kernel_rfl)
theorem en35 : entersT Try.prog 35 := enters_of Try.func35 (by kernel_rfl) (by kernel_rfl)
theorem en17 : entersT Try.prog 17 := enters_of Try.func17 (by kernel_rfl) (by kernel_rfl)
theorem en19 : entersT Try.prog 19 := enters_of Try.func19 (by kernel_rfl) (by kernel_rfl)
theorem en42 : entersT Try.prog 42 := enters_of Try.func42 (by kernel_rfl) (by kernel_rfl)
theorem en21 : entersT Try.prog 21 := enters_of Try.func21 (by kernel_rfl) (by kernel_rfl)
theorem en43 : entersT Try.prog 43 := enters_of Try.func43 (by kernel_rfl) (by kernel_rfl)
theorem en31 : entersT Try.prog 31 := enters_of Try.func31 (by kernel_rfl) (by kernel_rfl)
theorem en14 : entersT Try.prog 14 := enters_of Try.func14 (by kernel_rfl) (by kernel_rfl)
theorem en22 : entersT Try.prog 22 := enters_of Try.func22 (by kernel_rfl) (by kernel_rfl)
theorem en30 : entersT Try.prog 30 := enters_of Try.func30 (by kernel_rfl) (by kernel_rfl)

structure T_api_Rule where
  Var : Int
  Test : Int
  Val : Int
  Then : Int
  deriving DecidableEq
structure T_api_Rules where
  List : List T_api_Rule
  Else : Int
  deriving DecidableEq
def e_T_api_Rule (x : T_api_Rule) : List Dat := [.int .i64 x.Var, .int .i64 x.Test, .int .i64 x.Val, .int .i64 x.Then]
def e_i64 (x : Int) : List Dat := [.int .i64 x]
def e_li64 (x : List Int) : List Dat := [.sl 1 (x.map e_i64)]
/- croupier/rules.in -/
def F47 (d0 : Int) (d1 : Int) (d2 : Int) : Option Bool :=
  Option.bind (
    bif decide (d0 ≥ d1) then
      (some (decide (d0 ≤ d2)))
    else
      (some false)) fun o1 =>
  some o1
theorem F47_ok {d0 : Int} {d1 : Int} {d2 : Int} {r : Bool} (hF : F47 d0 d1 d2 = some r) :
    CallF Try.prog 47 [.d (.int .i64 d0), .d (.int .i64 d1), .d (.int .i64 d2)] (.d (.bool r)) := by
  unfold F47 at hF
  refine callF_of (N := 15) (b := bodyOf Try.f47) Try.func47 (by kernel_rfl) rfl rfl ?_
  obtain ⟨o1, hO, hF⟩ := bnd hF
  have hR1 : J none Try.prog 15 [] (finF Try.prog Try.f47 (.d (.bool r))) ⟨mkT [(6, .d (.bool o1))], [], [.ops (opsOf (cAt (bodyOf Try.f47) [1, 0])) [], .code (cAt (bodyOf Try.f47) [1, 1])]⟩ := by
    clear hO
    have hr_ := Option.some.inj hF; subst hr_
    exact J_adv 1 (J_ret (xs := [.d (.bool o1)]) [.d (.bool o1)] rfl rfl (by kernel_rfl) (Res'.refl _) rfl)
  clear hF; rename _ = some o1 => hF
  refine J_adv 10 (J_bool 10 (b := decide (d0 ≥ d1)) (by kernel_rfl) (fun hb3 => ?_) (fun hb3 => ?_))
  · replace hF := ift hb3 hF
    have hr_ := Option.some.inj hF; subst hr_
    exact J_adv 5 (J_at [6] [] (T0 := [.ops (opsOf (cAt (bodyOf Try.f47) [1, 0])) [], .code (cAt (bodyOf Try.f47) [1, 1])]) (by kernel_rfl) rfl hR1)
  · replace hF := iff' hb3 hF
    have hr_ := Option.some.inj hF; subst hr_
    exact J_adv 5 (J_at [6] [] (T0 := [.ops (opsOf (cAt (bodyOf Try.f47) [1, 0])) [], .code (cAt (bodyOf Try.f47) [1, 1])]) (by kernel_rfl) rfl hR1)

/- croupier/rules.row$1 -/
def F56 (d0 : Int) : Option Bool :=
  Option.bind (F47 d0 (-99) 99) fun y1 =>
  some (!y1)
theorem F56_ok {d0 : Int} {r : Bool} (hF : F56 d0 = some r) :
    CallF Try.prog 56 [.d (.int .i64 d0)] (.d (.bool r)) := by
  unfold F56 at hF
  refine callF_of (N := 6) (b := bodyOf Try.f56) Try.func56 (by kernel_rfl) rfl rfl ?_
  obtain ⟨y1, e1, hF⟩ := bnd hF
  refine J_adv 7 (J_callF (xs := [.d (.int .i64 d0), .d (.int .i64 (-99)), .d (.int .i64 99)]) [.d (.int .i64 d0), .d (.int .i64 (-99)), .d (.int .i64 99)] (.d (.bool y1)) (by kernel_rfl) en47 (Res'.refl _) (F47_ok e1) ?_)
  have hr_ := Option.some.inj hF; subst hr_
  exact J_adv 3 (J_ret (xs := [.d (.bool (!y1))]) [.d (.bool (!y1))] rfl rfl (by kernel_rfl) (Res'.refl _) rfl)

/- slices.IndexFunc(()int,int) -/
def F59_L1 (d0 : List Int) : Nat → Int → Option Int
  | 0, _ => none
  | n_F59_L1 + 1, v2 =>
    bif decide (v2 < ((d0.map e_i64).length : Int)) then
      (Option.bind (geti d0 v2) fun y5 =>
      Option.bind (F56 y5) fun y6 =>
      bif y6 then
        (some v2)
      else
        ((F59_L1 d0 n_F59_L1) (IntKind.i64.wrap (v2 + 1))))
    else
      (some (-1))
def F59 (fuel : Nat) (d0 : List Int) : Option Int :=
  F59_L1 d0 fuel 0
theorem F59_ok {fuel : Nat} {d0 : List Int} {r : Int} (hF : F59 fuel d0 = some r) :
    CallF Try.prog 59 [.d (.sl 1 (d0.map e_i64)), .d (.fnc 56)] (.d (.int .i64 r)) := by
  unfold F59 at hF
  refine callF_of (N := 19) (b := bodyOf Try.f59) Try.func59 (by kernel_rfl) rfl rfl ?_
  have hF59_L1 : ∀ (n_F59_L1 : Nat) (v2 : Int), F59_L1 d0 n_F59_L1 v2 = some r → J none Try.prog 19 [] (finF Try.prog Try.f59 (.d (.int .i64 r))) ⟨mkT [(0, .d (.sl 1 (d0.map e_i64))), (1, .d (.fnc 56)), (7, .d (.int .i64 ((d0.map e_i64).length : Int))), (8, .d (.int .i64 v2))], [], [.inLoop (cAt (bodyOf Try.f59) [1, 0, 1, 0, 0]), .inBlock 0, .code (cAt (bodyOf Try.f59) [1, 1])]⟩ := by
    clear hF; intro n_F59_L1
    induction n_F59_L1 with
    | zero => intro v2 hF; cases hF
    | succ n_F59_L1 ih_F59_L1 =>
      intro v2 hF
      rw [F59_L1] at hF
      refine J_adv 6 (J_bool 9 (b := decide (v2 < ((d0.map e_i64).length : Int))) (by kernel_rfl) (fun hb5 => ?_) (fun hb5 => ?_))
      · replace hF := ift hb5 hF
        obtain ⟨y5, e5, hF⟩ := bnd hF
        refine J_adv 14 (J_opt1 (o := geti (d0.map e_i64) v2) (e_i64 y5) (by kernel_rfl) (gm e5) ?_)
        obtain ⟨y6, e6, hF⟩ := bnd hF
        refine J_adv 1 (J_callF (xs := [.d (.int .i64 y5)]) [.d (.int .i64 y5)] (.d (.bool y6)) (by kernel_rfl) en56 (Res'.refl _) (F56_ok e6) ?_)
        refine J_adv 1 (J_bool 16 (b := y6) (by kernel_rfl) (fun hb6 => ?_) (fun hb6 => ?_))
        · replace hF := ift hb6 hF
          have hr_ := Option.some.inj hF; subst hr_
          exact J_adv 6 (J_ret (xs := [.d (.int .i64 v2)]) [.d (.int .i64 v2)] rfl rfl (by kernel_rfl) (Res'.refl _) rfl)
        · replace hF := iff' hb6 hF
          exact J_adv 7 (J_at [0, 1, 7, 8] [] (T0 := [.inLoop (cAt (bodyOf Try.f59) [1, 0, 1, 0, 0]), .inBlock 0, .code (cAt (bodyOf Try.f59) [1, 1])]) (by kernel_rfl) rfl (ih_F59_L1 (IntKind.i64.wrap (v2 + 1)) hF))
      · replace hF := iff' hb5 hF
        have hr_ := Option.some.inj hF; subst hr_
        exact J_adv 6 (J_ret (xs := [.d (.int .i64 (-1))]) [.d (.int .i64 (-1))] rfl rfl (by kernel_rfl) (Res'.refl _) rfl)
  exact J_adv 13 (J_at [0, 1, 7, 8] [] (T0 := [.inLoop (cAt (bodyOf Try.f59) [1, 0, 1, 0, 0]), .inBlock 0, .code (cAt (bodyOf Try.f59) [1, 1])]) (by kernel_rfl) rfl (hF59_L1 fuel 0 hF))

/- slices.ContainsFunc(()int,int) -/
def F55 (fuel : Nat) (d0 : List Int) : Option Bool :=
  Option.bind (F59 fuel d0) fun y1 =>
  some (decide (y1 ≥ 0))
theorem F55_ok {fuel : Nat} {d0 : List Int} {r : Bool} (hF : F55 fuel d0 = some r) :
    CallF Try.prog 55 [.d (.sl 1 (d0.map e_i64)), .d (.fnc 56)] (.d (.bool r)) := by
  unfold F55 at hF
  refine callF_of (N := 9) (b := bodyOf Try.f55) Try.func55 (by kernel_rfl) rfl rfl ?_
  obtain ⟨y1, e1, hF⟩ := bnd hF
  refine J_adv 8 (J_callF (xs := [.d (.sl 1 (d0.map e_i64)), .d (.fnc 56)]) [.d (.sl 1 (d0.map e_i64)), .d (.fnc 56)] (.d (.int .i64 y1)) (by kernel_rfl) en59 (Res'.refl _) (F59_ok e1) ?_)
  have hr_ := Option.some.inj hF; subst hr_
  exact J_adv 3 (J_ret (xs := [.d (.bool (decide (y1 ≥ 0)))]) [.d (.bool (decide (y1 ≥ 0)))] rfl rfl (by kernel_rfl) (Res'.refl _) rfl)

/- croupier/rules.row -/
def F45 (fuel : Nat) (d0 : List Int) : Option Bool :=
  Option.bind (
    Option.bind (F47 ((d0.map e_i64).length : Int) 1 4) fun y5 =>
    bif y5 then
      (Option.bind (F55 fuel d0) fun y6 =>
      some (!y6))
    else
      (some false)) fun o1 =>
  some o1
theorem F45_ok {fuel : Nat} {d0 : List Int} {r : Bool} (hF : F45 fuel d0 = some r) :
    CallF Try.prog 45 [.d (.sl 1 (d0.map e_i64))] (.d (.bool r)) := by
  unfold F45 at hF
  refine callF_of (N := 11) (b := bodyOf Try.f45) Try.func45 (by kernel_rfl) rfl rfl ?_
  obtain ⟨o1, hO, hF⟩ := bnd hF
  have hR1 : J none Try.prog 11 [] (finF Try.prog Try.f45 (.d (.bool r))) ⟨mkT [(2, .d (.bool o1))], [], [.ops (opsOf (cAt (bodyOf Try.f45) [1, 0])) [], .code (cAt (bodyOf Try.f45) [1, 1])]⟩ := by
    clear hO
    have hr_ := Option.some.inj hF; subst hr_
    exact J_adv 1 (J_ret (xs := [.d (.bool o1)]) [.d (.bool o1)] rfl rfl (by kernel_rfl) (Res'.refl _) rfl)
  clear hF; rename _ = some o1 => hF
  obtain ⟨y5, e5, hF⟩ := bnd hF
  refine J_adv 8 (J_callF (xs := [.d (.int .i64 ((d0.map e_i64).length : Int)), .d (.int .i64 1), .d (.int .i64 4)]) [.d (.int .i64 ((d0.map e_i64).length : Int)), .d (.int .i64 1), .d (.int .i64 4)] (.d (.bool y5)) (by kernel_rfl) en47 (Res'.refl _) (F47_ok e5) ?_)
  refine J_adv 1 (J_bool 6 (b := y5) (by kernel_rfl) (fun hb3 => ?_) (fun hb3 => ?_))
  · replace hF := ift hb3 hF
    obtain ⟨y6, e6, hF⟩ := bnd hF
    refine J_adv 1 (J_callF (xs := [.d (.sl 1 (d0.map e_i64)), .d (.fnc 56)]) [.d (.sl 1 (d0.map e_i64)), .d (.fnc 56)] (.d (.bool y6)) (by kernel_rfl) en55 (Res'.refl _) (F55_ok e6) ?_)
    have hr_ := Option.some.inj hF; subst hr_
    exact J_adv 3 (J_at [2] [] (T0 := [.ops (opsOf (cAt (bodyOf Try.f45) [1, 0])) [], .code (cAt (bodyOf Try.f45) [1, 1])]) (by kernel_rfl) rfl hR1)
  · replace hF := iff' hb3 hF
    have hr_ := Option.some.inj hF; subst hr_
    exact J_adv 5 (J_at [2] [] (T0 := [.ops (opsOf (cAt (bodyOf Try.f45) [1, 0])) [], .code (cAt (bodyOf Try.f45) [1, 1])]) (by kernel_rfl) rfl hR1)

/- croupier/rules.table -/
def F33_L1 (fuel : Nat) (d0 : List (List Int)) (d1 : List Int) : Nat → Int → Option Bool
  | 0, _ => none
  | n_F33_L1 + 1, v2 =>
    bif decide (v2 < ((d0.map e_li64).length : Int)) then
      (Option.bind (geti d0 v2) fun y29 =>
      Option.bind (
        Option.bind (F45 fuel y29) fun y38 =>
        bif !y38 then
          (some true)
        else
          (Option.bind (geti d0 0) fun y39 =>
          bif ((y29.map e_i64).length : Int) != ((y39.map e_i64).length : Int) then
            (some true)
          else
            (Option.bind (geti d1 v2) fun y40 =>
            Option.bind (F47 y40 0 3) fun y41 =>
            some (!y41)))) fun o4 =>
      bif o4 then
        (some false)
      else
        ((F33_L1 fuel d0 d1 n_F33_L1) (IntKind.i64.wrap (v2 + 1))))
    else
      (some true)
def F33 (fuel : Nat) (d0 : List (List Int)) (d1 : List Int) : Option Bool :=
  Option.bind (
    Option.bind (F47 ((d0.map e_li64).length : Int) 1 12) fun y42 =>
    bif !y42 then
      (some true)
    else
      (some (((d1.map e_i64).length : Int) != ((d0.map e_li64).length : Int)))) fun o1 =>
  bif o1 then
    (some false)
  else
    (F33_L1 fuel d0 d1 fuel 0)
theorem F33_ok {fuel : Nat} {d0 : List (List Int)} {d1 : List Int} {r : Bool} (hF : F33 fuel d0 d1 = some r) :
    CallF Try.prog 33 [.d (.sl 1 (d0.map e_li64)), .d (.sl 1 (d1.map e_i64))] (.d (.bool r)) := by
  unfold F33 at hF
  refine callF_of (N := 46) (b := bodyOf Try.f33) Try.func33 (by kernel_rfl) rfl rfl ?_
  obtain ⟨o1, hO, hF⟩ := bnd hF
  have hR1 : J none Try.prog 46 [] (finF Try.prog Try.f33 (.d (.bool r))) ⟨mkT [(0, .d (.sl 1 (d0.map e_li64))), (1, .d (.sl 1 (d1.map e_i64))), (17, .d (.bool o1))], [], [.ops (opsOf (cAt (bodyOf Try.f33) [1, 0, 0])) [], .code (cAt (bodyOf Try.f33) [1, 0, 1]), .code (cAt (bodyOf Try.f33) [1, 1])]⟩ := by
    clear hO
    refine J_adv 1 (J_bool 17 (b := o1) (by kernel_rfl) (fun hb3 => ?_) (fun hb3 => ?_))
    · replace hF := ift hb3 hF
      have hr_ := Option.some.inj hF; subst hr_
      exact J_adv 5 (J_ret (xs := [.d (.bool false)]) [.d (.bool false)] rfl rfl (by kernel_rfl) (Res'.refl _) rfl)
    · replace hF := iff' hb3 hF
      have hF33_L1 : ∀ (n_F33_L1 : Nat) (v2 : Int), F33_L1 fuel d0 d1 n_F33_L1 v2 = some r → J none Try.prog 46 [] (finF Try.prog Try.f33 (.d (.bool r))) ⟨mkT [(0, .d (.sl 1 (d0.map e_li64))), (1, .d (.sl 1 (d1.map e_i64))), (18, .d (.sl 1 (d0.map e_li64))), (19, .d (.int .i64 ((d0.map e_li64).length : Int))), (20, .d (.int .i64 v2))], [], [.inLoop (cAt (bodyOf Try.f33) [1, 1, 0, 1, 0, 0]), .inBlock 0, .code (cAt (bodyOf Try.f33) [1, 1, 1])]⟩ := by
        clear hF; intro n_F33_L1
        induction n_F33_L1 with
        | zero => intro v2 hF; cases hF
        | succ n_F33_L1 ih_F33_L1 =>
          intro v2 hF
          rw [F33_L1] at hF
          refine J_adv 6 (J_bool 21 (b := decide (v2 < ((d0.map e_li64).length : Int))) (by kernel_rfl) (fun hb20 => ?_) (fun hb20 => ?_))
          · replace hF := ift hb20 hF
            obtain ⟨y29, e29, hF⟩ := bnd hF
            refine J_adv 7 (J_opt1 (o := geti (d0.map e_li64) v2) (e_li64 y29) (by kernel_rfl) (gm e29) ?_)
            obtain ⟨o4, hO, hF⟩ := bnd hF
            have hR4 : J none Try.prog 46 [] (finF Try.prog Try.f33 (.d (.bool r))) ⟨mkT [(0, .d (.sl 1 (d0.map e_li64))), (1, .d (.sl 1 (d1.map e_i64))), (18, .d (.sl 1 (d0.map e_li64))), (19, .d (.int .i64 ((d0.map e_li64).length : Int))), (20, .d (.int .i64 v2)), (44, .d (.bool o4))], [], [.ops (opsOf (cAt (bodyOf Try.f33) [1, 1, 0, 1, 0, 0, 1, 1, 0, 0, 1, 0])) [], .code (cAt (bodyOf Try.f33) [1, 1, 0, 1, 0, 0, 1, 1, 0, 0, 1, 1]), .inBlock 1, .code (cAt (bodyOf Try.f33) [1, 1, 0, 1, 0, 0, 1, 1, 1]), .inLoop (cAt (bodyOf Try.f33) [1, 1, 0, 1, 0, 0]), .inBlock 0, .code (cAt (bodyOf Try.f33) [1, 1, 1])]⟩ := by
              clear hO
              refine J_adv 1 (J_bool 44 (b := o4) (by kernel_rfl) (fun hb25 => ?_) (fun hb25 => ?_))
              · replace hF := ift hb25 hF
                have hr_ := Option.some.inj hF; subst hr_
                exact J_adv 5 (J_ret (xs := [.d (.bool false)]) [.d (.bool false)] rfl rfl (by kernel_rfl) (Res'.refl _) rfl)
              · replace hF := iff' hb25 hF
                exact J_adv 7 (J_at [0, 1, 18, 19, 20] [] (T0 := [.inLoop (cAt (bodyOf Try.f33) [1, 1, 0, 1, 0, 0]), .inBlock 0, .code (cAt (bodyOf Try.f33) [1, 1, 1])]) (by kernel_rfl) rfl (ih_F33_L1 (IntKind.i64.wrap (v2 + 1)) hF))
            clear hF; rename _ = some o4 => hF
            obtain ⟨y38, e38, hF⟩ := bnd hF
            refine J_adv 7 (J_callF (xs := [.d (.sl 1 (y29.map e_i64))]) [.d (.sl 1 (y29.map e_i64))] (.d (.bool y38)) (by kernel_rfl) en45 (Res'.refl _) (F45_ok e38) ?_)
            refine J_adv 2 (J_bool 28 (b := !y38) (by kernel_rfl) (fun hb26 => ?_) (fun hb26 => ?_))
            · replace hF := ift hb26 hF
              have hr_ := Option.some.inj hF; subst hr_
              exact J_adv 16 (J_at [0, 1, 18, 19, 20, 44] [] (T0 := [.ops (opsOf (cAt (bodyOf Try.f33) [1, 1, 0, 1, 0, 0, 1, 1, 0, 0, 1, 0])) [], .code (cAt (bodyOf Try.f33) [1, 1, 0, 1, 0, 0, 1, 1, 0, 0, 1, 1]), .inBlock 1, .code (cAt (bodyOf Try.f33) [1, 1, 0, 1, 0, 0, 1, 1, 1]), .inLoop (cAt (bodyOf Try.f33) [1, 1, 0, 1, 0, 0]), .inBlock 0, .code (cAt (bodyOf Try.f33) [1, 1, 1])]) (by kernel_rfl) rfl hR4)
            · replace hF := iff' hb26 hF
              obtain ⟨y39, e39, hF⟩ := bnd hF
              refine J_adv 3 (J_opt1 (o := geti (d0.map e_li64) 0) (e_li64 y39) (by kernel_rfl) (gm e39) ?_)
              refine J_adv 5 (J_bool 37 (b := ((y29.map e_i64).length : Int) != ((y39.map e_i64).length : Int)) (by kernel_rfl) (fun hb27 => ?_) (fun hb27 => ?_))
              · replace hF := ift hb27 hF
                have hr_ := Option.some.inj hF; subst hr_
                exact J_adv 7 (J_at [0, 1, 18, 19, 20, 44] [] (T0 := [.ops (opsOf (cAt (bodyOf Try.f33) [1, 1, 0, 1, 0, 0, 1, 1, 0, 0, 1, 0])) [], .code (cAt (bodyOf Try.f33) [1, 1, 0, 1, 0, 0, 1, 1, 0, 0, 1, 1]), .inBlock 1, .code (cAt (bodyOf Try.f33) [1, 1, 0, 1, 0, 0, 1, 1, 1]), .inLoop (cAt (bodyOf Try.f33) [1, 1, 0, 1, 0, 0]), .inBlock 0, .code (cAt (bodyOf Try.f33) [1, 1, 1])]) (by kernel_rfl) rfl hR4)
              · replace hF := iff' hb27 hF
                obtain ⟨y40, e40, hF⟩ := bnd hF
                refine J_adv 2 (J_opt1 (o := geti (d1.map e_i64) v2) (e_i64 y40) (by kernel_rfl) (gm e40) ?_)
                obtain ⟨y41, e41, hF⟩ := bnd hF
                refine J_adv 1 (J_callF (xs := [.d (.int .i64 y40), .d (.int .i64 0), .d (.int .i64 3)]) [.d (.int .i64 y40), .d (.int .i64 0), .d (.int .i64 3)] (.d (.bool y41)) (by kernel_rfl) en47 (Res'.refl _) (F47_ok e41) ?_)
                have hr_ := Option.some.inj hF; subst hr_
                exact J_adv 2 (J_at [0, 1, 18, 19, 20, 44] [] (T0 := [.ops (opsOf (cAt (bodyOf Try.f33) [1, 1, 0, 1, 0, 0, 1, 1, 0, 0, 1, 0])) [], .code (cAt (bodyOf Try.f33) [1, 1, 0, 1, 0, 0, 1, 1, 0, 0, 1, 1]), .inBlock 1, .code (cAt (bodyOf Try.f33) [1, 1, 0, 1, 0, 0, 1, 1, 1]), .inLoop (cAt (bodyOf Try.f33) [1, 1, 0, 1, 0, 0]), .inBlock 0, .code (cAt (bodyOf Try.f33) [1, 1, 1])]) (by kernel_rfl) rfl hR4)
          · replace hF := iff' hb20 hF
            have hr_ := Option.some.inj hF; subst hr_
            exact J_adv 6 (J_ret (xs := [.d (.bool true)]) [.d (.bool true)] rfl rfl (by kernel_rfl) (Res'.refl _) rfl)
      exact J_adv 11 (J_at [0, 1, 18, 19, 20] [] (T0 := [.inLoop (cAt (bodyOf Try.f33) [1, 1, 0, 1, 0, 0]), .inBlock 0, .code (cAt (bodyOf Try.f33) [1, 1, 1])]) (by kernel_rfl) rfl (hF33_L1 fuel 0 hF))
  clear hF; rename _ = some o1 => hF
  obtain ⟨y42, e42, hF⟩ := bnd hF
  refine J_adv 9 (J_callF (xs := [.d (.int .i64 ((d0.map e_li64).length : Int)), .d (.int .i64 1), .d (.int .i64 12)]) [.d (.int .i64 ((d0.map e_li64).length : Int)), .d (.int .i64 1), .d (.int .i64 12)] (.d (.bool y42)) (by kernel_rfl) en47 (Res'.refl _) (F47_ok e42) ?_)
  refine J_adv 2 (J_bool 11 (b := !y42) (by kernel_rfl) (fun hb28 => ?_) (fun hb28 => ?_))
  · replace hF := ift hb28 hF
    have hr_ := Option.some.inj hF; subst hr_
    exact J_adv 6 (J_at [0, 1, 17] [] (T0 := [.ops (opsOf (cAt (bodyOf Try.f33) [1, 0, 0])) [], .code (cAt (bodyOf Try.f33) [1, 0, 1]), .code (cAt (bodyOf Try.f33) [1, 1])]) (by kernel_rfl) rfl hR1)
  · replace hF := iff' hb28 hF
    have hr_ := Option.some.inj hF; subst hr_
    exact J_adv 6 (J_at [0, 1, 17] [] (T0 := [.ops (opsOf (cAt (bodyOf Try.f33) [1, 0, 0])) [], .code (cAt (bodyOf Try.f33) [1, 0, 1]), .code (cAt (bodyOf Try.f33) [1, 1])]) (by kernel_rfl) rfl hR1)

structure T_rules_step where
  rule : T_api_Rule
  before : Int
  deriving DecidableEq
def e_T_rules_step (x : T_rules_step) : List Dat := [.int .i64 x.rule.Var, .int .i64 x.rule.Test, .int .i64 x.rule.Val, .int .i64 x.rule.Then, .int .u64 x.before]
def e_u64 (x : Int) : List Dat := [.int .u64 x]
/- (*croupier/rules.search).one -/
def F36_A2 (v6 : Int) (rec_F36_L1 : Int → Bool → Int → Option (Int × Bool)) (v7 : Int) (t8 : Bool) : Option (Int × Bool) :=
  rec_F36_L1 v7 t8 (IntKind.i64.wrap (v6 + 1))
def F36_L1 (d0 : List (List Int)) (d1 : List Int) (d2 : Int) : Nat → Int → Bool → Int → Option (Int × Bool)
  | 0, _, _, _ => none
  | n_F36_L1 + 1, v5, t6, v6 =>
    bif decide (v6 < ((d0.map e_li64).length : Int)) then
      (ass (decide (0 ≤ v6)) <|
      bif (IntKind.u64.wrap (BitVec.ofInt IntKind.u64.bits (Int.fdiv d2 (2 ^ (min (Int.toNat v6) IntKind.u64.bits))) &&& BitVec.ofInt IntKind.u64.bits 1).toNat) == 0 then
        (F36_A2 v6 (F36_L1 d0 d1 d2 n_F36_L1) v5 t6)
      else
        (Option.bind (
          bif t6 then
            (Option.bind (geti d1 v6) fun y18 =>
            some (y18 != v5))
          else
            (some false)) fun o4 =>
        bif o4 then
          (some (0, false))
        else
          (Option.bind (geti d1 v6) fun y17 =>
          F36_A2 v6 (F36_L1 d0 d1 d2 n_F36_L1) y17 true)))
    else
      (some (v5, true))
def F36 (fuel : Nat) (d0 : List (List Int)) (d1 : List Int) (d2 : Int) : Option (Int × Bool) :=
  F36_L1 d0 d1 d2 fuel 0 false 0
theorem F36_ok {fuel : Nat} {d0 : List (List Int)} {d1 : List Int} {d2 : Int} {r : Int × Bool} (hF : F36 fuel d0 d1 d2 = some r) :
    CallF Try.prog 36 [.rp [.sl 1 (d0.map e_li64), .sl 1 (d1.map e_i64), .any] 0, .d (.int .u64 d2)] (.tup [.d (.int .i64 r.1), .d (.bool r.2)]) := by
  unfold F36 at hF
  refine callF_of (N := 43) (b := bodyOf Try.f36) Try.func36 (by kernel_rfl) rfl rfl ?_
  have hF36_L1 : ∀ (n_F36_L1 : Nat) (v5 : Int) (t6 : Bool) (v6 : Int), F36_L1 d0 d1 d2 n_F36_L1 v5 t6 v6 = some r → J none Try.prog 43 [] (finF Try.prog Try.f36 (.tup [.d (.int .i64 r.1), .d (.bool r.2)])) ⟨mkT [(0, .rp [.sl 1 (d0.map e_li64), .sl 1 (d1.map e_i64), .any] 0), (1, .d (.int .u64 d2)), (6, .d (.int .i64 v5)), (7, .d (.bool t6)), (13, .d (.int .i64 ((d0.map e_li64).length : Int))), (14, .d (.int .i64 v6))], [], [.inLoop (cAt (bodyOf Try.f36) [1, 1, 0, 1, 0, 0]), .inBlock 0, .code (cAt (bodyOf Try.f36) [1, 1, 1])]⟩ := by
    clear hF; intro n_F36_L1
    induction n_F36_L1 with
    | zero => intro v5 t6 v6 hF; cases hF
    | succ n_F36_L1 ih_F36_L1 =>
      intro v5 t6 v6 hF
      rw [F36_L1] at hF
      refine J_adv 6 (J_bool 15 (b := decide (v6 < ((d0.map e_li64).length : Int))) (by kernel_rfl) (fun hb19 => ?_) (fun hb19 => ?_))
      · replace hF := ift hb19 hF
        have hF36_A2 : ∀ (v7 : Int) (t8 : Bool), F36_A2 v6 (F36_L1 d0 d1 d2 n_F36_L1) v7 t8 = some r → J none Try.prog 43 [] (finF Try.prog Try.f36 (.tup [.d (.int .i64 r.1), .d (.bool r.2)])) ⟨mkT [(0, .rp [.sl 1 (d0.map e_li64), .sl 1 (d1.map e_i64), .any] 0), (1, .d (.int .u64 d2)), (6, .d (.int .i64 v7)), (7, .d (.bool t8)), (13, .d (.int .i64 ((d0.map e_li64).length : Int))), (14, .d (.int .i64 v6))], [], [.code (cAt (bodyOf Try.f36) [1, 1, 0, 1, 0, 0, 1, 1, 1]), .inLoop (cAt (bodyOf Try.f36) [1, 1, 0, 1, 0, 0]), .inBlock 0, .code (cAt (bodyOf Try.f36) [1, 1, 1])]⟩ := by
          intro v7 t8 hF
          unfold F36_A2 at hF
          exact J_adv 4 (J_at [0, 1, 6, 7, 13, 14] [] (T0 := [.inLoop (cAt (bodyOf Try.f36) [1, 1, 0, 1, 0, 0]), .inBlock 0, .code (cAt (bodyOf Try.f36) [1, 1, 1])]) (by kernel_rfl) rfl (ih_F36_L1 v7 t8 (IntKind.i64.wrap (v6 + 1)) hF))
        obtain ⟨hb26, hF⟩ := assd hF
        refine J_adv 14 (J_opt1 (o := chk (decide (0 ≤ v6))) [] (by kernel_rfl) (ck hb26) ?_)
        refine J_adv 3 (J_bool 21 (b := (IntKind.u64.wrap (BitVec.ofInt IntKind.u64.bits (Int.fdiv d2 (2 ^ (min (Int.toNat v6) IntKind.u64.bits))) &&& BitVec.ofInt IntKind.u64.bits 1).toNat) == 0) (by kernel_rfl) (fun hb27 => ?_) (fun hb27 => ?_))
        · replace hF := ift hb27 hF
          exact J_adv 2 (J_at [0, 1, 6, 7, 13, 14] [] (T0 := [.code (cAt (bodyOf Try.f36) [1, 1, 0, 1, 0, 0, 1, 1, 1]), .inLoop (cAt (bodyOf Try.f36) [1, 1, 0, 1, 0, 0]), .inBlock 0, .code (cAt (bodyOf Try.f36) [1, 1, 1])]) (by kernel_rfl) rfl (hF36_A2 v5 t6 hF))
        · replace hF := iff' hb27 hF
          obtain ⟨o4, hO, hF⟩ := bnd hF
          have hR4 : J none Try.prog 43 [] (finF Try.prog Try.f36 (.tup [.d (.int .i64 r.1), .d (.bool r.2)])) ⟨mkT [(0, .rp [.sl 1 (d0.map e_li64), .sl 1 (d1.map e_i64), .any] 0), (1, .d (.int .u64 d2)), (8, .d (.int .i64 v6)), (13, .d (.int .i64 ((d0.map e_li64).length : Int))), (14, .d (.int .i64 v6)), (33, .d (.bool o4))], [], [.ops (opsOf (cAt (bodyOf Try.f36) [1, 1, 0, 1, 0, 0, 1, 1, 0, 0, 1, 1, 0, 0])) [], .code (cAt (bodyOf Try.f36) [1, 1, 0, 1, 0, 0, 1, 1, 0, 0, 1, 1, 0, 1]), .code (cAt (bodyOf Try.f36) [1, 1, 0, 1, 0, 0, 1, 1, 0, 0, 1, 1, 1]), .inBlock 1, .code (cAt (bodyOf Try.f36) [1, 1, 0, 1, 0, 0, 1, 1, 1]), .inLoop (cAt (bodyOf Try.f36) [1, 1, 0, 1, 0, 0]), .inBlock 0, .code (cAt (bodyOf Try.f36) [1, 1, 1])]⟩ := by
            clear hO
            refine J_adv 1 (J_bool 33 (b := o4) (by kernel_rfl) (fun hb30 => ?_) (fun hb30 => ?_))
            · replace hF := ift hb30 hF
              have hr_ := Option.some.inj hF; subst hr_
              exact J_adv 6 (J_ret (xs := [.d (.int .i64 0), .d (.bool false)]) [.d (.int .i64 0), .d (.bool false)] rfl rfl (by kernel_rfl) (Res'.refl _) rfl)
            · replace hF := iff' hb30 hF
              obtain ⟨y17, e17, hF⟩ := bnd hF
              refine J_adv 8 (J_opt1 (o := geti (d1.map e_i64) v6) (e_i64 y17) (by kernel_rfl) (gm e17) ?_)
              exact J_adv 5 (J_at [0, 1, 6, 7, 13, 14] [] (T0 := [.code (cAt (bodyOf Try.f36) [1, 1, 0, 1, 0, 0, 1, 1, 1]), .inLoop (cAt (bodyOf Try.f36) [1, 1, 0, 1, 0, 0]), .inBlock 0, .code (cAt (bodyOf Try.f36) [1, 1, 1])]) (by kernel_rfl) rfl (hF36_A2 y17 true hF))
          clear hF; rename _ = some o4 => hF
          refine J_adv 7 (J_bool 23 (b := t6) (by kernel_rfl) (fun hb31 => ?_) (fun hb31 => ?_))
          · replace hF := ift hb31 hF
            obtain ⟨y18, e18, hF⟩ := bnd hF
            refine J_adv 5 (J_opt1 (o := geti (d1.map e_i64) v6) (e_i64 y18) (by kernel_rfl) (gm e18) ?_)
            have hr_ := Option.some.inj hF; subst hr_
            exact J_adv 4 (J_at [0, 1, 8, 13, 14, 33] [] (T0 := [.ops (opsOf (cAt (bodyOf Try.f36) [1, 1, 0, 1, 0, 0, 1, 1, 0, 0, 1, 1, 0, 0])) [], .code (cAt (bodyOf Try.f36) [1, 1, 0, 1, 0, 0, 1, 1, 0, 0, 1, 1, 0, 1]), .code (cAt (bodyOf Try.f36) [1, 1, 0, 1, 0, 0, 1, 1, 0, 0, 1, 1, 1]), .inBlock 1, .code (cAt (bodyOf Try.f36) [1, 1, 0, 1, 0, 0, 1, 1, 1]), .inLoop (cAt (bodyOf Try.f36) [1, 1, 0, 1, 0, 0]), .inBlock 0, .code (cAt (bodyOf Try.f36) [1, 1, 1])]) (by kernel_rfl) rfl hR4)
          · replace hF := iff' hb31 hF
            have hr_ := Option.some.inj hF; subst hr_
            exact J_adv 10 (J_at [0, 1, 8, 13, 14, 33] [] (T0 := [.ops (opsOf (cAt (bodyOf Try.f36) [1, 1, 0, 1, 0, 0, 1, 1, 0, 0, 1, 1, 0, 0])) [], .code (cAt (bodyOf Try.f36) [1, 1, 0, 1, 0, 0, 1, 1, 0, 0, 1, 1, 0, 1]), .code (cAt (bodyOf Try.f36) [1, 1, 0, 1, 0, 0, 1, 1, 0, 0, 1, 1, 1]), .inBlock 1, .code (cAt (bodyOf Try.f36) [1, 1, 0, 1, 0, 0, 1, 1, 1]), .inLoop (cAt (bodyOf Try.f36) [1, 1, 0, 1, 0, 0]), .inBlock 0, .code (cAt (bodyOf Try.f36) [1, 1, 1])]) (by kernel_rfl) rfl hR4)
      · replace hF := iff' hb19 hF
        have hr_ := Option.some.inj hF; subst hr_
        exact J_adv 8 (J_ret (xs := [.d (.int .i64 v5), .d (.bool true)]) [.d (.int .i64 v5), .d (.bool true)] rfl rfl (by kernel_rfl) (Res'.refl _) rfl)
  exact J_adv 22 (J_at [0, 1, 6, 7, 13, 14] [] (T0 := [.inLoop (cAt (bodyOf Try.f36) [1, 1, 0, 1, 0, 0]), .inBlock 0, .code (cAt (bodyOf Try.f36) [1, 1, 1])]) (by kernel_rfl) rfl (hF36_L1 fuel 0 false 0 hF))

/- slices.Reverse(()croupier/api.Rule,croupier/api.Rule) -/
def F51_L1 : Nat → Int → Int → (List T_api_Rule) → Option (List T_api_Rule)
  | 0, _, _, _ => none
  | n_F51_L1 + 1, v3, v4, l6 =>
    bif decide (v3 < v4) then
      (Option.bind (geti l6 v4) fun y9 =>
      Option.bind (geti l6 v3) fun y10 =>
      Option.bind (geti l6 v3) fun y11 =>
      Option.bind (some (l6.set (0 + Int.toNat v3) y9)) fun l7 =>
      Option.bind (geti l7 v4) fun y12 =>
      Option.bind (some (l7.set (0 + Int.toNat v4) y10)) fun l8 =>
      (F51_L1 n_F51_L1) (IntKind.i64.wrap (v3 + 1)) (IntKind.i64.wrap (v4 - 1)) l8)
    else
      (some l6)
def F51 (fuel : Nat) (d0 : List T_api_Rule) : Option (List T_api_Rule) :=
  F51_L1 fuel 0 (IntKind.i64.wrap (((d0.map e_T_api_Rule).length : Int) - 1)) d0
theorem F51_ok {fuel : Nat} {d0 : List T_api_Rule} {r : List T_api_Rule} (hF : F51 fuel d0 = some r) :
    CallR Try.prog 51 [(2000, .buf 0 66 4 (d0.map e_T_api_Rule))] [.suf 2000 0 0] [(2000, .buf 0 66 4 (r.map e_T_api_Rule))] (.tup []) := by
  unfold F51 at hF
  refine callR_of (N := 28) (b := bodyOf Try.f51) Try.func51 (by kernel_rfl) rfl rfl ?_
  have hF51_L1 : ∀ (n_F51_L1 : Nat) (v3 : Int) (v4 : Int) (l6 : List T_api_Rule), F51_L1 n_F51_L1 v3 v4 l6 = some r → J none Try.prog 28 [] (finR Try.prog Try.f51 [(2000, .buf 0 66 4 (r.map e_T_api_Rule))] (.tup [])) ⟨mkT [(0, .suf 2000 0 0), (2, .d (.int .i64 v3)), (3, .d (.int .i64 v4))], [(2000, .buf 0 66 4 (l6.map e_T_api_Rule))], [.inLoop (cAt (bodyOf Try.f51) [1, 0, 0]), .inBlock 0]⟩ := by
    clear hF; intro n_F51_L1
    induction n_F51_L1 with
    | zero => intro v3 v4 l6 hF; cases hF
    | succ n_F51_L1 ih_F51_L1 =>
      intro v3 v4 l6 hF
      rw [F51_L1] at hF
      refine J_adv 8 (J_bool 9 (b := decide (v3 < v4)) (by kernel_rfl) (fun hb3 => ?_) (fun hb3 => ?_))
      · replace hF := ift hb3 hF
        refine J_adv 4 (J_draw (by kernel_rfl) (by kernel_rfl) ?_)
        obtain ⟨y9, e13, hF⟩ := bnd hF
        refine JD_adv 6 (JD_opt1 (o := geti (l6.map e_T_api_Rule) v4) (e_T_api_Rule y9) (by kernel_rfl) (by kernel_rfl) (gm e13) ?_)
        refine JD_adv 0 (JD_opt1 (o := (l6.map e_T_api_Rule)[0 + Int.toNat v4]?) (e_T_api_Rule y9) (by kernel_rfl) (by kernel_rfl) (gjm (gj e13)) ?_)
        obtain ⟨y10, e14, hF⟩ := bnd hF
        refine JD_adv 2 (JD_opt1 (o := geti (l6.map e_T_api_Rule) v3) (e_T_api_Rule y10) (by kernel_rfl) (by kernel_rfl) (gm e14) ?_)
        refine JD_adv 0 (JD_opt1 (o := (l6.map e_T_api_Rule)[0 + Int.toNat v3]?) (e_T_api_Rule y10) (by kernel_rfl) (by kernel_rfl) (gjm (gj e14)) ?_)
        obtain ⟨y11, e15, hF⟩ := bnd hF
        refine JD_adv 0 (JD_opt1 (o := geti (l6.map e_T_api_Rule) v3) (e_T_api_Rule y11) (by kernel_rfl) (by kernel_rfl) (gm e15) ?_)
        obtain ⟨l7, e16, hF⟩ := bnd hF
        have hst := stm (f := e_T_api_Rule) (z := y9) (k := 0) (xs := [.int .i64 y9.Var, .int .i64 y9.Test, .int .i64 y9.Val, .int .i64 y9.Then]) (gj e15) rfl
        refine JD_adv 0 (JD_opt2 (o := (match (l6.map e_T_api_Rule)[0 + Int.toNat v3]? with | some old => some ((l6.map e_T_api_Rule).set (0 + Int.toNat v3) (setD old 0 [.int .i64 y9.Var, .int .i64 y9.Test, .int .i64 y9.Val, .int .i64 y9.Then])) | none => none)) (l7.map e_T_api_Rule) (by kernel_rfl) (by kernel_rfl) (by cases e16; exact hst) ?_)
        obtain ⟨y12, e17, hF⟩ := bnd hF
        refine JD_adv 0 (JD_opt1 (o := geti (l7.map e_T_api_Rule) v4) (e_T_api_Rule y12) (by kernel_rfl) (by kernel_rfl) (gm e17) ?_)
        obtain ⟨l8, e18, hF⟩ := bnd hF
        have hst := stm (f := e_T_api_Rule) (z := y10) (k := 0) (xs := [.int .i64 y10.Var, .int .i64 y10.Test, .int .i64 y10.Val, .int .i64 y10.Then]) (gj e17) rfl
        refine JD_adv 0 (JD_opt2 (o := (match (l7.map e_T_api_Rule)[0 + Int.toNat v4]? with | some old => some ((l7.map e_T_api_Rule).set (0 + Int.toNat v4) (setD old 0 [.int .i64 y10.Var, .int .i64 y10.Test, .int .i64 y10.Val, .int .i64 y10.Then])) | none => none)) (l8.map e_T_api_Rule) (by kernel_rfl) (by kernel_rfl) (by cases e18; exact hst) ?_)
        refine JD_adv 0 (JD_end (by kernel_rfl) ?_)
        exact J_adv 9 (J_at [0, 2, 3] [2000] (T0 := [.inLoop (cAt (bodyOf Try.f51) [1, 0, 0]), .inBlock 0]) (by kernel_rfl) rfl (ih_F51_L1 (IntKind.i64.wrap (v3 + 1)) (IntKind.i64.wrap (v4 - 1)) l8 hF))
      · replace hF := iff' hb3 hF
        have hr_ := Option.some.inj hF; subst hr_
        exact J_adv 2 (J_retR (xs := []) [] rfl (by kernel_rfl) (by kernel_rfl) (Res'.refl _) rfl)
  exact J_adv 10 (J_at [0, 2, 3] [2000] (T0 := [.inLoop (cAt (bodyOf Try.f51) [1, 0, 0]), .inBlock 0]) (by kernel_rfl) rfl (hF51_L1 fuel 0 (IntKind.i64.wrap (((d0.map e_T_api_Rule).length : Int) - 1)) d0 hF))

/- (*croupier/rules.search).list -/
def F37_L1 (fuel : Nat) (d1 : Int) (d2 : List (List Int)) (d4 : List (Int × T_rules_step)) : Nat → Int → (List T_api_Rule) → Option T_api_Rules
  | 0, _, _ => none
  | n_F37_L1 + 1, v2, l4 =>
    bif v2 != (IntKind.u64.wrap ((IntKind.u64.wrap (1 * 2 ^ (min (Int.toNat ((d2.map e_li64).length : Int)) IntKind.u64.bits))) - 1)) then
      (Option.bind (some (mlookF d4 v2 (⟨(⟨0, 0, 0, 0⟩ : T_api_Rule), 0⟩ : T_rules_step))) fun y3 =>
      Option.bind (app l4 [y3.rule]) fun l5 =>
      (F37_L1 fuel d1 d2 d4 n_F37_L1) y3.before l5)
    else
      (Option.bind (F51 fuel l4) fun y4 =>
      some (⟨y4, d1⟩ : T_api_Rules))
def F37 (fuel : Nat) (d0 : Int) (d1 : Int) (d2 : List (List Int)) (d3 : List Int) (d4 : List (Int × T_rules_step)) : Option T_api_Rules :=
  ass (decide (0 ≤ ((d2.map e_li64).length : Int))) <|
  F37_L1 fuel d1 d2 d4 fuel d0 []
theorem F37_ok {fuel : Nat} {d0 : Int} {d1 : Int} {d2 : List (List Int)} {d3 : List Int} {d4 : List (Int × T_rules_step)} {r : T_api_Rules} (hF : F37 fuel d0 d1 d2 d3 d4 = some r) :
    CallR Try.prog 37 [(2000, .fzb [.d (.sl 1 (d2.map e_li64)), .d (.sl 1 (d3.map e_i64)), .mp 2001]), (2001, .mapo (.int .u64) true 5 (d4.map (pe (Dat.int .u64) e_T_rules_step)))] [.ptr 2000 0, .d (.int .u64 d0), .d (.int .i64 d1)] [(2000, .fzb [.d (.sl 1 (d2.map e_li64)), .d (.sl 1 (d3.map e_i64)), .mp 2001]), (2001, .mapo (.int .u64) true 5 (d4.map (pe (Dat.int .u64) e_T_rules_step)))] (.agg [.d (.sl 4 (r.List.map e_T_api_Rule)), .d (.int .i64 r.Else)]) := by
  unfold F37 at hF
  refine callR_of (N := 41) (b := bodyOf Try.f37) Try.func37 (by kernel_rfl) rfl rfl ?_
  obtain ⟨hb1, hF⟩ := assd hF
  refine J_adv 18 (J_opt1 (o := chk (decide (0 ≤ ((d2.map e_li64).length : Int)))) [] (by kernel_rfl) (ck hb1) ?_)
  have hF37_L1 : ∀ (n_F37_L1 : Nat) (v2 : Int) (l4 : List T_api_Rule), F37_L1 fuel d1 d2 d4 n_F37_L1 v2 l4 = some r → J none Try.prog 41 [] (finR Try.prog Try.f37 [(2000, .fzb [.d (.sl 1 (d2.map e_li64)), .d (.sl 1 (d3.map e_i64)), .mp 2001]), (2001, .mapo (.int .u64) true 5 (d4.map (pe (Dat.int .u64) e_T_rules_step)))] (.agg [.d (.sl 4 (r.List.map e_T_api_Rule)), .d (.int .i64 r.Else)])) ⟨mkT [(0, .ptr 2000 0), (1, .d (.int .u64 v2)), (6, .ptr 6 0), (7, .ptr 7 0), (8, .d (.int .u64 (IntKind.u64.wrap ((IntKind.u64.wrap (1 * 2 ^ (min (Int.toNat ((d2.map e_li64).length : Int)) IntKind.u64.bits))) - 1))))], [(6, .box [.esl 4, .d (.int .i64 0)]), (7, .box [.suf 33 0 0, .d (.int .i64 d1)]), (33, .buf 0 66 4 (l4.map e_T_api_Rule)), (2000, .fzb [.d (.sl 1 (d2.map e_li64)), .d (.sl 1 (d3.map e_i64)), .mp 2001]), (2001, .mapo (.int .u64) true 5 (d4.map (pe (Dat.int .u64) e_T_rules_step)))], [.inLoop (cAt (bodyOf Try.f37) [1, 1, 1, 0, 0, 0]), .inBlock 0, .code (cAt (bodyOf Try.f37) [1, 1, 1, 1])]⟩ := by
    clear hF; intro n_F37_L1
    induction n_F37_L1 with
    | zero => intro v2 l4 hF; cases hF
    | succ n_F37_L1 ih_F37_L1 =>
      intro v2 l4 hF
      rw [F37_L1] at hF
      refine J_adv 8 (J_bool 21 (b := v2 != (IntKind.u64.wrap ((IntKind.u64.wrap (1 * 2 ^ (min (Int.toNat ((d2.map e_li64).length : Int)) IntKind.u64.bits))) - 1))) (by kernel_rfl) (fun hb4 => ?_) (fun hb4 => ?_))
      · replace hF := ift hb4 hF
        obtain ⟨y3, e5, hF⟩ := bnd hF
        refine J_adv 10 (J_opt1 (o := some (mlook (d4.map (pe (Dat.int .u64) e_T_rules_step)) ((Dat.int .u64) v2) (e_T_rules_step (⟨(⟨0, 0, 0, 0⟩ : T_api_Rule), 0⟩ : T_rules_step)))) (e_T_rules_step y3) (by kernel_rfl) (by cases e5; rw [lkm (dk_int _)]) ?_)
        obtain ⟨l5, e6, hF⟩ := bnd hF
        refine J_adv 10 (J_opt2 (o := app2 ((l4.map e_T_api_Rule).drop 0) ([y3.rule].map e_T_api_Rule)) (l5.map e_T_api_Rule) (by kernel_rfl) (am e6) ?_)
        exact J_adv 9 (J_at [0, 1, 6, 7, 8] [6, 7, 33, 2000, 2001] (T0 := [.inLoop (cAt (bodyOf Try.f37) [1, 1, 1, 0, 0, 0]), .inBlock 0, .code (cAt (bodyOf Try.f37) [1, 1, 1, 1])]) (by kernel_rfl) rfl (ih_F37_L1 y3.before l5 hF))
      · replace hF := iff' hb4 hF
        obtain ⟨y4, e7, hF⟩ := bnd hF
        refine J_adv 6 (J_callR (os := [(2000, .buf 0 66 4 (l4.map e_T_api_Rule))]) (xs := [.suf 2000 0 0]) [(33, 2000)] [.suf 2000 0 0] [(2000, .buf 0 66 4 (y4.map e_T_api_Rule))] (.tup []) (by kernel_rfl) (by kernel_rfl) en51 (Res'.refl _) (F51_ok e7) ?_)
        have hr_ := Option.some.inj hF; subst hr_
        exact J_adv 6 (J_retR (xs := [.agg [.d (.sl 4 (y4.map e_T_api_Rule)), .d (.int .i64 d1)]]) [.agg [.d (.sl 4 (y4.map e_T_api_Rule)), .d (.int .i64 d1)]] rfl (by kernel_rfl) (by kernel_rfl) (Res'.refl _) rfl)
  refine J_adv 6 (J_ownc (n := 4) 7 0 33 66 4 (by kernel_rfl) (by kernel_rfl) ?_)
  exact J_adv 0 (J_at [0, 1, 6, 7, 8] [6, 7, 33, 2000, 2001] (T0 := [.inLoop (cAt (bodyOf Try.f37) [1, 1, 1, 0, 0, 0]), .inBlock 0, .code (cAt (bodyOf Try.f37) [1, 1, 1, 1])]) (by kernel_rfl) rfl (hF37_L1 fuel d0 [] hF))

def y_T_api_Rule (x : T_api_Rule) : List Kx.V := [.agg [.d (.int .i64 x.Var), .d (.int .i64 x.Test), .d (.int .i64 x.Val), .d (.int .i64 x.Then)]]
/- (*croupier/rules.search).candidates -/
def F38_L3 (v18 : Int) (v24 : Int) (y34 : List Int) (rec_F38_L2 : Int → Option (List T_api_Rule)) : Nat → Int → Option (List T_api_Rule)
  | 0, _ => none
  | n_F38_L3 + 1, v26 =>
    bif decide (v26 ≤ 3) then
      (Option.bind (geti y34 v18) fun y37 =>
      Option.bind (
        (F38_L3 v18 v24 y34 rec_F38_L2 n_F38_L3) (IntKind.i64.wrap (v26 + 1))) fun l27 =>
      some ((⟨v18, v26, y37, 0⟩ : T_api_Rule) :: l27))
    else
      (rec_F38_L2 (IntKind.i64.wrap (v24 + 1)))
def F38_L2 (fuel : Nat) (d0 : List (List Int)) (v18 : Int) (rec_F38_L1 : Int → Option (List T_api_Rule)) : Nat → Int → Option (List T_api_Rule)
  | 0, _ => none
  | n_F38_L2 + 1, v24 =>
    bif decide (v24 < ((d0.map e_li64).length : Int)) then
      (Option.bind (geti d0 v24) fun y34 =>
      F38_L3 v18 v24 y34 (F38_L2 fuel d0 v18 rec_F38_L1 n_F38_L2) fuel 1)
    else
      (rec_F38_L1 (IntKind.i64.wrap (v18 + 1)))
def F38_L1 (fuel : Nat) (d0 : List (List Int)) (y1 : List Int) : Nat → Int → Option (List T_api_Rule)
  | 0, _ => none
  | n_F38_L1 + 1, v18 =>
    bif decide (v18 < ((y1.map e_i64).length : Int)) then
      (F38_L2 fuel d0 v18 (F38_L1 fuel d0 y1 n_F38_L1) fuel 0)
    else
      (some [])
def F38 (fuel : Nat) (d0 : List (List Int)) (d1 : List Int) : Option (List T_api_Rule) :=
  Option.bind (geti d0 0) fun y1 =>
  F38_L1 fuel d0 y1 fuel 0
theorem F38_ok {fuel : Nat} {d0 : List (List Int)} {d1 : List Int} {r : List T_api_Rule} (hF : F38 fuel d0 d1 = some r) :
    IterC Try.prog 38 [(2000, .frn 2000)] [.rp [.sl 1 (d0.map e_li64), .sl 1 (d1.map e_i64), .any] 0, .yl 2000] (r.map y_T_api_Rule) := by
  unfold F38 at hF
  refine iterC_of (N := 43) (b := bodyOf Try.f38) Try.func38 (by kernel_rfl) rfl rfl (fun yl_ Inv_ Stop_ hR_ => ?_)
  obtain ⟨y1, e1, hF⟩ := bnd hF
  refine J_adv 6 (J_opt1 (o := geti (d0.map e_li64) 0) (e_li64 y1) (by kernel_rfl) (gm e1) ?_)
  have hF38_L1 : ∀ (n_F38_L1 : Nat) (r : List T_api_Rule) (v18 : Int), F38_L1 fuel d0 y1 n_F38_L1 v18 = some r → J none Try.prog 43 [] (finI Try.prog Try.f38 yl_ Inv_ Stop_ (some (r.map y_T_api_Rule))) ⟨mkT [(0, .rp [.sl 1 (d0.map e_li64), .sl 1 (d1.map e_i64), .any] 0), (1, .yl 2000), (14, .d (.int .i64 ((y1.map e_i64).length : Int))), (15, .d (.int .i64 v18))], [(2000, .frn 2000)], [.inLoop (cAt (bodyOf Try.f38) [1, 0, 0]), .inBlock 0]⟩ := by
    clear hF; intro n_F38_L1
    induction n_F38_L1 with
    | zero => intro r v18 hF; cases hF
    | succ n_F38_L1 ih_F38_L1 =>
      intro r v18 hF
      rw [F38_L1] at hF
      refine J_adv 6 (J_bool 16 (b := decide (v18 < ((y1.map e_i64).length : Int))) (by kernel_rfl) (fun hb27 => ?_) (fun hb27 => ?_))
      · replace hF := ift hb27 hF
        have hF38_L2 : ∀ (n_F38_L2 : Nat) (r : List T_api_Rule) (v24 : Int), F38_L2 fuel d0 v18 (F38_L1 fuel d0 y1 n_F38_L1) n_F38_L2 v24 = some r → J none Try.prog 43 [] (finI Try.prog Try.f38 yl_ Inv_ Stop_ (some (r.map y_T_api_Rule))) ⟨mkT [(0, .rp [.sl 1 (d0.map e_li64), .sl 1 (d1.map e_i64), .any] 0), (1, .yl 2000), (4, .d (.int .i64 v18)), (14, .d (.int .i64 ((y1.map e_i64).length : Int))), (15, .d (.int .i64 v18)), (21, .d (.sl 1 (d0.map e_li64))), (22, .d (.int .i64 ((d0.map e_li64).length : Int))), (23, .d (.int .i64 v24))], [(2000, .frn 2000)], [.inLoop (cAt (bodyOf Try.f38) [1, 0, 0, 1, 1, 0, 0, 1, 1, 0, 0]), .inBlock 2, .inBlock 1, .code (cAt (bodyOf Try.f38) [1, 0, 0, 1, 1, 1]), .inLoop (cAt (bodyOf Try.f38) [1, 0, 0]), .inBlock 0]⟩ := by
          clear hF; intro n_F38_L2
          induction n_F38_L2 with
          | zero => intro r v24 hF; cases hF
          | succ n_F38_L2 ih_F38_L2 =>
            intro r v24 hF
            rw [F38_L2] at hF
            refine J_adv 6 (J_bool 24 (b := decide (v24 < ((d0.map e_li64).length : Int))) (by kernel_rfl) (fun hb36 => ?_) (fun hb36 => ?_))
            · replace hF := ift hb36 hF
              obtain ⟨y34, e34, hF⟩ := bnd hF
              refine J_adv 6 (J_opt1 (o := geti (d0.map e_li64) v24) (e_li64 y34) (by kernel_rfl) (gm e34) ?_)
              have hF38_L3 : ∀ (n_F38_L3 : Nat) (r : List T_api_Rule) (v26 : Int), F38_L3 v18 v24 y34 (F38_L2 fuel d0 v18 (F38_L1 fuel d0 y1 n_F38_L1) n_F38_L2) n_F38_L3 v26 = some r → J none Try.prog 43 [] (finI Try.prog Try.f38 yl_ Inv_ Stop_ (some (r.map y_T_api_Rule))) ⟨mkT [(0, .rp [.sl 1 (d0.map e_li64), .sl 1 (d1.map e_i64), .any] 0), (1, .yl 2000), (4, .d (.int .i64 v18)), (6, .d (.sl 1 (y34.map e_i64))), (7, .d (.int .i64 v26)), (14, .d (.int .i64 ((y1.map e_i64).length : Int))), (15, .d (.int .i64 v18)), (21, .d (.sl 1 (d0.map e_li64))), (22, .d (.int .i64 ((d0.map e_li64).length : Int))), (23, .d (.int .i64 v24))], [(2000, .frn 2000)], [.inLoop (cAt (bodyOf Try.f38) [1, 0, 0, 1, 1, 0, 0, 1, 1, 0, 0, 1, 1, 0, 0, 1, 1, 0, 0]), .inBlock 4, .inBlock 3, .code (cAt (bodyOf Try.f38) [1, 0, 0, 1, 1, 0, 0, 1, 1, 0, 0, 1, 1, 1]), .inLoop (cAt (bodyOf Try.f38) [1, 0, 0, 1, 1, 0, 0, 1, 1, 0, 0]), .inBlock 2, .inBlock 1, .code (cAt (bodyOf Try.f38) [1, 0, 0, 1, 1, 1]), .inLoop (cAt (bodyOf Try.f38) [1, 0, 0]), .inBlock 0]⟩ := by
                clear hF; intro n_F38_L3
                induction n_F38_L3 with
                | zero => intro r v26 hF; cases hF
                | succ n_F38_L3 ih_F38_L3 =>
                  intro r v26 hF
                  rw [F38_L3] at hF
                  refine J_adv 7 (J_bool 28 (b := decide (v26 ≤ 3)) (by kernel_rfl) (fun hb39 => ?_) (fun hb39 => ?_))
                  · replace hF := ift hb39 hF
                    obtain ⟨y37, e37, hF⟩ := bnd hF
                    refine J_adv 11 (J_opt1 (o := geti (y34.map e_i64) v18) (e_i64 y37) (by kernel_rfl) (gm e37) ?_)
                    obtain ⟨l27, hY_, hr_⟩ := bnd hF
                    clear hF; have hr_ := Option.some.inj hr_; subst hr_; have hF := hY_; clear hY_
                    refine J_adv 2 (J_yield hR_ (xs := [.agg [.d (.int .i64 v18), .d (.int .i64 v26), .d (.int .i64 y37), .d (.int .i64 0)]]) [.agg [.d (.int .i64 v18), .d (.int .i64 v26), .d (.int .i64 y37), .d (.int .i64 0)]] (ys := l27.map y_T_api_Rule) (by kernel_rfl) (Res'.refl _) ?_ ?_)
                    rotate_left
                    ·
                      exact J_adv 3 (J_doneI hR_ (.inr rfl) rfl rfl (by kernel_rfl))
                    ·
                      exact J_adv 10 (J_at [0, 1, 4, 6, 7, 14, 15, 21, 22, 23] [2000] (T0 := [.inLoop (cAt (bodyOf Try.f38) [1, 0, 0, 1, 1, 0, 0, 1, 1, 0, 0, 1, 1, 0, 0, 1, 1, 0, 0]), .inBlock 4, .inBlock 3, .code (cAt (bodyOf Try.f38) [1, 0, 0, 1, 1, 0, 0, 1, 1, 0, 0, 1, 1, 1]), .inLoop (cAt (bodyOf Try.f38) [1, 0, 0, 1, 1, 0, 0, 1, 1, 0, 0]), .inBlock 2, .inBlock 1, .code (cAt (bodyOf Try.f38) [1, 0, 0, 1, 1, 1]), .inLoop (cAt (bodyOf Try.f38) [1, 0, 0]), .inBlock 0]) (by kernel_rfl) rfl (ih_F38_L3 _ (IntKind.i64.wrap (v26 + 1)) hF))
                  · replace hF := iff' hb39 hF
                    exact J_adv 7 (J_at [0, 1, 4, 14, 15, 21, 22, 23] [2000] (T0 := [.inLoop (cAt (bodyOf Try.f38) [1, 0, 0, 1, 1, 0, 0, 1, 1, 0, 0]), .inBlock 2, .inBlock 1, .code (cAt (bodyOf Try.f38) [1, 0, 0, 1, 1, 1]), .inLoop (cAt (bodyOf Try.f38) [1, 0, 0]), .inBlock 0]) (by kernel_rfl) rfl (ih_F38_L2 _ (IntKind.i64.wrap (v24 + 1)) hF))
              exact J_adv 9 (J_at [0, 1, 4, 6, 7, 14, 15, 21, 22, 23] [2000] (T0 := [.inLoop (cAt (bodyOf Try.f38) [1, 0, 0, 1, 1, 0, 0, 1, 1, 0, 0, 1, 1, 0, 0, 1, 1, 0, 0]), .inBlock 4, .inBlock 3, .code (cAt (bodyOf Try.f38) [1, 0, 0, 1, 1, 0, 0, 1, 1, 0, 0, 1, 1, 1]), .inLoop (cAt (bodyOf Try.f38) [1, 0, 0, 1, 1, 0, 0, 1, 1, 0, 0]), .inBlock 2, .inBlock 1, .code (cAt (bodyOf Try.f38) [1, 0, 0, 1, 1, 1]), .inLoop (cAt (bodyOf Try.f38) [1, 0, 0]), .inBlock 0]) (by kernel_rfl) rfl (hF38_L3 fuel _ 1 hF))
            · replace hF := iff' hb36 hF
              exact J_adv 7 (J_at [0, 1, 14, 15] [2000] (T0 := [.inLoop (cAt (bodyOf Try.f38) [1, 0, 0]), .inBlock 0]) (by kernel_rfl) rfl (ih_F38_L1 _ (IntKind.i64.wrap (v18 + 1)) hF))
        exact J_adv 20 (J_at [0, 1, 4, 14, 15, 21, 22, 23] [2000] (T0 := [.inLoop (cAt (bodyOf Try.f38) [1, 0, 0, 1, 1, 0, 0, 1, 1, 0, 0]), .inBlock 2, .inBlock 1, .code (cAt (bodyOf Try.f38) [1, 0, 0, 1, 1, 1]), .inLoop (cAt (bodyOf Try.f38) [1, 0, 0]), .inBlock 0]) (by kernel_rfl) rfl (hF38_L2 fuel _ 0 hF))
      · replace hF := iff' hb27 hF
        have hr_ := Option.some.inj hF; subst hr_
        exact J_adv 2 (J_doneI hR_ (.inl rfl) rfl rfl (by kernel_rfl))
  exact J_adv 6 (J_at [0, 1, 14, 15] [2000] (T0 := [.inLoop (cAt (bodyOf Try.f38) [1, 0, 0]), .inBlock 0]) (by kernel_rfl) rfl (hF38_L1 fuel _ 0 hF))

/- croupier/rules.tests -/
def F58 : Option Unit :=
  some ()
theorem F58_ok {r : Unit} (hF : F58 = some r) :
    CallF Try.prog 58 [] (.agg [.d .nilf, .d (.fnc 60), .d (.fnc 61), .d (.fnc 62)]) := by
  unfold F58 at hF
  refine callF_of (N := 6) (b := bodyOf Try.f58) Try.func58 (by kernel_rfl) rfl rfl ?_
  have hr_ := Option.some.inj hF; subst hr_
  exact J_adv 13 (J_ret (xs := [.agg [.d .nilf, .d (.fnc 60), .d (.fnc 61), .d (.fnc 62)]]) [.agg [.d .nilf, .d (.fnc 60), .d (.fnc 61), .d (.fnc 62)]] rfl rfl (by kernel_rfl) (Res'.refl _) rfl)

/- croupier/rules.tests$1 -/
def F60 (d0 : Int) (d1 : Int) : Option Bool :=
  some (d0 == d1)
theorem F60_ok {d0 : Int} {d1 : Int} {r : Bool} (hF : F60 d0 d1 = some r) :
    CallF Try.prog 60 [.d (.int .i64 d0), .d (.int .i64 d1)] (.d (.bool r)) := by
  unfold F60 at hF
  refine callF_of (N := 8) (b := bodyOf Try.f60) Try.func60 (by kernel_rfl) rfl rfl ?_
  have hr_ := Option.some.inj hF; subst hr_
  exact J_adv 11 (J_ret (xs := [.d (.bool (d0 == d1))]) [.d (.bool (d0 == d1))] rfl rfl (by kernel_rfl) (Res'.refl _) rfl)

/- croupier/rules.tests$2 -/
def F61 (d0 : Int) (d1 : Int) : Option Bool :=
  some (decide (d0 ≤ d1))
theorem F61_ok {d0 : Int} {d1 : Int} {r : Bool} (hF : F61 d0 d1 = some r) :
    CallF Try.prog 61 [.d (.int .i64 d0), .d (.int .i64 d1)] (.d (.bool r)) := by
  unfold F61 at hF
  refine callF_of (N := 8) (b := bodyOf Try.f61) Try.func61 (by kernel_rfl) rfl rfl ?_
  have hr_ := Option.some.inj hF; subst hr_
  exact J_adv 11 (J_ret (xs := [.d (.bool (decide (d0 ≤ d1)))]) [.d (.bool (decide (d0 ≤ d1)))] rfl rfl (by kernel_rfl) (Res'.refl _) rfl)

/- croupier/rules.tests$3 -/
def F62 (d0 : Int) (d1 : Int) : Option Bool :=
  some (decide (d0 ≥ d1))
theorem F62_ok {d0 : Int} {d1 : Int} {r : Bool} (hF : F62 d0 d1 = some r) :
    CallF Try.prog 62 [.d (.int .i64 d0), .d (.int .i64 d1)] (.d (.bool r)) := by
  unfold F62 at hF
  refine callF_of (N := 8) (b := bodyOf Try.f62) Try.func62 (by kernel_rfl) rfl rfl ?_
  have hr_ := Option.some.inj hF; subst hr_
  exact J_adv 11 (J_ret (xs := [.d (.bool (decide (d0 ≥ d1)))]) [.d (.bool (decide (d0 ≥ d1)))] rfl rfl (by kernel_rfl) (Res'.refl _) rfl)

/- croupier/rules.passes -/
def F52 (d0 : T_api_Rule) (d1 : List Int) : Option Bool :=
  Option.bind (F58) fun y1 =>
  bif decide (d0.Test = 0) then
    (Option.bind (geti d1 d0.Var) fun y2 =>
    none)
  else bif decide (d0.Test = 1) then
    (Option.bind (geti d1 d0.Var) fun y3 =>
    Option.bind (F60 y3 d0.Val) fun y4 =>
    some y4)
  else bif decide (d0.Test = 2) then
    (Option.bind (geti d1 d0.Var) fun y5 =>
    Option.bind (F61 y5 d0.Val) fun y6 =>
    some y6)
  else bif decide (d0.Test = 3) then
    (Option.bind (geti d1 d0.Var) fun y7 =>
    Option.bind (F62 y7 d0.Val) fun y8 =>
    some y8)
  else none
theorem F52_ok {d0 : T_api_Rule} {d1 : List Int} {r : Bool} (hF : F52 d0 d1 = some r) :
    CallF Try.prog 52 [.agg [.d (.int .i64 d0.Var), .d (.int .i64 d0.Test), .d (.int .i64 d0.Val), .d (.int .i64 d0.Then)], .d (.sl 1 (d1.map e_i64))] (.d (.bool r)) := by
  unfold F52 at hF
  refine callF_of (N := 18) (b := bodyOf Try.f52) Try.func52 (by kernel_rfl) rfl rfl ?_
  refine J_adv 6 (J_draw (by kernel_rfl) (by kernel_rfl) ?_)
  obtain ⟨y1, e1, hF⟩ := bnd hF
  refine JD_adv 0 (JD_callF (xs := []) [] (.agg [.d .nilf, .d (.fnc 60), .d (.fnc 61), .d (.fnc 62)]) (by kernel_rfl) (by kernel_rfl) en58 (Res'.refl _) (F58_ok e1) ?_)
  rcases Bool.eq_false_or_eq_true (decide (d0.Test = 0)) with hb1 | hb1
  · replace hF := ift hb1 hF
    refine JD_adv 2 (JD_opt1 (o := geti (chunks 1 4 ([.nilf, .fnc 60, .fnc 61, .fnc 62] : List Dat)) d0.Test) ([.nilf] : List Dat) (by kernel_rfl) (by kernel_rfl) (by rw [of_decide_eq_true hb1]; rfl) ?_)
    obtain ⟨y2, e2, hF⟩ := bnd hF
    refine JD_adv 4 (JD_opt1 (o := geti (d1.map e_i64) d0.Var) (e_i64 y2) (by kernel_rfl) (by kernel_rfl) (gm e2) ?_)
    cases hF
  · replace hF := iff' hb1 hF
    rcases Bool.eq_false_or_eq_true (decide (d0.Test = 1)) with hb2 | hb2
    · replace hF := ift hb2 hF
      refine JD_adv 2 (JD_opt1 (o := geti (chunks 1 4 ([.nilf, .fnc 60, .fnc 61, .fnc 62] : List Dat)) d0.Test) ([.fnc 60] : List Dat) (by kernel_rfl) (by kernel_rfl) (by rw [of_decide_eq_true hb2]; rfl) ?_)
      obtain ⟨y3, e3, hF⟩ := bnd hF
      refine JD_adv 4 (JD_opt1 (o := geti (d1.map e_i64) d0.Var) (e_i64 y3) (by kernel_rfl) (by kernel_rfl) (gm e3) ?_)
      obtain ⟨y4, e4, hF⟩ := bnd hF
      refine JD_adv 3 (JD_callF (xs := [.d (.int .i64 y3), .d (.int .i64 d0.Val)]) [.d (.int .i64 y3), .d (.int .i64 d0.Val)] (.d (.bool y4)) (by kernel_rfl) (by kernel_rfl) en60 (Res'.refl _) (F60_ok e4) ?_)
      refine JD_adv 1 (JD_end (by kernel_rfl) ?_)
      have hr_ := Option.some.inj hF; subst hr_
      exact J_adv 0 (J_ret (xs := [.d (.bool y4)]) [.d (.bool y4)] rfl rfl (by kernel_rfl) (Res'.refl _) rfl)
    · replace hF := iff' hb2 hF
      rcases Bool.eq_false_or_eq_true (decide (d0.Test = 2)) with hb3 | hb3
      · replace hF := ift hb3 hF
        refine JD_adv 2 (JD_opt1 (o := geti (chunks 1 4 ([.nilf, .fnc 60, .fnc 61, .fnc 62] : List Dat)) d0.Test) ([.fnc 61] : List Dat) (by kernel_rfl) (by kernel_rfl) (by rw [of_decide_eq_true hb3]; rfl) ?_)
        obtain ⟨y5, e5, hF⟩ := bnd hF
        refine JD_adv 4 (JD_opt1 (o := geti (d1.map e_i64) d0.Var) (e_i64 y5) (by kernel_rfl) (by kernel_rfl) (gm e5) ?_)
        obtain ⟨y6, e6, hF⟩ := bnd hF
        refine JD_adv 3 (JD_callF (xs := [.d (.int .i64 y5), .d (.int .i64 d0.Val)]) [.d (.int .i64 y5), .d (.int .i64 d0.Val)] (.d (.bool y6)) (by kernel_rfl) (by kernel_rfl) en61 (Res'.refl _) (F61_ok e6) ?_)
        refine JD_adv 1 (JD_end (by kernel_rfl) ?_)
        have hr_ := Option.some.inj hF; subst hr_
        exact J_adv 0 (J_ret (xs := [.d (.bool y6)]) [.d (.bool y6)] rfl rfl (by kernel_rfl) (Res'.refl _) rfl)
      · replace hF := iff' hb3 hF
        rcases Bool.eq_false_or_eq_true (decide (d0.Test = 3)) with hb4 | hb4
        · replace hF := ift hb4 hF
          refine JD_adv 2 (JD_opt1 (o := geti (chunks 1 4 ([.nilf, .fnc 60, .fnc 61, .fnc 62] : List Dat)) d0.Test) ([.fnc 62] : List Dat) (by kernel_rfl) (by kernel_rfl) (by rw [of_decide_eq_true hb4]; rfl) ?_)
          obtain ⟨y7, e7, hF⟩ := bnd hF
          refine JD_adv 4 (JD_opt1 (o := geti (d1.map e_i64) d0.Var) (e_i64 y7) (by kernel_rfl) (by kernel_rfl) (gm e7) ?_)
          obtain ⟨y8, e8, hF⟩ := bnd hF
          refine JD_adv 3 (JD_callF (xs := [.d (.int .i64 y7), .d (.int .i64 d0.Val)]) [.d (.int .i64 y7), .d (.int .i64 d0.Val)] (.d (.bool y8)) (by kernel_rfl) (by kernel_rfl) en62 (Res'.refl _) (F62_ok e8) ?_)
          refine JD_adv 1 (JD_end (by kernel_rfl) ?_)
          have hr_ := Option.some.inj hF; subst hr_
          exact J_adv 0 (J_ret (xs := [.d (.bool y8)]) [.d (.bool y8)] rfl rfl (by kernel_rfl) (Res'.refl _) rfl)
        · replace hF := iff' hb4 hF
          cases hF

/- (*croupier/rules.search).passed -/
def F39_A2 (v6 : Int) (rec_F39_L1 : Int → Int → Option Int) (v7 : Int) : Option Int :=
  rec_F39_L1 v7 (IntKind.i64.wrap (v6 + 1))
def F39_L1 (d0 : List (List Int)) (d2 : T_api_Rule) (d3 : Int) : Nat → Int → Int → Option Int
  | 0, _, _ => none
  | n_F39_L1 + 1, v5, v6 =>
    bif decide (v6 < ((d0.map e_li64).length : Int)) then
      (Option.bind (geti d0 v6) fun y21 =>
      Option.bind (
        ass (decide (0 ≤ v6)) <|
        bif (IntKind.u64.wrap (BitVec.ofInt IntKind.u64.bits (Int.fdiv d3 (2 ^ (min (Int.toNat v6) IntKind.u64.bits))) &&& BitVec.ofInt IntKind.u64.bits 1).toNat) == 1 then
          (Option.bind (F52 d2 y21) fun y24 =>
          some y24)
        else
          (some false)) fun o6 =>
      bif o6 then
        (ass (decide (0 ≤ v6)) <|
        F39_A2 v6 (F39_L1 d0 d2 d3 n_F39_L1) (IntKind.u64.wrap (BitVec.ofInt IntKind.u64.bits v5 ||| BitVec.ofInt IntKind.u64.bits (IntKind.u64.wrap (1 * 2 ^ (min (Int.toNat v6) IntKind.u64.bits)))).toNat))
      else
        (F39_A2 v6 (F39_L1 d0 d2 d3 n_F39_L1) v5))
    else
      (some v5)
def F39 (fuel : Nat) (d0 : List (List Int)) (d1 : List Int) (d2 : T_api_Rule) (d3 : Int) : Option Int :=
  F39_L1 d0 d2 d3 fuel 0 0
theorem F39_ok {fuel : Nat} {d0 : List (List Int)} {d1 : List Int} {d2 : T_api_Rule} {d3 : Int} {r : Int} (hF : F39 fuel d0 d1 d2 d3 = some r) :
    CallF Try.prog 39 [.rp [.sl 1 (d0.map e_li64), .sl 1 (d1.map e_i64), .any] 0, .agg [.d (.int .i64 d2.Var), .d (.int .i64 d2.Test), .d (.int .i64 d2.Val), .d (.int .i64 d2.Then)], .d (.int .u64 d3)] (.d (.int .u64 r)) := by
  unfold F39 at hF
  refine callF_of (N := 36) (b := bodyOf Try.f39) Try.func39 (by kernel_rfl) rfl rfl ?_
  have hF39_L1 : ∀ (n_F39_L1 : Nat) (v5 : Int) (v6 : Int), F39_L1 d0 d2 d3 n_F39_L1 v5 v6 = some r → J none Try.prog 36 [] (finF Try.prog Try.f39 (.d (.int .u64 r))) ⟨mkT [(2, .d (.int .u64 d3)), (4, .ptr 4 0), (7, .d (.int .u64 v5)), (13, .d (.sl 1 (d0.map e_li64))), (14, .d (.int .i64 ((d0.map e_li64).length : Int))), (15, .d (.int .i64 v6))], [(4, .box [.d (.int .i64 d2.Var), .d (.int .i64 d2.Test), .d (.int .i64 d2.Val), .d (.int .i64 d2.Then)])], [.inLoop (cAt (bodyOf Try.f39) [1, 1, 0, 1, 0, 0]), .inBlock 0, .code (cAt (bodyOf Try.f39) [1, 1, 1])]⟩ := by
    clear hF; intro n_F39_L1
    induction n_F39_L1 with
    | zero => intro v5 v6 hF; cases hF
    | succ n_F39_L1 ih_F39_L1 =>
      intro v5 v6 hF
      rw [F39_L1] at hF
      refine J_adv 6 (J_bool 16 (b := decide (v6 < ((d0.map e_li64).length : Int))) (by kernel_rfl) (fun hb35 => ?_) (fun hb35 => ?_))
      · replace hF := ift hb35 hF
        have hF39_A2 : ∀ (v7 : Int), F39_A2 v6 (F39_L1 d0 d2 d3 n_F39_L1) v7 = some r → J none Try.prog 36 [] (finF Try.prog Try.f39 (.d (.int .u64 r))) ⟨mkT [(2, .d (.int .u64 d3)), (4, .ptr 4 0), (7, .d (.int .u64 v7)), (13, .d (.sl 1 (d0.map e_li64))), (14, .d (.int .i64 ((d0.map e_li64).length : Int))), (15, .d (.int .i64 v6))], [(4, .box [.d (.int .i64 d2.Var), .d (.int .i64 d2.Test), .d (.int .i64 d2.Val), .d (.int .i64 d2.Then)])], [.code (cAt (bodyOf Try.f39) [1, 1, 0, 1, 0, 0, 1, 1, 1]), .inLoop (cAt (bodyOf Try.f39) [1, 1, 0, 1, 0, 0]), .inBlock 0, .code (cAt (bodyOf Try.f39) [1, 1, 1])]⟩ := by
          intro v7 hF
          unfold F39_A2 at hF
          exact J_adv 4 (J_at [2, 4, 7, 13, 14, 15] [4] (T0 := [.inLoop (cAt (bodyOf Try.f39) [1, 1, 0, 1, 0, 0]), .inBlock 0, .code (cAt (bodyOf Try.f39) [1, 1, 1])]) (by kernel_rfl) rfl (ih_F39_L1 v7 (IntKind.i64.wrap (v6 + 1)) hF))
        obtain ⟨y21, e21, hF⟩ := bnd hF
        refine J_adv 7 (J_opt1 (o := geti (d0.map e_li64) v6) (e_li64 y21) (by kernel_rfl) (gm e21) ?_)
        obtain ⟨o6, hO, hF⟩ := bnd hF
        have hR6 : J none Try.prog 36 [] (finF Try.prog Try.f39 (.d (.int .u64 r))) ⟨mkT [(2, .d (.int .u64 d3)), (4, .ptr 4 0), (7, .d (.int .u64 v5)), (8, .d (.int .i64 v6)), (13, .d (.sl 1 (d0.map e_li64))), (14, .d (.int .i64 ((d0.map e_li64).length : Int))), (15, .d (.int .i64 v6)), (29, .d (.bool o6))], [(4, .box [.d (.int .i64 d2.Var), .d (.int .i64 d2.Test), .d (.int .i64 d2.Val), .d (.int .i64 d2.Then)])], [.ops (opsOf (cAt (bodyOf Try.f39) [1, 1, 0, 1, 0, 0, 1, 1, 0, 0, 1, 0])) [], .code (cAt (bodyOf Try.f39) [1, 1, 0, 1, 0, 0, 1, 1, 0, 0, 1, 1]), .inBlock 1, .code (cAt (bodyOf Try.f39) [1, 1, 0, 1, 0, 0, 1, 1, 1]), .inLoop (cAt (bodyOf Try.f39) [1, 1, 0, 1, 0, 0]), .inBlock 0, .code (cAt (bodyOf Try.f39) [1, 1, 1])]⟩ := by
          clear hO
          refine J_adv 1 (J_bool 29 (b := o6) (by kernel_rfl) (fun hb48 => ?_) (fun hb48 => ?_))
          · replace hF := ift hb48 hF
            obtain ⟨hb49, hF⟩ := assd hF
            refine J_adv 4 (J_opt1 (o := chk (decide (0 ≤ v6))) [] (by kernel_rfl) (ck hb49) ?_)
            exact J_adv 4 (J_at [2, 4, 7, 13, 14, 15] [4] (T0 := [.code (cAt (bodyOf Try.f39) [1, 1, 0, 1, 0, 0, 1, 1, 1]), .inLoop (cAt (bodyOf Try.f39) [1, 1, 0, 1, 0, 0]), .inBlock 0, .code (cAt (bodyOf Try.f39) [1, 1, 1])]) (by kernel_rfl) rfl (hF39_A2 (IntKind.u64.wrap (BitVec.ofInt IntKind.u64.bits v5 ||| BitVec.ofInt IntKind.u64.bits (IntKind.u64.wrap (1 * 2 ^ (min (Int.toNat v6) IntKind.u64.bits)))).toNat) hF))
          · replace hF := iff' hb48 hF
            exact J_adv 3 (J_at [2, 4, 7, 13, 14, 15] [4] (T0 := [.code (cAt (bodyOf Try.f39) [1, 1, 0, 1, 0, 0, 1, 1, 1]), .inLoop (cAt (bodyOf Try.f39) [1, 1, 0, 1, 0, 0]), .inBlock 0, .code (cAt (bodyOf Try.f39) [1, 1, 1])]) (by kernel_rfl) rfl (hF39_A2 v5 hF))
        clear hF; rename _ = some o6 => hF
        obtain ⟨hb50, hF⟩ := assd hF
        refine J_adv 8 (J_opt1 (o := chk (decide (0 ≤ v6))) [] (by kernel_rfl) (ck hb50) ?_)
        refine J_adv 3 (J_bool 25 (b := (IntKind.u64.wrap (BitVec.ofInt IntKind.u64.bits (Int.fdiv d3 (2 ^ (min (Int.toNat v6) IntKind.u64.bits))) &&& BitVec.ofInt IntKind.u64.bits 1).toNat) == 1) (by kernel_rfl) (fun hb51 => ?_) (fun hb51 => ?_))
        · replace hF := ift hb51 hF
          obtain ⟨y24, e24, hF⟩ := bnd hF
          refine J_adv 2 (J_callF (xs := [.agg [.d (.int .i64 d2.Var), .d (.int .i64 d2.Test), .d (.int .i64 d2.Val), .d (.int .i64 d2.Then)], .d (.sl 1 (y21.map e_i64))]) [.agg [.d (.int .i64 d2.Var), .d (.int .i64 d2.Test), .d (.int .i64 d2.Val), .d (.int .i64 d2.Then)], .d (.sl 1 (y21.map e_i64))] (.d (.bool y24)) (by kernel_rfl) en52 (Res'.refl _) (F52_ok e24) ?_)
          have hr_ := Option.some.inj hF; subst hr_
          exact J_adv 1 (J_at [2, 4, 7, 8, 13, 14, 15, 29] [4] (T0 := [.ops (opsOf (cAt (bodyOf Try.f39) [1, 1, 0, 1, 0, 0, 1, 1, 0, 0, 1, 0])) [], .code (cAt (bodyOf Try.f39) [1, 1, 0, 1, 0, 0, 1, 1, 0, 0, 1, 1]), .inBlock 1, .code (cAt (bodyOf Try.f39) [1, 1, 0, 1, 0, 0, 1, 1, 1]), .inLoop (cAt (bodyOf Try.f39) [1, 1, 0, 1, 0, 0]), .inBlock 0, .code (cAt (bodyOf Try.f39) [1, 1, 1])]) (by kernel_rfl) rfl hR6)
        · replace hF := iff' hb51 hF
          have hr_ := Option.some.inj hF; subst hr_
          exact J_adv 4 (J_at [2, 4, 7, 8, 13, 14, 15, 29] [4] (T0 := [.ops (opsOf (cAt (bodyOf Try.f39) [1, 1, 0, 1, 0, 0, 1, 1, 0, 0, 1, 0])) [], .code (cAt (bodyOf Try.f39) [1, 1, 0, 1, 0, 0, 1, 1, 0, 0, 1, 1]), .inBlock 1, .code (cAt (bodyOf Try.f39) [1, 1, 0, 1, 0, 0, 1, 1, 1]), .inLoop (cAt (bodyOf Try.f39) [1, 1, 0, 1, 0, 0]), .inBlock 0, .code (cAt (bodyOf Try.f39) [1, 1, 1])]) (by kernel_rfl) rfl hR6)
      · replace hF := iff' hb35 hF
        have hr_ := Option.some.inj hF; subst hr_
        exact J_adv 7 (J_ret (xs := [.d (.int .u64 v5)]) [.d (.int .u64 v5)] rfl rfl (by kernel_rfl) (Res'.refl _) rfl)
  exact J_adv 21 (J_at [2, 4, 7, 13, 14, 15] [4] (T0 := [.inLoop (cAt (bodyOf Try.f39) [1, 1, 0, 1, 0, 0]), .inBlock 0, .code (cAt (bodyOf Try.f39) [1, 1, 1])]) (by kernel_rfl) rfl (hF39_L1 fuel 0 0 hF))

/- croupier/rules.Shortest -/
def F19_L2 (fuel : Nat) (d0 : List (List Int)) (d1 : List Int) (y32 : Int) (rec_F19_L1 : Nat → (List Int) → (List (Int × T_rules_step)) → Option (T_api_Rules × Int)) : List T_api_Rule → (List (Int × T_rules_step)) → Nat → (List Int) → Option (T_api_Rules × Int)
  | [], m17, o14, l16 =>
    ass (decide ((0 : Int) ≤ 1) && decide (1 ≤ (((l16.map e_u64).drop o14).length : Int))) <|
    rec_F19_L1 (o14 + Int.toNat 1) l16 m17
  | y43 :: ys_F19_L2, m17, o14, l16 =>
    Option.bind (F39 fuel d0 d1 y43 y32) fun y44 =>
    Option.bind (F36 fuel d0 d1 y44) fun y45 =>
    Option.bind (
      bif !y45.2 then
        (some true)
      else
        (some (y44 == 0))) fun o15 =>
    bif o15 then
      ((F19_L2 fuel d0 d1 y32 rec_F19_L1 ys_F19_L2) m17 o14 l16)
    else
      (Option.bind (some (mlookF m17 (IntKind.u64.wrap (BitVec.ofInt IntKind.u64.bits y32 &&& ~~~ BitVec.ofInt IntKind.u64.bits y44).toNat) (⟨(⟨0, 0, 0, 0⟩ : T_api_Rule), 0⟩ : T_rules_step))) fun y46 =>
      Option.bind (some (mhasF m17 (IntKind.u64.wrap (BitVec.ofInt IntKind.u64.bits y32 &&& ~~~ BitVec.ofInt IntKind.u64.bits y44).toNat))) fun t18 =>
      bif t18 then
        ((F19_L2 fuel d0 d1 y32 rec_F19_L1 ys_F19_L2) m17 o14 l16)
      else
        (Option.bind (some (mputF m17 (IntKind.u64.wrap (BitVec.ofInt IntKind.u64.bits y32 &&& ~~~ BitVec.ofInt IntKind.u64.bits y44).toNat) (⟨(⟨y43.Var, y43.Test, y43.Val, y45.1⟩ : T_api_Rule), y32⟩ : T_rules_step))) fun m18 =>
        Option.bind (app (l16.drop o14) [IntKind.u64.wrap (BitVec.ofInt IntKind.u64.bits y32 &&& ~~~ BitVec.ofInt IntKind.u64.bits y44).toNat]) fun l17 =>
        (F19_L2 fuel d0 d1 y32 rec_F19_L1 ys_F19_L2) m18 0 l17))
def F19_L1 (fuel : Nat) (d0 : List (List Int)) (d1 : List Int) : Nat → Nat → (List Int) → (List (Int × T_rules_step)) → Option (T_api_Rules × Int)
  | 0, _, _, _ => none
  | n_F19_L1 + 1, o10, l12, m13 =>
    bif decide ((((l12.map e_u64).drop o10).length : Int) > 0) then
      (Option.bind (geti (l12.drop o10) 0) fun y32 =>
      Option.bind (F36 fuel d0 d1 y32) fun y33 =>
      bif y33.2 then
        (Option.bind (F37 fuel y32 y33.1 d0 d1 m13) fun y34 =>
        some (y34, 0))
      else
        (Option.bind (F38 fuel d0 d1) fun ys3 =>
        F19_L2 fuel d0 d1 y32 (F19_L1 fuel d0 d1 n_F19_L1) ys3 m13 o10 l12))
    else
      (some ((⟨[], 0⟩ : T_api_Rules), 4))
def F19 (fuel : Nat) (d0 : List (List Int)) (d1 : List Int) : Option (T_api_Rules × Int) :=
  Option.bind (F33 fuel d0 d1) fun y1 =>
  bif !y1 then
    (some ((⟨[], 0⟩ : T_api_Rules), 2))
  else
    (ass (decide (0 ≤ ((d0.map e_li64).length : Int))) <|
    Option.bind (some (mputF ([] : List (Int × T_rules_step)) (IntKind.u64.wrap ((IntKind.u64.wrap (1 * 2 ^ (min (Int.toNat ((d0.map e_li64).length : Int)) IntKind.u64.bits))) - 1)) (⟨(⟨0, 0, 0, 0⟩ : T_api_Rule), 0⟩ : T_rules_step))) fun m1 =>
    F19_L1 fuel d0 d1 fuel 0 [IntKind.u64.wrap ((IntKind.u64.wrap (1 * 2 ^ (min (Int.toNat ((d0.map e_li64).length : Int)) IntKind.u64.bits))) - 1)] m1)
theorem F19_ok {fuel : Nat} {d0 : List (List Int)} {d1 : List Int} {r : T_api_Rules × Int} (hF : F19 fuel d0 d1 = some r) :
    CallF Try.prog 19 [.d (.sl 1 (d0.map e_li64)), .d (.sl 1 (d1.map e_i64))] (.tup [.agg [.d (.sl 4 (r.1.List.map e_T_api_Rule)), .d (.int .i64 r.1.Else)], .d (.int .i64 r.2)]) := by
  unfold F19 at hF
  refine callM_of (N := 108) (b := bodyOf Try.f19) Try.func19 (by kernel_rfl) rfl rfl (fun w00_ M00_ => ?_)
  obtain ⟨y1, e1, hF⟩ := bnd hF
  refine J_adv 10 (J_callF (xs := [.d (.sl 1 (d0.map e_li64)), .d (.sl 1 (d1.map e_i64))]) [.d (.sl 1 (d0.map e_li64)), .d (.sl 1 (d1.map e_i64))] (.d (.bool y1)) (by kernel_rfl) en33 (Res'.refl _) (F33_ok e1) ?_)
  refine J_adv 2 (J_bool 22 (b := !y1) (by kernel_rfl) (fun hb1 => ?_) (fun hb1 => ?_))
  · replace hF := ift hb1 hF
    have hr_ := Option.some.inj hF; subst hr_
    exact J_adv 7 (J_retM (xs := [.agg [.d (.sl 4 ([].map e_T_api_Rule)), .d (.int .i64 0)], .d (.int .i64 2)]) [.agg [.d (.sl 4 ([].map e_T_api_Rule)), .d (.int .i64 0)], .d (.int .i64 2)] rfl rfl (by kernel_rfl) (Res'.refl _) rfl (by kernel_rfl))
  · replace hF := iff' hb1 hF
    obtain ⟨hb2, hF⟩ := assd hF
    refine J_adv 16 (J_opt1 (o := chk (decide (0 ≤ ((d0.map e_li64).length : Int)))) [] (by kernel_rfl) (ck hb2) ?_)
    obtain ⟨m1, e2, hF⟩ := bnd hF
    refine J_adv 12 (J_obj (o := .mapo (.int .u64) true 5 (mput (([] : List (Int × T_rules_step)).map (pe (Dat.int .u64) e_T_rules_step)) ((Dat.int .u64) (IntKind.u64.wrap ((IntKind.u64.wrap (1 * 2 ^ (min (Int.toNat ((d0.map e_li64).length : Int)) IntKind.u64.bits))) - 1))) (e_T_rules_step (⟨(⟨0, 0, 0, 0⟩ : T_api_Rule), 0⟩ : T_rules_step)))) 26 (.mapo (.int .u64) true 5 (m1.map (pe (Dat.int .u64) e_T_rules_step))) (by kernel_rfl) (by cases e2; rw [ptm (dk_int _)]) ?_)
    have hF19_L1 : ∀ (n_F19_L1 : Nat) (Ds_ : List Nat) (o10 : Nat) (l12 : List Int) (m13 : List (Int × T_rules_step)), F19_L1 fuel d0 d1 n_F19_L1 o10 l12 m13 = some r → J none Try.prog 108 (dfs Ds_) (finM Try.prog Try.f19 (.tup [.agg [.d (.sl 4 (r.1.List.map e_T_api_Rule)), .d (.int .i64 r.1.Else)], .d (.int .i64 r.2)]) w00_ M00_ Ds_) ⟨mkT [(4, .ptr 4 0), (6, .ptr 6 0), (8, .ptr 8 0)], [(4, .box [.esl 4, .d (.int .i64 0)]), (6, .box [.ptr 28 0]), (8, .box [.suf 40 0 o10]), (26, .mapo (.int .u64) true 5 (m13.map (pe (Dat.int .u64) e_T_rules_step))), (28, .fzb [.d (.sl 1 (d0.map e_li64)), .d (.sl 1 (d1.map e_i64)), .mp 26]), (40, .buf 0 77 1 (l12.map e_u64))], [.inLoop (cAt (bodyOf Try.f19) [1, 1, 1, 1, 1, 0, 1, 0, 0]), .inBlock 0, .code (cAt (bodyOf Try.f19) [1, 1, 1, 1, 1, 1])]⟩ := by
      clear hF; intro n_F19_L1
      induction n_F19_L1 with
      | zero => intro Ds_ o10 l12 m13 hF; cases hF
      | succ n_F19_L1 ih_F19_L1 =>
        intro Ds_ o10 l12 m13 hF
        rw [F19_L1] at hF
        refine J_adv 8 (J_bool 43 (b := decide ((((l12.map e_u64).drop o10).length : Int) > 0)) (by kernel_rfl) (fun hb39 => ?_) (fun hb39 => ?_))
        · replace hF := ift hb39 hF
          obtain ⟨y32, e47, hF⟩ := bnd hF
          refine J_adv 8 (J_opt1 (o := geti ((l12.map e_u64).drop o10) 0) (e_u64 y32) (by kernel_rfl) (gmd e47) ?_)
          refine J_adv 0 (J_opt1 (o := (l12.map e_u64)[o10 + Int.toNat 0]?) (e_u64 y32) (by kernel_rfl) (gjm (gjd e47)) ?_)
          obtain ⟨y33, e48, hF⟩ := bnd hF
          refine J_adv 8 (J_callF (xs := [.rp [.sl 1 (d0.map e_li64), .sl 1 (d1.map e_i64), .any] 0, .d (.int .u64 y32)]) [.rp [.sl 1 (d0.map e_li64), .sl 1 (d1.map e_i64), .any] 0, .d (.int .u64 y32)] (.tup [.d (.int .i64 y33.1), .d (.bool y33.2)]) (by kernel_rfl) en36 (Res'.refl _) (F36_ok e48) ?_)
          refine J_adv 10 (J_bool 55 (b := y33.2) (by kernel_rfl) (fun hb40 => ?_) (fun hb40 => ?_))
          · replace hF := ift hb40 hF
            obtain ⟨y34, e49, hF⟩ := bnd hF
            refine J_adv 6 (J_callR (os := [(2000, .fzb [.d (.sl 1 (d0.map e_li64)), .d (.sl 1 (d1.map e_i64)), .mp 2001]), (2001, .mapo (.int .u64) true 5 (m13.map (pe (Dat.int .u64) e_T_rules_step)))]) (xs := [.ptr 2000 0, .d (.int .u64 y32), .d (.int .i64 y33.1)]) [(28, 2000), (26, 2001)] [.ptr 2000 0, .d (.int .u64 y32), .d (.int .i64 y33.1)] [(2000, .fzb [.d (.sl 1 (d0.map e_li64)), .d (.sl 1 (d1.map e_i64)), .mp 2001]), (2001, .mapo (.int .u64) true 5 (m13.map (pe (Dat.int .u64) e_T_rules_step)))] (.agg [.d (.sl 4 (y34.List.map e_T_api_Rule)), .d (.int .i64 y34.Else)]) (by kernel_rfl) (by kernel_rfl) en37 (Res'.refl _) (F37_ok e49) ?_)
            have hr_ := Option.some.inj hF; subst hr_
            exact J_adv 3 (J_retM (xs := [.agg [.d (.sl 4 (y34.List.map e_T_api_Rule)), .d (.int .i64 y34.Else)], .d (.int .i64 0)]) [.agg [.d (.sl 4 (y34.List.map e_T_api_Rule)), .d (.int .i64 y34.Else)], .d (.int .i64 0)] rfl rfl (by kernel_rfl) (Res'.refl _) rfl (by kernel_rfl))
          · replace hF := iff' hb40 hF
            refine J_adv 10 (J_at (S0 := [(4, .ptr 4 0), (6, .ptr 6 0), (8, .ptr 8 0), (9, .ptr 9 0), (61, .fn 38 [.ptr 28 0] [])]) (O0 := [(4, .box [.esl 4, .d (.int .i64 0)]), (6, .box [.ptr 28 0]), (8, .box [.suf 40 0 o10]), (9, .box [.d (.int .u64 y32)]), (26, .mapo (.int .u64) true 5 (m13.map (pe (Dat.int .u64) e_T_rules_step))), (28, .fzb [.d (.sl 1 (d0.map e_li64)), .d (.sl 1 (d1.map e_i64)), .mp 26]), (40, .buf 0 77 1 (l12.map e_u64))]) (T0 := [.code (cAt (bodyOf Try.f19) [1, 1, 1, 1, 1, 0, 1, 0, 0, 1, 0, 0, 0, 1, 1, 1, 1, 0]), .inBlock 2, .inScope, .inBlock 1, .code (cAt (bodyOf Try.f19) [1, 1, 1, 1, 1, 0, 1, 0, 0, 1, 1]), .inLoop (cAt (bodyOf Try.f19) [1, 1, 1, 1, 1, 0, 1, 0, 0]), .inBlock 0, .code (cAt (bodyOf Try.f19) [1, 1, 1, 1, 1, 1])]) [4, 6, 8, 9, 61] [4, 6, 8, 9, 26, 28, 40] (by kernel_rfl) rfl ?_)
            refine J_ren [(26, 26), (40, 40), (4, 2100), (6, 2101), (8, 2102), (9, 2103), (28, 2104)] (by kernel_rfl) (by kernel_rfl) (by kernel_rfl) (by kernel_rfl) ?_
            refine J_at (S0 := [(4, .ptr 2100 0), (6, .ptr 2101 0), (8, .ptr 2102 0), (9, .ptr 2103 0), (61, .fn 38 [.ptr 2104 0] [])]) (O0 := [(26, .mapo (.int .u64) true 5 (m13.map (pe (Dat.int .u64) e_T_rules_step))), (40, .buf 0 77 1 (l12.map e_u64)), (2100, .box [.esl 4, .d (.int .i64 0)]), (2101, .box [.ptr 2104 0]), (2102, .box [.suf 40 0 o10]), (2103, .box [.d (.int .u64 y32)]), (2104, .fzb [.d (.sl 1 (d0.map e_li64)), .d (.sl 1 (d1.map e_i64)), .mp 26])]) (T0 := [.code (cAt (bodyOf Try.f19) [1, 1, 1, 1, 1, 0, 1, 0, 0, 1, 0, 0, 0, 1, 1, 1, 1, 0]), .inBlock 2, .inScope, .inBlock 1, .code (cAt (bodyOf Try.f19) [1, 1, 1, 1, 1, 0, 1, 0, 0, 1, 1]), .inLoop (cAt (bodyOf Try.f19) [1, 1, 1, 1, 1, 0, 1, 0, 0]), .inBlock 0, .code (cAt (bodyOf Try.f19) [1, 1, 1, 1, 1, 1])]) [4, 6, 8, 9, 61] [26, 40, 2100, 2101, 2102, 2103, 2104] (by kernel_rfl) rfl ?_
            obtain ⟨ys3, e50, hF⟩ := bnd hF
            obtain ⟨G_, hG_⟩ : ∃ G : List (List Kx.V) → List (Nat × IObj) → Prop, G = (fun yv ob => ∃ (yl_ : List T_api_Rule) (m17 : List (Int × T_rules_step)) (o14 : Nat) (l16 : List Int), yv = yl_.map y_T_api_Rule ∧ ob = [(26, .mapo (.int .u64) true 5 (m17.map (pe (Dat.int .u64) e_T_rules_step))), (40, .buf 0 77 1 (l16.map e_u64)), (2100, .box [.esl 4, .d (.int .i64 0)]), (2101, .box [.ptr 2104 0]), (2102, .box [.suf 40 0 o14]), (2103, .box [.d (.int .u64 y32)]), (2104, .fzb [.d (.sl 1 (d0.map e_li64)), .d (.sl 1 (d1.map e_i64)), .mp 26])] ∧ F19_L2 fuel d0 d1 y32 (F19_L1 fuel d0 d1 n_F19_L1) yl_ m17 o14 l16 = some r) := ⟨_, rfl⟩
            obtain ⟨GX_, hGX_⟩ : ∃ G : Code → List (Nat × IObj) → Prop, G = (fun j ob => False) := ⟨_, rfl⟩
            refine J_range (P := Try.prog) (g := (.tmp 61)) (ps := #[62]) (asg := (cAt (bodyOf Try.f19) [1, 1, 1, 1, 1, 0, 1, 0, 0, 1, 0, 0, 0, 1, 1, 1, 1, 0, 0])) (bo := (cAt (bodyOf Try.f19) [1, 1, 1, 1, 1, 0, 1, 0, 0, 1, 0, 0, 0, 1, 1, 1, 1, 0, 1])) (k := [.inBlock 2, .inScope, .inBlock 1, .code (cAt (bodyOf Try.f19) [1, 1, 1, 1, 1, 0, 1, 0, 0, 1, 1]), .inLoop (cAt (bodyOf Try.f19) [1, 1, 1, 1, 1, 0, 1, 0, 0]), .inBlock 0, .code (cAt (bodyOf Try.f19) [1, 1, 1, 1, 1, 1])]) (gf := 38) (first := [.ptr 2104 0]) (cap := []) (xs := [.rp [.sl 1 (d0.map e_li64), .sl 1 (d1.map e_i64), .any] 0]) [.rp [.sl 1 (d0.map e_li64), .sl 1 (d1.map e_i64), .any] 0] (ysAll := ys3.map y_T_api_Rule) [2100, 2101, 2102, 2103, 2104] G_ GX_ rfl (by kernel_rfl) (by kernel_rfl) (by kernel_rfl) (Res'.refl _) en38 (F38_ok e50) (by kernel_rfl) (by kernel_rfl) (by kernel_rfl) ?_ ?_ ?_ ⟨by kernel_rfl, by kernel_rfl⟩ ?_ ?_ ?_
            · rw [hG_]; exact ⟨ys3, m13, o10, l12, rfl, by kernel_rfl, hF⟩
            · intro yv_ ob_ h_; rw [hG_] at h_; obtain ⟨_, _, _, _, _, rfl, _⟩ := h_; kernel_rfl
            · intro j_ ob_ h_; rw [hGX_] at h_; exact h_.elim
            · intro x_ hxa_ hxb_ hxp_ yv_ ysv_ ob_ h_; rw [hG_] at h_
              obtain ⟨yl_, m17, o14, l16, hy_, rfl, hF⟩ := h_
              cases yl_ with
              | nil => cases hy_
              | cons y43 ys_F19_L2 =>
                cases hy_; rw [F19_L2] at hF
                refine hJ_of (by kernel_rfl) ?_
                refine J_at (S0 := [(4, .ptr 2100 0), (6, .ptr 2101 0), (8, .ptr 2102 0), (9, .ptr 2103 0), (61, .fn 38 [.ptr 2104 0] []), (62, .agg [.d (.int .i64 y43.Var), .d (.int .i64 y43.Test), .d (.int .i64 y43.Val), .d (.int .i64 y43.Then)])]) (O0 := [(3000, .raw x_.D (.deferred (some []))), (3001, .raw x_.L (.loop (recOf x_ .ready none))), (26, .mapo (.int .u64) true 5 (m17.map (pe (Dat.int .u64) e_T_rules_step))), (40, .buf 0 77 1 (l16.map e_u64)), (2100, .box [.esl 4, .d (.int .i64 0)]), (2101, .box [.ptr 2104 0]), (2102, .box [.suf 40 0 o14]), (2103, .box [.d (.int .u64 y32)]), (2104, .fzb [.d (.sl 1 (d0.map e_li64)), .d (.sl 1 (d1.map e_i64)), .mp 26])]) (T0 := [.code (cAt (bodyOf Try.f19) [1, 1, 1, 1, 1, 0, 1, 0, 0, 1, 0, 0, 0, 1, 1, 1, 1, 0, 0]), .begR x_.L, .code (cAt (bodyOf Try.f19) [1, 1, 1, 1, 1, 0, 1, 0, 0, 1, 0, 0, 0, 1, 1, 1, 1, 0, 1])]) [4, 6, 8, 9, 61, 62] [3000, 3001, 26, 40, 2100, 2101, 2102, 2103, 2104] (by kernel_rfl) rfl ?_
                refine J_adv 4 (J_at (S0 := [(4, .ptr 2100 0), (6, .ptr 2101 0), (8, .ptr 2102 0), (9, .ptr 2103 0), (12, .ptr 12 0), (61, .fn 38 [.ptr 2104 0] []), (62, .agg [.d (.int .i64 y43.Var), .d (.int .i64 y43.Test), .d (.int .i64 y43.Val), .d (.int .i64 y43.Then)])]) (O0 := [(3000, .raw x_.D (.deferred (some []))), (3001, .raw x_.L (.loop (recOf x_ .ready none))), (12, .box [.d (.int .i64 y43.Var), .d (.int .i64 y43.Test), .d (.int .i64 y43.Val), .d (.int .i64 y43.Then)]), (26, .mapo (.int .u64) true 5 (m17.map (pe (Dat.int .u64) e_T_rules_step))), (40, .buf 0 77 1 (l16.map e_u64)), (2100, .box [.esl 4, .d (.int .i64 0)]), (2101, .box [.ptr 2104 0]), (2102, .box [.suf 40 0 o14]), (2103, .box [.d (.int .u64 y32)]), (2104, .fzb [.d (.sl 1 (d0.map e_li64)), .d (.sl 1 (d1.map e_i64)), .mp 26])]) (T0 := [.begR x_.L, .code (cAt (bodyOf Try.f19) [1, 1, 1, 1, 1, 0, 1, 0, 0, 1, 0, 0, 0, 1, 1, 1, 1, 0, 1])]) [4, 6, 8, 9, 12, 61, 62] [3000, 3001, 12, 26, 40, 2100, 2101, 2102, 2103, 2104] (by kernel_rfl) rfl ?_)
                refine J_begR (l := x_.L) (q := 3001) (k := [.code (cAt (bodyOf Try.f19) [1, 1, 1, 1, 1, 0, 1, 0, 0, 1, 0, 0, 0, 1, 1, 1, 1, 0, 1])]) (rec := recOf x_ .ready none) rfl rfl rfl ?_
                obtain ⟨y44, e63, hF⟩ := bnd hF
                refine J_adv 6 (J_callF (xs := [.rp [.sl 1 (d0.map e_li64), .sl 1 (d1.map e_i64), .any] 0, .agg [.d (.int .i64 y43.Var), .d (.int .i64 y43.Test), .d (.int .i64 y43.Val), .d (.int .i64 y43.Then)], .d (.int .u64 y32)]) [.rp [.sl 1 (d0.map e_li64), .sl 1 (d1.map e_i64), .any] 0, .agg [.d (.int .i64 y43.Var), .d (.int .i64 y43.Test), .d (.int .i64 y43.Val), .d (.int .i64 y43.Then)], .d (.int .u64 y32)] (.d (.int .u64 y44)) (by kernel_rfl) en39 (Res'.refl _) (F39_ok e63) ?_)
                obtain ⟨y45, e64, hF⟩ := bnd hF
                refine J_adv 6 (J_callF (xs := [.rp [.sl 1 (d0.map e_li64), .sl 1 (d1.map e_i64), .any] 0, .d (.int .u64 y44)]) [.rp [.sl 1 (d0.map e_li64), .sl 1 (d1.map e_i64), .any] 0, .d (.int .u64 y44)] (.tup [.d (.int .i64 y45.1), .d (.bool y45.2)]) (by kernel_rfl) en36 (Res'.refl _) (F36_ok e64) ?_)
                obtain ⟨o15, hO, hF⟩ := bnd hF
                have hR9 : J (some x_.L) Try.prog 108 [] (finB x_ G_ GX_ (ys_F19_L2.map y_T_api_Rule)) ⟨mkT [(6, .ptr 2101 0), (8, .ptr 2102 0), (9, .ptr 2103 0), (12, .ptr 12 0), (14, .d (.int .i64 y45.1)), (16, .d (.int .u64 (IntKind.u64.wrap (BitVec.ofInt IntKind.u64.bits y32 &&& ~~~ BitVec.ofInt IntKind.u64.bits y44).toNat))), (81, .d (.bool o15))], [(3000, .raw x_.D (.deferred (some []))), (3001, .raw x_.L (.loop (recOf x_ .busy none))), (12, .box [.d (.int .i64 y43.Var), .d (.int .i64 y43.Test), .d (.int .i64 y43.Val), .d (.int .i64 y43.Then)]), (26, .mapo (.int .u64) true 5 (m17.map (pe (Dat.int .u64) e_T_rules_step))), (40, .buf 0 77 1 (l16.map e_u64)), (2100, .box [.esl 4, .d (.int .i64 0)]), (2101, .box [.ptr 2104 0]), (2102, .box [.suf 40 0 o14]), (2103, .box [.d (.int .u64 y32)]), (2104, .fzb [.d (.sl 1 (d0.map e_li64)), .d (.sl 1 (d1.map e_i64)), .mp 26])], [.ops (opsOf (cAt (bodyOf Try.f19) [1, 1, 1, 1, 1, 0, 1, 0, 0, 1, 0, 0, 0, 1, 1, 1, 1, 0, 1, 0, 1, 1, 1, 0, 0])) [], .code (cAt (bodyOf Try.f19) [1, 1, 1, 1, 1, 0, 1, 0, 0, 1, 0, 0, 0, 1, 1, 1, 1, 0, 1, 0, 1, 1, 1, 0, 1]), .code (cAt (bodyOf Try.f19) [1, 1, 1, 1, 1, 0, 1, 0, 0, 1, 0, 0, 0, 1, 1, 1, 1, 0, 1, 0, 1, 1, 1, 1]), .inBlock 3]⟩ := by
                  clear hO
                  refine J_adv 1 (J_bool 81 (b := o15) (by kernel_rfl) (fun hb53 => ?_) (fun hb53 => ?_))
                  · replace hF := ift hb53 hF
                    refine J_adv 2 (J_at (S0 := []) (O0 := rob x_ .busy none [(26, .mapo (.int .u64) true 5 (m17.map (pe (Dat.int .u64) e_T_rules_step))), (40, .buf 0 77 1 (l16.map e_u64)), (2100, .box [.esl 4, .d (.int .i64 0)]), (2101, .box [.ptr 2104 0]), (2102, .box [.suf 40 0 o14]), (2103, .box [.d (.int .u64 y32)]), (2104, .fzb [.d (.sl 1 (d0.map e_li64)), .d (.sl 1 (d1.map e_i64)), .mp 26])]) (T0 := []) [] [3000, 3001, 26, 40, 2100, 2101, 2102, 2103, 2104] (by kernel_rfl) rfl ?_)
                    exact J_endB rfl [(26, .mapo (.int .u64) true 5 (m17.map (pe (Dat.int .u64) e_T_rules_step))), (40, .buf 0 77 1 (l16.map e_u64)), (2100, .box [.esl 4, .d (.int .i64 0)]), (2101, .box [.ptr 2104 0]), (2102, .box [.suf 40 0 o14]), (2103, .box [.d (.int .u64 y32)]), (2104, .fzb [.d (.sl 1 (d0.map e_li64)), .d (.sl 1 (d1.map e_i64)), .mp 26])] rfl rfl (by kernel_rfl) (by rw [hG_]; exact ⟨ys_F19_L2, m17, o14, l16, rfl, rfl, hF⟩)
                  · replace hF := iff' hb53 hF
                    obtain ⟨y46, e65, hF⟩ := bnd hF
                    obtain ⟨t18, e66, hF⟩ := bnd hF
                    refine J_adv 10 (J_opt2 (o := some [mlook (m17.map (pe (Dat.int .u64) e_T_rules_step)) ((Dat.int .u64) (IntKind.u64.wrap (BitVec.ofInt IntKind.u64.bits y32 &&& ~~~ BitVec.ofInt IntKind.u64.bits y44).toNat)) (e_T_rules_step (⟨(⟨0, 0, 0, 0⟩ : T_api_Rule), 0⟩ : T_rules_step)), [.bool (mhas (m17.map (pe (Dat.int .u64) e_T_rules_step)) ((Dat.int .u64) (IntKind.u64.wrap (BitVec.ofInt IntKind.u64.bits y32 &&& ~~~ BitVec.ofInt IntKind.u64.bits y44).toNat)))]]) [e_T_rules_step y46, [.bool t18]] (by kernel_rfl) (by cases e65; cases e66; rw [lkm (dk_int _), hsm (dk_int _)]) ?_)
                    refine J_adv 11 (J_bool 91 (b := t18) (by kernel_rfl) (fun hb54 => ?_) (fun hb54 => ?_))
                    · replace hF := ift hb54 hF
                      refine J_adv 2 (J_at (S0 := []) (O0 := rob x_ .busy none [(26, .mapo (.int .u64) true 5 (m17.map (pe (Dat.int .u64) e_T_rules_step))), (40, .buf 0 77 1 (l16.map e_u64)), (2100, .box [.esl 4, .d (.int .i64 0)]), (2101, .box [.ptr 2104 0]), (2102, .box [.suf 40 0 o14]), (2103, .box [.d (.int .u64 y32)]), (2104, .fzb [.d (.sl 1 (d0.map e_li64)), .d (.sl 1 (d1.map e_i64)), .mp 26])]) (T0 := []) [] [3000, 3001, 26, 40, 2100, 2101, 2102, 2103, 2104] (by kernel_rfl) rfl ?_)
                      exact J_endB rfl [(26, .mapo (.int .u64) true 5 (m17.map (pe (Dat.int .u64) e_T_rules_step))), (40, .buf 0 77 1 (l16.map e_u64)), (2100, .box [.esl 4, .d (.int .i64 0)]), (2101, .box [.ptr 2104 0]), (2102, .box [.suf 40 0 o14]), (2103, .box [.d (.int .u64 y32)]), (2104, .fzb [.d (.sl 1 (d0.map e_li64)), .d (.sl 1 (d1.map e_i64)), .mp 26])] rfl rfl (by kernel_rfl) (by rw [hG_]; exact ⟨ys_F19_L2, m17, o14, l16, rfl, rfl, hF⟩)
                    · replace hF := iff' hb54 hF
                      refine J_adv 9 (J_draw (by kernel_rfl) (by kernel_rfl) ?_)
                      obtain ⟨m18, e67, hF⟩ := bnd hF
                      refine JD_adv 9 (JD_obj (o := .mapo (.int .u64) true 5 (mput (m17.map (pe (Dat.int .u64) e_T_rules_step)) ((Dat.int .u64) (IntKind.u64.wrap (BitVec.ofInt IntKind.u64.bits y32 &&& ~~~ BitVec.ofInt IntKind.u64.bits y44).toNat)) (e_T_rules_step (⟨(⟨y43.Var, y43.Test, y43.Val, y45.1⟩ : T_api_Rule), y32⟩ : T_rules_step)))) 26 (.mapo (.int .u64) true 5 (m18.map (pe (Dat.int .u64) e_T_rules_step))) (by kernel_rfl) (by cases e67; rw [ptm (dk_int _)]) ?_)
                      refine JD_adv 0 (JD_end (by kernel_rfl) ?_)
                      obtain ⟨l17, e68, hF⟩ := bnd hF
                      refine J_adv 4 (J_opt2 (o := app2 ((l16.map e_u64).drop o14) ([IntKind.u64.wrap (BitVec.ofInt IntKind.u64.bits y32 &&& ~~~ BitVec.ofInt IntKind.u64.bits y44).toNat].map e_u64)) (l17.map e_u64) (by kernel_rfl) (amd e68) ?_)
                      refine J_adv 3 (J_at (S0 := []) (O0 := rob x_ .busy none [(26, .mapo (.int .u64) true 5 (m18.map (pe (Dat.int .u64) e_T_rules_step))), (40, .buf 0 77 1 (l17.map e_u64)), (2100, .box [.esl 4, .d (.int .i64 0)]), (2101, .box [.ptr 2104 0]), (2102, .box [.suf 40 0 0]), (2103, .box [.d (.int .u64 y32)]), (2104, .fzb [.d (.sl 1 (d0.map e_li64)), .d (.sl 1 (d1.map e_i64)), .mp 26])]) (T0 := []) [] [3000, 3001, 26, 40, 2100, 2101, 2102, 2103, 2104] (by kernel_rfl) rfl ?_)
                      exact J_endB rfl [(26, .mapo (.int .u64) true 5 (m18.map (pe (Dat.int .u64) e_T_rules_step))), (40, .buf 0 77 1 (l17.map e_u64)), (2100, .box [.esl 4, .d (.int .i64 0)]), (2101, .box [.ptr 2104 0]), (2102, .box [.suf 40 0 0]), (2103, .box [.d (.int .u64 y32)]), (2104, .fzb [.d (.sl 1 (d0.map e_li64)), .d (.sl 1 (d1.map e_i64)), .mp 26])] rfl rfl (by kernel_rfl) (by rw [hG_]; exact ⟨ys_F19_L2, m18, 0, l17, rfl, rfl, hF⟩)
                clear hF; rename _ = some o15 => hF
                refine J_adv 19 (J_bool 78 (b := !y45.2) (by kernel_rfl) (fun hb55 => ?_) (fun hb55 => ?_))
                · replace hF := ift hb55 hF
                  have hr_ := Option.some.inj hF; subst hr_
                  exact J_adv 3 (J_at [6, 8, 9, 12, 14, 16, 81] [3000, 3001, 12, 26, 40, 2100, 2101, 2102, 2103, 2104] (T0 := [.ops (opsOf (cAt (bodyOf Try.f19) [1, 1, 1, 1, 1, 0, 1, 0, 0, 1, 0, 0, 0, 1, 1, 1, 1, 0, 1, 0, 1, 1, 1, 0, 0])) [], .code (cAt (bodyOf Try.f19) [1, 1, 1, 1, 1, 0, 1, 0, 0, 1, 0, 0, 0, 1, 1, 1, 1, 0, 1, 0, 1, 1, 1, 0, 1]), .code (cAt (bodyOf Try.f19) [1, 1, 1, 1, 1, 0, 1, 0, 0, 1, 0, 0, 0, 1, 1, 1, 1, 0, 1, 0, 1, 1, 1, 1]), .inBlock 3]) (by kernel_rfl) rfl hR9)
                · replace hF := iff' hb55 hF
                  have hr_ := Option.some.inj hF; subst hr_
                  exact J_adv 3 (J_at [6, 8, 9, 12, 14, 16, 81] [3000, 3001, 12, 26, 40, 2100, 2101, 2102, 2103, 2104] (T0 := [.ops (opsOf (cAt (bodyOf Try.f19) [1, 1, 1, 1, 1, 0, 1, 0, 0, 1, 0, 0, 0, 1, 1, 1, 1, 0, 1, 0, 1, 1, 1, 0, 0])) [], .code (cAt (bodyOf Try.f19) [1, 1, 1, 1, 1, 0, 1, 0, 0, 1, 0, 0, 0, 1, 1, 1, 1, 0, 1, 0, 1, 1, 1, 0, 1]), .code (cAt (bodyOf Try.f19) [1, 1, 1, 1, 1, 0, 1, 0, 0, 1, 0, 0, 0, 1, 1, 1, 1, 0, 1, 0, 1, 1, 1, 1]), .inBlock 3]) (by kernel_rfl) rfl hR9)
            · intro D_ ob_ h_; rw [hG_] at h_
              obtain ⟨yl_, m17, o14, l16, hy_, rfl, hF⟩ := h_
              cases yl_ with
              | cons _ _ => cases hy_
              | nil =>
                clear hy_; rw [F19_L2] at hF
                refine J_renM [(2100, 4), (2101, 6), (2102, 8), (2103, 9), (26, 26), (2104, 28), (40, 40)] (by kernel_rfl) (by kernel_rfl) (by kernel_rfl) ?_
                refine J_adv 0 (J_at (S0 := [(4, .ptr 4 0), (6, .ptr 6 0), (8, .ptr 8 0)]) (O0 := [(4, .box [.esl 4, .d (.int .i64 0)]), (6, .box [.ptr 28 0]), (8, .box [.suf 40 0 o14]), (26, .mapo (.int .u64) true 5 (m17.map (pe (Dat.int .u64) e_T_rules_step))), (28, .fzb [.d (.sl 1 (d0.map e_li64)), .d (.sl 1 (d1.map e_i64)), .mp 26]), (40, .buf 0 77 1 (l16.map e_u64))]) (T0 := [.inBlock 2, .inScope, .inBlock 1, .code (cAt (bodyOf Try.f19) [1, 1, 1, 1, 1, 0, 1, 0, 0, 1, 1]), .inLoop (cAt (bodyOf Try.f19) [1, 1, 1, 1, 1, 0, 1, 0, 0]), .inBlock 0, .code (cAt (bodyOf Try.f19) [1, 1, 1, 1, 1, 1])]) [4, 6, 8] [4, 6, 8, 26, 28, 40] (by kernel_rfl) rfl ?_)
                refine J_adv 8 (J_at (S0 := [(4, .ptr 4 0), (6, .ptr 6 0), (106, .suf 40 0 o14)]) (O0 := [(4, .box [.esl 4, .d (.int .i64 0)]), (6, .box [.ptr 28 0]), (26, .mapo (.int .u64) true 5 (m17.map (pe (Dat.int .u64) e_T_rules_step))), (28, .fzb [.d (.sl 1 (d0.map e_li64)), .d (.sl 1 (d1.map e_i64)), .mp 26]), (40, .buf 0 77 1 (l16.map e_u64))]) (T0 := [.code (cAt (bodyOf Try.f19) [1, 1, 1, 1, 1, 0, 1, 0, 0, 1, 1, 0, 1]), .code (cAt (bodyOf Try.f19) [1, 1, 1, 1, 1, 0, 1, 0, 0, 1, 1, 1]), .inLoop (cAt (bodyOf Try.f19) [1, 1, 1, 1, 1, 0, 1, 0, 0]), .inBlock 0, .code (cAt (bodyOf Try.f19) [1, 1, 1, 1, 1, 1])]) [4, 6, 106] [4, 6, 26, 28, 40] (by kernel_rfl) rfl ?_)
                obtain ⟨hb56, hF⟩ := assd hF
                refine J_adv 6 (J_opt1 (o := chk (decide ((0 : Int) ≤ 1) && decide (1 ≤ (((l16.map e_u64).drop o14).length : Int)))) [] (by kernel_rfl) (ck hb56) ?_)
                exact J_adv 2 (J_at [4, 6, 8] [4, 6, 8, 26, 28, 40] (T0 := [.inLoop (cAt (bodyOf Try.f19) [1, 1, 1, 1, 1, 0, 1, 0, 0]), .inBlock 0, .code (cAt (bodyOf Try.f19) [1, 1, 1, 1, 1, 1])]) (by kernel_rfl) rfl (ih_F19_L1 _ (o14 + Int.toNat 1) l16 m17 hF))
            · intro D_ ob_ j_ h_; rw [hGX_] at h_
              exact h_.elim
        · replace hF := iff' hb39 hF
          have hr_ := Option.some.inj hF; subst hr_
          exact J_adv 8 (J_retM (xs := [.agg [.d (.sl 4 ([].map e_T_api_Rule)), .d (.int .i64 0)], .d (.int .i64 4)]) [.agg [.d (.sl 4 ([].map e_T_api_Rule)), .d (.int .i64 0)], .d (.int .i64 4)] rfl rfl (by kernel_rfl) (Res'.refl _) rfl (by kernel_rfl))
    refine J_adv 11 (J_frz 28 [.d (.sl 1 (d0.map e_li64)), .d (.sl 1 (d1.map e_i64)), .mp 26] (by kernel_rfl) (by kernel_rfl) ?_)
    exact J_adv 0 (J_at [4, 6, 8] [4, 6, 8, 26, 28, 40] (T0 := [.inLoop (cAt (bodyOf Try.f19) [1, 1, 1, 1, 1, 0, 1, 0, 0]), .inBlock 0, .code (cAt (bodyOf Try.f19) [1, 1, 1, 1, 1, 1])]) (by kernel_rfl) rfl (hF19_L1 fuel _ 0 [IntKind.u64.wrap ((IntKind.u64.wrap (1 * 2 ^ (min (Int.toNat ((d0.map e_li64).length : Int)) IntKind.u64.bits))) - 1)] m1 hF))

/- croupier/rules.valid$1 -/
def F49 (d0 : T_api_Rule) : Option Bool :=
  Option.bind (
    Option.bind (F47 d0.Var 0 3) fun y9 =>
    bif !y9 then
      (some true)
    else
      (Option.bind (F47 d0.Test 1 3) fun y10 =>
      bif !y10 then
        (some true)
      else
        (Option.bind (F47 d0.Val (-99) 99) fun y11 =>
        bif !y11 then
          (some true)
        else
          (Option.bind (F47 d0.Then 0 3) fun y12 =>
          some (!y12))))) fun o1 =>
  some o1
theorem F49_ok {d0 : T_api_Rule} {r : Bool} (hF : F49 d0 = some r) :
    CallF Try.prog 49 [.agg [.d (.int .i64 d0.Var), .d (.int .i64 d0.Test), .d (.int .i64 d0.Val), .d (.int .i64 d0.Then)]] (.d (.bool r)) := by
  unfold F49 at hF
  refine callF_of (N := 25) (b := bodyOf Try.f49) Try.func49 (by kernel_rfl) rfl rfl ?_
  obtain ⟨o1, hO, hF⟩ := bnd hF
  have hR1 : J none Try.prog 25 [] (finF Try.prog Try.f49 (.d (.bool r))) ⟨mkT [(2, .d (.bool o1))], [], [.ops (opsOf (cAt (bodyOf Try.f49) [1, 0])) [], .code (cAt (bodyOf Try.f49) [1, 1])]⟩ := by
    clear hO
    have hr_ := Option.some.inj hF; subst hr_
    exact J_adv 1 (J_ret (xs := [.d (.bool o1)]) [.d (.bool o1)] rfl rfl (by kernel_rfl) (Res'.refl _) rfl)
  clear hF; rename _ = some o1 => hF
  obtain ⟨y9, e9, hF⟩ := bnd hF
  refine J_adv 9 (J_callF (xs := [.d (.int .i64 d0.Var), .d (.int .i64 0), .d (.int .i64 3)]) [.d (.int .i64 d0.Var), .d (.int .i64 0), .d (.int .i64 3)] (.d (.bool y9)) (by kernel_rfl) en47 (Res'.refl _) (F47_ok e9) ?_)
  refine J_adv 2 (J_bool 7 (b := !y9) (by kernel_rfl) (fun hb7 => ?_) (fun hb7 => ?_))
  · replace hF := ift hb7 hF
    have hr_ := Option.some.inj hF; subst hr_
    exact J_adv 18 (J_at [2] [] (T0 := [.ops (opsOf (cAt (bodyOf Try.f49) [1, 0])) [], .code (cAt (bodyOf Try.f49) [1, 1])]) (by kernel_rfl) rfl hR1)
  · replace hF := iff' hb7 hF
    obtain ⟨y10, e10, hF⟩ := bnd hF
    refine J_adv 2 (J_callF (xs := [.d (.int .i64 d0.Test), .d (.int .i64 1), .d (.int .i64 3)]) [.d (.int .i64 d0.Test), .d (.int .i64 1), .d (.int .i64 3)] (.d (.bool y10)) (by kernel_rfl) en47 (Res'.refl _) (F47_ok e10) ?_)
    refine J_adv 3 (J_bool 13 (b := !y10) (by kernel_rfl) (fun hb8 => ?_) (fun hb8 => ?_))
    · replace hF := ift hb8 hF
      have hr_ := Option.some.inj hF; subst hr_
      exact J_adv 12 (J_at [2] [] (T0 := [.ops (opsOf (cAt (bodyOf Try.f49) [1, 0])) [], .code (cAt (bodyOf Try.f49) [1, 1])]) (by kernel_rfl) rfl hR1)
    · replace hF := iff' hb8 hF
      obtain ⟨y11, e11, hF⟩ := bnd hF
      refine J_adv 2 (J_callF (xs := [.d (.int .i64 d0.Val), .d (.int .i64 (-99)), .d (.int .i64 99)]) [.d (.int .i64 d0.Val), .d (.int .i64 (-99)), .d (.int .i64 99)] (.d (.bool y11)) (by kernel_rfl) en47 (Res'.refl _) (F47_ok e11) ?_)
      refine J_adv 3 (J_bool 19 (b := !y11) (by kernel_rfl) (fun hb9 => ?_) (fun hb9 => ?_))
      · replace hF := ift hb9 hF
        have hr_ := Option.some.inj hF; subst hr_
        exact J_adv 6 (J_at [2] [] (T0 := [.ops (opsOf (cAt (bodyOf Try.f49) [1, 0])) [], .code (cAt (bodyOf Try.f49) [1, 1])]) (by kernel_rfl) rfl hR1)
      · replace hF := iff' hb9 hF
        obtain ⟨y12, e12, hF⟩ := bnd hF
        refine J_adv 2 (J_callF (xs := [.d (.int .i64 d0.Then), .d (.int .i64 0), .d (.int .i64 3)]) [.d (.int .i64 d0.Then), .d (.int .i64 0), .d (.int .i64 3)] (.d (.bool y12)) (by kernel_rfl) en47 (Res'.refl _) (F47_ok e12) ?_)
        have hr_ := Option.some.inj hF; subst hr_
        exact J_adv 3 (J_at [2] [] (T0 := [.ops (opsOf (cAt (bodyOf Try.f49) [1, 0])) [], .code (cAt (bodyOf Try.f49) [1, 1])]) (by kernel_rfl) rfl hR1)

/- slices.IndexFunc(()croupier/api.Rule,croupier/api.Rule) -/
def F57_L1 (d0 : List T_api_Rule) : Nat → Int → Option Int
  | 0, _ => none
  | n_F57_L1 + 1, v2 =>
    bif decide (v2 < ((d0.map e_T_api_Rule).length : Int)) then
      (Option.bind (geti d0 v2) fun y5 =>
      Option.bind (F49 y5) fun y6 =>
      bif y6 then
        (some v2)
      else
        ((F57_L1 d0 n_F57_L1) (IntKind.i64.wrap (v2 + 1))))
    else
      (some (-1))
def F57 (fuel : Nat) (d0 : List T_api_Rule) : Option Int :=
  F57_L1 d0 fuel 0
theorem F57_ok {fuel : Nat} {d0 : List T_api_Rule} {r : Int} (hF : F57 fuel d0 = some r) :
    CallF Try.prog 57 [.d (.sl 4 (d0.map e_T_api_Rule)), .d (.fnc 49)] (.d (.int .i64 r)) := by
  unfold F57 at hF
  refine callF_of (N := 19) (b := bodyOf Try.f57) Try.func57 (by kernel_rfl) rfl rfl ?_
  have hF57_L1 : ∀ (n_F57_L1 : Nat) (v2 : Int), F57_L1 d0 n_F57_L1 v2 = some r → J none Try.prog 19 [] (finF Try.prog Try.f57 (.d (.int .i64 r))) ⟨mkT [(0, .d (.sl 4 (d0.map e_T_api_Rule))), (1, .d (.fnc 49)), (7, .d (.int .i64 ((d0.map e_T_api_Rule).length : Int))), (8, .d (.int .i64 v2))], [], [.inLoop (cAt (bodyOf Try.f57) [1, 0, 1, 0, 0]), .inBlock 0, .code (cAt (bodyOf Try.f57) [1, 1])]⟩ := by
    clear hF; intro n_F57_L1
    induction n_F57_L1 with
    | zero => intro v2 hF; cases hF
    | succ n_F57_L1 ih_F57_L1 =>
      intro v2 hF
      rw [F57_L1] at hF
      refine J_adv 6 (J_bool 9 (b := decide (v2 < ((d0.map e_T_api_Rule).length : Int))) (by kernel_rfl) (fun hb5 => ?_) (fun hb5 => ?_))
      · replace hF := ift hb5 hF
        obtain ⟨y5, e5, hF⟩ := bnd hF
        refine J_adv 14 (J_opt1 (o := geti (d0.map e_T_api_Rule) v2) (e_T_api_Rule y5) (by kernel_rfl) (gm e5) ?_)
        obtain ⟨y6, e6, hF⟩ := bnd hF
        refine J_adv 1 (J_callF (xs := [.agg [.d (.int .i64 y5.Var), .d (.int .i64 y5.Test), .d (.int .i64 y5.Val), .d (.int .i64 y5.Then)]]) [.agg [.d (.int .i64 y5.Var), .d (.int .i64 y5.Test), .d (.int .i64 y5.Val), .d (.int .i64 y5.Then)]] (.d (.bool y6)) (by kernel_rfl) en49 (Res'.refl _) (F49_ok e6) ?_)
        refine J_adv 1 (J_bool 16 (b := y6) (by kernel_rfl) (fun hb6 => ?_) (fun hb6 => ?_))
        · replace hF := ift hb6 hF
          have hr_ := Option.some.inj hF; subst hr_
          exact J_adv 6 (J_ret (xs := [.d (.int .i64 v2)]) [.d (.int .i64 v2)] rfl rfl (by kernel_rfl) (Res'.refl _) rfl)
        · replace hF := iff' hb6 hF
          exact J_adv 7 (J_at [0, 1, 7, 8] [] (T0 := [.inLoop (cAt (bodyOf Try.f57) [1, 0, 1, 0, 0]), .inBlock 0, .code (cAt (bodyOf Try.f57) [1, 1])]) (by kernel_rfl) rfl (ih_F57_L1 (IntKind.i64.wrap (v2 + 1)) hF))
      · replace hF := iff' hb5 hF
        have hr_ := Option.some.inj hF; subst hr_
        exact J_adv 6 (J_ret (xs := [.d (.int .i64 (-1))]) [.d (.int .i64 (-1))] rfl rfl (by kernel_rfl) (Res'.refl _) rfl)
  exact J_adv 13 (J_at [0, 1, 7, 8] [] (T0 := [.inLoop (cAt (bodyOf Try.f57) [1, 0, 1, 0, 0]), .inBlock 0, .code (cAt (bodyOf Try.f57) [1, 1])]) (by kernel_rfl) rfl (hF57_L1 fuel 0 hF))

/- slices.ContainsFunc(()croupier/api.Rule,croupier/api.Rule) -/
def F48 (fuel : Nat) (d0 : List T_api_Rule) : Option Bool :=
  Option.bind (F57 fuel d0) fun y1 =>
  some (decide (y1 ≥ 0))
theorem F48_ok {fuel : Nat} {d0 : List T_api_Rule} {r : Bool} (hF : F48 fuel d0 = some r) :
    CallF Try.prog 48 [.d (.sl 4 (d0.map e_T_api_Rule)), .d (.fnc 49)] (.d (.bool r)) := by
  unfold F48 at hF
  refine callF_of (N := 9) (b := bodyOf Try.f48) Try.func48 (by kernel_rfl) rfl rfl ?_
  obtain ⟨y1, e1, hF⟩ := bnd hF
  refine J_adv 8 (J_callF (xs := [.d (.sl 4 (d0.map e_T_api_Rule)), .d (.fnc 49)]) [.d (.sl 4 (d0.map e_T_api_Rule)), .d (.fnc 49)] (.d (.int .i64 y1)) (by kernel_rfl) en57 (Res'.refl _) (F57_ok e1) ?_)
  have hr_ := Option.some.inj hF; subst hr_
  exact J_adv 3 (J_ret (xs := [.d (.bool (decide (y1 ≥ 0)))]) [.d (.bool (decide (y1 ≥ 0)))] rfl rfl (by kernel_rfl) (Res'.refl _) rfl)

/- croupier/rules.valid -/
def F32 (fuel : Nat) (d0 : T_api_Rules) : Option Bool :=
  Option.bind (
    bif decide (((d0.List.map e_T_api_Rule).length : Int) > 12) then
      (some true)
    else
      (Option.bind (F47 d0.Else 0 3) fun y4 =>
      some (!y4))) fun o1 =>
  bif o1 then
    (some false)
  else
    (Option.bind (F48 fuel d0.List) fun y3 =>
    some (!y3))
theorem F32_ok {fuel : Nat} {d0 : T_api_Rules} {r : Bool} (hF : F32 fuel d0 = some r) :
    CallF Try.prog 32 [.agg [.d (.sl 4 (d0.List.map e_T_api_Rule)), .d (.int .i64 d0.Else)]] (.d (.bool r)) := by
  unfold F32 at hF
  refine callF_of (N := 17) (b := bodyOf Try.f32) Try.func32 (by kernel_rfl) rfl rfl ?_
  obtain ⟨o1, hO, hF⟩ := bnd hF
  have hR1 : J none Try.prog 17 [] (finF Try.prog Try.f32 (.d (.bool r))) ⟨mkT [(1, .ptr 1 0), (12, .d (.bool o1))], [(1, .box [.d (.sl 4 (d0.List.map e_T_api_Rule)), .d (.int .i64 d0.Else)])], [.ops (opsOf (cAt (bodyOf Try.f32) [1, 0, 0])) [], .code (cAt (bodyOf Try.f32) [1, 0, 1]), .code (cAt (bodyOf Try.f32) [1, 1])]⟩ := by
    clear hO
    refine J_adv 1 (J_bool 12 (b := o1) (by kernel_rfl) (fun hb3 => ?_) (fun hb3 => ?_))
    · replace hF := ift hb3 hF
      have hr_ := Option.some.inj hF; subst hr_
      exact J_adv 5 (J_ret (xs := [.d (.bool false)]) [.d (.bool false)] rfl rfl (by kernel_rfl) (Res'.refl _) rfl)
    · replace hF := iff' hb3 hF
      obtain ⟨y3, e3, hF⟩ := bnd hF
      refine J_adv 6 (J_callF (xs := [.d (.sl 4 (d0.List.map e_T_api_Rule)), .d (.fnc 49)]) [.d (.sl 4 (d0.List.map e_T_api_Rule)), .d (.fnc 49)] (.d (.bool y3)) (by kernel_rfl) en48 (Res'.refl _) (F48_ok e3) ?_)
      have hr_ := Option.some.inj hF; subst hr_
      exact J_adv 3 (J_ret (xs := [.d (.bool (!y3))]) [.d (.bool (!y3))] rfl rfl (by kernel_rfl) (Res'.refl _) rfl)
  clear hF; rename _ = some o1 => hF
  refine J_adv 13 (J_bool 7 (b := decide (((d0.List.map e_T_api_Rule).length : Int) > 12)) (by kernel_rfl) (fun hb4 => ?_) (fun hb4 => ?_))
  · replace hF := ift hb4 hF
    have hr_ := Option.some.inj hF; subst hr_
    exact J_adv 5 (J_at [1, 12] [1] (T0 := [.ops (opsOf (cAt (bodyOf Try.f32) [1, 0, 0])) [], .code (cAt (bodyOf Try.f32) [1, 0, 1]), .code (cAt (bodyOf Try.f32) [1, 1])]) (by kernel_rfl) rfl hR1)
  · replace hF := iff' hb4 hF
    obtain ⟨y4, e4, hF⟩ := bnd hF
    refine J_adv 2 (J_callF (xs := [.d (.int .i64 d0.Else), .d (.int .i64 0), .d (.int .i64 3)]) [.d (.int .i64 d0.Else), .d (.int .i64 0), .d (.int .i64 3)] (.d (.bool y4)) (by kernel_rfl) en47 (Res'.refl _) (F47_ok e4) ?_)
    have hr_ := Option.some.inj hF; subst hr_
    exact J_adv 2 (J_at [1, 12] [1] (T0 := [.ops (opsOf (cAt (bodyOf Try.f32) [1, 0, 0])) [], .code (cAt (bodyOf Try.f32) [1, 0, 1]), .code (cAt (bodyOf Try.f32) [1, 1])]) (by kernel_rfl) rfl hR1)

/- croupier/rules.fits$1 -/
def F50 (d0 : T_api_Rule) (d1 : Int) : Option Bool :=
  some (decide (d0.Var ≥ d1))
theorem F50_ok {d0 : T_api_Rule} {d1 : Int} {r : Bool} (hF : F50 d0 d1 = some r) :
    CallF Try.prog 50 [.agg [.d (.int .i64 d0.Var), .d (.int .i64 d0.Test), .d (.int .i64 d0.Val), .d (.int .i64 d0.Then)], .rp [.int .i64 d1] 0] (.d (.bool r)) := by
  unfold F50 at hF
  refine callF_of (N := 8) (b := bodyOf Try.f50) Try.func50 (by kernel_rfl) rfl rfl ?_
  have hr_ := Option.some.inj hF; subst hr_
  exact J_adv 13 (J_ret (xs := [.d (.bool (decide (d0.Var ≥ d1)))]) [.d (.bool (decide (d0.Var ≥ d1)))] rfl rfl (by kernel_rfl) (Res'.refl _) rfl)

/- slices.IndexFunc(()croupier/api.Rule,croupier/api.Rule) -/
def F57a_L1 (d0 : List T_api_Rule) (d1 : Int) : Nat → Int → Option Int
  | 0, _ => none
  | n_F57a_L1 + 1, v2 =>
    bif decide (v2 < ((d0.map e_T_api_Rule).length : Int)) then
      (Option.bind (geti d0 v2) fun y5 =>
      Option.bind (F50 y5 d1) fun y6 =>
      bif y6 then
        (some v2)
      else
        ((F57a_L1 d0 d1 n_F57a_L1) (IntKind.i64.wrap (v2 + 1))))
    else
      (some (-1))
def F57a (fuel : Nat) (d0 : List T_api_Rule) (d1 : Int) : Option Int :=
  F57a_L1 d0 d1 fuel 0
theorem F57a_ok {fuel : Nat} {d0 : List T_api_Rule} {d1 : Int} {r : Int} (hF : F57a fuel d0 d1 = some r) :
    CallF Try.prog 57 [.d (.sl 4 (d0.map e_T_api_Rule)), .fn 50 [] [.rp [.int .i64 d1] 0]] (.d (.int .i64 r)) := by
  unfold F57a at hF
  refine callF_of (N := 19) (b := bodyOf Try.f57) Try.func57 (by kernel_rfl) rfl rfl ?_
  have hF57a_L1 : ∀ (n_F57a_L1 : Nat) (v2 : Int), F57a_L1 d0 d1 n_F57a_L1 v2 = some r → J none Try.prog 19 [] (finF Try.prog Try.f57 (.d (.int .i64 r))) ⟨mkT [(0, .d (.sl 4 (d0.map e_T_api_Rule))), (1, .fn 50 [] [.rp [.int .i64 d1] 0]), (7, .d (.int .i64 ((d0.map e_T_api_Rule).length : Int))), (8, .d (.int .i64 v2))], [], [.inLoop (cAt (bodyOf Try.f57) [1, 0, 1, 0, 0]), .inBlock 0, .code (cAt (bodyOf Try.f57) [1, 1])]⟩ := by
    clear hF; intro n_F57a_L1
    induction n_F57a_L1 with
    | zero => intro v2 hF; cases hF
    | succ n_F57a_L1 ih_F57a_L1 =>
      intro v2 hF
      rw [F57a_L1] at hF
      refine J_adv 6 (J_bool 9 (b := decide (v2 < ((d0.map e_T_api_Rule).length : Int))) (by kernel_rfl) (fun hb5 => ?_) (fun hb5 => ?_))
      · replace hF := ift hb5 hF
        obtain ⟨y5, e5, hF⟩ := bnd hF
        refine J_adv 14 (J_opt1 (o := geti (d0.map e_T_api_Rule) v2) (e_T_api_Rule y5) (by kernel_rfl) (gm e5) ?_)
        obtain ⟨y6, e6, hF⟩ := bnd hF
        refine J_adv 1 (J_callF (xs := [.agg [.d (.int .i64 y5.Var), .d (.int .i64 y5.Test), .d (.int .i64 y5.Val), .d (.int .i64 y5.Then)], .rp [.int .i64 d1] 0]) [.agg [.d (.int .i64 y5.Var), .d (.int .i64 y5.Test), .d (.int .i64 y5.Val), .d (.int .i64 y5.Then)], .rp [.int .i64 d1] 0] (.d (.bool y6)) (by kernel_rfl) en50 (Res'.refl _) (F50_ok e6) ?_)
        refine J_adv 1 (J_bool 16 (b := y6) (by kernel_rfl) (fun hb6 => ?_) (fun hb6 => ?_))
        · replace hF := ift hb6 hF
          have hr_ := Option.some.inj hF; subst hr_
          exact J_adv 6 (J_ret (xs := [.d (.int .i64 v2)]) [.d (.int .i64 v2)] rfl rfl (by kernel_rfl) (Res'.refl _) rfl)
        · replace hF := iff' hb6 hF
          exact J_adv 7 (J_at [0, 1, 7, 8] [] (T0 := [.inLoop (cAt (bodyOf Try.f57) [1, 0, 1, 0, 0]), .inBlock 0, .code (cAt (bodyOf Try.f57) [1, 1])]) (by kernel_rfl) rfl (ih_F57a_L1 (IntKind.i64.wrap (v2 + 1)) hF))
      · replace hF := iff' hb5 hF
        have hr_ := Option.some.inj hF; subst hr_
        exact J_adv 6 (J_ret (xs := [.d (.int .i64 (-1))]) [.d (.int .i64 (-1))] rfl rfl (by kernel_rfl) (Res'.refl _) rfl)
  exact J_adv 13 (J_at [0, 1, 7, 8] [] (T0 := [.inLoop (cAt (bodyOf Try.f57) [1, 0, 1, 0, 0]), .inBlock 0, .code (cAt (bodyOf Try.f57) [1, 1])]) (by kernel_rfl) rfl (hF57a_L1 fuel 0 hF))

/- slices.ContainsFunc(()croupier/api.Rule,croupier/api.Rule) -/
def F48a (fuel : Nat) (d0 : List T_api_Rule) (d1 : Int) : Option Bool :=
  Option.bind (F57a fuel d0 d1) fun y1 =>
  some (decide (y1 ≥ 0))
theorem F48a_ok {fuel : Nat} {d0 : List T_api_Rule} {d1 : Int} {r : Bool} (hF : F48a fuel d0 d1 = some r) :
    CallF Try.prog 48 [.d (.sl 4 (d0.map e_T_api_Rule)), .fn 50 [] [.rp [.int .i64 d1] 0]] (.d (.bool r)) := by
  unfold F48a at hF
  refine callF_of (N := 9) (b := bodyOf Try.f48) Try.func48 (by kernel_rfl) rfl rfl ?_
  obtain ⟨y1, e1, hF⟩ := bnd hF
  refine J_adv 8 (J_callF (xs := [.d (.sl 4 (d0.map e_T_api_Rule)), .fn 50 [] [.rp [.int .i64 d1] 0]]) [.d (.sl 4 (d0.map e_T_api_Rule)), .fn 50 [] [.rp [.int .i64 d1] 0]] (.d (.int .i64 y1)) (by kernel_rfl) en57 (Res'.refl _) (F57a_ok e1) ?_)
  have hr_ := Option.some.inj hF; subst hr_
  exact J_adv 3 (J_ret (xs := [.d (.bool (decide (y1 ≥ 0)))]) [.d (.bool (decide (y1 ≥ 0)))] rfl rfl (by kernel_rfl) (Res'.refl _) rfl)

/- croupier/rules.fits -/
def F34 (fuel : Nat) (d0 : T_api_Rules) (d1 : Int) : Option Bool :=
  Option.bind (F48a fuel d0.List d1) fun y1 =>
  some (!y1)
theorem F34_ok {fuel : Nat} {d0 : T_api_Rules} {d1 : Int} {r : Bool} (hF : F34 fuel d0 d1 = some r) :
    CallF Try.prog 34 [.agg [.d (.sl 4 (d0.List.map e_T_api_Rule)), .d (.int .i64 d0.Else)], .d (.int .i64 d1)] (.d (.bool r)) := by
  unfold F34 at hF
  refine callF_of (N := 10) (b := bodyOf Try.f34) Try.func34 (by kernel_rfl) rfl rfl ?_
  obtain ⟨y1, e1, hF⟩ := bnd hF
  refine J_adv 11 (J_callF (xs := [.d (.sl 4 (d0.List.map e_T_api_Rule)), .fn 50 [] [.rp [.int .i64 d1] 0]]) [.d (.sl 4 (d0.List.map e_T_api_Rule)), .fn 50 [] [.rp [.int .i64 d1] 0]] (.d (.bool y1)) (by kernel_rfl) en48 (Res'.refl _) (F48a_ok e1) ?_)
  have hr_ := Option.some.inj hF; subst hr_
  exact J_adv 3 (J_ret (xs := [.d (.bool (!y1))]) [.d (.bool (!y1))] rfl rfl (by kernel_rfl) (Res'.refl _) rfl)

/- croupier/rules.choice -/
def F46_L1 (d0 : T_api_Rules) (d1 : List Int) : Nat → Int → Option Int
  | 0, _ => none
  | n_F46_L1 + 1, v2 =>
    bif decide (v2 < ((d0.List.map e_T_api_Rule).length : Int)) then
      (Option.bind (geti d0.List v2) fun y5 =>
      Option.bind (F52 y5 d1) fun y6 =>
      bif y6 then
        (some y5.Then)
      else
        ((F46_L1 d0 d1 n_F46_L1) (IntKind.i64.wrap (v2 + 1))))
    else
      (some d0.Else)
def F46 (fuel : Nat) (d0 : T_api_Rules) (d1 : List Int) : Option Int :=
  F46_L1 d0 d1 fuel 0
theorem F46_ok {fuel : Nat} {d0 : T_api_Rules} {d1 : List Int} {r : Int} (hF : F46 fuel d0 d1 = some r) :
    CallF Try.prog 46 [.agg [.d (.sl 4 (d0.List.map e_T_api_Rule)), .d (.int .i64 d0.Else)], .d (.sl 1 (d1.map e_i64))] (.d (.int .i64 r)) := by
  unfold F46 at hF
  refine callF_of (N := 22) (b := bodyOf Try.f46) Try.func46 (by kernel_rfl) rfl rfl ?_
  have hF46_L1 : ∀ (n_F46_L1 : Nat) (v2 : Int), F46_L1 d0 d1 n_F46_L1 v2 = some r → J none Try.prog 22 [] (finF Try.prog Try.f46 (.d (.int .i64 r))) ⟨mkT [(1, .d (.sl 1 (d1.map e_i64))), (2, .ptr 2 0), (8, .d (.sl 4 (d0.List.map e_T_api_Rule))), (9, .d (.int .i64 ((d0.List.map e_T_api_Rule).length : Int))), (10, .d (.int .i64 v2))], [(2, .box [.d (.sl 4 (d0.List.map e_T_api_Rule)), .d (.int .i64 d0.Else)])], [.inLoop (cAt (bodyOf Try.f46) [1, 0, 1, 0, 0]), .inBlock 0, .code (cAt (bodyOf Try.f46) [1, 1])]⟩ := by
    clear hF; intro n_F46_L1
    induction n_F46_L1 with
    | zero => intro v2 hF; cases hF
    | succ n_F46_L1 ih_F46_L1 =>
      intro v2 hF
      rw [F46_L1] at hF
      refine J_adv 6 (J_bool 11 (b := decide (v2 < ((d0.List.map e_T_api_Rule).length : Int))) (by kernel_rfl) (fun hb5 => ?_) (fun hb5 => ?_))
      · replace hF := ift hb5 hF
        obtain ⟨y5, e5, hF⟩ := bnd hF
        refine J_adv 6 (J_opt1 (o := geti (d0.List.map e_T_api_Rule) v2) (e_T_api_Rule y5) (by kernel_rfl) (gm e5) ?_)
        obtain ⟨y6, e6, hF⟩ := bnd hF
        refine J_adv 8 (J_callF (xs := [.agg [.d (.int .i64 y5.Var), .d (.int .i64 y5.Test), .d (.int .i64 y5.Val), .d (.int .i64 y5.Then)], .d (.sl 1 (d1.map e_i64))]) [.agg [.d (.int .i64 y5.Var), .d (.int .i64 y5.Test), .d (.int .i64 y5.Val), .d (.int .i64 y5.Then)], .d (.sl 1 (d1.map e_i64))] (.d (.bool y6)) (by kernel_rfl) en52 (Res'.refl _) (F52_ok e6) ?_)
        refine J_adv 1 (J_bool 16 (b := y6) (by kernel_rfl) (fun hb6 => ?_) (fun hb6 => ?_))
        · replace hF := ift hb6 hF
          have hr_ := Option.some.inj hF; subst hr_
          exact J_adv 7 (J_ret (xs := [.d (.int .i64 y5.Then)]) [.d (.int .i64 y5.Then)] rfl rfl (by kernel_rfl) (Res'.refl _) rfl)
        · replace hF := iff' hb6 hF
          exact J_adv 7 (J_at [1, 2, 8, 9, 10] [2] (T0 := [.inLoop (cAt (bodyOf Try.f46) [1, 0, 1, 0, 0]), .inBlock 0, .code (cAt (bodyOf Try.f46) [1, 1])]) (by kernel_rfl) rfl (ih_F46_L1 (IntKind.i64.wrap (v2 + 1)) hF))
      · replace hF := iff' hb5 hF
        have hr_ := Option.some.inj hF; subst hr_
        exact J_adv 8 (J_ret (xs := [.d (.int .i64 d0.Else)]) [.d (.int .i64 d0.Else)] rfl rfl (by kernel_rfl) (Res'.refl _) rfl)
  exact J_adv 15 (J_at [1, 2, 8, 9, 10] [2] (T0 := [.inLoop (cAt (bodyOf Try.f46) [1, 0, 1, 0, 0]), .inBlock 0, .code (cAt (bodyOf Try.f46) [1, 1])]) (by kernel_rfl) rfl (hF46_L1 fuel 0 hF))

/- croupier/rules.Apply -/
def F24 (fuel : Nat) (d0 : T_api_Rules) (d1 : List Int) : Option (Int × Int) :=
  Option.bind (F32 fuel d0) fun y1 =>
  bif !y1 then
    (some (0, 300))
  else
    (Option.bind (
      Option.bind (F45 fuel d1) fun y7 =>
      bif !y7 then
        (some true)
      else
        (Option.bind (F34 fuel d0 ((d1.map e_i64).length : Int)) fun y8 =>
        some (!y8))) fun o1 =>
    bif o1 then
      (some (0, 2))
    else
      (Option.bind (F46 fuel d0 d1) fun y6 =>
      some (y6, 0)))
theorem F24_ok {fuel : Nat} {d0 : T_api_Rules} {d1 : List Int} {r : Int × Int} (hF : F24 fuel d0 d1 = some r) :
    CallF Try.prog 24 [.agg [.d (.sl 4 (d0.List.map e_T_api_Rule)), .d (.int .i64 d0.Else)], .d (.sl 1 (d1.map e_i64))] (.tup [.d (.int .i64 r.1), .d (.int .i64 r.2)]) := by
  unfold F24 at hF
  refine callF_of (N := 22) (b := bodyOf Try.f24) Try.func24 (by kernel_rfl) rfl rfl ?_
  obtain ⟨y1, e1, hF⟩ := bnd hF
  refine J_adv 10 (J_callF (xs := [.agg [.d (.sl 4 (d0.List.map e_T_api_Rule)), .d (.int .i64 d0.Else)]]) [.agg [.d (.sl 4 (d0.List.map e_T_api_Rule)), .d (.int .i64 d0.Else)]] (.d (.bool y1)) (by kernel_rfl) en32 (Res'.refl _) (F32_ok e1) ?_)
  refine J_adv 2 (J_bool 8 (b := !y1) (by kernel_rfl) (fun hb1 => ?_) (fun hb1 => ?_))
  · replace hF := ift hb1 hF
    have hr_ := Option.some.inj hF; subst hr_
    exact J_adv 6 (J_ret (xs := [.d (.int .i64 0), .d (.int .i64 300)]) [.d (.int .i64 0), .d (.int .i64 300)] rfl rfl (by kernel_rfl) (Res'.refl _) rfl)
  · replace hF := iff' hb1 hF
    obtain ⟨o1, hO, hF⟩ := bnd hF
    have hR1 : J none Try.prog 22 [] (finF Try.prog Try.f24 (.tup [.d (.int .i64 r.1), .d (.int .i64 r.2)])) ⟨mkT [(1, .d (.sl 1 (d1.map e_i64))), (2, .ptr 2 0), (18, .d (.bool o1))], [(2, .box [.d (.sl 4 (d0.List.map e_T_api_Rule)), .d (.int .i64 d0.Else)])], [.ops (opsOf (cAt (bodyOf Try.f24) [1, 1, 0, 0])) [], .code (cAt (bodyOf Try.f24) [1, 1, 0, 1]), .code (cAt (bodyOf Try.f24) [1, 1, 1])]⟩ := by
      clear hO
      refine J_adv 1 (J_bool 18 (b := o1) (by kernel_rfl) (fun hb4 => ?_) (fun hb4 => ?_))
      · replace hF := ift hb4 hF
        have hr_ := Option.some.inj hF; subst hr_
        exact J_adv 6 (J_ret (xs := [.d (.int .i64 0), .d (.int .i64 2)]) [.d (.int .i64 0), .d (.int .i64 2)] rfl rfl (by kernel_rfl) (Res'.refl _) rfl)
      · replace hF := iff' hb4 hF
        obtain ⟨y6, e6, hF⟩ := bnd hF
        refine J_adv 6 (J_callF (xs := [.agg [.d (.sl 4 (d0.List.map e_T_api_Rule)), .d (.int .i64 d0.Else)], .d (.sl 1 (d1.map e_i64))]) [.agg [.d (.sl 4 (d0.List.map e_T_api_Rule)), .d (.int .i64 d0.Else)], .d (.sl 1 (d1.map e_i64))] (.d (.int .i64 y6)) (by kernel_rfl) en46 (Res'.refl _) (F46_ok e6) ?_)
        have hr_ := Option.some.inj hF; subst hr_
        exact J_adv 3 (J_ret (xs := [.d (.int .i64 y6), .d (.int .i64 0)]) [.d (.int .i64 y6), .d (.int .i64 0)] rfl rfl (by kernel_rfl) (Res'.refl _) rfl)
    clear hF; rename _ = some o1 => hF
    obtain ⟨y7, e7, hF⟩ := bnd hF
    refine J_adv 6 (J_callF (xs := [.d (.sl 1 (d1.map e_i64))]) [.d (.sl 1 (d1.map e_i64))] (.d (.bool y7)) (by kernel_rfl) en45 (Res'.refl _) (F45_ok e7) ?_)
    refine J_adv 2 (J_bool 12 (b := !y7) (by kernel_rfl) (fun hb5 => ?_) (fun hb5 => ?_))
    · replace hF := ift hb5 hF
      have hr_ := Option.some.inj hF; subst hr_
      exact J_adv 6 (J_at [1, 2, 18] [2] (T0 := [.ops (opsOf (cAt (bodyOf Try.f24) [1, 1, 0, 0])) [], .code (cAt (bodyOf Try.f24) [1, 1, 0, 1]), .code (cAt (bodyOf Try.f24) [1, 1, 1])]) (by kernel_rfl) rfl hR1)
    · replace hF := iff' hb5 hF
      obtain ⟨y8, e8, hF⟩ := bnd hF
      refine J_adv 3 (J_callF (xs := [.agg [.d (.sl 4 (d0.List.map e_T_api_Rule)), .d (.int .i64 d0.Else)], .d (.int .i64 ((d1.map e_i64).length : Int))]) [.agg [.d (.sl 4 (d0.List.map e_T_api_Rule)), .d (.int .i64 d0.Else)], .d (.int .i64 ((d1.map e_i64).length : Int))] (.d (.bool y8)) (by kernel_rfl) en34 (Res'.refl _) (F34_ok e8) ?_)
      have hr_ := Option.some.inj hF; subst hr_
      exact J_adv 2 (J_at [1, 2, 18] [2] (T0 := [.ops (opsOf (cAt (bodyOf Try.f24) [1, 1, 0, 0])) [], .code (cAt (bodyOf Try.f24) [1, 1, 0, 1]), .code (cAt (bodyOf Try.f24) [1, 1, 1])]) (by kernel_rfl) rfl hR1)

/- croupier/croupierlaw30.four -/
def F29 : Option (List (List Int)) :=
  some [[0], [1], [2], [3]]
theorem F29_ok {r : List (List Int)} (hF : F29 = some r) :
    CallF Try.prog 29 [] (.d (.sl 1 (r.map e_li64))) := by
  unfold F29 at hF
  refine callF_of (N := 6) (b := bodyOf Try.f29) Try.func29 (by kernel_rfl) rfl rfl ?_
  have hr_ := Option.some.inj hF; subst hr_
  exact J_adv 13 (J_ret (xs := [.d (.sl 1 ([[0], [1], [2], [3]].map e_li64))]) [.d (.sl 1 ([[0], [1], [2], [3]].map e_li64))] rfl rfl (by kernel_rfl) (Res'.refl _) rfl)

/- croupier/rules.agrees -/
def F35_L1 (fuel : Nat) (d0 : T_api_Rules) (d1 : List (List Int)) (d2 : List Int) : Nat → Int → Option Bool
  | 0, _ => none
  | n_F35_L1 + 1, v2 =>
    bif decide (v2 < ((d1.map e_li64).length : Int)) then
      (Option.bind (geti d1 v2) fun y7 =>
      Option.bind (F46 fuel d0 y7) fun y8 =>
      Option.bind (geti d2 v2) fun y9 =>
      bif y8 != y9 then
        (some false)
      else
        ((F35_L1 fuel d0 d1 d2 n_F35_L1) (IntKind.i64.wrap (v2 + 1))))
    else
      (some true)
def F35 (fuel : Nat) (d0 : T_api_Rules) (d1 : List (List Int)) (d2 : List Int) : Option Bool :=
  F35_L1 fuel d0 d1 d2 fuel 0
theorem F35_ok {fuel : Nat} {d0 : T_api_Rules} {d1 : List (List Int)} {d2 : List Int} {r : Bool} (hF : F35 fuel d0 d1 d2 = some r) :
    CallF Try.prog 35 [.agg [.d (.sl 4 (d0.List.map e_T_api_Rule)), .d (.int .i64 d0.Else)], .d (.sl 1 (d1.map e_li64)), .d (.sl 1 (d2.map e_i64))] (.d (.bool r)) := by
  unfold F35 at hF
  refine callF_of (N := 25) (b := bodyOf Try.f35) Try.func35 (by kernel_rfl) rfl rfl ?_
  have hF35_L1 : ∀ (n_F35_L1 : Nat) (v2 : Int), F35_L1 fuel d0 d1 d2 n_F35_L1 v2 = some r → J none Try.prog 25 [] (finF Try.prog Try.f35 (.d (.bool r))) ⟨mkT [(2, .d (.sl 1 (d2.map e_i64))), (3, .ptr 3 0), (9, .d (.sl 1 (d1.map e_li64))), (10, .d (.int .i64 ((d1.map e_li64).length : Int))), (11, .d (.int .i64 v2))], [(3, .box [.d (.sl 4 (d0.List.map e_T_api_Rule)), .d (.int .i64 d0.Else)])], [.inLoop (cAt (bodyOf Try.f35) [1, 0, 1, 0, 0]), .inBlock 0, .code (cAt (bodyOf Try.f35) [1, 1])]⟩ := by
    clear hF; intro n_F35_L1
    induction n_F35_L1 with
    | zero => intro v2 hF; cases hF
    | succ n_F35_L1 ih_F35_L1 =>
      intro v2 hF
      rw [F35_L1] at hF
      refine J_adv 6 (J_bool 12 (b := decide (v2 < ((d1.map e_li64).length : Int))) (by kernel_rfl) (fun hb5 => ?_) (fun hb5 => ?_))
      · replace hF := ift hb5 hF
        obtain ⟨y7, e7, hF⟩ := bnd hF
        refine J_adv 7 (J_opt1 (o := geti (d1.map e_li64) v2) (e_li64 y7) (by kernel_rfl) (gm e7) ?_)
        refine J_adv 5 (J_draw (by kernel_rfl) (by kernel_rfl) ?_)
        obtain ⟨y8, e8, hF⟩ := bnd hF
        refine JD_adv 2 (JD_callF (xs := [.agg [.d (.sl 4 (d0.List.map e_T_api_Rule)), .d (.int .i64 d0.Else)], .d (.sl 1 (y7.map e_i64))]) [.agg [.d (.sl 4 (d0.List.map e_T_api_Rule)), .d (.int .i64 d0.Else)], .d (.sl 1 (y7.map e_i64))] (.d (.int .i64 y8)) (by kernel_rfl) (by kernel_rfl) en46 (Res'.refl _) (F46_ok e8) ?_)
        obtain ⟨y9, e9, hF⟩ := bnd hF
        refine JD_adv 2 (JD_opt1 (o := geti (d2.map e_i64) v2) (e_i64 y9) (by kernel_rfl) (by kernel_rfl) (gm e9) ?_)
        refine JD_adv 2 (JD_end (by kernel_rfl) ?_)
        refine J_adv 0 (J_bool 23 (b := y8 != y9) (by kernel_rfl) (fun hb6 => ?_) (fun hb6 => ?_))
        · replace hF := ift hb6 hF
          have hr_ := Option.some.inj hF; subst hr_
          exact J_adv 5 (J_ret (xs := [.d (.bool false)]) [.d (.bool false)] rfl rfl (by kernel_rfl) (Res'.refl _) rfl)
        · replace hF := iff' hb6 hF
          exact J_adv 7 (J_at [2, 3, 9, 10, 11] [3] (T0 := [.inLoop (cAt (bodyOf Try.f35) [1, 0, 1, 0, 0]), .inBlock 0, .code (cAt (bodyOf Try.f35) [1, 1])]) (by kernel_rfl) rfl (ih_F35_L1 (IntKind.i64.wrap (v2 + 1)) hF))
      · replace hF := iff' hb5 hF
        have hr_ := Option.some.inj hF; subst hr_
        exact J_adv 6 (J_ret (xs := [.d (.bool true)]) [.d (.bool true)] rfl rfl (by kernel_rfl) (Res'.refl _) rfl)
  exact J_adv 14 (J_at [2, 3, 9, 10, 11] [3] (T0 := [.inLoop (cAt (bodyOf Try.f35) [1, 0, 1, 0, 0]), .inBlock 0, .code (cAt (bodyOf Try.f35) [1, 1])]) (by kernel_rfl) rfl (hF35_L1 fuel 0 hF))

/- croupier/rules.Right -/
def F17 (fuel : Nat) (d0 : T_api_Rules) (d1 : List (List Int)) (d2 : List Int) : Option (Bool × Int) :=
  Option.bind (F32 fuel d0) fun y1 =>
  bif !y1 then
    (some (false, 300))
  else
    (Option.bind (F33 fuel d1 d2) fun y2 =>
    bif !y2 then
      (some (false, 2))
    else
      (Option.bind (
        Option.bind (geti d1 0) fun y9 =>
        Option.bind (F34 fuel d0 ((y9.map e_i64).length : Int)) fun y10 =>
        bif y10 then
          (Option.bind (F35 fuel d0 d1 d2) fun y11 =>
          some y11)
        else
          (some false)) fun o1 =>
      some (o1, 0)))
theorem F17_ok {fuel : Nat} {d0 : T_api_Rules} {d1 : List (List Int)} {d2 : List Int} {r : Bool × Int} (hF : F17 fuel d0 d1 d2 = some r) :
    CallF Try.prog 17 [.agg [.d (.sl 4 (d0.List.map e_T_api_Rule)), .d (.int .i64 d0.Else)], .d (.sl 1 (d1.map e_li64)), .d (.sl 1 (d2.map e_i64))] (.tup [.d (.bool r.1), .d (.int .i64 r.2)]) := by
  unfold F17 at hF
  refine callF_of (N := 27) (b := bodyOf Try.f17) Try.func17 (by kernel_rfl) rfl rfl ?_
  obtain ⟨y1, e1, hF⟩ := bnd hF
  refine J_adv 10 (J_callF (xs := [.agg [.d (.sl 4 (d0.List.map e_T_api_Rule)), .d (.int .i64 d0.Else)]]) [.agg [.d (.sl 4 (d0.List.map e_T_api_Rule)), .d (.int .i64 d0.Else)]] (.d (.bool y1)) (by kernel_rfl) en32 (Res'.refl _) (F32_ok e1) ?_)
  refine J_adv 2 (J_bool 10 (b := !y1) (by kernel_rfl) (fun hb1 => ?_) (fun hb1 => ?_))
  · replace hF := ift hb1 hF
    have hr_ := Option.some.inj hF; subst hr_
    exact J_adv 6 (J_ret (xs := [.d (.bool false), .d (.int .i64 300)]) [.d (.bool false), .d (.int .i64 300)] rfl rfl (by kernel_rfl) (Res'.refl _) rfl)
  · replace hF := iff' hb1 hF
    obtain ⟨y2, e2, hF⟩ := bnd hF
    refine J_adv 7 (J_callF (xs := [.d (.sl 1 (d1.map e_li64)), .d (.sl 1 (d2.map e_i64))]) [.d (.sl 1 (d1.map e_li64)), .d (.sl 1 (d2.map e_i64))] (.d (.bool y2)) (by kernel_rfl) en33 (Res'.refl _) (F33_ok e2) ?_)
    refine J_adv 2 (J_bool 14 (b := !y2) (by kernel_rfl) (fun hb2 => ?_) (fun hb2 => ?_))
    · replace hF := ift hb2 hF
      have hr_ := Option.some.inj hF; subst hr_
      exact J_adv 6 (J_ret (xs := [.d (.bool false), .d (.int .i64 2)]) [.d (.bool false), .d (.int .i64 2)] rfl rfl (by kernel_rfl) (Res'.refl _) rfl)
    · replace hF := iff' hb2 hF
      obtain ⟨o1, hO, hF⟩ := bnd hF
      have hR1 : J none Try.prog 27 [] (finF Try.prog Try.f17 (.tup [.d (.bool r.1), .d (.int .i64 r.2)])) ⟨mkT [(6, .d (.bool o1)), (7, .d (.int .i64 0))], [], [.code (cAt (bodyOf Try.f17) [1, 1, 1, 1])]⟩ := by
        clear hO
        have hr_ := Option.some.inj hF; subst hr_
        exact J_adv 0 (J_ret (xs := [.d (.bool o1), .d (.int .i64 0)]) [.d (.bool o1), .d (.int .i64 0)] rfl rfl (by kernel_rfl) (Res'.refl _) rfl)
      clear hF; rename _ = some o1 => hF
      refine J_adv 3 (J_draw (by kernel_rfl) (by kernel_rfl) ?_)
      obtain ⟨y9, e9, hF⟩ := bnd hF
      refine JD_adv 2 (JD_opt1 (o := geti (d1.map e_li64) 0) (e_li64 y9) (by kernel_rfl) (by kernel_rfl) (gm e9) ?_)
      obtain ⟨y10, e10, hF⟩ := bnd hF
      refine JD_adv 2 (JD_callF (xs := [.agg [.d (.sl 4 (d0.List.map e_T_api_Rule)), .d (.int .i64 d0.Else)], .d (.int .i64 ((y9.map e_i64).length : Int))]) [.agg [.d (.sl 4 (d0.List.map e_T_api_Rule)), .d (.int .i64 d0.Else)], .d (.int .i64 ((y9.map e_i64).length : Int))] (.d (.bool y10)) (by kernel_rfl) (by kernel_rfl) en34 (Res'.refl _) (F34_ok e10) ?_)
      refine JD_adv 1 (JD_bool 21 (b := y10) (by kernel_rfl) (fun hb5 => ?_) (fun hb5 => ?_))
      · replace hF := ift hb5 hF
        obtain ⟨y11, e11, hF⟩ := bnd hF
        refine JD_adv 3 (JD_callF (xs := [.agg [.d (.sl 4 (d0.List.map e_T_api_Rule)), .d (.int .i64 d0.Else)], .d (.sl 1 (d1.map e_li64)), .d (.sl 1 (d2.map e_i64))]) [.agg [.d (.sl 4 (d0.List.map e_T_api_Rule)), .d (.int .i64 d0.Else)], .d (.sl 1 (d1.map e_li64)), .d (.sl 1 (d2.map e_i64))] (.d (.bool y11)) (by kernel_rfl) (by kernel_rfl) en35 (Res'.refl _) (F35_ok e11) ?_)
        refine JD_adv 3 (JD_end (by kernel_rfl) ?_)
        have hr_ := Option.some.inj hF; subst hr_
        exact J_adv 0 (J_at [6, 7] [] (T0 := [.code (cAt (bodyOf Try.f17) [1, 1, 1, 1])]) (by kernel_rfl) rfl hR1)
      · replace hF := iff' hb5 hF
        refine JD_adv 7 (JD_end (by kernel_rfl) ?_)
        have hr_ := Option.some.inj hF; subst hr_
        exact J_adv 0 (J_at [6, 7] [] (T0 := [.code (cAt (bodyOf Try.f17) [1, 1, 1, 1])]) (by kernel_rfl) rfl hR1)

/- croupier/croupierref30.in -/
def F42 (d0 : Int) (d1 : Int) (d2 : Int) : Option Bool :=
  Option.bind (
    bif decide (d0 ≥ d1) then
      (some (decide (d0 ≤ d2)))
    else
      (some false)) fun o1 =>
  some o1
theorem F42_ok {d0 : Int} {d1 : Int} {d2 : Int} {r : Bool} (hF : F42 d0 d1 d2 = some r) :
    CallF Try.prog 42 [.d (.int .i64 d0), .d (.int .i64 d1), .d (.int .i64 d2)] (.d (.bool r)) := by
  unfold F42 at hF
  refine callF_of (N := 15) (b := bodyOf Try.f42) Try.func42 (by kernel_rfl) rfl rfl ?_
  obtain ⟨o1, hO, hF⟩ := bnd hF
  have hR1 : J none Try.prog 15 [] (finF Try.prog Try.f42 (.d (.bool r))) ⟨mkT [(6, .d (.bool o1))], [], [.ops (opsOf (cAt (bodyOf Try.f42) [1, 0])) [], .code (cAt (bodyOf Try.f42) [1, 1])]⟩ := by
    clear hO
    have hr_ := Option.some.inj hF; subst hr_
    exact J_adv 1 (J_ret (xs := [.d (.bool o1)]) [.d (.bool o1)] rfl rfl (by kernel_rfl) (Res'.refl _) rfl)
  clear hF; rename _ = some o1 => hF
  refine J_adv 10 (J_bool 10 (b := decide (d0 ≥ d1)) (by kernel_rfl) (fun hb3 => ?_) (fun hb3 => ?_))
  · replace hF := ift hb3 hF
    have hr_ := Option.some.inj hF; subst hr_
    exact J_adv 5 (J_at [6] [] (T0 := [.ops (opsOf (cAt (bodyOf Try.f42) [1, 0])) [], .code (cAt (bodyOf Try.f42) [1, 1])]) (by kernel_rfl) rfl hR1)
  · replace hF := iff' hb3 hF
    have hr_ := Option.some.inj hF; subst hr_
    exact J_adv 5 (J_at [6] [] (T0 := [.ops (opsOf (cAt (bodyOf Try.f42) [1, 0])) [], .code (cAt (bodyOf Try.f42) [1, 1])]) (by kernel_rfl) rfl hR1)

/- croupier/croupierref30.Good -/
def F21_L1 (d0 : T_api_Rules) : Nat → Int → Option Bool
  | 0, _ => none
  | n_F21_L1 + 1, v2 =>
    bif decide (v2 < ((d0.List.map e_T_api_Rule).length : Int)) then
      (Option.bind (geti d0.List v2) fun y29 =>
      Option.bind (
        Option.bind (F42 y29.Var 0 3) fun y38 =>
        bif !y38 then
          (some true)
        else
          (Option.bind (F42 y29.Test 1 3) fun y39 =>
          bif !y39 then
            (some true)
          else
            (Option.bind (F42 y29.Val (-99) 99) fun y40 =>
            bif !y40 then
              (some true)
            else
              (Option.bind (F42 y29.Then 0 3) fun y41 =>
              some (!y41))))) fun o4 =>
      bif o4 then
        (some false)
      else
        ((F21_L1 d0 n_F21_L1) (IntKind.i64.wrap (v2 + 1))))
    else
      (some true)
def F21 (fuel : Nat) (d0 : T_api_Rules) : Option Bool :=
  Option.bind (
    bif decide (((d0.List.map e_T_api_Rule).length : Int) > 12) then
      (some true)
    else
      (Option.bind (F42 d0.Else 0 3) fun y42 =>
      some (!y42))) fun o1 =>
  bif o1 then
    (some false)
  else
    (F21_L1 d0 fuel 0)
theorem F21_ok {fuel : Nat} {d0 : T_api_Rules} {r : Bool} (hF : F21 fuel d0 = some r) :
    CallF Try.prog 21 [.agg [.d (.sl 4 (d0.List.map e_T_api_Rule)), .d (.int .i64 d0.Else)]] (.d (.bool r)) := by
  unfold F21 at hF
  refine callF_of (N := 49) (b := bodyOf Try.f21) Try.func21 (by kernel_rfl) rfl rfl ?_
  obtain ⟨o1, hO, hF⟩ := bnd hF
  have hR1 : J none Try.prog 49 [] (finF Try.prog Try.f21 (.d (.bool r))) ⟨mkT [(1, .ptr 1 0), (14, .d (.bool o1))], [(1, .box [.d (.sl 4 (d0.List.map e_T_api_Rule)), .d (.int .i64 d0.Else)])], [.ops (opsOf (cAt (bodyOf Try.f21) [1, 0, 0])) [], .code (cAt (bodyOf Try.f21) [1, 0, 1]), .code (cAt (bodyOf Try.f21) [1, 1])]⟩ := by
    clear hO
    refine J_adv 1 (J_bool 14 (b := o1) (by kernel_rfl) (fun hb3 => ?_) (fun hb3 => ?_))
    · replace hF := ift hb3 hF
      have hr_ := Option.some.inj hF; subst hr_
      exact J_adv 5 (J_ret (xs := [.d (.bool false)]) [.d (.bool false)] rfl rfl (by kernel_rfl) (Res'.refl _) rfl)
    · replace hF := iff' hb3 hF
      have hF21_L1 : ∀ (n_F21_L1 : Nat) (v2 : Int), F21_L1 d0 n_F21_L1 v2 = some r → J none Try.prog 49 [] (finF Try.prog Try.f21 (.d (.bool r))) ⟨mkT [(1, .ptr 1 0), (3, .d (.int .i64 v2))], [(1, .box [.d (.sl 4 (d0.List.map e_T_api_Rule)), .d (.int .i64 d0.Else)])], [.inLoop (cAt (bodyOf Try.f21) [1, 1, 0, 1, 0, 0]), .inBlock 0, .code (cAt (bodyOf Try.f21) [1, 1, 1])]⟩ := by
        clear hF; intro n_F21_L1
        induction n_F21_L1 with
        | zero => intro v2 hF; cases hF
        | succ n_F21_L1 ih_F21_L1 =>
          intro v2 hF
          rw [F21_L1] at hF
          refine J_adv 10 (J_bool 19 (b := decide (v2 < ((d0.List.map e_T_api_Rule).length : Int))) (by kernel_rfl) (fun hb26 => ?_) (fun hb26 => ?_))
          · replace hF := ift hb26 hF
            obtain ⟨y29, e29, hF⟩ := bnd hF
            refine J_adv 9 (J_opt1 (o := geti (d0.List.map e_T_api_Rule) v2) (e_T_api_Rule y29) (by kernel_rfl) (gm e29) ?_)
            obtain ⟨o4, hO, hF⟩ := bnd hF
            have hR4 : J none Try.prog 49 [] (finF Try.prog Try.f21 (.d (.bool r))) ⟨mkT [(1, .ptr 1 0), (3, .d (.int .i64 v2)), (48, .d (.bool o4))], [(1, .box [.d (.sl 4 (d0.List.map e_T_api_Rule)), .d (.int .i64 d0.Else)])], [.ops (opsOf (cAt (bodyOf Try.f21) [1, 1, 0, 1, 0, 0, 1, 0, 0, 1, 0])) [], .code (cAt (bodyOf Try.f21) [1, 1, 0, 1, 0, 0, 1, 0, 0, 1, 1]), .inBlock 1, .code (cAt (bodyOf Try.f21) [1, 1, 0, 1, 0, 0, 1, 1]), .inLoop (cAt (bodyOf Try.f21) [1, 1, 0, 1, 0, 0]), .inBlock 0, .code (cAt (bodyOf Try.f21) [1, 1, 1])]⟩ := by
              clear hO
              refine J_adv 1 (J_bool 48 (b := o4) (by kernel_rfl) (fun hb33 => ?_) (fun hb33 => ?_))
              · replace hF := ift hb33 hF
                have hr_ := Option.some.inj hF; subst hr_
                exact J_adv 5 (J_ret (xs := [.d (.bool false)]) [.d (.bool false)] rfl rfl (by kernel_rfl) (Res'.refl _) rfl)
              · replace hF := iff' hb33 hF
                exact J_adv 8 (J_at [1, 3] [1] (T0 := [.inLoop (cAt (bodyOf Try.f21) [1, 1, 0, 1, 0, 0]), .inBlock 0, .code (cAt (bodyOf Try.f21) [1, 1, 1])]) (by kernel_rfl) rfl (ih_F21_L1 (IntKind.i64.wrap (v2 + 1)) hF))
            clear hF; rename _ = some o4 => hF
            obtain ⟨y38, e38, hF⟩ := bnd hF
            refine J_adv 8 (J_callF (xs := [.d (.int .i64 y29.Var), .d (.int .i64 0), .d (.int .i64 3)]) [.d (.int .i64 y29.Var), .d (.int .i64 0), .d (.int .i64 3)] (.d (.bool y38)) (by kernel_rfl) en42 (Res'.refl _) (F42_ok e38) ?_)
            refine J_adv 2 (J_bool 31 (b := !y38) (by kernel_rfl) (fun hb34 => ?_) (fun hb34 => ?_))
            · replace hF := ift hb34 hF
              have hr_ := Option.some.inj hF; subst hr_
              exact J_adv 17 (J_at [1, 3, 48] [1] (T0 := [.ops (opsOf (cAt (bodyOf Try.f21) [1, 1, 0, 1, 0, 0, 1, 0, 0, 1, 0])) [], .code (cAt (bodyOf Try.f21) [1, 1, 0, 1, 0, 0, 1, 0, 0, 1, 1]), .inBlock 1, .code (cAt (bodyOf Try.f21) [1, 1, 0, 1, 0, 0, 1, 1]), .inLoop (cAt (bodyOf Try.f21) [1, 1, 0, 1, 0, 0]), .inBlock 0, .code (cAt (bodyOf Try.f21) [1, 1, 1])]) (by kernel_rfl) rfl hR4)
            · replace hF := iff' hb34 hF
              obtain ⟨y39, e39, hF⟩ := bnd hF
              refine J_adv 2 (J_callF (xs := [.d (.int .i64 y29.Test), .d (.int .i64 1), .d (.int .i64 3)]) [.d (.int .i64 y29.Test), .d (.int .i64 1), .d (.int .i64 3)] (.d (.bool y39)) (by kernel_rfl) en42 (Res'.refl _) (F42_ok e39) ?_)
              refine J_adv 3 (J_bool 37 (b := !y39) (by kernel_rfl) (fun hb35 => ?_) (fun hb35 => ?_))
              · replace hF := ift hb35 hF
                have hr_ := Option.some.inj hF; subst hr_
                exact J_adv 11 (J_at [1, 3, 48] [1] (T0 := [.ops (opsOf (cAt (bodyOf Try.f21) [1, 1, 0, 1, 0, 0, 1, 0, 0, 1, 0])) [], .code (cAt (bodyOf Try.f21) [1, 1, 0, 1, 0, 0, 1, 0, 0, 1, 1]), .inBlock 1, .code (cAt (bodyOf Try.f21) [1, 1, 0, 1, 0, 0, 1, 1]), .inLoop (cAt (bodyOf Try.f21) [1, 1, 0, 1, 0, 0]), .inBlock 0, .code (cAt (bodyOf Try.f21) [1, 1, 1])]) (by kernel_rfl) rfl hR4)
              · replace hF := iff' hb35 hF
                obtain ⟨y40, e40, hF⟩ := bnd hF
                refine J_adv 2 (J_callF (xs := [.d (.int .i64 y29.Val), .d (.int .i64 (-99)), .d (.int .i64 99)]) [.d (.int .i64 y29.Val), .d (.int .i64 (-99)), .d (.int .i64 99)] (.d (.bool y40)) (by kernel_rfl) en42 (Res'.refl _) (F42_ok e40) ?_)
                refine J_adv 3 (J_bool 43 (b := !y40) (by kernel_rfl) (fun hb36 => ?_) (fun hb36 => ?_))
                · replace hF := ift hb36 hF
                  have hr_ := Option.some.inj hF; subst hr_
                  exact J_adv 5 (J_at [1, 3, 48] [1] (T0 := [.ops (opsOf (cAt (bodyOf Try.f21) [1, 1, 0, 1, 0, 0, 1, 0, 0, 1, 0])) [], .code (cAt (bodyOf Try.f21) [1, 1, 0, 1, 0, 0, 1, 0, 0, 1, 1]), .inBlock 1, .code (cAt (bodyOf Try.f21) [1, 1, 0, 1, 0, 0, 1, 1]), .inLoop (cAt (bodyOf Try.f21) [1, 1, 0, 1, 0, 0]), .inBlock 0, .code (cAt (bodyOf Try.f21) [1, 1, 1])]) (by kernel_rfl) rfl hR4)
                · replace hF := iff' hb36 hF
                  obtain ⟨y41, e41, hF⟩ := bnd hF
                  refine J_adv 2 (J_callF (xs := [.d (.int .i64 y29.Then), .d (.int .i64 0), .d (.int .i64 3)]) [.d (.int .i64 y29.Then), .d (.int .i64 0), .d (.int .i64 3)] (.d (.bool y41)) (by kernel_rfl) en42 (Res'.refl _) (F42_ok e41) ?_)
                  have hr_ := Option.some.inj hF; subst hr_
                  exact J_adv 2 (J_at [1, 3, 48] [1] (T0 := [.ops (opsOf (cAt (bodyOf Try.f21) [1, 1, 0, 1, 0, 0, 1, 0, 0, 1, 0])) [], .code (cAt (bodyOf Try.f21) [1, 1, 0, 1, 0, 0, 1, 0, 0, 1, 1]), .inBlock 1, .code (cAt (bodyOf Try.f21) [1, 1, 0, 1, 0, 0, 1, 1]), .inLoop (cAt (bodyOf Try.f21) [1, 1, 0, 1, 0, 0]), .inBlock 0, .code (cAt (bodyOf Try.f21) [1, 1, 1])]) (by kernel_rfl) rfl hR4)
          · replace hF := iff' hb26 hF
            have hr_ := Option.some.inj hF; subst hr_
            exact J_adv 6 (J_ret (xs := [.d (.bool true)]) [.d (.bool true)] rfl rfl (by kernel_rfl) (Res'.refl _) rfl)
      exact J_adv 9 (J_at [1, 3] [1] (T0 := [.inLoop (cAt (bodyOf Try.f21) [1, 1, 0, 1, 0, 0]), .inBlock 0, .code (cAt (bodyOf Try.f21) [1, 1, 1])]) (by kernel_rfl) rfl (hF21_L1 fuel 0 hF))
  clear hF; rename _ = some o1 => hF
  refine J_adv 13 (J_bool 9 (b := decide (((d0.List.map e_T_api_Rule).length : Int) > 12)) (by kernel_rfl) (fun hb37 => ?_) (fun hb37 => ?_))
  · replace hF := ift hb37 hF
    have hr_ := Option.some.inj hF; subst hr_
    exact J_adv 5 (J_at [1, 14] [1] (T0 := [.ops (opsOf (cAt (bodyOf Try.f21) [1, 0, 0])) [], .code (cAt (bodyOf Try.f21) [1, 0, 1]), .code (cAt (bodyOf Try.f21) [1, 1])]) (by kernel_rfl) rfl hR1)
  · replace hF := iff' hb37 hF
    obtain ⟨y42, e42, hF⟩ := bnd hF
    refine J_adv 2 (J_callF (xs := [.d (.int .i64 d0.Else), .d (.int .i64 0), .d (.int .i64 3)]) [.d (.int .i64 d0.Else), .d (.int .i64 0), .d (.int .i64 3)] (.d (.bool y42)) (by kernel_rfl) en42 (Res'.refl _) (F42_ok e42) ?_)
    have hr_ := Option.some.inj hF; subst hr_
    exact J_adv 2 (J_at [1, 14] [1] (T0 := [.ops (opsOf (cAt (bodyOf Try.f21) [1, 0, 0])) [], .code (cAt (bodyOf Try.f21) [1, 0, 1]), .code (cAt (bodyOf Try.f21) [1, 1])]) (by kernel_rfl) rfl hR1)

/- croupier/croupierref30.Fits -/
def F43_L1 (d0 : T_api_Rules) (d1 : Int) : Nat → Int → Option Bool
  | 0, _ => none
  | n_F43_L1 + 1, v2 =>
    bif decide (v2 < ((d0.List.map e_T_api_Rule).length : Int)) then
      (Option.bind (geti d0.List v2) fun y3 =>
      bif decide (y3.Var ≥ d1) then
        (some false)
      else
        ((F43_L1 d0 d1 n_F43_L1) (IntKind.i64.wrap (v2 + 1))))
    else
      (some true)
def F43 (fuel : Nat) (d0 : T_api_Rules) (d1 : Int) : Option Bool :=
  F43_L1 d0 d1 fuel 0
theorem F43_ok {fuel : Nat} {d0 : T_api_Rules} {d1 : Int} {r : Bool} (hF : F43 fuel d0 d1 = some r) :
    CallF Try.prog 43 [.agg [.d (.sl 4 (d0.List.map e_T_api_Rule)), .d (.int .i64 d0.Else)], .d (.int .i64 d1)] (.d (.bool r)) := by
  unfold F43 at hF
  refine callF_of (N := 21) (b := bodyOf Try.f43) Try.func43 (by kernel_rfl) rfl rfl ?_
  have hF43_L1 : ∀ (n_F43_L1 : Nat) (v2 : Int), F43_L1 d0 d1 n_F43_L1 v2 = some r → J none Try.prog 21 [] (finF Try.prog Try.f43 (.d (.bool r))) ⟨mkT [(1, .d (.int .i64 d1)), (2, .ptr 2 0), (5, .d (.int .i64 v2))], [(2, .box [.d (.sl 4 (d0.List.map e_T_api_Rule)), .d (.int .i64 d0.Else)])], [.inLoop (cAt (bodyOf Try.f43) [1, 0, 1, 0, 0]), .inBlock 0, .code (cAt (bodyOf Try.f43) [1, 1])]⟩ := by
    clear hF; intro n_F43_L1
    induction n_F43_L1 with
    | zero => intro v2 hF; cases hF
    | succ n_F43_L1 ih_F43_L1 =>
      intro v2 hF
      rw [F43_L1] at hF
      refine J_adv 10 (J_bool 10 (b := decide (v2 < ((d0.List.map e_T_api_Rule).length : Int))) (by kernel_rfl) (fun hb5 => ?_) (fun hb5 => ?_))
      · replace hF := ift hb5 hF
        obtain ⟨y3, e3, hF⟩ := bnd hF
        refine J_adv 9 (J_opt1 (o := geti (d0.List.map e_T_api_Rule) v2) (e_T_api_Rule y3) (by kernel_rfl) (gm e3) ?_)
        refine J_adv 5 (J_bool 20 (b := decide (y3.Var ≥ d1)) (by kernel_rfl) (fun hb6 => ?_) (fun hb6 => ?_))
        · replace hF := ift hb6 hF
          have hr_ := Option.some.inj hF; subst hr_
          exact J_adv 5 (J_ret (xs := [.d (.bool false)]) [.d (.bool false)] rfl rfl (by kernel_rfl) (Res'.refl _) rfl)
        · replace hF := iff' hb6 hF
          exact J_adv 8 (J_at [1, 2, 5] [2] (T0 := [.inLoop (cAt (bodyOf Try.f43) [1, 0, 1, 0, 0]), .inBlock 0, .code (cAt (bodyOf Try.f43) [1, 1])]) (by kernel_rfl) rfl (ih_F43_L1 (IntKind.i64.wrap (v2 + 1)) hF))
      · replace hF := iff' hb5 hF
        have hr_ := Option.some.inj hF; subst hr_
        exact J_adv 6 (J_ret (xs := [.d (.bool true)]) [.d (.bool true)] rfl rfl (by kernel_rfl) (Res'.refl _) rfl)
  exact J_adv 12 (J_at [1, 2, 5] [2] (T0 := [.inLoop (cAt (bodyOf Try.f43) [1, 0, 1, 0, 0]), .inBlock 0, .code (cAt (bodyOf Try.f43) [1, 1])]) (by kernel_rfl) rfl (hF43_L1 fuel 0 hF))

/- croupier/croupierref30.passes -/
def F31 (d0 : T_api_Rule) (d1 : List Int) : Option Bool :=
  Option.bind (geti d1 d0.Var) fun y1 =>
  Option.bind (
    bif d0.Test == 1 then
      (bif y1 == d0.Val then
        (some true)
      else
        (bif d0.Test == 2 then
          (bif decide (y1 ≤ d0.Val) then
            (some true)
          else
            (bif d0.Test == 3 then
              (some (decide (y1 ≥ d0.Val)))
            else
              (some false)))
        else
          (bif d0.Test == 3 then
            (some (decide (y1 ≥ d0.Val)))
          else
            (some false))))
    else
      (bif d0.Test == 2 then
        (bif decide (y1 ≤ d0.Val) then
          (some true)
        else
          (bif d0.Test == 3 then
            (some (decide (y1 ≥ d0.Val)))
          else
            (some false)))
      else
        (bif d0.Test == 3 then
          (some (decide (y1 ≥ d0.Val)))
        else
          (some false)))) fun o1 =>
  some o1
theorem F31_ok {d0 : T_api_Rule} {d1 : List Int} {r : Bool} (hF : F31 d0 d1 = some r) :
    CallF Try.prog 31 [.agg [.d (.int .i64 d0.Var), .d (.int .i64 d0.Test), .d (.int .i64 d0.Val), .d (.int .i64 d0.Then)], .d (.sl 1 (d1.map e_i64))] (.d (.bool r)) := by
  unfold F31 at hF
  refine callF_of (N := 42) (b := bodyOf Try.f31) Try.func31 (by kernel_rfl) rfl rfl ?_
  obtain ⟨y1, e1, hF⟩ := bnd hF
  refine J_adv 10 (J_opt1 (o := geti (d1.map e_i64) d0.Var) (e_i64 y1) (by kernel_rfl) (gm e1) ?_)
  obtain ⟨o1, hO, hF⟩ := bnd hF
  have hR1 : J none Try.prog 42 [] (finF Try.prog Try.f31 (.d (.bool r))) ⟨mkT [(4, .d (.bool o1))], [], [.ops (opsOf (cAt (bodyOf Try.f31) [1, 1, 0])) [], .code (cAt (bodyOf Try.f31) [1, 1, 1])]⟩ := by
    clear hO
    have hr_ := Option.some.inj hF; subst hr_
    exact J_adv 1 (J_ret (xs := [.d (.bool o1)]) [.d (.bool o1)] rfl rfl (by kernel_rfl) (Res'.refl _) rfl)
  clear hF; rename _ = some o1 => hF
  refine J_adv 9 (J_bool 14 (b := d0.Test == 1) (by kernel_rfl) (fun hb21 => ?_) (fun hb21 => ?_))
  · replace hF := ift hb21 hF
    refine J_adv 6 (J_bool 20 (b := y1 == d0.Val) (by kernel_rfl) (fun hb22 => ?_) (fun hb22 => ?_))
    · replace hF := ift hb22 hF
      have hr_ := Option.some.inj hF; subst hr_
      exact J_adv 22 (J_at [4] [] (T0 := [.ops (opsOf (cAt (bodyOf Try.f31) [1, 1, 0])) [], .code (cAt (bodyOf Try.f31) [1, 1, 1])]) (by kernel_rfl) rfl hR1)
    · replace hF := iff' hb22 hF
      refine J_adv 4 (J_bool 24 (b := d0.Test == 2) (by kernel_rfl) (fun hb23 => ?_) (fun hb23 => ?_))
      · replace hF := ift hb23 hF
        refine J_adv 7 (J_bool 31 (b := decide (y1 ≤ d0.Val)) (by kernel_rfl) (fun hb24 => ?_) (fun hb24 => ?_))
        · replace hF := ift hb24 hF
          have hr_ := Option.some.inj hF; subst hr_
          exact J_adv 11 (J_at [4] [] (T0 := [.ops (opsOf (cAt (bodyOf Try.f31) [1, 1, 0])) [], .code (cAt (bodyOf Try.f31) [1, 1, 1])]) (by kernel_rfl) rfl hR1)
        · replace hF := iff' hb24 hF
          refine J_adv 4 (J_bool 35 (b := d0.Test == 3) (by kernel_rfl) (fun hb25 => ?_) (fun hb25 => ?_))
          · replace hF := ift hb25 hF
            have hr_ := Option.some.inj hF; subst hr_
            exact J_adv 7 (J_at [4] [] (T0 := [.ops (opsOf (cAt (bodyOf Try.f31) [1, 1, 0])) [], .code (cAt (bodyOf Try.f31) [1, 1, 1])]) (by kernel_rfl) rfl hR1)
          · replace hF := iff' hb25 hF
            have hr_ := Option.some.inj hF; subst hr_
            exact J_adv 7 (J_at [4] [] (T0 := [.ops (opsOf (cAt (bodyOf Try.f31) [1, 1, 0])) [], .code (cAt (bodyOf Try.f31) [1, 1, 1])]) (by kernel_rfl) rfl hR1)
      · replace hF := iff' hb23 hF
        refine J_adv 11 (J_bool 35 (b := d0.Test == 3) (by kernel_rfl) (fun hb26 => ?_) (fun hb26 => ?_))
        · replace hF := ift hb26 hF
          have hr_ := Option.some.inj hF; subst hr_
          exact J_adv 7 (J_at [4] [] (T0 := [.ops (opsOf (cAt (bodyOf Try.f31) [1, 1, 0])) [], .code (cAt (bodyOf Try.f31) [1, 1, 1])]) (by kernel_rfl) rfl hR1)
        · replace hF := iff' hb26 hF
          have hr_ := Option.some.inj hF; subst hr_
          exact J_adv 7 (J_at [4] [] (T0 := [.ops (opsOf (cAt (bodyOf Try.f31) [1, 1, 0])) [], .code (cAt (bodyOf Try.f31) [1, 1, 1])]) (by kernel_rfl) rfl hR1)
  · replace hF := iff' hb21 hF
    refine J_adv 10 (J_bool 24 (b := d0.Test == 2) (by kernel_rfl) (fun hb27 => ?_) (fun hb27 => ?_))
    · replace hF := ift hb27 hF
      refine J_adv 7 (J_bool 31 (b := decide (y1 ≤ d0.Val)) (by kernel_rfl) (fun hb28 => ?_) (fun hb28 => ?_))
      · replace hF := ift hb28 hF
        have hr_ := Option.some.inj hF; subst hr_
        exact J_adv 11 (J_at [4] [] (T0 := [.ops (opsOf (cAt (bodyOf Try.f31) [1, 1, 0])) [], .code (cAt (bodyOf Try.f31) [1, 1, 1])]) (by kernel_rfl) rfl hR1)
      · replace hF := iff' hb28 hF
        refine J_adv 4 (J_bool 35 (b := d0.Test == 3) (by kernel_rfl) (fun hb29 => ?_) (fun hb29 => ?_))
        · replace hF := ift hb29 hF
          have hr_ := Option.some.inj hF; subst hr_
          exact J_adv 7 (J_at [4] [] (T0 := [.ops (opsOf (cAt (bodyOf Try.f31) [1, 1, 0])) [], .code (cAt (bodyOf Try.f31) [1, 1, 1])]) (by kernel_rfl) rfl hR1)
        · replace hF := iff' hb29 hF
          have hr_ := Option.some.inj hF; subst hr_
          exact J_adv 7 (J_at [4] [] (T0 := [.ops (opsOf (cAt (bodyOf Try.f31) [1, 1, 0])) [], .code (cAt (bodyOf Try.f31) [1, 1, 1])]) (by kernel_rfl) rfl hR1)
    · replace hF := iff' hb27 hF
      refine J_adv 11 (J_bool 35 (b := d0.Test == 3) (by kernel_rfl) (fun hb30 => ?_) (fun hb30 => ?_))
      · replace hF := ift hb30 hF
        have hr_ := Option.some.inj hF; subst hr_
        exact J_adv 7 (J_at [4] [] (T0 := [.ops (opsOf (cAt (bodyOf Try.f31) [1, 1, 0])) [], .code (cAt (bodyOf Try.f31) [1, 1, 1])]) (by kernel_rfl) rfl hR1)
      · replace hF := iff' hb30 hF
        have hr_ := Option.some.inj hF; subst hr_
        exact J_adv 7 (J_at [4] [] (T0 := [.ops (opsOf (cAt (bodyOf Try.f31) [1, 1, 0])) [], .code (cAt (bodyOf Try.f31) [1, 1, 1])]) (by kernel_rfl) rfl hR1)

/- croupier/croupierref30.Chosen -/
def F14_L1 (d0 : T_api_Rules) (d1 : List Int) : Nat → Int → Option Int
  | 0, _ => none
  | n_F14_L1 + 1, v2 =>
    bif decide (v2 < ((d0.List.map e_T_api_Rule).length : Int)) then
      (Option.bind (geti d0.List v2) fun y7 =>
      Option.bind (F31 y7 d1) fun y8 =>
      bif y8 then
        (Option.bind (geti d0.List v2) fun y9 =>
        some y9.Then)
      else
        ((F14_L1 d0 d1 n_F14_L1) (IntKind.i64.wrap (v2 + 1))))
    else
      (some d0.Else)
def F14 (fuel : Nat) (d0 : T_api_Rules) (d1 : List Int) : Option Int :=
  F14_L1 d0 d1 fuel 0
theorem F14_ok {fuel : Nat} {d0 : T_api_Rules} {d1 : List Int} {r : Int} (hF : F14 fuel d0 d1 = some r) :
    CallF Try.prog 14 [.agg [.d (.sl 4 (d0.List.map e_T_api_Rule)), .d (.int .i64 d0.Else)], .d (.sl 1 (d1.map e_i64))] (.d (.int .i64 r)) := by
  unfold F14 at hF
  refine callF_of (N := 28) (b := bodyOf Try.f14) Try.func14 (by kernel_rfl) rfl rfl ?_
  have hF14_L1 : ∀ (n_F14_L1 : Nat) (v2 : Int), F14_L1 d0 d1 n_F14_L1 v2 = some r → J none Try.prog 28 [] (finF Try.prog Try.f14 (.d (.int .i64 r))) ⟨mkT [(1, .d (.sl 1 (d1.map e_i64))), (2, .ptr 2 0), (5, .d (.int .i64 v2))], [(2, .box [.d (.sl 4 (d0.List.map e_T_api_Rule)), .d (.int .i64 d0.Else)])], [.inLoop (cAt (bodyOf Try.f14) [1, 0, 1, 0, 0]), .inBlock 0, .code (cAt (bodyOf Try.f14) [1, 1])]⟩ := by
    clear hF; intro n_F14_L1
    induction n_F14_L1 with
    | zero => intro v2 hF; cases hF
    | succ n_F14_L1 ih_F14_L1 =>
      intro v2 hF
      rw [F14_L1] at hF
      refine J_adv 10 (J_bool 10 (b := decide (v2 < ((d0.List.map e_T_api_Rule).length : Int))) (by kernel_rfl) (fun hb5 => ?_) (fun hb5 => ?_))
      · replace hF := ift hb5 hF
        obtain ⟨y7, e7, hF⟩ := bnd hF
        refine J_adv 9 (J_opt1 (o := geti (d0.List.map e_T_api_Rule) v2) (e_T_api_Rule y7) (by kernel_rfl) (gm e7) ?_)
        obtain ⟨y8, e8, hF⟩ := bnd hF
        refine J_adv 2 (J_callF (xs := [.agg [.d (.int .i64 y7.Var), .d (.int .i64 y7.Test), .d (.int .i64 y7.Val), .d (.int .i64 y7.Then)], .d (.sl 1 (d1.map e_i64))]) [.agg [.d (.int .i64 y7.Var), .d (.int .i64 y7.Test), .d (.int .i64 y7.Val), .d (.int .i64 y7.Then)], .d (.sl 1 (d1.map e_i64))] (.d (.bool y8)) (by kernel_rfl) en31 (Res'.refl _) (F31_ok e8) ?_)
        refine J_adv 1 (J_bool 19 (b := y8) (by kernel_rfl) (fun hb6 => ?_) (fun hb6 => ?_))
        · replace hF := ift hb6 hF
          obtain ⟨y9, e9, hF⟩ := bnd hF
          refine J_adv 6 (J_opt1 (o := geti (d0.List.map e_T_api_Rule) v2) (e_T_api_Rule y9) (by kernel_rfl) (gm e9) ?_)
          have hr_ := Option.some.inj hF; subst hr_
          exact J_adv 4 (J_ret (xs := [.d (.int .i64 y9.Then)]) [.d (.int .i64 y9.Then)] rfl rfl (by kernel_rfl) (Res'.refl _) rfl)
        · replace hF := iff' hb6 hF
          exact J_adv 8 (J_at [1, 2, 5] [2] (T0 := [.inLoop (cAt (bodyOf Try.f14) [1, 0, 1, 0, 0]), .inBlock 0, .code (cAt (bodyOf Try.f14) [1, 1])]) (by kernel_rfl) rfl (ih_F14_L1 (IntKind.i64.wrap (v2 + 1)) hF))
      · replace hF := iff' hb5 hF
        have hr_ := Option.some.inj hF; subst hr_
        exact J_adv 8 (J_ret (xs := [.d (.int .i64 d0.Else)]) [.d (.int .i64 d0.Else)] rfl rfl (by kernel_rfl) (Res'.refl _) rfl)
  exact J_adv 12 (J_at [1, 2, 5] [2] (T0 := [.inLoop (cAt (bodyOf Try.f14) [1, 0, 1, 0, 0]), .inBlock 0, .code (cAt (bodyOf Try.f14) [1, 1])]) (by kernel_rfl) rfl (hF14_L1 fuel 0 hF))

/- croupier/croupierref30.Agrees -/
def F22_L1 (fuel : Nat) (d0 : T_api_Rules) (d1 : List (List Int)) (d2 : List Int) : Nat → Int → Option Bool
  | 0, _ => none
  | n_F22_L1 + 1, v2 =>
    bif decide (v2 < ((d1.map e_li64).length : Int)) then
      (Option.bind (geti d1 v2) fun y9 =>
      Option.bind (F14 fuel d0 y9) fun y10 =>
      Option.bind (geti d2 v2) fun y11 =>
      bif y10 != y11 then
        (some false)
      else
        ((F22_L1 fuel d0 d1 d2 n_F22_L1) (IntKind.i64.wrap (v2 + 1))))
    else
      (some true)
def F22 (fuel : Nat) (d0 : T_api_Rules) (d1 : List (List Int)) (d2 : List Int) : Option Bool :=
  Option.bind (geti d1 0) fun y1 =>
  Option.bind (F43 fuel d0 ((y1.map e_i64).length : Int)) fun y2 =>
  bif !y2 then
    (some false)
  else
    (F22_L1 fuel d0 d1 d2 fuel 0)
theorem F22_ok {fuel : Nat} {d0 : T_api_Rules} {d1 : List (List Int)} {d2 : List Int} {r : Bool} (hF : F22 fuel d0 d1 d2 = some r) :
    CallF Try.prog 22 [.agg [.d (.sl 4 (d0.List.map e_T_api_Rule)), .d (.int .i64 d0.Else)], .d (.sl 1 (d1.map e_li64)), .d (.sl 1 (d2.map e_i64))] (.d (.bool r)) := by
  unfold F22 at hF
  refine callF_of (N := 32) (b := bodyOf Try.f22) Try.func22 (by kernel_rfl) rfl rfl ?_
  refine J_adv 7 (J_draw (by kernel_rfl) (by kernel_rfl) ?_)
  obtain ⟨y1, e1, hF⟩ := bnd hF
  refine JD_adv 2 (JD_opt1 (o := geti (d1.map e_li64) 0) (e_li64 y1) (by kernel_rfl) (by kernel_rfl) (gm e1) ?_)
  obtain ⟨y2, e2, hF⟩ := bnd hF
  refine JD_adv 2 (JD_callF (xs := [.agg [.d (.sl 4 (d0.List.map e_T_api_Rule)), .d (.int .i64 d0.Else)], .d (.int .i64 ((y1.map e_i64).length : Int))]) [.agg [.d (.sl 4 (d0.List.map e_T_api_Rule)), .d (.int .i64 d0.Else)], .d (.int .i64 ((y1.map e_i64).length : Int))] (.d (.bool y2)) (by kernel_rfl) (by kernel_rfl) en43 (Res'.refl _) (F43_ok e2) ?_)
  refine JD_adv 1 (JD_end (by kernel_rfl) ?_)
  refine J_adv 0 (J_bool 14 (b := !y2) (by kernel_rfl) (fun hb1 => ?_) (fun hb1 => ?_))
  · replace hF := ift hb1 hF
    have hr_ := Option.some.inj hF; subst hr_
    exact J_adv 5 (J_ret (xs := [.d (.bool false)]) [.d (.bool false)] rfl rfl (by kernel_rfl) (Res'.refl _) rfl)
  · replace hF := iff' hb1 hF
    have hF22_L1 : ∀ (n_F22_L1 : Nat) (v2 : Int), F22_L1 fuel d0 d1 d2 n_F22_L1 v2 = some r → J none Try.prog 32 [] (finF Try.prog Try.f22 (.d (.bool r))) ⟨mkT [(1, .d (.sl 1 (d1.map e_li64))), (2, .d (.sl 1 (d2.map e_i64))), (3, .ptr 3 0), (7, .d (.int .i64 v2))], [(3, .box [.d (.sl 4 (d0.List.map e_T_api_Rule)), .d (.int .i64 d0.Else)])], [.inLoop (cAt (bodyOf Try.f22) [1, 1, 0, 1, 0, 0]), .inBlock 0, .code (cAt (bodyOf Try.f22) [1, 1, 1])]⟩ := by
      clear hF; intro n_F22_L1
      induction n_F22_L1 with
      | zero => intro v2 hF; cases hF
      | succ n_F22_L1 ih_F22_L1 =>
        intro v2 hF
        rw [F22_L1] at hF
        refine J_adv 9 (J_bool 18 (b := decide (v2 < ((d1.map e_li64).length : Int))) (by kernel_rfl) (fun hb6 => ?_) (fun hb6 => ?_))
        · replace hF := ift hb6 hF
          refine J_adv 5 (J_draw (by kernel_rfl) (by kernel_rfl) ?_)
          obtain ⟨y9, e9, hF⟩ := bnd hF
          refine JD_adv 3 (JD_opt1 (o := geti (d1.map e_li64) v2) (e_li64 y9) (by kernel_rfl) (by kernel_rfl) (gm e9) ?_)
          obtain ⟨y10, e10, hF⟩ := bnd hF
          refine JD_adv 1 (JD_callF (xs := [.agg [.d (.sl 4 (d0.List.map e_T_api_Rule)), .d (.int .i64 d0.Else)], .d (.sl 1 (y9.map e_i64))]) [.agg [.d (.sl 4 (d0.List.map e_T_api_Rule)), .d (.int .i64 d0.Else)], .d (.sl 1 (y9.map e_i64))] (.d (.int .i64 y10)) (by kernel_rfl) (by kernel_rfl) en14 (Res'.refl _) (F14_ok e10) ?_)
          obtain ⟨y11, e11, hF⟩ := bnd hF
          refine JD_adv 2 (JD_opt1 (o := geti (d2.map e_i64) v2) (e_i64 y11) (by kernel_rfl) (by kernel_rfl) (gm e11) ?_)
          refine JD_adv 2 (JD_end (by kernel_rfl) ?_)
          refine J_adv 0 (J_bool 31 (b := y10 != y11) (by kernel_rfl) (fun hb7 => ?_) (fun hb7 => ?_))
          · replace hF := ift hb7 hF
            have hr_ := Option.some.inj hF; subst hr_
            exact J_adv 5 (J_ret (xs := [.d (.bool false)]) [.d (.bool false)] rfl rfl (by kernel_rfl) (Res'.refl _) rfl)
          · replace hF := iff' hb7 hF
            exact J_adv 8 (J_at [1, 2, 3, 7] [3] (T0 := [.inLoop (cAt (bodyOf Try.f22) [1, 1, 0, 1, 0, 0]), .inBlock 0, .code (cAt (bodyOf Try.f22) [1, 1, 1])]) (by kernel_rfl) rfl (ih_F22_L1 (IntKind.i64.wrap (v2 + 1)) hF))
        · replace hF := iff' hb6 hF
          have hr_ := Option.some.inj hF; subst hr_
          exact J_adv 6 (J_ret (xs := [.d (.bool true)]) [.d (.bool true)] rfl rfl (by kernel_rfl) (Res'.refl _) rfl)
    exact J_adv 9 (J_at [1, 2, 3, 7] [3] (T0 := [.inLoop (cAt (bodyOf Try.f22) [1, 1, 0, 1, 0, 0]), .inBlock 0, .code (cAt (bodyOf Try.f22) [1, 1, 1])]) (by kernel_rfl) rfl (hF22_L1 fuel 0 hF))

/- croupier/croupierlaw30.needs -/
def F30 (fuel : Nat) (d0 : List (List Int)) (d1 : List Int) (d2 : Int) : Option Bool :=
  Option.bind (F19 fuel d0 d1) fun y1 =>
  Option.bind (
    bif y1.2 == 0 then
      (bif ((y1.1.List.map e_T_api_Rule).length : Int) == d2 then
        (Option.bind (F21 fuel y1.1) fun y6 =>
        bif y6 then
          (Option.bind (F22 fuel y1.1 d0 d1) fun y7 =>
          some y7)
        else
          (some false))
      else
        (some false))
    else
      (some false)) fun o1 =>
  some o1
theorem F30_ok {fuel : Nat} {d0 : List (List Int)} {d1 : List Int} {d2 : Int} {r : Bool} (hF : F30 fuel d0 d1 d2 = some r) :
    CallF Try.prog 30 [.d (.sl 1 (d0.map e_li64)), .d (.sl 1 (d1.map e_i64)), .d (.int .i64 d2)] (.d (.bool r)) := by
  unfold F30 at hF
  refine callF_of (N := 34) (b := bodyOf Try.f30) Try.func30 (by kernel_rfl) rfl rfl ?_
  obtain ⟨y1, e1, hF⟩ := bnd hF
  refine J_adv 8 (J_callF (xs := [.d (.sl 1 (d0.map e_li64)), .d (.sl 1 (d1.map e_i64))]) [.d (.sl 1 (d0.map e_li64)), .d (.sl 1 (d1.map e_i64))] (.tup [.agg [.d (.sl 4 (y1.1.List.map e_T_api_Rule)), .d (.int .i64 y1.1.Else)], .d (.int .i64 y1.2)]) (by kernel_rfl) en19 (Res'.refl _) (F19_ok e1) ?_)
  obtain ⟨o1, hO, hF⟩ := bnd hF
  have hR1 : J none Try.prog 34 [] (finF Try.prog Try.f30 (.d (.bool r))) ⟨mkT [(6, .d (.bool o1))], [], [.ops (opsOf (cAt (bodyOf Try.f30) [1, 1, 0])) [], .code (cAt (bodyOf Try.f30) [1, 1, 1])]⟩ := by
    clear hO
    have hr_ := Option.some.inj hF; subst hr_
    exact J_adv 1 (J_ret (xs := [.d (.bool o1)]) [.d (.bool o1)] rfl rfl (by kernel_rfl) (Res'.refl _) rfl)
  clear hF; rename _ = some o1 => hF
  refine J_adv 12 (J_bool 17 (b := y1.2 == 0) (by kernel_rfl) (fun hb7 => ?_) (fun hb7 => ?_))
  · replace hF := ift hb7 hF
    refine J_adv 7 (J_bool 24 (b := ((y1.1.List.map e_T_api_Rule).length : Int) == d2) (by kernel_rfl) (fun hb8 => ?_) (fun hb8 => ?_))
    · replace hF := ift hb8 hF
      obtain ⟨y6, e6, hF⟩ := bnd hF
      refine J_adv 1 (J_callF (xs := [.agg [.d (.sl 4 (y1.1.List.map e_T_api_Rule)), .d (.int .i64 y1.1.Else)]]) [.agg [.d (.sl 4 (y1.1.List.map e_T_api_Rule)), .d (.int .i64 y1.1.Else)]] (.d (.bool y6)) (by kernel_rfl) en21 (Res'.refl _) (F21_ok e6) ?_)
      refine J_adv 2 (J_bool 28 (b := y6) (by kernel_rfl) (fun hb9 => ?_) (fun hb9 => ?_))
      · replace hF := ift hb9 hF
        obtain ⟨y7, e7, hF⟩ := bnd hF
        refine J_adv 3 (J_callF (xs := [.agg [.d (.sl 4 (y1.1.List.map e_T_api_Rule)), .d (.int .i64 y1.1.Else)], .d (.sl 1 (d0.map e_li64)), .d (.sl 1 (d1.map e_i64))]) [.agg [.d (.sl 4 (y1.1.List.map e_T_api_Rule)), .d (.int .i64 y1.1.Else)], .d (.sl 1 (d0.map e_li64)), .d (.sl 1 (d1.map e_i64))] (.d (.bool y7)) (by kernel_rfl) en22 (Res'.refl _) (F22_ok e7) ?_)
        have hr_ := Option.some.inj hF; subst hr_
        exact J_adv 2 (J_at [6] [] (T0 := [.ops (opsOf (cAt (bodyOf Try.f30) [1, 1, 0])) [], .code (cAt (bodyOf Try.f30) [1, 1, 1])]) (by kernel_rfl) rfl hR1)
      · replace hF := iff' hb9 hF
        have hr_ := Option.some.inj hF; subst hr_
        exact J_adv 6 (J_at [6] [] (T0 := [.ops (opsOf (cAt (bodyOf Try.f30) [1, 1, 0])) [], .code (cAt (bodyOf Try.f30) [1, 1, 1])]) (by kernel_rfl) rfl hR1)
    · replace hF := iff' hb8 hF
      have hr_ := Option.some.inj hF; subst hr_
      exact J_adv 10 (J_at [6] [] (T0 := [.ops (opsOf (cAt (bodyOf Try.f30) [1, 1, 0])) [], .code (cAt (bodyOf Try.f30) [1, 1, 1])]) (by kernel_rfl) rfl hR1)
  · replace hF := iff' hb7 hF
    have hr_ := Option.some.inj hF; subst hr_
    exact J_adv 17 (J_at [6] [] (T0 := [.ops (opsOf (cAt (bodyOf Try.f30) [1, 1, 0])) [], .code (cAt (bodyOf Try.f30) [1, 1, 1])]) (by kernel_rfl) rfl hR1)

/- croupier/croupierlaw30.wakes -/
def F11 (fuel : Nat) : Option Bool :=
  Option.bind (F24 fuel (⟨[(⟨0, 2, 1, 2⟩ : T_api_Rule)], 3⟩ : T_api_Rules) [1]) fun y1 =>
  Option.bind (F24 fuel (⟨[(⟨0, 2, 1, 2⟩ : T_api_Rule)], 3⟩ : T_api_Rules) [2]) fun y2 =>
  Option.bind (F29) fun y3 =>
  Option.bind (F17 fuel (⟨[(⟨0, 2, 1, 2⟩ : T_api_Rule)], 3⟩ : T_api_Rules) y3 [2, 2, 3, 3]) fun y4 =>
  Option.bind (
    bif y1.1 == 2 then
      (bif y1.2 == 0 then
        (bif y2.1 == 3 then
          (bif y2.2 == 0 then
            (bif y4.1 then
              (bif y4.2 == 0 then
                (Option.bind (F29) fun y13 =>
                Option.bind (F30 fuel y13 [1, 1, 1, 1] 0) fun y14 =>
                bif y14 then
                  (Option.bind (F29) fun y15 =>
                  Option.bind (F30 fuel y15 [0, 0, 1, 1] 1) fun y16 =>
                  some y16)
                else
                  (some false))
              else
                (some false))
            else
              (some false))
          else
            (some false))
        else
          (some false))
      else
        (some false))
    else
      (some false)) fun o1 =>
  some o1
theorem F11_ok {fuel : Nat} {r : Bool} (hF : F11 fuel = some r) :
    CallF Try.prog 11 [] (.d (.bool r)) := by
  unfold F11 at hF
  refine callF_of (N := 61) (b := bodyOf Try.f11) Try.func11 (by kernel_rfl) rfl rfl ?_
  obtain ⟨y1, e1, hF⟩ := bnd hF
  refine J_adv 16 (J_callF (xs := [.agg [.d (.sl 4 ([(⟨0, 2, 1, 2⟩ : T_api_Rule)].map e_T_api_Rule)), .d (.int .i64 3)], .d (.sl 1 ([1].map e_i64))]) [.agg [.d (.sl 4 ([(⟨0, 2, 1, 2⟩ : T_api_Rule)].map e_T_api_Rule)), .d (.int .i64 3)], .d (.sl 1 ([1].map e_i64))] (.tup [.d (.int .i64 y1.1), .d (.int .i64 y1.2)]) (by kernel_rfl) en24 (Res'.refl _) (F24_ok e1) ?_)
  obtain ⟨y2, e2, hF⟩ := bnd hF
  refine J_adv 10 (J_callF (xs := [.agg [.d (.sl 4 ([(⟨0, 2, 1, 2⟩ : T_api_Rule)].map e_T_api_Rule)), .d (.int .i64 3)], .d (.sl 1 ([2].map e_i64))]) [.agg [.d (.sl 4 ([(⟨0, 2, 1, 2⟩ : T_api_Rule)].map e_T_api_Rule)), .d (.int .i64 3)], .d (.sl 1 ([2].map e_i64))] (.tup [.d (.int .i64 y2.1), .d (.int .i64 y2.2)]) (by kernel_rfl) en24 (Res'.refl _) (F24_ok e2) ?_)
  refine J_adv 7 (J_draw (by kernel_rfl) (by kernel_rfl) ?_)
  obtain ⟨y3, e3, hF⟩ := bnd hF
  refine JD_adv 1 (JD_callF (xs := []) [] (.d (.sl 1 (y3.map e_li64))) (by kernel_rfl) (by kernel_rfl) en29 (Res'.refl _) (F29_ok e3) ?_)
  obtain ⟨y4, e4, hF⟩ := bnd hF
  refine JD_adv 1 (JD_callF (xs := [.agg [.d (.sl 4 ([(⟨0, 2, 1, 2⟩ : T_api_Rule)].map e_T_api_Rule)), .d (.int .i64 3)], .d (.sl 1 (y3.map e_li64)), .d (.sl 1 ([2, 2, 3, 3].map e_i64))]) [.agg [.d (.sl 4 ([(⟨0, 2, 1, 2⟩ : T_api_Rule)].map e_T_api_Rule)), .d (.int .i64 3)], .d (.sl 1 (y3.map e_li64)), .d (.sl 1 ([2, 2, 3, 3].map e_i64))] (.tup [.d (.bool y4.1), .d (.int .i64 y4.2)]) (by kernel_rfl) (by kernel_rfl) en17 (Res'.refl _) (F17_ok e4) ?_)
  refine JD_adv 5 (JD_end (by kernel_rfl) ?_)
  obtain ⟨o1, hO, hF⟩ := bnd hF
  have hR1 : J none Try.prog 61 [] (finF Try.prog Try.f11 (.d (.bool r))) ⟨mkT [(0, .d (.bool o1))], [], [.ops (opsOf (cAt (bodyOf Try.f11) [1, 1, 1, 1, 1, 0])) [], .code (cAt (bodyOf Try.f11) [1, 1, 1, 1, 1, 1])]⟩ := by
    clear hO
    have hr_ := Option.some.inj hF; subst hr_
    exact J_adv 1 (J_ret (xs := [.d (.bool o1)]) [.d (.bool o1)] rfl rfl (by kernel_rfl) (Res'.refl _) rfl)
  clear hF; rename _ = some o1 => hF
  refine J_adv 5 (J_bool 32 (b := y1.1 == 2) (by kernel_rfl) (fun hb15 => ?_) (fun hb15 => ?_))
  · replace hF := ift hb15 hF
    refine J_adv 4 (J_bool 36 (b := y1.2 == 0) (by kernel_rfl) (fun hb16 => ?_) (fun hb16 => ?_))
    · replace hF := ift hb16 hF
      refine J_adv 4 (J_bool 40 (b := y2.1 == 3) (by kernel_rfl) (fun hb17 => ?_) (fun hb17 => ?_))
      · replace hF := ift hb17 hF
        refine J_adv 4 (J_bool 44 (b := y2.2 == 0) (by kernel_rfl) (fun hb18 => ?_) (fun hb18 => ?_))
        · replace hF := ift hb18 hF
          refine J_adv 3 (J_bool 47 (b := y4.1) (by kernel_rfl) (fun hb19 => ?_) (fun hb19 => ?_))
          · replace hF := ift hb19 hF
            refine J_adv 4 (J_bool 51 (b := y4.2 == 0) (by kernel_rfl) (fun hb20 => ?_) (fun hb20 => ?_))
            · replace hF := ift hb20 hF
              obtain ⟨y13, e13, hF⟩ := bnd hF
              refine J_adv 0 (J_callF (xs := []) [] (.d (.sl 1 (y13.map e_li64))) (by kernel_rfl) en29 (Res'.refl _) (F29_ok e13) ?_)
              obtain ⟨y14, e14, hF⟩ := bnd hF
              refine J_adv 1 (J_callF (xs := [.d (.sl 1 (y13.map e_li64)), .d (.sl 1 ([1, 1, 1, 1].map e_i64)), .d (.int .i64 0)]) [.d (.sl 1 (y13.map e_li64)), .d (.sl 1 ([1, 1, 1, 1].map e_i64)), .d (.int .i64 0)] (.d (.bool y14)) (by kernel_rfl) en30 (Res'.refl _) (F30_ok e14) ?_)
              refine J_adv 2 (J_bool 56 (b := y14) (by kernel_rfl) (fun hb21 => ?_) (fun hb21 => ?_))
              · replace hF := ift hb21 hF
                obtain ⟨y15, e15, hF⟩ := bnd hF
                refine J_adv 0 (J_callF (xs := []) [] (.d (.sl 1 (y15.map e_li64))) (by kernel_rfl) en29 (Res'.refl _) (F29_ok e15) ?_)
                obtain ⟨y16, e16, hF⟩ := bnd hF
                refine J_adv 1 (J_callF (xs := [.d (.sl 1 (y15.map e_li64)), .d (.sl 1 ([0, 0, 1, 1].map e_i64)), .d (.int .i64 1)]) [.d (.sl 1 (y15.map e_li64)), .d (.sl 1 ([0, 0, 1, 1].map e_i64)), .d (.int .i64 1)] (.d (.bool y16)) (by kernel_rfl) en30 (Res'.refl _) (F30_ok e16) ?_)
                have hr_ := Option.some.inj hF; subst hr_
                exact J_adv 2 (J_at [0] [] (T0 := [.ops (opsOf (cAt (bodyOf Try.f11) [1, 1, 1, 1, 1, 0])) [], .code (cAt (bodyOf Try.f11) [1, 1, 1, 1, 1, 1])]) (by kernel_rfl) rfl hR1)
              · replace hF := iff' hb21 hF
                have hr_ := Option.some.inj hF; subst hr_
                exact J_adv 5 (J_at [0] [] (T0 := [.ops (opsOf (cAt (bodyOf Try.f11) [1, 1, 1, 1, 1, 0])) [], .code (cAt (bodyOf Try.f11) [1, 1, 1, 1, 1, 1])]) (by kernel_rfl) rfl hR1)
            · replace hF := iff' hb20 hF
              have hr_ := Option.some.inj hF; subst hr_
              exact J_adv 10 (J_at [0] [] (T0 := [.ops (opsOf (cAt (bodyOf Try.f11) [1, 1, 1, 1, 1, 0])) [], .code (cAt (bodyOf Try.f11) [1, 1, 1, 1, 1, 1])]) (by kernel_rfl) rfl hR1)
          · replace hF := iff' hb19 hF
            have hr_ := Option.some.inj hF; subst hr_
            exact J_adv 14 (J_at [0] [] (T0 := [.ops (opsOf (cAt (bodyOf Try.f11) [1, 1, 1, 1, 1, 0])) [], .code (cAt (bodyOf Try.f11) [1, 1, 1, 1, 1, 1])]) (by kernel_rfl) rfl hR1)
        · replace hF := iff' hb18 hF
          have hr_ := Option.some.inj hF; subst hr_
          exact J_adv 17 (J_at [0] [] (T0 := [.ops (opsOf (cAt (bodyOf Try.f11) [1, 1, 1, 1, 1, 0])) [], .code (cAt (bodyOf Try.f11) [1, 1, 1, 1, 1, 1])]) (by kernel_rfl) rfl hR1)
      · replace hF := iff' hb17 hF
        have hr_ := Option.some.inj hF; subst hr_
        exact J_adv 21 (J_at [0] [] (T0 := [.ops (opsOf (cAt (bodyOf Try.f11) [1, 1, 1, 1, 1, 0])) [], .code (cAt (bodyOf Try.f11) [1, 1, 1, 1, 1, 1])]) (by kernel_rfl) rfl hR1)
    · replace hF := iff' hb16 hF
      have hr_ := Option.some.inj hF; subst hr_
      exact J_adv 25 (J_at [0] [] (T0 := [.ops (opsOf (cAt (bodyOf Try.f11) [1, 1, 1, 1, 1, 0])) [], .code (cAt (bodyOf Try.f11) [1, 1, 1, 1, 1, 1])]) (by kernel_rfl) rfl hR1)
  · replace hF := iff' hb15 hF
    have hr_ := Option.some.inj hF; subst hr_
    exact J_adv 29 (J_at [0] [] (T0 := [.ops (opsOf (cAt (bodyOf Try.f11) [1, 1, 1, 1, 1, 0])) [], .code (cAt (bodyOf Try.f11) [1, 1, 1, 1, 1, 1])]) (by kernel_rfl) rfl hR1)

end Go.Proofs.Ytljkgnjmigmcgaa
