import Derived.Test.YtilfjfpemjfalaaGreatDoorFA
import Derived.KernelRfl
set_option linter.unusedVariables false
set_option maxRecDepth 100000
namespace Go.Proofs.YtilfjfpemjfalaaGreatDoor
open Go Go.RowKit Kx

theorem en8 : entersT Tryz.prog 8 := Kx.enters_of Tryz.func8 (by kernel_rfl) (by kernel_rfl)
theorem en24 : entersT Tryz.prog 24 := Kx.enters_of Tryz.func24 (by kernel_rfl) (by kernel_rfl)
theorem en88 : entersT Tryz.prog 88 := Kx.enters_of Tryz.func88 (by kernel_rfl) (by kernel_rfl)
theorem en56 : entersT Tryz.prog 56 := Kx.enters_of Tryz.func56 (by kernel_rfl) (by kernel_rfl)
theorem en89 : entersT Tryz.prog 89 := Kx.enters_of Tryz.func89 (by kernel_rfl) (by kernel_rfl)
theorem en57 : entersT Tryz.prog 57 := Kx.enters_of Tryz.func57 (by kernel_rfl) (by kernel_rfl)
theorem en104 : entersT Tryz.prog 104 := Kx.enters_of Tryz.func104 (by kernel_rfl) (by kernel_rfl)
theorem en119 : entersT Tryz.prog 119 := Kx.enters_of Tryz.func119 (by kernel_rfl) (by kernel_rfl)
theorem en120 : entersT Tryz.prog 120 := Kx.enters_of Tryz.func120 (by kernel_rfl) (by kernel_rfl)
theorem en121 : entersT Tryz.prog 121 := Kx.enters_of Tryz.func121 (by kernel_rfl) (by kernel_rfl)
theorem en90 : entersT Tryz.prog 90 := Kx.enters_of Tryz.func90 (by kernel_rfl) (by kernel_rfl)
theorem en58 : entersT Tryz.prog 58 := Kx.enters_of Tryz.func58 (by kernel_rfl) (by kernel_rfl)
theorem en26 : entersT Tryz.prog 26 := Kx.enters_of Tryz.func26 (by kernel_rfl) (by kernel_rfl)
theorem en22 : entersT Tryz.prog 22 := Kx.enters_of Tryz.func22 (by kernel_rfl) (by kernel_rfl)

structure A_a4i8 where
  a0 : Int
  a1 : Int
  a2 : Int
  a3 : Int
  deriving DecidableEq
structure T_croupierref30_Wish where
  L : List A_a4i8
  Else : Int
  deriving DecidableEq
def e_a4i8 (x : A_a4i8) : List Dat := [.int .i8 x.a0, .int .i8 x.a1, .int .i8 x.a2, .int .i8 x.a3]
def e_i8 (x : Int) : List Dat := [.int .i8 x]
/- (croupier/croupierref30.Wish).Rules -/
def F24_L1 (d0 : T_croupierref30_Wish) (d1 : Int) : Nat → Int → (List T_api_Rule) → Option T_api_Rules
  | 0, _, _ => none
  | n_F24_L1 + 1, v2, l4 =>
    Option.bind (
      bif decide (v2 < ((d0.L.map e_a4i8).length : Int)) then
        (some (decide (v2 < 12)))
      else
        (some false)) fun o3 =>
    bif o3 then
      (Option.bind (geti d0.L v2) fun y3 =>
      ass (decide (d1 ≠ 0)) <|
      Option.bind (app l4 [(⟨Int.tmod (IntKind.i64.wrap (IntKind.u8.wrap y3.a0)) d1, IntKind.i64.wrap (1 + (IntKind.i64.wrap (Int.tmod (IntKind.u8.wrap y3.a1) 3))), Int.tmod (IntKind.i64.wrap y3.a2) 100, IntKind.i64.wrap (Int.tmod (IntKind.u8.wrap y3.a3) 4)⟩ : T_api_Rule)]) fun l5 =>
      (F24_L1 d0 d1 n_F24_L1) (IntKind.i64.wrap (v2 + 1)) l5)
    else
      (some (⟨l4, IntKind.i64.wrap (Int.tmod d0.Else 4)⟩ : T_api_Rules))
def F24 (fuel : Nat) (d0 : T_croupierref30_Wish) (d1 : Int) : Option T_api_Rules :=
  F24_L1 d0 d1 fuel 0 []
theorem F24_ok {fuel : Nat} {d0 : T_croupierref30_Wish} {d1 : Int} {r : T_api_Rules} (hF : F24 fuel d0 d1 = some r) :
    CallF Tryz.prog 24 [.agg [.d (.sl 4 (d0.L.map e_a4i8)), .d (.int .u8 d0.Else)], .d (.int .i64 d1)] (.agg [.d (.sl 4 (r.List.map e_T_api_Rule)), .d (.int .i64 r.Else)]) := by
  unfold F24 at hF
  refine callF_of (N := 57) (b := bodyOf Tryz.f24) Tryz.func24 (by kernel_rfl) rfl rfl ?_
  have hF24_L1 : ∀ (n_F24_L1 : Nat) (v2 : Int) (l4 : List T_api_Rule), F24_L1 d0 d1 n_F24_L1 v2 l4 = some r → J none Tryz.prog 57 [] (finF Tryz.prog Tryz.f24 (.agg [.d (.sl 4 (r.List.map e_T_api_Rule)), .d (.int .i64 r.Else)])) ⟨mkT [(1, .d (.int .i64 d1)), (2, .ptr 2 0), (4, .ptr 4 0), (5, .ptr 5 0), (6, .d (.int .i64 v2))], [(2, .box 56 [.d (.sl 4 (d0.L.map e_a4i8)), .d (.int .u8 d0.Else)]), (4, .box 59 [.esl 4, .d (.int .i64 0)]), (5, .box 59 [.suf 54 0 0, .d (.int .i64 (IntKind.i64.wrap (Int.tmod d0.Else 4)))]), (54, .buf 0 116 4 (l4.map e_T_api_Rule))], [.inLoop (cAt (bodyOf Tryz.f24) [1, 1, 0, 1, 0, 0]), .inBlock 0, .code (cAt (bodyOf Tryz.f24) [1, 1, 1])]⟩ := by
    clear hF; intro n_F24_L1
    induction n_F24_L1 with
    | zero => intro v2 l4 hF; cases hF
    | succ n_F24_L1 ih_F24_L1 =>
      intro v2 l4 hF
      rw [F24_L1] at hF
      obtain ⟨o3, hO, hF⟩ := bnd hF
      have hR3 : J none Tryz.prog 57 [] (finF Tryz.prog Tryz.f24 (.agg [.d (.sl 4 (r.List.map e_T_api_Rule)), .d (.int .i64 r.Else)])) ⟨mkT [(1, .d (.int .i64 d1)), (2, .ptr 2 0), (4, .ptr 4 0), (5, .ptr 5 0), (6, .d (.int .i64 v2)), (21, .d (.bool o3))], [(2, .box 56 [.d (.sl 4 (d0.L.map e_a4i8)), .d (.int .u8 d0.Else)]), (4, .box 59 [.esl 4, .d (.int .i64 0)]), (5, .box 59 [.suf 54 0 0, .d (.int .i64 (IntKind.i64.wrap (Int.tmod d0.Else 4)))]), (54, .buf 0 116 4 (l4.map e_T_api_Rule))], [.ops (opsOf (cAt (bodyOf Tryz.f24) [1, 1, 0, 1, 0, 0, 0, 0])) [], .code (cAt (bodyOf Tryz.f24) [1, 1, 0, 1, 0, 0, 0, 1]), .code (cAt (bodyOf Tryz.f24) [1, 1, 0, 1, 0, 0, 1]), .inLoop (cAt (bodyOf Tryz.f24) [1, 1, 0, 1, 0, 0]), .inBlock 0, .code (cAt (bodyOf Tryz.f24) [1, 1, 1])]⟩ := by
        clear hO
        refine J_adv 1 (J_bool 21 (b := o3) (by kernel_rfl) (fun hb13 => ?_) (fun hb13 => ?_))
        · replace hF := ift hb13 hF
          obtain ⟨y3, e5, hF⟩ := bnd hF
          refine J_adv 9 (J_opt1 (o := geti (d0.L.map e_a4i8) v2) (e_a4i8 y3) (by kernel_rfl) (gm e5) ?_)
          refine J_adv 4 (J_draw (by kernel_rfl) (by kernel_rfl) ?_)
          obtain ⟨hb14, hF⟩ := assd hF
          refine JD_adv 7 (JD_opt1 (o := chk (decide (d1 ≠ 0))) [] (by kernel_rfl) (by kernel_rfl) (ck hb14) ?_)
          obtain ⟨l5, e6, hF⟩ := bnd hF
          refine JD_adv 17 (JD_opt2 (o := app2 ((l4.map e_T_api_Rule).drop 0) ([(⟨Int.tmod (IntKind.i64.wrap (IntKind.u8.wrap y3.a0)) d1, IntKind.i64.wrap (1 + (IntKind.i64.wrap (Int.tmod (IntKind.u8.wrap y3.a1) 3))), Int.tmod (IntKind.i64.wrap y3.a2) 100, IntKind.i64.wrap (Int.tmod (IntKind.u8.wrap y3.a3) 4)⟩ : T_api_Rule)].map e_T_api_Rule)) (l5.map e_T_api_Rule) (by kernel_rfl) (by kernel_rfl) (am e6) ?_)
          refine JD_adv 2 (JD_end (by kernel_rfl) ?_)
          exact J_adv 6 (J_at [1, 2, 4, 5, 6] [2, 4, 5, 54] (T0 := [.inLoop (cAt (bodyOf Tryz.f24) [1, 1, 0, 1, 0, 0]), .inBlock 0, .code (cAt (bodyOf Tryz.f24) [1, 1, 1])]) (by kernel_rfl) rfl (ih_F24_L1 (IntKind.i64.wrap (v2 + 1)) l5 hF))
        · replace hF := iff' hb13 hF
          have hr_ := Option.some.inj hF; subst hr_
          exact J_adv 7 (J_ret (xs := [.agg [.d (.sl 4 (l4.map e_T_api_Rule)), .d (.int .i64 (IntKind.i64.wrap (Int.tmod d0.Else 4)))]]) [.agg [.d (.sl 4 (l4.map e_T_api_Rule)), .d (.int .i64 (IntKind.i64.wrap (Int.tmod d0.Else 4)))]] rfl rfl (by kernel_rfl) (Res'.refl _) rfl)
      clear hF; rename _ = some o3 => hF
      refine J_adv 10 (J_bool 18 (b := decide (v2 < ((d0.L.map e_a4i8).length : Int))) (by kernel_rfl) (fun hb15 => ?_) (fun hb15 => ?_))
      · replace hF := ift hb15 hF
        have hr_ := Option.some.inj hF; subst hr_
        exact J_adv 3 (J_at [1, 2, 4, 5, 6, 21] [2, 4, 5, 54] (T0 := [.ops (opsOf (cAt (bodyOf Tryz.f24) [1, 1, 0, 1, 0, 0, 0, 0])) [], .code (cAt (bodyOf Tryz.f24) [1, 1, 0, 1, 0, 0, 0, 1]), .code (cAt (bodyOf Tryz.f24) [1, 1, 0, 1, 0, 0, 1]), .inLoop (cAt (bodyOf Tryz.f24) [1, 1, 0, 1, 0, 0]), .inBlock 0, .code (cAt (bodyOf Tryz.f24) [1, 1, 1])]) (by kernel_rfl) rfl hR3)
      · replace hF := iff' hb15 hF
        have hr_ := Option.some.inj hF; subst hr_
        exact J_adv 3 (J_at [1, 2, 4, 5, 6, 21] [2, 4, 5, 54] (T0 := [.ops (opsOf (cAt (bodyOf Tryz.f24) [1, 1, 0, 1, 0, 0, 0, 0])) [], .code (cAt (bodyOf Tryz.f24) [1, 1, 0, 1, 0, 0, 0, 1]), .code (cAt (bodyOf Tryz.f24) [1, 1, 0, 1, 0, 0, 1]), .inLoop (cAt (bodyOf Tryz.f24) [1, 1, 0, 1, 0, 0]), .inBlock 0, .code (cAt (bodyOf Tryz.f24) [1, 1, 1])]) (by kernel_rfl) rfl hR3)
  refine J_adv 22 (J_ownc (n := 4) 5 0 54 116 4 (by kernel_rfl) (by kernel_rfl) ?_)
  exact J_adv 0 (J_at [1, 2, 4, 5, 6] [2, 4, 5, 54] (T0 := [.inLoop (cAt (bodyOf Tryz.f24) [1, 1, 0, 1, 0, 0]), .inBlock 0, .code (cAt (bodyOf Tryz.f24) [1, 1, 1])]) (by kernel_rfl) rfl (hF24_L1 fuel 0 [] hF))

/- croupier/rules.row$1 -/
def F88 (d0 : Int) : Option Bool :=
  Option.bind (F85 d0 (-99) 99) fun y1 =>
  some (!y1)
theorem F88_ok {d0 : Int} {r : Bool} (hF : F88 d0 = some r) :
    CallF Tryz.prog 88 [.d (.int .i64 d0)] (.d (.bool r)) := by
  unfold F88 at hF
  refine callF_of (N := 6) (b := bodyOf Tryz.f88) Tryz.func88 (by kernel_rfl) rfl rfl ?_
  obtain ⟨y1, e1, hF⟩ := bnd hF
  refine J_adv 7 (J_callF (xs := [.d (.int .i64 d0), .d (.int .i64 (-99)), .d (.int .i64 99)]) [.d (.int .i64 d0), .d (.int .i64 (-99)), .d (.int .i64 99)] (.d (.bool y1)) (by kernel_rfl) en85 (Res'.refl _) (F85_ok e1) ?_)
  have hr_ := Option.some.inj hF; subst hr_
  exact J_adv 3 (J_ret (xs := [.d (.bool (!y1))]) [.d (.bool (!y1))] rfl rfl (by kernel_rfl) (Res'.refl _) rfl)

/- slices.IndexFunc(()int,int) -/
def F63a_L1 (d0 : List Int) : Nat → Int → Option Int
  | 0, _ => none
  | n_F63a_L1 + 1, v2 =>
    bif decide (v2 < ((d0.map e_i64).length : Int)) then
      (Option.bind (geti d0 v2) fun y5 =>
      Option.bind (F88 y5) fun y6 =>
      bif y6 then
        (some v2)
      else
        ((F63a_L1 d0 n_F63a_L1) (IntKind.i64.wrap (v2 + 1))))
    else
      (some (-1))
def F63a (fuel : Nat) (d0 : List Int) : Option Int :=
  F63a_L1 d0 fuel 0
theorem F63a_ok {fuel : Nat} {d0 : List Int} {r : Int} (hF : F63a fuel d0 = some r) :
    CallF Tryz.prog 63 [.d (.sl 1 (d0.map e_i64)), .d (.fnc 88)] (.d (.int .i64 r)) := by
  unfold F63a at hF
  refine callF_of (N := 19) (b := bodyOf Tryz.f63) Tryz.func63 (by kernel_rfl) rfl rfl ?_
  have hF63a_L1 : ∀ (n_F63a_L1 : Nat) (v2 : Int), F63a_L1 d0 n_F63a_L1 v2 = some r → J none Tryz.prog 19 [] (finF Tryz.prog Tryz.f63 (.d (.int .i64 r))) ⟨mkT [(0, .d (.sl 1 (d0.map e_i64))), (1, .d (.fnc 88)), (7, .d (.int .i64 ((d0.map e_i64).length : Int))), (8, .d (.int .i64 v2))], [], [.inLoop (cAt (bodyOf Tryz.f63) [1, 0, 1, 0, 0]), .inBlock 0, .code (cAt (bodyOf Tryz.f63) [1, 1])]⟩ := by
    clear hF; intro n_F63a_L1
    induction n_F63a_L1 with
    | zero => intro v2 hF; cases hF
    | succ n_F63a_L1 ih_F63a_L1 =>
      intro v2 hF
      rw [F63a_L1] at hF
      refine J_adv 6 (J_bool 9 (b := decide (v2 < ((d0.map e_i64).length : Int))) (by kernel_rfl) (fun hb5 => ?_) (fun hb5 => ?_))
      · replace hF := ift hb5 hF
        obtain ⟨y5, e5, hF⟩ := bnd hF
        refine J_adv 14 (J_opt1 (o := geti (d0.map e_i64) v2) (e_i64 y5) (by kernel_rfl) (gm e5) ?_)
        obtain ⟨y6, e6, hF⟩ := bnd hF
        refine J_adv 1 (J_callF (xs := [.d (.int .i64 y5)]) [.d (.int .i64 y5)] (.d (.bool y6)) (by kernel_rfl) en88 (Res'.refl _) (F88_ok e6) ?_)
        refine J_adv 1 (J_bool 16 (b := y6) (by kernel_rfl) (fun hb6 => ?_) (fun hb6 => ?_))
        · replace hF := ift hb6 hF
          have hr_ := Option.some.inj hF; subst hr_
          exact J_adv 6 (J_ret (xs := [.d (.int .i64 v2)]) [.d (.int .i64 v2)] rfl rfl (by kernel_rfl) (Res'.refl _) rfl)
        · replace hF := iff' hb6 hF
          exact J_adv 7 (J_at [0, 1, 7, 8] [] (T0 := [.inLoop (cAt (bodyOf Tryz.f63) [1, 0, 1, 0, 0]), .inBlock 0, .code (cAt (bodyOf Tryz.f63) [1, 1])]) (by kernel_rfl) rfl (ih_F63a_L1 (IntKind.i64.wrap (v2 + 1)) hF))
      · replace hF := iff' hb5 hF
        have hr_ := Option.some.inj hF; subst hr_
        exact J_adv 6 (J_ret (xs := [.d (.int .i64 (-1))]) [.d (.int .i64 (-1))] rfl rfl (by kernel_rfl) (Res'.refl _) rfl)
  exact J_adv 13 (J_at [0, 1, 7, 8] [] (T0 := [.inLoop (cAt (bodyOf Tryz.f63) [1, 0, 1, 0, 0]), .inBlock 0, .code (cAt (bodyOf Tryz.f63) [1, 1])]) (by kernel_rfl) rfl (hF63a_L1 fuel 0 hF))

/- slices.ContainsFunc(()int,int) -/
def F34a (fuel : Nat) (d0 : List Int) : Option Bool :=
  Option.bind (F63a fuel d0) fun y1 =>
  some (decide (y1 ≥ 0))
theorem F34a_ok {fuel : Nat} {d0 : List Int} {r : Bool} (hF : F34a fuel d0 = some r) :
    CallF Tryz.prog 34 [.d (.sl 1 (d0.map e_i64)), .d (.fnc 88)] (.d (.bool r)) := by
  unfold F34a at hF
  refine callF_of (N := 9) (b := bodyOf Tryz.f34) Tryz.func34 (by kernel_rfl) rfl rfl ?_
  obtain ⟨y1, e1, hF⟩ := bnd hF
  refine J_adv 8 (J_callF (xs := [.d (.sl 1 (d0.map e_i64)), .d (.fnc 88)]) [.d (.sl 1 (d0.map e_i64)), .d (.fnc 88)] (.d (.int .i64 y1)) (by kernel_rfl) en63 (Res'.refl _) (F63a_ok e1) ?_)
  have hr_ := Option.some.inj hF; subst hr_
  exact J_adv 3 (J_ret (xs := [.d (.bool (decide (y1 ≥ 0)))]) [.d (.bool (decide (y1 ≥ 0)))] rfl rfl (by kernel_rfl) (Res'.refl _) rfl)

/- croupier/rules.row -/
def F56 (fuel : Nat) (d0 : List Int) : Option Bool :=
  Option.bind (
    Option.bind (F85 ((d0.map e_i64).length : Int) 1 4) fun y5 =>
    bif y5 then
      (Option.bind (F34a fuel d0) fun y6 =>
      some (!y6))
    else
      (some false)) fun o1 =>
  some o1
theorem F56_ok {fuel : Nat} {d0 : List Int} {r : Bool} (hF : F56 fuel d0 = some r) :
    CallF Tryz.prog 56 [.d (.sl 1 (d0.map e_i64))] (.d (.bool r)) := by
  unfold F56 at hF
  refine callF_of (N := 11) (b := bodyOf Tryz.f56) Tryz.func56 (by kernel_rfl) rfl rfl ?_
  obtain ⟨o1, hO, hF⟩ := bnd hF
  have hR1 : J none Tryz.prog 11 [] (finF Tryz.prog Tryz.f56 (.d (.bool r))) ⟨mkT [(2, .d (.bool o1))], [], [.ops (opsOf (cAt (bodyOf Tryz.f56) [1, 0])) [], .code (cAt (bodyOf Tryz.f56) [1, 1])]⟩ := by
    clear hO
    have hr_ := Option.some.inj hF; subst hr_
    exact J_adv 1 (J_ret (xs := [.d (.bool o1)]) [.d (.bool o1)] rfl rfl (by kernel_rfl) (Res'.refl _) rfl)
  clear hF; rename _ = some o1 => hF
  obtain ⟨y5, e5, hF⟩ := bnd hF
  refine J_adv 8 (J_callF (xs := [.d (.int .i64 ((d0.map e_i64).length : Int)), .d (.int .i64 1), .d (.int .i64 4)]) [.d (.int .i64 ((d0.map e_i64).length : Int)), .d (.int .i64 1), .d (.int .i64 4)] (.d (.bool y5)) (by kernel_rfl) en85 (Res'.refl _) (F85_ok e5) ?_)
  refine J_adv 1 (J_bool 6 (b := y5) (by kernel_rfl) (fun hb3 => ?_) (fun hb3 => ?_))
  · replace hF := ift hb3 hF
    obtain ⟨y6, e6, hF⟩ := bnd hF
    refine J_adv 1 (J_callF (xs := [.d (.sl 1 (d0.map e_i64)), .d (.fnc 88)]) [.d (.sl 1 (d0.map e_i64)), .d (.fnc 88)] (.d (.bool y6)) (by kernel_rfl) en34 (Res'.refl _) (F34a_ok e6) ?_)
    have hr_ := Option.some.inj hF; subst hr_
    exact J_adv 3 (J_at [2] [] (T0 := [.ops (opsOf (cAt (bodyOf Tryz.f56) [1, 0])) [], .code (cAt (bodyOf Tryz.f56) [1, 1])]) (by kernel_rfl) rfl hR1)
  · replace hF := iff' hb3 hF
    have hr_ := Option.some.inj hF; subst hr_
    exact J_adv 5 (J_at [2] [] (T0 := [.ops (opsOf (cAt (bodyOf Tryz.f56) [1, 0])) [], .code (cAt (bodyOf Tryz.f56) [1, 1])]) (by kernel_rfl) rfl hR1)

/- croupier/rules.fits$1 -/
def F89 (d0 : T_api_Rule) (d1 : Int) : Option Bool :=
  some (decide (d0.Var ≥ d1))
theorem F89_ok {d0 : T_api_Rule} {d1 : Int} {r : Bool} (hF : F89 d0 d1 = some r) :
    CallF Tryz.prog 89 [.agg [.d (.int .i64 d0.Var), .d (.int .i64 d0.Test), .d (.int .i64 d0.Val), .d (.int .i64 d0.Then)], .rp [.int .i64 d1] 0] (.d (.bool r)) := by
  unfold F89 at hF
  refine callF_of (N := 8) (b := bodyOf Tryz.f89) Tryz.func89 (by kernel_rfl) rfl rfl ?_
  have hr_ := Option.some.inj hF; subst hr_
  exact J_adv 13 (J_ret (xs := [.d (.bool (decide (d0.Var ≥ d1)))]) [.d (.bool (decide (d0.Var ≥ d1)))] rfl rfl (by kernel_rfl) (Res'.refl _) rfl)

/- slices.IndexFunc(()croupier/api.Rule,croupier/api.Rule) -/
def F103a_L1 (d0 : List T_api_Rule) (d1 : Int) : Nat → Int → Option Int
  | 0, _ => none
  | n_F103a_L1 + 1, v2 =>
    bif decide (v2 < ((d0.map e_T_api_Rule).length : Int)) then
      (Option.bind (geti d0 v2) fun y5 =>
      Option.bind (F89 y5 d1) fun y6 =>
      bif y6 then
        (some v2)
      else
        ((F103a_L1 d0 d1 n_F103a_L1) (IntKind.i64.wrap (v2 + 1))))
    else
      (some (-1))
def F103a (fuel : Nat) (d0 : List T_api_Rule) (d1 : Int) : Option Int :=
  F103a_L1 d0 d1 fuel 0
theorem F103a_ok {fuel : Nat} {d0 : List T_api_Rule} {d1 : Int} {r : Int} (hF : F103a fuel d0 d1 = some r) :
    CallF Tryz.prog 103 [.d (.sl 4 (d0.map e_T_api_Rule)), .fn 89 [] [.rp [.int .i64 d1] 0]] (.d (.int .i64 r)) := by
  unfold F103a at hF
  refine callF_of (N := 19) (b := bodyOf Tryz.f103) Tryz.func103 (by kernel_rfl) rfl rfl ?_
  have hF103a_L1 : ∀ (n_F103a_L1 : Nat) (v2 : Int), F103a_L1 d0 d1 n_F103a_L1 v2 = some r → J none Tryz.prog 19 [] (finF Tryz.prog Tryz.f103 (.d (.int .i64 r))) ⟨mkT [(0, .d (.sl 4 (d0.map e_T_api_Rule))), (1, .fn 89 [] [.rp [.int .i64 d1] 0]), (7, .d (.int .i64 ((d0.map e_T_api_Rule).length : Int))), (8, .d (.int .i64 v2))], [], [.inLoop (cAt (bodyOf Tryz.f103) [1, 0, 1, 0, 0]), .inBlock 0, .code (cAt (bodyOf Tryz.f103) [1, 1])]⟩ := by
    clear hF; intro n_F103a_L1
    induction n_F103a_L1 with
    | zero => intro v2 hF; cases hF
    | succ n_F103a_L1 ih_F103a_L1 =>
      intro v2 hF
      rw [F103a_L1] at hF
      refine J_adv 6 (J_bool 9 (b := decide (v2 < ((d0.map e_T_api_Rule).length : Int))) (by kernel_rfl) (fun hb5 => ?_) (fun hb5 => ?_))
      · replace hF := ift hb5 hF
        obtain ⟨y5, e5, hF⟩ := bnd hF
        refine J_adv 14 (J_opt1 (o := geti (d0.map e_T_api_Rule) v2) (e_T_api_Rule y5) (by kernel_rfl) (gm e5) ?_)
        obtain ⟨y6, e6, hF⟩ := bnd hF
        refine J_adv 1 (J_callF (xs := [.agg [.d (.int .i64 y5.Var), .d (.int .i64 y5.Test), .d (.int .i64 y5.Val), .d (.int .i64 y5.Then)], .rp [.int .i64 d1] 0]) [.agg [.d (.int .i64 y5.Var), .d (.int .i64 y5.Test), .d (.int .i64 y5.Val), .d (.int .i64 y5.Then)], .rp [.int .i64 d1] 0] (.d (.bool y6)) (by kernel_rfl) en89 (Res'.refl _) (F89_ok e6) ?_)
        refine J_adv 1 (J_bool 16 (b := y6) (by kernel_rfl) (fun hb6 => ?_) (fun hb6 => ?_))
        · replace hF := ift hb6 hF
          have hr_ := Option.some.inj hF; subst hr_
          exact J_adv 6 (J_ret (xs := [.d (.int .i64 v2)]) [.d (.int .i64 v2)] rfl rfl (by kernel_rfl) (Res'.refl _) rfl)
        · replace hF := iff' hb6 hF
          exact J_adv 7 (J_at [0, 1, 7, 8] [] (T0 := [.inLoop (cAt (bodyOf Tryz.f103) [1, 0, 1, 0, 0]), .inBlock 0, .code (cAt (bodyOf Tryz.f103) [1, 1])]) (by kernel_rfl) rfl (ih_F103a_L1 (IntKind.i64.wrap (v2 + 1)) hF))
      · replace hF := iff' hb5 hF
        have hr_ := Option.some.inj hF; subst hr_
        exact J_adv 6 (J_ret (xs := [.d (.int .i64 (-1))]) [.d (.int .i64 (-1))] rfl rfl (by kernel_rfl) (Res'.refl _) rfl)
  exact J_adv 13 (J_at [0, 1, 7, 8] [] (T0 := [.inLoop (cAt (bodyOf Tryz.f103) [1, 0, 1, 0, 0]), .inBlock 0, .code (cAt (bodyOf Tryz.f103) [1, 1])]) (by kernel_rfl) rfl (hF103a_L1 fuel 0 hF))

/- slices.ContainsFunc(()croupier/api.Rule,croupier/api.Rule) -/
def F86a (fuel : Nat) (d0 : List T_api_Rule) (d1 : Int) : Option Bool :=
  Option.bind (F103a fuel d0 d1) fun y1 =>
  some (decide (y1 ≥ 0))
theorem F86a_ok {fuel : Nat} {d0 : List T_api_Rule} {d1 : Int} {r : Bool} (hF : F86a fuel d0 d1 = some r) :
    CallF Tryz.prog 86 [.d (.sl 4 (d0.map e_T_api_Rule)), .fn 89 [] [.rp [.int .i64 d1] 0]] (.d (.bool r)) := by
  unfold F86a at hF
  refine callF_of (N := 9) (b := bodyOf Tryz.f86) Tryz.func86 (by kernel_rfl) rfl rfl ?_
  obtain ⟨y1, e1, hF⟩ := bnd hF
  refine J_adv 8 (J_callF (xs := [.d (.sl 4 (d0.map e_T_api_Rule)), .fn 89 [] [.rp [.int .i64 d1] 0]]) [.d (.sl 4 (d0.map e_T_api_Rule)), .fn 89 [] [.rp [.int .i64 d1] 0]] (.d (.int .i64 y1)) (by kernel_rfl) en103 (Res'.refl _) (F103a_ok e1) ?_)
  have hr_ := Option.some.inj hF; subst hr_
  exact J_adv 3 (J_ret (xs := [.d (.bool (decide (y1 ≥ 0)))]) [.d (.bool (decide (y1 ≥ 0)))] rfl rfl (by kernel_rfl) (Res'.refl _) rfl)

/- croupier/rules.fits -/
def F57 (fuel : Nat) (d0 : T_api_Rules) (d1 : Int) : Option Bool :=
  Option.bind (F86a fuel d0.List d1) fun y1 =>
  some (!y1)
theorem F57_ok {fuel : Nat} {d0 : T_api_Rules} {d1 : Int} {r : Bool} (hF : F57 fuel d0 d1 = some r) :
    CallF Tryz.prog 57 [.agg [.d (.sl 4 (d0.List.map e_T_api_Rule)), .d (.int .i64 d0.Else)], .d (.int .i64 d1)] (.d (.bool r)) := by
  unfold F57 at hF
  refine callF_of (N := 10) (b := bodyOf Tryz.f57) Tryz.func57 (by kernel_rfl) rfl rfl ?_
  obtain ⟨y1, e1, hF⟩ := bnd hF
  refine J_adv 11 (J_callF (xs := [.d (.sl 4 (d0.List.map e_T_api_Rule)), .fn 89 [] [.rp [.int .i64 d1] 0]]) [.d (.sl 4 (d0.List.map e_T_api_Rule)), .fn 89 [] [.rp [.int .i64 d1] 0]] (.d (.bool y1)) (by kernel_rfl) en86 (Res'.refl _) (F86a_ok e1) ?_)
  have hr_ := Option.some.inj hF; subst hr_
  exact J_adv 3 (J_ret (xs := [.d (.bool (!y1))]) [.d (.bool (!y1))] rfl rfl (by kernel_rfl) (Res'.refl _) rfl)

/- croupier/rules.tests -/
def F104 : Option Unit :=
  some ()
theorem F104_ok {r : Unit} (hF : F104 = some r) :
    CallF Tryz.prog 104 [] (.agg [.d .nilf, .d (.fnc 119), .d (.fnc 120), .d (.fnc 121)]) := by
  unfold F104 at hF
  refine callF_of (N := 6) (b := bodyOf Tryz.f104) Tryz.func104 (by kernel_rfl) rfl rfl ?_
  have hr_ := Option.some.inj hF; subst hr_
  exact J_adv 13 (J_ret (xs := [.agg [.d .nilf, .d (.fnc 119), .d (.fnc 120), .d (.fnc 121)]]) [.agg [.d .nilf, .d (.fnc 119), .d (.fnc 120), .d (.fnc 121)]] rfl rfl (by kernel_rfl) (Res'.refl _) rfl)

/- croupier/rules.tests$1 -/
def F119 (d0 : Int) (d1 : Int) : Option Bool :=
  some (d0 == d1)
theorem F119_ok {d0 : Int} {d1 : Int} {r : Bool} (hF : F119 d0 d1 = some r) :
    CallF Tryz.prog 119 [.d (.int .i64 d0), .d (.int .i64 d1)] (.d (.bool r)) := by
  unfold F119 at hF
  refine callF_of (N := 8) (b := bodyOf Tryz.f119) Tryz.func119 (by kernel_rfl) rfl rfl ?_
  have hr_ := Option.some.inj hF; subst hr_
  exact J_adv 11 (J_ret (xs := [.d (.bool (d0 == d1))]) [.d (.bool (d0 == d1))] rfl rfl (by kernel_rfl) (Res'.refl _) rfl)

/- croupier/rules.tests$2 -/
def F120 (d0 : Int) (d1 : Int) : Option Bool :=
  some (decide (d0 ≤ d1))
theorem F120_ok {d0 : Int} {d1 : Int} {r : Bool} (hF : F120 d0 d1 = some r) :
    CallF Tryz.prog 120 [.d (.int .i64 d0), .d (.int .i64 d1)] (.d (.bool r)) := by
  unfold F120 at hF
  refine callF_of (N := 8) (b := bodyOf Tryz.f120) Tryz.func120 (by kernel_rfl) rfl rfl ?_
  have hr_ := Option.some.inj hF; subst hr_
  exact J_adv 11 (J_ret (xs := [.d (.bool (decide (d0 ≤ d1)))]) [.d (.bool (decide (d0 ≤ d1)))] rfl rfl (by kernel_rfl) (Res'.refl _) rfl)

/- croupier/rules.tests$3 -/
def F121 (d0 : Int) (d1 : Int) : Option Bool :=
  some (decide (d0 ≥ d1))
theorem F121_ok {d0 : Int} {d1 : Int} {r : Bool} (hF : F121 d0 d1 = some r) :
    CallF Tryz.prog 121 [.d (.int .i64 d0), .d (.int .i64 d1)] (.d (.bool r)) := by
  unfold F121 at hF
  refine callF_of (N := 8) (b := bodyOf Tryz.f121) Tryz.func121 (by kernel_rfl) rfl rfl ?_
  have hr_ := Option.some.inj hF; subst hr_
  exact J_adv 11 (J_ret (xs := [.d (.bool (decide (d0 ≥ d1)))]) [.d (.bool (decide (d0 ≥ d1)))] rfl rfl (by kernel_rfl) (Res'.refl _) rfl)

/- croupier/rules.passes -/
def F90 (d0 : T_api_Rule) (d1 : List Int) : Option Bool :=
  Option.bind (F104) fun y1 =>
  bif decide (d0.Test = 0) then
    (Option.bind (geti d1 d0.Var) fun y2 =>
    none)
  else bif decide (d0.Test = 1) then
    (Option.bind (geti d1 d0.Var) fun y3 =>
    Option.bind (F119 y3 d0.Val) fun y4 =>
    some y4)
  else bif decide (d0.Test = 2) then
    (Option.bind (geti d1 d0.Var) fun y5 =>
    Option.bind (F120 y5 d0.Val) fun y6 =>
    some y6)
  else bif decide (d0.Test = 3) then
    (Option.bind (geti d1 d0.Var) fun y7 =>
    Option.bind (F121 y7 d0.Val) fun y8 =>
    some y8)
  else none
theorem F90_ok {d0 : T_api_Rule} {d1 : List Int} {r : Bool} (hF : F90 d0 d1 = some r) :
    CallF Tryz.prog 90 [.agg [.d (.int .i64 d0.Var), .d (.int .i64 d0.Test), .d (.int .i64 d0.Val), .d (.int .i64 d0.Then)], .d (.sl 1 (d1.map e_i64))] (.d (.bool r)) := by
  unfold F90 at hF
  refine callF_of (N := 18) (b := bodyOf Tryz.f90) Tryz.func90 (by kernel_rfl) rfl rfl ?_
  refine J_adv 6 (J_draw (by kernel_rfl) (by kernel_rfl) ?_)
  obtain ⟨y1, e1, hF⟩ := bnd hF
  refine JD_adv 0 (JD_callF (xs := []) [] (.agg [.d .nilf, .d (.fnc 119), .d (.fnc 120), .d (.fnc 121)]) (by kernel_rfl) (by kernel_rfl) en104 (Res'.refl _) (F104_ok e1) ?_)
  rcases Bool.eq_false_or_eq_true (decide (d0.Test = 0)) with hb1 | hb1
  · replace hF := ift hb1 hF
    refine JD_adv 2 (JD_opt1 (o := geti (chunks 1 4 ([.nilf, .fnc 119, .fnc 120, .fnc 121] : List Dat)) d0.Test) ([.nilf] : List Dat) (by kernel_rfl) (by kernel_rfl) (by rw [of_decide_eq_true hb1]; rfl) ?_)
    obtain ⟨y2, e2, hF⟩ := bnd hF
    refine JD_adv 4 (JD_opt1 (o := geti (d1.map e_i64) d0.Var) (e_i64 y2) (by kernel_rfl) (by kernel_rfl) (gm e2) ?_)
    cases hF
  · replace hF := iff' hb1 hF
    rcases Bool.eq_false_or_eq_true (decide (d0.Test = 1)) with hb2 | hb2
    · replace hF := ift hb2 hF
      refine JD_adv 2 (JD_opt1 (o := geti (chunks 1 4 ([.nilf, .fnc 119, .fnc 120, .fnc 121] : List Dat)) d0.Test) ([.fnc 119] : List Dat) (by kernel_rfl) (by kernel_rfl) (by rw [of_decide_eq_true hb2]; rfl) ?_)
      obtain ⟨y3, e3, hF⟩ := bnd hF
      refine JD_adv 4 (JD_opt1 (o := geti (d1.map e_i64) d0.Var) (e_i64 y3) (by kernel_rfl) (by kernel_rfl) (gm e3) ?_)
      obtain ⟨y4, e4, hF⟩ := bnd hF
      refine JD_adv 3 (JD_callF (xs := [.d (.int .i64 y3), .d (.int .i64 d0.Val)]) [.d (.int .i64 y3), .d (.int .i64 d0.Val)] (.d (.bool y4)) (by kernel_rfl) (by kernel_rfl) en119 (Res'.refl _) (F119_ok e4) ?_)
      refine JD_adv 1 (JD_end (by kernel_rfl) ?_)
      have hr_ := Option.some.inj hF; subst hr_
      exact J_adv 0 (J_ret (xs := [.d (.bool y4)]) [.d (.bool y4)] rfl rfl (by kernel_rfl) (Res'.refl _) rfl)
    · replace hF := iff' hb2 hF
      rcases Bool.eq_false_or_eq_true (decide (d0.Test = 2)) with hb3 | hb3
      · replace hF := ift hb3 hF
        refine JD_adv 2 (JD_opt1 (o := geti (chunks 1 4 ([.nilf, .fnc 119, .fnc 120, .fnc 121] : List Dat)) d0.Test) ([.fnc 120] : List Dat) (by kernel_rfl) (by kernel_rfl) (by rw [of_decide_eq_true hb3]; rfl) ?_)
        obtain ⟨y5, e5, hF⟩ := bnd hF
        refine JD_adv 4 (JD_opt1 (o := geti (d1.map e_i64) d0.Var) (e_i64 y5) (by kernel_rfl) (by kernel_rfl) (gm e5) ?_)
        obtain ⟨y6, e6, hF⟩ := bnd hF
        refine JD_adv 3 (JD_callF (xs := [.d (.int .i64 y5), .d (.int .i64 d0.Val)]) [.d (.int .i64 y5), .d (.int .i64 d0.Val)] (.d (.bool y6)) (by kernel_rfl) (by kernel_rfl) en120 (Res'.refl _) (F120_ok e6) ?_)
        refine JD_adv 1 (JD_end (by kernel_rfl) ?_)
        have hr_ := Option.some.inj hF; subst hr_
        exact J_adv 0 (J_ret (xs := [.d (.bool y6)]) [.d (.bool y6)] rfl rfl (by kernel_rfl) (Res'.refl _) rfl)
      · replace hF := iff' hb3 hF
        rcases Bool.eq_false_or_eq_true (decide (d0.Test = 3)) with hb4 | hb4
        · replace hF := ift hb4 hF
          refine JD_adv 2 (JD_opt1 (o := geti (chunks 1 4 ([.nilf, .fnc 119, .fnc 120, .fnc 121] : List Dat)) d0.Test) ([.fnc 121] : List Dat) (by kernel_rfl) (by kernel_rfl) (by rw [of_decide_eq_true hb4]; rfl) ?_)
          obtain ⟨y7, e7, hF⟩ := bnd hF
          refine JD_adv 4 (JD_opt1 (o := geti (d1.map e_i64) d0.Var) (e_i64 y7) (by kernel_rfl) (by kernel_rfl) (gm e7) ?_)
          obtain ⟨y8, e8, hF⟩ := bnd hF
          refine JD_adv 3 (JD_callF (xs := [.d (.int .i64 y7), .d (.int .i64 d0.Val)]) [.d (.int .i64 y7), .d (.int .i64 d0.Val)] (.d (.bool y8)) (by kernel_rfl) (by kernel_rfl) en121 (Res'.refl _) (F121_ok e8) ?_)
          refine JD_adv 1 (JD_end (by kernel_rfl) ?_)
          have hr_ := Option.some.inj hF; subst hr_
          exact J_adv 0 (J_ret (xs := [.d (.bool y8)]) [.d (.bool y8)] rfl rfl (by kernel_rfl) (Res'.refl _) rfl)
        · replace hF := iff' hb4 hF
          cases hF

/- croupier/rules.choice -/
def F58_L1 (d0 : T_api_Rules) (d1 : List Int) : Nat → Int → Option Int
  | 0, _ => none
  | n_F58_L1 + 1, v2 =>
    bif decide (v2 < ((d0.List.map e_T_api_Rule).length : Int)) then
      (Option.bind (geti d0.List v2) fun y5 =>
      Option.bind (F90 y5 d1) fun y6 =>
      bif y6 then
        (some y5.Then)
      else
        ((F58_L1 d0 d1 n_F58_L1) (IntKind.i64.wrap (v2 + 1))))
    else
      (some d0.Else)
def F58 (fuel : Nat) (d0 : T_api_Rules) (d1 : List Int) : Option Int :=
  F58_L1 d0 d1 fuel 0
theorem F58_ok {fuel : Nat} {d0 : T_api_Rules} {d1 : List Int} {r : Int} (hF : F58 fuel d0 d1 = some r) :
    CallF Tryz.prog 58 [.agg [.d (.sl 4 (d0.List.map e_T_api_Rule)), .d (.int .i64 d0.Else)], .d (.sl 1 (d1.map e_i64))] (.d (.int .i64 r)) := by
  unfold F58 at hF
  refine callF_of (N := 22) (b := bodyOf Tryz.f58) Tryz.func58 (by kernel_rfl) rfl rfl ?_
  have hF58_L1 : ∀ (n_F58_L1 : Nat) (v2 : Int), F58_L1 d0 d1 n_F58_L1 v2 = some r → J none Tryz.prog 22 [] (finF Tryz.prog Tryz.f58 (.d (.int .i64 r))) ⟨mkT [(1, .d (.sl 1 (d1.map e_i64))), (2, .ptr 2 0), (8, .d (.sl 4 (d0.List.map e_T_api_Rule))), (9, .d (.int .i64 ((d0.List.map e_T_api_Rule).length : Int))), (10, .d (.int .i64 v2))], [(2, .box 59 [.d (.sl 4 (d0.List.map e_T_api_Rule)), .d (.int .i64 d0.Else)])], [.inLoop (cAt (bodyOf Tryz.f58) [1, 0, 1, 0, 0]), .inBlock 0, .code (cAt (bodyOf Tryz.f58) [1, 1])]⟩ := by
    clear hF; intro n_F58_L1
    induction n_F58_L1 with
    | zero => intro v2 hF; cases hF
    | succ n_F58_L1 ih_F58_L1 =>
      intro v2 hF
      rw [F58_L1] at hF
      refine J_adv 6 (J_bool 11 (b := decide (v2 < ((d0.List.map e_T_api_Rule).length : Int))) (by kernel_rfl) (fun hb5 => ?_) (fun hb5 => ?_))
      · replace hF := ift hb5 hF
        obtain ⟨y5, e5, hF⟩ := bnd hF
        refine J_adv 6 (J_opt1 (o := geti (d0.List.map e_T_api_Rule) v2) (e_T_api_Rule y5) (by kernel_rfl) (gm e5) ?_)
        obtain ⟨y6, e6, hF⟩ := bnd hF
        refine J_adv 8 (J_callF (xs := [.agg [.d (.int .i64 y5.Var), .d (.int .i64 y5.Test), .d (.int .i64 y5.Val), .d (.int .i64 y5.Then)], .d (.sl 1 (d1.map e_i64))]) [.agg [.d (.int .i64 y5.Var), .d (.int .i64 y5.Test), .d (.int .i64 y5.Val), .d (.int .i64 y5.Then)], .d (.sl 1 (d1.map e_i64))] (.d (.bool y6)) (by kernel_rfl) en90 (Res'.refl _) (F90_ok e6) ?_)
        refine J_adv 1 (J_bool 16 (b := y6) (by kernel_rfl) (fun hb6 => ?_) (fun hb6 => ?_))
        · replace hF := ift hb6 hF
          have hr_ := Option.some.inj hF; subst hr_
          exact J_adv 7 (J_ret (xs := [.d (.int .i64 y5.Then)]) [.d (.int .i64 y5.Then)] rfl rfl (by kernel_rfl) (Res'.refl _) rfl)
        · replace hF := iff' hb6 hF
          exact J_adv 7 (J_at [1, 2, 8, 9, 10] [2] (T0 := [.inLoop (cAt (bodyOf Tryz.f58) [1, 0, 1, 0, 0]), .inBlock 0, .code (cAt (bodyOf Tryz.f58) [1, 1])]) (by kernel_rfl) rfl (ih_F58_L1 (IntKind.i64.wrap (v2 + 1)) hF))
      · replace hF := iff' hb5 hF
        have hr_ := Option.some.inj hF; subst hr_
        exact J_adv 8 (J_ret (xs := [.d (.int .i64 d0.Else)]) [.d (.int .i64 d0.Else)] rfl rfl (by kernel_rfl) (Res'.refl _) rfl)
  exact J_adv 15 (J_at [1, 2, 8, 9, 10] [2] (T0 := [.inLoop (cAt (bodyOf Tryz.f58) [1, 0, 1, 0, 0]), .inBlock 0, .code (cAt (bodyOf Tryz.f58) [1, 1])]) (by kernel_rfl) rfl (hF58_L1 fuel 0 hF))

/- croupier/rules.Apply -/
def F26 (fuel : Nat) (d0 : T_api_Rules) (d1 : List Int) : Option (Int × Int) :=
  Option.bind (F55 fuel d0) fun y1 =>
  bif !y1 then
    (some (0, 300))
  else
    (Option.bind (
      Option.bind (F56 fuel d1) fun y7 =>
      bif !y7 then
        (some true)
      else
        (Option.bind (F57 fuel d0 ((d1.map e_i64).length : Int)) fun y8 =>
        some (!y8))) fun o1 =>
    bif o1 then
      (some (0, 2))
    else
      (Option.bind (F58 fuel d0 d1) fun y6 =>
      some (y6, 0)))
theorem F26_ok {fuel : Nat} {d0 : T_api_Rules} {d1 : List Int} {r : Int × Int} (hF : F26 fuel d0 d1 = some r) :
    CallF Tryz.prog 26 [.agg [.d (.sl 4 (d0.List.map e_T_api_Rule)), .d (.int .i64 d0.Else)], .d (.sl 1 (d1.map e_i64))] (.tup [.d (.int .i64 r.1), .d (.int .i64 r.2)]) := by
  unfold F26 at hF
  refine callF_of (N := 22) (b := bodyOf Tryz.f26) Tryz.func26 (by kernel_rfl) rfl rfl ?_
  obtain ⟨y1, e1, hF⟩ := bnd hF
  refine J_adv 10 (J_callF (xs := [.agg [.d (.sl 4 (d0.List.map e_T_api_Rule)), .d (.int .i64 d0.Else)]]) [.agg [.d (.sl 4 (d0.List.map e_T_api_Rule)), .d (.int .i64 d0.Else)]] (.d (.bool y1)) (by kernel_rfl) en55 (Res'.refl _) (F55_ok e1) ?_)
  refine J_adv 2 (J_bool 8 (b := !y1) (by kernel_rfl) (fun hb1 => ?_) (fun hb1 => ?_))
  · replace hF := ift hb1 hF
    have hr_ := Option.some.inj hF; subst hr_
    exact J_adv 6 (J_ret (xs := [.d (.int .i64 0), .d (.int .i64 300)]) [.d (.int .i64 0), .d (.int .i64 300)] rfl rfl (by kernel_rfl) (Res'.refl _) rfl)
  · replace hF := iff' hb1 hF
    obtain ⟨o1, hO, hF⟩ := bnd hF
    have hR1 : J none Tryz.prog 22 [] (finF Tryz.prog Tryz.f26 (.tup [.d (.int .i64 r.1), .d (.int .i64 r.2)])) ⟨mkT [(1, .d (.sl 1 (d1.map e_i64))), (2, .ptr 2 0), (18, .d (.bool o1))], [(2, .box 59 [.d (.sl 4 (d0.List.map e_T_api_Rule)), .d (.int .i64 d0.Else)])], [.ops (opsOf (cAt (bodyOf Tryz.f26) [1, 1, 0, 0])) [], .code (cAt (bodyOf Tryz.f26) [1, 1, 0, 1]), .code (cAt (bodyOf Tryz.f26) [1, 1, 1])]⟩ := by
      clear hO
      refine J_adv 1 (J_bool 18 (b := o1) (by kernel_rfl) (fun hb4 => ?_) (fun hb4 => ?_))
      · replace hF := ift hb4 hF
        have hr_ := Option.some.inj hF; subst hr_
        exact J_adv 6 (J_ret (xs := [.d (.int .i64 0), .d (.int .i64 2)]) [.d (.int .i64 0), .d (.int .i64 2)] rfl rfl (by kernel_rfl) (Res'.refl _) rfl)
      · replace hF := iff' hb4 hF
        obtain ⟨y6, e6, hF⟩ := bnd hF
        refine J_adv 6 (J_callF (xs := [.agg [.d (.sl 4 (d0.List.map e_T_api_Rule)), .d (.int .i64 d0.Else)], .d (.sl 1 (d1.map e_i64))]) [.agg [.d (.sl 4 (d0.List.map e_T_api_Rule)), .d (.int .i64 d0.Else)], .d (.sl 1 (d1.map e_i64))] (.d (.int .i64 y6)) (by kernel_rfl) en58 (Res'.refl _) (F58_ok e6) ?_)
        have hr_ := Option.some.inj hF; subst hr_
        exact J_adv 3 (J_ret (xs := [.d (.int .i64 y6), .d (.int .i64 0)]) [.d (.int .i64 y6), .d (.int .i64 0)] rfl rfl (by kernel_rfl) (Res'.refl _) rfl)
    clear hF; rename _ = some o1 => hF
    obtain ⟨y7, e7, hF⟩ := bnd hF
    refine J_adv 6 (J_callF (xs := [.d (.sl 1 (d1.map e_i64))]) [.d (.sl 1 (d1.map e_i64))] (.d (.bool y7)) (by kernel_rfl) en56 (Res'.refl _) (F56_ok e7) ?_)
    refine J_adv 2 (J_bool 12 (b := !y7) (by kernel_rfl) (fun hb5 => ?_) (fun hb5 => ?_))
    · replace hF := ift hb5 hF
      have hr_ := Option.some.inj hF; subst hr_
      exact J_adv 6 (J_at [1, 2, 18] [2] (T0 := [.ops (opsOf (cAt (bodyOf Tryz.f26) [1, 1, 0, 0])) [], .code (cAt (bodyOf Tryz.f26) [1, 1, 0, 1]), .code (cAt (bodyOf Tryz.f26) [1, 1, 1])]) (by kernel_rfl) rfl hR1)
    · replace hF := iff' hb5 hF
      obtain ⟨y8, e8, hF⟩ := bnd hF
      refine J_adv 3 (J_callF (xs := [.agg [.d (.sl 4 (d0.List.map e_T_api_Rule)), .d (.int .i64 d0.Else)], .d (.int .i64 ((d1.map e_i64).length : Int))]) [.agg [.d (.sl 4 (d0.List.map e_T_api_Rule)), .d (.int .i64 d0.Else)], .d (.int .i64 ((d1.map e_i64).length : Int))] (.d (.bool y8)) (by kernel_rfl) en57 (Res'.refl _) (F57_ok e8) ?_)
      have hr_ := Option.some.inj hF; subst hr_
      exact J_adv 2 (J_at [1, 2, 18] [2] (T0 := [.ops (opsOf (cAt (bodyOf Tryz.f26) [1, 1, 0, 0])) [], .code (cAt (bodyOf Tryz.f26) [1, 1, 0, 1]), .code (cAt (bodyOf Tryz.f26) [1, 1, 1])]) (by kernel_rfl) rfl hR1)

/- croupier/code.Check -/
def F22 (fuel : Nat) (d0 : List T_api_Instr) : Option Int :=
  Option.bind (F31 fuel d0) fun y1 =>
  bif !y1 then
    (some 310)
  else
    (some 0)
theorem F22_ok {fuel : Nat} {d0 : List T_api_Instr} {r : Int} (hF : F22 fuel d0 = some r) :
    CallF Tryz.prog 22 [.d (.sl 4 (d0.map e_T_api_Instr))] (.d (.int .i64 r)) := by
  unfold F22 at hF
  refine callF_of (N := 6) (b := bodyOf Tryz.f22) Tryz.func22 (by kernel_rfl) rfl rfl ?_
  obtain ⟨y1, e1, hF⟩ := bnd hF
  refine J_adv 8 (J_callF (xs := [.d (.sl 4 (d0.map e_T_api_Instr))]) [.d (.sl 4 (d0.map e_T_api_Instr))] (.d (.bool y1)) (by kernel_rfl) en31 (Res'.refl _) (F31_ok e1) ?_)
  refine J_adv 2 (J_bool 5 (b := !y1) (by kernel_rfl) (fun hb1 => ?_) (fun hb1 => ?_))
  · replace hF := ift hb1 hF
    have hr_ := Option.some.inj hF; subst hr_
    exact J_adv 5 (J_ret (xs := [.d (.int .i64 310)]) [.d (.int .i64 310)] rfl rfl (by kernel_rfl) (Res'.refl _) rfl)
  · replace hF := iff' hb1 hF
    have hr_ := Option.some.inj hF; subst hr_
    exact J_adv 6 (J_ret (xs := [.d (.int .i64 0)]) [.d (.int .i64 0)] rfl rfl (by kernel_rfl) (Res'.refl _) rfl)

/- croupier/croupierlaw31.CodeServes -/
def F6_L1 (fuel : Nat) (d0 : T_croupierref30_Wish) (d1 : Int) (d2 : A_a4i8) : Nat → Int → (List Int) → Option Bool
  | 0, _, _ => none
  | n_F6_L1 + 1, v2, l4 =>
    bif decide (v2 < (IntKind.i64.wrap (1 + (IntKind.i64.wrap (Int.tmod d1 4))))) then
      (Option.bind (geti [d2.a0, d2.a1, d2.a2, d2.a3] v2) fun y4 =>
      Option.bind (app l4 [Int.tmod (IntKind.i64.wrap y4) 100]) fun l5 =>
      (F6_L1 fuel d0 d1 d2 n_F6_L1) (IntKind.i64.wrap (v2 + 1)) l5)
    else
      (Option.bind (F24 fuel d0 (IntKind.i64.wrap (1 + (IntKind.i64.wrap (Int.tmod d1 4))))) fun y5 =>
      Option.bind (F25 fuel y5) fun y6 =>
      Option.bind (F26 fuel y5 l4) fun y7 =>
      Option.bind (F11 fuel y6.1 l4) fun y8 =>
      Option.bind (F20 fuel y6.1) fun y9 =>
      Option.bind (
        bif y6.2 != 0 then
          (some true)
        else
          (bif y7.2 != 0 then
            (some true)
          else
            (bif y8.2.2 != 0 then
              (some true)
            else
              (bif y9.2 != 0 then
                (some true)
              else
                (bif y8.1 != y7.1 then
                  (some true)
                else
                  (bif decide (y8.2.1 < 1) then
                    (some true)
                  else
                    (bif decide (y8.2.1 > (IntKind.i64.wrap ((IntKind.i64.wrap (2 * ((y5.List.map e_T_api_Rule).length : Int))) + 1))) then
                      (some true)
                    else
                      (Option.bind (F22 fuel y6.1) fun y13 =>
                      bif y13 != 0 then
                        (some true)
                      else
                        (some (((y6.1.map e_T_api_Instr).length : Int) != (IntKind.i64.wrap ((IntKind.i64.wrap (3 * ((y5.List.map e_T_api_Rule).length : Int))) + 1)))))))))))) fun o1 =>
      bif o1 then
        (some false)
      else
        (Option.bind (F17 fuel y9.1 y6.1) fun y12 =>
        some y12))
def F6 (fuel : Nat) (d0 : T_croupierref30_Wish) (d1 : Int) (d2 : A_a4i8) : Option Bool :=
  Option.bind (F8 fuel) fun y1 =>
  bif !y1 then
    (some false)
  else
    (F6_L1 fuel d0 d1 d2 fuel 0 [])
theorem F6_ok {fuel : Nat} {d0 : T_croupierref30_Wish} {d1 : Int} {d2 : A_a4i8} {r : Bool} (hF : F6 fuel d0 d1 d2 = some r) :
    CallF Tryz.prog 6 [.agg [.d (.sl 4 (d0.L.map e_a4i8)), .d (.int .u8 d0.Else)], .d (.int .u8 d1), .agg [.d (.int .i8 d2.a0), .d (.int .i8 d2.a1), .d (.int .i8 d2.a2), .d (.int .i8 d2.a3)]] (.d (.bool r)) := by
  unfold F6 at hF
  refine callF_of (N := 115) (b := bodyOf Tryz.f6) Tryz.func6 (by kernel_rfl) rfl rfl ?_
  obtain ⟨y1, e1, hF⟩ := bnd hF
  refine J_adv 9 (J_callF (xs := []) [] (.d (.bool y1)) (by kernel_rfl) en8 (Res'.refl _) (F8_ok e1) ?_)
  refine J_adv 2 (J_bool 21 (b := !y1) (by kernel_rfl) (fun hb1 => ?_) (fun hb1 => ?_))
  · replace hF := ift hb1 hF
    have hr_ := Option.some.inj hF; subst hr_
    exact J_adv 5 (J_ret (xs := [.d (.bool false)]) [.d (.bool false)] rfl rfl (by kernel_rfl) (Res'.refl _) rfl)
  · replace hF := iff' hb1 hF
    have hF6_L1 : ∀ (n_F6_L1 : Nat) (v2 : Int) (l4 : List Int), F6_L1 fuel d0 d1 d2 n_F6_L1 v2 l4 = some r → J none Tryz.prog 115 [] (finF Tryz.prog Tryz.f6 (.d (.bool r))) ⟨mkT [(3, .ptr 3 0), (5, .ptr 5 0), (7, .d (.int .i64 (IntKind.i64.wrap (1 + (IntKind.i64.wrap (Int.tmod d1 4)))))), (8, .suf 37 0 0), (26, .d (.int .i64 (IntKind.i64.wrap (1 + (IntKind.i64.wrap (Int.tmod d1 4)))))), (27, .d (.int .i64 v2))], [(3, .box 56 [.d (.sl 4 (d0.L.map e_a4i8)), .d (.int .u8 d0.Else)]), (5, .fzb [.d (.int .i8 d2.a0), .d (.int .i8 d2.a1), .d (.int .i8 d2.a2), .d (.int .i8 d2.a3)]), (37, .buf 0 3 1 (l4.map e_i64))], [.inLoop (cAt (bodyOf Tryz.f6) [1, 1, 1, 1, 0, 1, 0, 0]), .inBlock 0, .code (cAt (bodyOf Tryz.f6) [1, 1, 1, 1, 1])]⟩ := by
      clear hF; intro n_F6_L1
      induction n_F6_L1 with
      | zero => intro v2 l4 hF; cases hF
      | succ n_F6_L1 ih_F6_L1 =>
        intro v2 l4 hF
        rw [F6_L1] at hF
        refine J_adv 6 (J_bool 28 (b := decide (v2 < (IntKind.i64.wrap (1 + (IntKind.i64.wrap (Int.tmod d1 4)))))) (by kernel_rfl) (fun hb4 => ?_) (fun hb4 => ?_))
        · replace hF := ift hb4 hF
          obtain ⟨y4, e6, hF⟩ := bnd hF
          refine J_adv 12 (J_opt1 (o := geti (chunks 1 4 (([.int .i8 d2.a0, .int .i8 d2.a1, .int .i8 d2.a2, .int .i8 d2.a3] : List Dat).drop 0)) v2) (e_i8 y4) (by kernel_rfl) (gm (f := e_i8) e6) ?_)
          obtain ⟨l5, e7, hF⟩ := bnd hF
          refine J_adv 4 (J_opt2 (o := app2 ((l4.map e_i64).drop 0) ([Int.tmod (IntKind.i64.wrap y4) 100].map e_i64)) (l5.map e_i64) (by kernel_rfl) (am e7) ?_)
          exact J_adv 7 (J_at [3, 5, 7, 8, 26, 27] [3, 5, 37] (T0 := [.inLoop (cAt (bodyOf Tryz.f6) [1, 1, 1, 1, 0, 1, 0, 0]), .inBlock 0, .code (cAt (bodyOf Tryz.f6) [1, 1, 1, 1, 1])]) (by kernel_rfl) rfl (ih_F6_L1 (IntKind.i64.wrap (v2 + 1)) l5 hF))
        · replace hF := iff' hb4 hF
          obtain ⟨y5, e8, hF⟩ := bnd hF
          refine J_adv 6 (J_callF (xs := [.agg [.d (.sl 4 (d0.L.map e_a4i8)), .d (.int .u8 d0.Else)], .d (.int .i64 (IntKind.i64.wrap (1 + (IntKind.i64.wrap (Int.tmod d1 4)))))]) [.agg [.d (.sl 4 (d0.L.map e_a4i8)), .d (.int .u8 d0.Else)], .d (.int .i64 (IntKind.i64.wrap (1 + (IntKind.i64.wrap (Int.tmod d1 4)))))] (.agg [.d (.sl 4 (y5.List.map e_T_api_Rule)), .d (.int .i64 y5.Else)]) (by kernel_rfl) en24 (Res'.refl _) (F24_ok e8) ?_)
          obtain ⟨y6, e9, hF⟩ := bnd hF
          refine J_adv 6 (J_callF (xs := [.agg [.d (.sl 4 (y5.List.map e_T_api_Rule)), .d (.int .i64 y5.Else)]]) [.agg [.d (.sl 4 (y5.List.map e_T_api_Rule)), .d (.int .i64 y5.Else)]] (.tup [.d (.sl 4 (y6.1.map e_T_api_Instr)), .d (.int .i64 y6.2)]) (by kernel_rfl) en25 (Res'.refl _) (F25_ok e9) ?_)
          obtain ⟨y7, e10, hF⟩ := bnd hF
          refine J_adv 10 (J_callF (xs := [.agg [.d (.sl 4 (y5.List.map e_T_api_Rule)), .d (.int .i64 y5.Else)], .d (.sl 1 (l4.map e_i64))]) [.agg [.d (.sl 4 (y5.List.map e_T_api_Rule)), .d (.int .i64 y5.Else)], .d (.sl 1 (l4.map e_i64))] (.tup [.d (.int .i64 y7.1), .d (.int .i64 y7.2)]) (by kernel_rfl) en26 (Res'.refl _) (F26_ok e10) ?_)
          obtain ⟨y8, e11, hF⟩ := bnd hF
          refine J_adv 10 (J_callF (xs := [.d (.sl 4 (y6.1.map e_T_api_Instr)), .d (.sl 1 (l4.map e_i64))]) [.d (.sl 4 (y6.1.map e_T_api_Instr)), .d (.sl 1 (l4.map e_i64))] (.tup [.d (.int .i64 y8.1), .d (.int .i64 y8.2.1), .d (.int .i64 y8.2.2)]) (by kernel_rfl) en11 (Res'.refl _) (F11_ok e11) ?_)
          obtain ⟨y9, e12, hF⟩ := bnd hF
          refine J_adv 11 (J_callF (xs := [.d (.sl 4 (y6.1.map e_T_api_Instr))]) [.d (.sl 4 (y6.1.map e_T_api_Instr))] (.tup [.d (.sl 4 (y9.1.map e_T_api_Instr)), .d (.int .i64 y9.2)]) (by kernel_rfl) en20 (Res'.refl _) (F20_ok e12) ?_)
          obtain ⟨o1, hO, hF⟩ := bnd hF
          have hR1 : J none Tryz.prog 115 [] (finF Tryz.prog Tryz.f6 (.d (.bool r))) ⟨mkT [(11, .d (.sl 4 (y6.1.map e_T_api_Instr))), (18, .d (.sl 4 (y9.1.map e_T_api_Instr))), (111, .d (.bool o1))], [], [.ops (opsOf (cAt (bodyOf Tryz.f6) [1, 1, 1, 1, 1, 1, 1, 1, 1, 1, 0, 0])) [], .code (cAt (bodyOf Tryz.f6) [1, 1, 1, 1, 1, 1, 1, 1, 1, 1, 0, 1]), .code (cAt (bodyOf Tryz.f6) [1, 1, 1, 1, 1, 1, 1, 1, 1, 1, 1])]⟩ := by
            clear hO
            refine J_adv 1 (J_bool 111 (b := o1) (by kernel_rfl) (fun hb21 => ?_) (fun hb21 => ?_))
            · replace hF := ift hb21 hF
              have hr_ := Option.some.inj hF; subst hr_
              exact J_adv 5 (J_ret (xs := [.d (.bool false)]) [.d (.bool false)] rfl rfl (by kernel_rfl) (Res'.refl _) rfl)
            · replace hF := iff' hb21 hF
              obtain ⟨y12, e15, hF⟩ := bnd hF
              refine J_adv 6 (J_callF (xs := [.d (.sl 4 (y9.1.map e_T_api_Instr)), .d (.sl 4 (y6.1.map e_T_api_Instr))]) [.d (.sl 4 (y9.1.map e_T_api_Instr)), .d (.sl 4 (y6.1.map e_T_api_Instr))] (.d (.bool y12)) (by kernel_rfl) en17 (Res'.refl _) (F17_ok e15) ?_)
              have hr_ := Option.some.inj hF; subst hr_
              exact J_adv 2 (J_ret (xs := [.d (.bool y12)]) [.d (.bool y12)] rfl rfl (by kernel_rfl) (Res'.refl _) rfl)
          clear hF; rename _ = some o1 => hF
          refine J_adv 12 (J_bool 67 (b := y6.2 != 0) (by kernel_rfl) (fun hb22 => ?_) (fun hb22 => ?_))
          · replace hF := ift hb22 hF
            have hr_ := Option.some.inj hF; subst hr_
            exact J_adv 44 (J_at [11, 18, 111] [] (T0 := [.ops (opsOf (cAt (bodyOf Tryz.f6) [1, 1, 1, 1, 1, 1, 1, 1, 1, 1, 0, 0])) [], .code (cAt (bodyOf Tryz.f6) [1, 1, 1, 1, 1, 1, 1, 1, 1, 1, 0, 1]), .code (cAt (bodyOf Tryz.f6) [1, 1, 1, 1, 1, 1, 1, 1, 1, 1, 1])]) (by kernel_rfl) rfl hR1)
          · replace hF := iff' hb22 hF
            refine J_adv 4 (J_bool 71 (b := y7.2 != 0) (by kernel_rfl) (fun hb23 => ?_) (fun hb23 => ?_))
            · replace hF := ift hb23 hF
              have hr_ := Option.some.inj hF; subst hr_
              exact J_adv 40 (J_at [11, 18, 111] [] (T0 := [.ops (opsOf (cAt (bodyOf Tryz.f6) [1, 1, 1, 1, 1, 1, 1, 1, 1, 1, 0, 0])) [], .code (cAt (bodyOf Tryz.f6) [1, 1, 1, 1, 1, 1, 1, 1, 1, 1, 0, 1]), .code (cAt (bodyOf Tryz.f6) [1, 1, 1, 1, 1, 1, 1, 1, 1, 1, 1])]) (by kernel_rfl) rfl hR1)
            · replace hF := iff' hb23 hF
              refine J_adv 4 (J_bool 75 (b := y8.2.2 != 0) (by kernel_rfl) (fun hb24 => ?_) (fun hb24 => ?_))
              · replace hF := ift hb24 hF
                have hr_ := Option.some.inj hF; subst hr_
                exact J_adv 36 (J_at [11, 18, 111] [] (T0 := [.ops (opsOf (cAt (bodyOf Tryz.f6) [1, 1, 1, 1, 1, 1, 1, 1, 1, 1, 0, 0])) [], .code (cAt (bodyOf Tryz.f6) [1, 1, 1, 1, 1, 1, 1, 1, 1, 1, 0, 1]), .code (cAt (bodyOf Tryz.f6) [1, 1, 1, 1, 1, 1, 1, 1, 1, 1, 1])]) (by kernel_rfl) rfl hR1)
              · replace hF := iff' hb24 hF
                refine J_adv 4 (J_bool 79 (b := y9.2 != 0) (by kernel_rfl) (fun hb25 => ?_) (fun hb25 => ?_))
                · replace hF := ift hb25 hF
                  have hr_ := Option.some.inj hF; subst hr_
                  exact J_adv 32 (J_at [11, 18, 111] [] (T0 := [.ops (opsOf (cAt (bodyOf Tryz.f6) [1, 1, 1, 1, 1, 1, 1, 1, 1, 1, 0, 0])) [], .code (cAt (bodyOf Tryz.f6) [1, 1, 1, 1, 1, 1, 1, 1, 1, 1, 0, 1]), .code (cAt (bodyOf Tryz.f6) [1, 1, 1, 1, 1, 1, 1, 1, 1, 1, 1])]) (by kernel_rfl) rfl hR1)
                · replace hF := iff' hb25 hF
                  refine J_adv 5 (J_bool 84 (b := y8.1 != y7.1) (by kernel_rfl) (fun hb26 => ?_) (fun hb26 => ?_))
                  · replace hF := ift hb26 hF
                    have hr_ := Option.some.inj hF; subst hr_
                    exact J_adv 27 (J_at [11, 18, 111] [] (T0 := [.ops (opsOf (cAt (bodyOf Tryz.f6) [1, 1, 1, 1, 1, 1, 1, 1, 1, 1, 0, 0])) [], .code (cAt (bodyOf Tryz.f6) [1, 1, 1, 1, 1, 1, 1, 1, 1, 1, 0, 1]), .code (cAt (bodyOf Tryz.f6) [1, 1, 1, 1, 1, 1, 1, 1, 1, 1, 1])]) (by kernel_rfl) rfl hR1)
                  · replace hF := iff' hb26 hF
                    refine J_adv 4 (J_bool 88 (b := decide (y8.2.1 < 1)) (by kernel_rfl) (fun hb27 => ?_) (fun hb27 => ?_))
                    · replace hF := ift hb27 hF
                      have hr_ := Option.some.inj hF; subst hr_
                      exact J_adv 23 (J_at [11, 18, 111] [] (T0 := [.ops (opsOf (cAt (bodyOf Tryz.f6) [1, 1, 1, 1, 1, 1, 1, 1, 1, 1, 0, 0])) [], .code (cAt (bodyOf Tryz.f6) [1, 1, 1, 1, 1, 1, 1, 1, 1, 1, 0, 1]), .code (cAt (bodyOf Tryz.f6) [1, 1, 1, 1, 1, 1, 1, 1, 1, 1, 1])]) (by kernel_rfl) rfl hR1)
                    · replace hF := iff' hb27 hF
                      refine J_adv 9 (J_bool 97 (b := decide (y8.2.1 > (IntKind.i64.wrap ((IntKind.i64.wrap (2 * ((y5.List.map e_T_api_Rule).length : Int))) + 1)))) (by kernel_rfl) (fun hb28 => ?_) (fun hb28 => ?_))
                      · replace hF := ift hb28 hF
                        have hr_ := Option.some.inj hF; subst hr_
                        exact J_adv 14 (J_at [11, 18, 111] [] (T0 := [.ops (opsOf (cAt (bodyOf Tryz.f6) [1, 1, 1, 1, 1, 1, 1, 1, 1, 1, 0, 0])) [], .code (cAt (bodyOf Tryz.f6) [1, 1, 1, 1, 1, 1, 1, 1, 1, 1, 0, 1]), .code (cAt (bodyOf Tryz.f6) [1, 1, 1, 1, 1, 1, 1, 1, 1, 1, 1])]) (by kernel_rfl) rfl hR1)
                      · replace hF := iff' hb28 hF
                        obtain ⟨y13, e16, hF⟩ := bnd hF
                        refine J_adv 1 (J_callF (xs := [.d (.sl 4 (y6.1.map e_T_api_Instr))]) [.d (.sl 4 (y6.1.map e_T_api_Instr))] (.d (.int .i64 y13)) (by kernel_rfl) en22 (Res'.refl _) (F22_ok e16) ?_)
                        refine J_adv 3 (J_bool 102 (b := y13 != 0) (by kernel_rfl) (fun hb29 => ?_) (fun hb29 => ?_))
                        · replace hF := ift hb29 hF
                          have hr_ := Option.some.inj hF; subst hr_
                          exact J_adv 9 (J_at [11, 18, 111] [] (T0 := [.ops (opsOf (cAt (bodyOf Tryz.f6) [1, 1, 1, 1, 1, 1, 1, 1, 1, 1, 0, 0])) [], .code (cAt (bodyOf Tryz.f6) [1, 1, 1, 1, 1, 1, 1, 1, 1, 1, 0, 1]), .code (cAt (bodyOf Tryz.f6) [1, 1, 1, 1, 1, 1, 1, 1, 1, 1, 1])]) (by kernel_rfl) rfl hR1)
                        · replace hF := iff' hb29 hF
                          have hr_ := Option.some.inj hF; subst hr_
                          exact J_adv 9 (J_at [11, 18, 111] [] (T0 := [.ops (opsOf (cAt (bodyOf Tryz.f6) [1, 1, 1, 1, 1, 1, 1, 1, 1, 1, 0, 0])) [], .code (cAt (bodyOf Tryz.f6) [1, 1, 1, 1, 1, 1, 1, 1, 1, 1, 0, 1]), .code (cAt (bodyOf Tryz.f6) [1, 1, 1, 1, 1, 1, 1, 1, 1, 1, 1])]) (by kernel_rfl) rfl hR1)
    refine J_adv 22 (J_frz (te := 27) 5 [.d (.int .i8 d2.a0), .d (.int .i8 d2.a1), .d (.int .i8 d2.a2), .d (.int .i8 d2.a3)] (by kernel_rfl) (by kernel_rfl) ?_)
    refine J_adv 0 (J_own (n := 1) 8 37 3 1 (by kernel_rfl) (by kernel_rfl) ?_)
    exact J_adv 0 (J_at [3, 5, 7, 8, 26, 27] [3, 5, 37] (T0 := [.inLoop (cAt (bodyOf Tryz.f6) [1, 1, 1, 1, 0, 1, 0, 0]), .inBlock 0, .code (cAt (bodyOf Tryz.f6) [1, 1, 1, 1, 1])]) (by kernel_rfl) rfl (hF6_L1 fuel 0 [] hF))

end Go.Proofs.YtilfjfpemjfalaaGreatDoor
