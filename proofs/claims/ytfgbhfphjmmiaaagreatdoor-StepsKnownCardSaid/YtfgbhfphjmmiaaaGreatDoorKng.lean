/- StepsKnown holds: whatever the input, the call returns true, and what came in reads as it did. No condition. -/
import Derived.Test.YtfgbhfphjmmiaaaGreatDoorRows
import Derived.Test.YtfgbhfphjmmiaaaGreatDoorTie
import Derived.Test.YtfgbhfphjmmiaaaGreatDoorCards
import Derived.WalkKit
import Derived.ShutString
import Derived.ChangeOld
import Derived.Test.YtfgbhfphjmmiaaaGreatDoorKnf
section
set_option linter.unusedVariables false
set_option maxRecDepth 100000
namespace Go.Proofs.YtfgbhfphjmmiaaaGreatDoor
open Go Go.RowKit Kx
theorem en93 : entersT Tryz.prog 93 := Kx.enters_of Tryz.func93 (by kernel_rfl) (by kernel_rfl)
theorem en51 : entersT Tryz.prog 51 := Kx.enters_of Tryz.func51 (by kernel_rfl) (by kernel_rfl)
theorem en86 : entersT Tryz.prog 86 := Kx.enters_of Tryz.func86 (by kernel_rfl) (by kernel_rfl)
theorem en54 : entersT Tryz.prog 54 := Kx.enters_of Tryz.func54 (by kernel_rfl) (by kernel_rfl)
theorem en87 : entersT Tryz.prog 87 := Kx.enters_of Tryz.func87 (by kernel_rfl) (by kernel_rfl)
theorem en43 : entersT Tryz.prog 43 := Kx.enters_of Tryz.func43 (by kernel_rfl) (by kernel_rfl)
theorem en44 : entersT Tryz.prog 44 := Kx.enters_of Tryz.func44 (by kernel_rfl) (by kernel_rfl)
theorem en45 : entersT Tryz.prog 45 := Kx.enters_of Tryz.func45 (by kernel_rfl) (by kernel_rfl)
theorem en55 : entersT Tryz.prog 55 := Kx.enters_of Tryz.func55 (by kernel_rfl) (by kernel_rfl)
theorem en95 : entersT Tryz.prog 95 := Kx.enters_of Tryz.func95 (by kernel_rfl) (by kernel_rfl)
theorem en50 : entersT Tryz.prog 50 := Kx.enters_of Tryz.func50 (by kernel_rfl) (by kernel_rfl)
theorem en52 : entersT Tryz.prog 52 := Kx.enters_of Tryz.func52 (by kernel_rfl) (by kernel_rfl)
theorem en94 : entersT Tryz.prog 94 := Kx.enters_of Tryz.func94 (by kernel_rfl) (by kernel_rfl)
theorem en46 : entersT Tryz.prog 46 := Kx.enters_of Tryz.func46 (by kernel_rfl) (by kernel_rfl)
theorem en47 : entersT Tryz.prog 47 := Kx.enters_of Tryz.func47 (by kernel_rfl) (by kernel_rfl)
theorem en49 : entersT Tryz.prog 49 := Kx.enters_of Tryz.func49 (by kernel_rfl) (by kernel_rfl)
theorem en53 : entersT Tryz.prog 53 := Kx.enters_of Tryz.func53 (by kernel_rfl) (by kernel_rfl)
theorem en11 : entersT Tryz.prog 11 := Kx.enters_of Tryz.func11 (by kernel_rfl) (by kernel_rfl)
theorem en10 : entersT Tryz.prog 10 := Kx.enters_of Tryz.func10 (by kernel_rfl) (by kernel_rfl)
theorem en16 : entersT Tryz.prog 16 := Kx.enters_of Tryz.func16 (by kernel_rfl) (by kernel_rfl)
theorem en15 : entersT Tryz.prog 15 := Kx.enters_of Tryz.func15 (by kernel_rfl) (by kernel_rfl)
theorem en12 : entersT Tryz.prog 12 := Kx.enters_of Tryz.func12 (by kernel_rfl) (by kernel_rfl)
theorem en17 : entersT Tryz.prog 17 := Kx.enters_of Tryz.func17 (by kernel_rfl) (by kernel_rfl)
theorem en57 : entersT Tryz.prog 57 := Kx.enters_of Tryz.func57 (by kernel_rfl) (by kernel_rfl)
theorem en69 : entersT Tryz.prog 69 := Kx.enters_of Tryz.func69 (by kernel_rfl) (by kernel_rfl)
theorem en26 : entersT Tryz.prog 26 := Kx.enters_of Tryz.func26 (by kernel_rfl) (by kernel_rfl)
theorem en14 : entersT Tryz.prog 14 := Kx.enters_of Tryz.func14 (by kernel_rfl) (by kernel_rfl)
theorem en58 : entersT Tryz.prog 58 := Kx.enters_of Tryz.func58 (by kernel_rfl) (by kernel_rfl)
theorem en13 : entersT Tryz.prog 13 := Kx.enters_of Tryz.func13 (by kernel_rfl) (by kernel_rfl)
theorem en59 : entersT Tryz.prog 59 := Kx.enters_of Tryz.func59 (by kernel_rfl) (by kernel_rfl)
theorem en106 : entersT Tryz.prog 106 := Kx.enters_of Tryz.func106 (by kernel_rfl) (by kernel_rfl)
theorem en56 : entersT Tryz.prog 56 := Kx.enters_of Tryz.func56 (by kernel_rfl) (by kernel_rfl)
/- croupier/steps.check -/
def F43 (fuel : Nat) (d0 : T_api_Model) (d1 : Int) (d2 : Int) : Option Int :=
  Option.bind (F93 fuel d0) fun y1 =>
  bif y1 != 0 then
    (some y1)
  else
    (Option.bind (
      ass (decide (0 ≤ ((d0.Owner.map e_i64).length : Int))) <|
      bif (IntKind.u64.wrap (BitVec.ofInt IntKind.u64.bits d1 &&& ~~~ BitVec.ofInt IntKind.u64.bits (IntKind.u64.wrap ((IntKind.u64.wrap (1 * 2 ^ (min (Int.toNat ((d0.Owner.map e_i64).length : Int)) IntKind.u64.bits))) - 1))).toNat) != 0 then
        (some true)
      else
        (bif decide (d2 < 0) then
          (some true)
        else
          (some (decide (d2 > 60))))) fun o1 =>
    bif o1 then
      (some 2)
    else
      (some 0))
theorem F43_ok {fuel : Nat} {d0 : T_api_Model} {d1 : Int} {d2 : Int} {r : Int} (hF : F43 fuel d0 d1 d2 = some r) :
    CallF Tryz.prog 43 [.agg [.d (.sl 1 (d0.Owner.map e_i64)), .d (.sl 1 (d0.Choices.map e_lT_api_Choice))], .d (.int .u64 d1), .d (.int .i64 d2)] (.d (.int .i64 r)) := by
  unfold F43 at hF
  refine callF_of (N := 29) (b := bodyOf Tryz.f43) Tryz.func43 (by kernel_rfl) rfl rfl ?_
  obtain ⟨y1, e1, hF⟩ := bnd hF
  refine J_adv 9 (J_callF (xs := [.agg [.d (.sl 1 (d0.Owner.map e_i64)), .d (.sl 1 (d0.Choices.map e_lT_api_Choice))]]) [.agg [.d (.sl 1 (d0.Owner.map e_i64)), .d (.sl 1 (d0.Choices.map e_lT_api_Choice))]] (.d (.int .i64 y1)) (by kernel_rfl) en93 (Res'.refl _) (F93_ok e1) ?_)
  refine J_adv 7 (J_bool 11 (b := y1 != 0) (by kernel_rfl) (fun hb1 => ?_) (fun hb1 => ?_))
  · replace hF := ift hb1 hF
    have hr_ := Option.some.inj hF; subst hr_
    exact J_adv 6 (J_ret (xs := [.d (.int .i64 y1)]) [.d (.int .i64 y1)] rfl rfl (by kernel_rfl) (Res'.refl _) rfl)
  · replace hF := iff' hb1 hF
    obtain ⟨o1, hO, hF⟩ := bnd hF
    have hR1 : J none Tryz.prog 29 [] (finF Tryz.prog Tryz.f43 (.d (.int .i64 r))) ⟨mkT [(28, .d (.bool o1))], [], [.ops (opsOf (cAt (bodyOf Tryz.f43) [1, 1, 0, 0])) [], .code (cAt (bodyOf Tryz.f43) [1, 1, 0, 1]), .code (cAt (bodyOf Tryz.f43) [1, 1, 1])]⟩ := by
      clear hO
      refine J_adv 1 (J_bool 28 (b := o1) (by kernel_rfl) (fun hb8 => ?_) (fun hb8 => ?_))
      · replace hF := ift hb8 hF
        have hr_ := Option.some.inj hF; subst hr_
        exact J_adv 5 (J_ret (xs := [.d (.int .i64 2)]) [.d (.int .i64 2)] rfl rfl (by kernel_rfl) (Res'.refl _) rfl)
      · replace hF := iff' hb8 hF
        have hr_ := Option.some.inj hF; subst hr_
        exact J_adv 6 (J_ret (xs := [.d (.int .i64 0)]) [.d (.int .i64 0)] rfl rfl (by kernel_rfl) (Res'.refl _) rfl)
    clear hF; rename _ = some o1 => hF
    obtain ⟨hb9, hF⟩ := assd hF
    refine J_adv 9 (J_opt1 (o := chk (decide (0 ≤ ((d0.Owner.map e_i64).length : Int)))) [] (by kernel_rfl) (ck hb9) ?_)
    refine J_adv 4 (J_bool 21 (b := (IntKind.u64.wrap (BitVec.ofInt IntKind.u64.bits d1 &&& ~~~ BitVec.ofInt IntKind.u64.bits (IntKind.u64.wrap ((IntKind.u64.wrap (1 * 2 ^ (min (Int.toNat ((d0.Owner.map e_i64).length : Int)) IntKind.u64.bits))) - 1))).toNat) != 0) (by kernel_rfl) (fun hb10 => ?_) (fun hb10 => ?_))
    · replace hF := ift hb10 hF
      have hr_ := Option.some.inj hF; subst hr_
      exact J_adv 7 (J_at [28] [] (T0 := [.ops (opsOf (cAt (bodyOf Tryz.f43) [1, 1, 0, 0])) [], .code (cAt (bodyOf Tryz.f43) [1, 1, 0, 1]), .code (cAt (bodyOf Tryz.f43) [1, 1, 1])]) (by kernel_rfl) rfl hR1)
    · replace hF := iff' hb10 hF
      refine J_adv 4 (J_bool 25 (b := decide (d2 < 0)) (by kernel_rfl) (fun hb11 => ?_) (fun hb11 => ?_))
      · replace hF := ift hb11 hF
        have hr_ := Option.some.inj hF; subst hr_
        exact J_adv 3 (J_at [28] [] (T0 := [.ops (opsOf (cAt (bodyOf Tryz.f43) [1, 1, 0, 0])) [], .code (cAt (bodyOf Tryz.f43) [1, 1, 0, 1]), .code (cAt (bodyOf Tryz.f43) [1, 1, 1])]) (by kernel_rfl) rfl hR1)
      · replace hF := iff' hb11 hF
        have hr_ := Option.some.inj hF; subst hr_
        exact J_adv 3 (J_at [28] [] (T0 := [.ops (opsOf (cAt (bodyOf Tryz.f43) [1, 1, 0, 0])) [], .code (cAt (bodyOf Tryz.f43) [1, 1, 0, 1]), .code (cAt (bodyOf Tryz.f43) [1, 1, 1])]) (by kernel_rfl) rfl hR1)
def e_T_exact_Num (x : T_exact_Num) : List Dat := [.bool x.n_.neg, .sl 1 (x.n_.mag.map e_u32), .bool x.d.neg, .sl 1 (x.d.mag.map e_u32)]
/- croupier/steps.begin -/
def F44_L1 (fuel : Nat) (d1 : Int) (l1 : List T_exact_Num) : Nat → Int → (List T_exact_Num) → Option (List T_exact_Num)
  | 0, _, _ => none
  | n_F44_L1 + 1, v2, l5 =>
    bif decide (v2 < ((l1.map e_T_exact_Num).length : Int)) then
      (ass (decide (0 ≤ v2)) <|
      Option.bind (F51 fuel (IntKind.i64.wrap (IntKind.u64.wrap (BitVec.ofInt IntKind.u64.bits (Int.fdiv d1 (2 ^ (min (Int.toNat v2) IntKind.u64.bits))) &&& BitVec.ofInt IntKind.u64.bits 1).toNat)) 1) fun y5 =>
      Option.bind (geti l5 v2) fun y6 =>
      Option.bind (some (l5.set (0 + Int.toNat v2) y5)) fun l6 =>
      (F44_L1 fuel d1 l1 n_F44_L1) (IntKind.i64.wrap (v2 + 1)) l6)
    else
      (some l5)
def F44 (fuel : Nat) (d0 : T_api_Model) (d1 : Int) : Option (List T_exact_Num) :=
  Option.bind (mkL ((d0.Owner.map e_i64).length : Int) ((d0.Owner.map e_i64).length : Int) (⟨(⟨false, []⟩ : T_exact_Whole), (⟨false, []⟩ : T_exact_Whole)⟩ : T_exact_Num)) fun l1 =>
  F44_L1 fuel d1 l1 fuel 0 l1
theorem F44_ok {fuel : Nat} {d0 : T_api_Model} {d1 : Int} {r : List T_exact_Num} (hF : F44 fuel d0 d1 = some r) :
    CallF Tryz.prog 44 [.agg [.d (.sl 1 (d0.Owner.map e_i64)), .d (.sl 1 (d0.Choices.map e_lT_api_Choice))], .d (.int .u64 d1)] (.d (.sl 4 (r.map e_T_exact_Num))) := by
  unfold F44 at hF
  refine callF_of (N := 27) (b := bodyOf Tryz.f44) Tryz.func44 (by kernel_rfl) rfl rfl ?_
  obtain ⟨l1, e1, hF⟩ := bnd hF
  refine J_adv 10 (J_opt2 (o := mk2 ((d0.Owner.map e_i64).length : Int) ((d0.Owner.map e_i64).length : Int) (e_T_exact_Num (⟨(⟨false, []⟩ : T_exact_Whole), (⟨false, []⟩ : T_exact_Whole)⟩ : T_exact_Num))) (l1.map e_T_exact_Num) (by kernel_rfl) (mm e1) ?_)
  have hF44_L1 : ∀ (n_F44_L1 : Nat) (v2 : Int) (l5 : List T_exact_Num), F44_L1 fuel d1 l1 n_F44_L1 v2 l5 = some r → J none Tryz.prog 27 [] (finF Tryz.prog Tryz.f44 (.d (.sl 4 (r.map e_T_exact_Num)))) ⟨mkT [(1, .d (.int .u64 d1)), (5, .suf 10 0 0), (12, .d (.int .i64 ((l1.map e_T_exact_Num).length : Int))), (13, .d (.int .i64 v2))], [(10, .buf 0 100 4 (l5.map e_T_exact_Num))], [.inLoop (cAt (bodyOf Tryz.f44) [1, 1, 0, 1, 0, 0]), .inBlock 0, .code (cAt (bodyOf Tryz.f44) [1, 1, 1])]⟩ := by
    clear hF; intro n_F44_L1
    induction n_F44_L1 with
    | zero => intro v2 l5 hF; cases hF
    | succ n_F44_L1 ih_F44_L1 =>
      intro v2 l5 hF
      rw [F44_L1] at hF
      refine J_adv 6 (J_bool 14 (b := decide (v2 < ((l1.map e_T_exact_Num).length : Int))) (by kernel_rfl) (fun hb5 => ?_) (fun hb5 => ?_))
      · replace hF := ift hb5 hF
        obtain ⟨hb6, hF⟩ := assd hF
        refine J_adv 14 (J_opt1 (o := chk (decide (0 ≤ v2))) [] (by kernel_rfl) (ck hb6) ?_)
        obtain ⟨y5, e8, hF⟩ := bnd hF
        refine J_adv 2 (J_callF (xs := [.d (.int .i64 (IntKind.i64.wrap (IntKind.u64.wrap (BitVec.ofInt IntKind.u64.bits (Int.fdiv d1 (2 ^ (min (Int.toNat v2) IntKind.u64.bits))) &&& BitVec.ofInt IntKind.u64.bits 1).toNat))), .d (.int .i64 1)]) [.d (.int .i64 (IntKind.i64.wrap (IntKind.u64.wrap (BitVec.ofInt IntKind.u64.bits (Int.fdiv d1 (2 ^ (min (Int.toNat v2) IntKind.u64.bits))) &&& BitVec.ofInt IntKind.u64.bits 1).toNat))), .d (.int .i64 1)] (.agg [.d (.bool y5.n_.neg), .d (.sl 1 (y5.n_.mag.map e_u32)), .d (.bool y5.d.neg), .d (.sl 1 (y5.d.mag.map e_u32))]) (by kernel_rfl) en51 (Res'.refl _) (F51_ok e8) ?_)
        obtain ⟨y6, e9, hF⟩ := bnd hF
        refine J_adv 0 (J_opt1 (o := geti (l5.map e_T_exact_Num) v2) (e_T_exact_Num y6) (by kernel_rfl) (gm e9) ?_)
        obtain ⟨l6, e10, hF⟩ := bnd hF
        have hst := stm (f := e_T_exact_Num) (z := y5) (k := 0) (xs := [.bool y5.n_.neg, .sl 1 (y5.n_.mag.map e_u32), .bool y5.d.neg, .sl 1 (y5.d.mag.map e_u32)]) (gj e9) rfl
        refine J_adv 0 (J_opt2 (o := (match (l5.map e_T_exact_Num)[0 + Int.toNat v2]? with | some old => some ((l5.map e_T_exact_Num).set (0 + Int.toNat v2) (setD old 0 [.bool y5.n_.neg, .sl 1 (y5.n_.mag.map e_u32), .bool y5.d.neg, .sl 1 (y5.d.mag.map e_u32)])) | none => none)) (l6.map e_T_exact_Num) (by kernel_rfl) (by cases e10; exact hst) ?_)
        exact J_adv 6 (J_at [1, 5, 12, 13] [10] (T0 := [.inLoop (cAt (bodyOf Tryz.f44) [1, 1, 0, 1, 0, 0]), .inBlock 0, .code (cAt (bodyOf Tryz.f44) [1, 1, 1])]) (by kernel_rfl) rfl (ih_F44_L1 (IntKind.i64.wrap (v2 + 1)) l6 hF))
      · replace hF := iff' hb5 hF
        have hr_ := Option.some.inj hF; subst hr_
        exact J_adv 7 (J_ret (xs := [.d (.sl 4 (l5.map e_T_exact_Num))]) [.d (.sl 4 (l5.map e_T_exact_Num))] rfl rfl (by kernel_rfl) (Res'.refl _) rfl)
  exact J_adv 11 (J_at [1, 5, 12, 13] [10] (T0 := [.inLoop (cAt (bodyOf Tryz.f44) [1, 1, 0, 1, 0, 0]), .inBlock 0, .code (cAt (bodyOf Tryz.f44) [1, 1, 1])]) (by kernel_rfl) rfl (hF44_L1 fuel 0 l1 hF))
/- croupier/steps.mixed -/
def F55_L1 (fuel : Nat) (d0 : T_api_Choice) (d1 : List T_exact_Num) : Nat → Int → Bool → (List Int) → Bool → (List Int) → Option T_exact_Num
  | 0, _, _, _, _, _ => none
  | n_F55_L1 + 1, v2, t3, l3, t4, l4 =>
    bif decide (v2 < ((d0.Next.map e_T_api_Branch).length : Int)) then
      (Option.bind (geti d0.Next v2) fun y12 =>
      Option.bind (F48 fuel y12.P) fun y13 =>
      Option.bind (geti d1 y12.To) fun y14 =>
      Option.bind (F86 fuel y13 y14) fun y15 =>
      Option.bind (F54 fuel (⟨(⟨t3, l3⟩ : T_exact_Whole), (⟨t4, l4⟩ : T_exact_Whole)⟩ : T_exact_Num) y15) fun y16 =>
      (F55_L1 fuel d0 d1 n_F55_L1) (IntKind.i64.wrap (v2 + 1)) y16.n_.neg y16.n_.mag y16.d.neg y16.d.mag)
    else
      (some (⟨(⟨t3, l3⟩ : T_exact_Whole), (⟨t4, l4⟩ : T_exact_Whole)⟩ : T_exact_Num))
def F55 (fuel : Nat) (d0 : T_api_Choice) (d1 : List T_exact_Num) : Option T_exact_Num :=
  Option.bind (F51 fuel 0 1) fun y1 =>
  F55_L1 fuel d0 d1 fuel 0 y1.n_.neg y1.n_.mag y1.d.neg y1.d.mag
theorem F55_ok {fuel : Nat} {d0 : T_api_Choice} {d1 : List T_exact_Num} {r : T_exact_Num} (hF : F55 fuel d0 d1 = some r) :
    CallF Tryz.prog 55 [.agg [.d (.str d0.Act), .d (.str d0.Gain), .d (.sl 2 (d0.Next.map e_T_api_Branch))], .d (.sl 4 (d1.map e_T_exact_Num))] (.agg [.d (.bool r.n_.neg), .d (.sl 1 (r.n_.mag.map e_u32)), .d (.bool r.d.neg), .d (.sl 1 (r.d.mag.map e_u32))]) := by
  unfold F55 at hF
  refine callF_of (N := 29) (b := bodyOf Tryz.f55) Tryz.func55 (by kernel_rfl) rfl rfl ?_
  obtain ⟨y1, e1, hF⟩ := bnd hF
  refine J_adv 7 (J_callF (xs := [.d (.int .i64 0), .d (.int .i64 1)]) [.d (.int .i64 0), .d (.int .i64 1)] (.agg [.d (.bool y1.n_.neg), .d (.sl 1 (y1.n_.mag.map e_u32)), .d (.bool y1.d.neg), .d (.sl 1 (y1.d.mag.map e_u32))]) (by kernel_rfl) en51 (Res'.refl _) (F51_ok e1) ?_)
  have hF55_L1 : ∀ (n_F55_L1 : Nat) (v2 : Int) (t3 : Bool) (l3 : List Int) (t4 : Bool) (l4 : List Int), F55_L1 fuel d0 d1 n_F55_L1 v2 t3 l3 t4 l4 = some r → J none Tryz.prog 29 [] (finF Tryz.prog Tryz.f55 (.agg [.d (.bool r.n_.neg), .d (.sl 1 (r.n_.mag.map e_u32)), .d (.bool r.d.neg), .d (.sl 1 (r.d.mag.map e_u32))])) ⟨mkT [(1, .d (.sl 4 (d1.map e_T_exact_Num))), (4, .ptr 4 0), (5, .ptr 5 0), (10, .d (.sl 2 (d0.Next.map e_T_api_Branch))), (11, .d (.int .i64 ((d0.Next.map e_T_api_Branch).length : Int))), (12, .d (.int .i64 v2))], [(4, .box 100 [.d (.bool false), .esl 1, .d (.bool false), .esl 1]), (5, .box 100 [.d (.bool t3), .d (.sl 1 (l3.map e_u32)), .d (.bool t4), .d (.sl 1 (l4.map e_u32))])], [.inLoop (cAt (bodyOf Tryz.f55) [1, 1, 0, 1, 0, 0]), .inBlock 0, .code (cAt (bodyOf Tryz.f55) [1, 1, 1])]⟩ := by
    clear hF; intro n_F55_L1
    induction n_F55_L1 with
    | zero => intro v2 t3 l3 t4 l4 hF; cases hF
    | succ n_F55_L1 ih_F55_L1 =>
      intro v2 t3 l3 t4 l4 hF
      rw [F55_L1] at hF
      refine J_adv 6 (J_bool 13 (b := decide (v2 < ((d0.Next.map e_T_api_Branch).length : Int))) (by kernel_rfl) (fun hb3 => ?_) (fun hb3 => ?_))
      · replace hF := ift hb3 hF
        obtain ⟨y12, e12, hF⟩ := bnd hF
        refine J_adv 6 (J_opt1 (o := geti (d0.Next.map e_T_api_Branch) v2) (e_T_api_Branch y12) (by kernel_rfl) (gm e12) ?_)
        refine J_adv 4 (J_draw (by kernel_rfl) (by kernel_rfl) ?_)
        obtain ⟨y13, e13, hF⟩ := bnd hF
        refine JD_adv 3 (JD_callF (xs := [.d (.str y12.P)]) [.d (.str y12.P)] (.agg [.d (.bool y13.n_.neg), .d (.sl 1 (y13.n_.mag.map e_u32)), .d (.bool y13.d.neg), .d (.sl 1 (y13.d.mag.map e_u32))]) (by kernel_rfl) (by kernel_rfl) en48 (Res'.refl _) (F48_ok e13) ?_)
        obtain ⟨y14, e14, hF⟩ := bnd hF
        refine JD_adv 3 (JD_opt1 (o := geti (d1.map e_T_exact_Num) y12.To) (e_T_exact_Num y14) (by kernel_rfl) (by kernel_rfl) (gm e14) ?_)
        obtain ⟨y15, e15, hF⟩ := bnd hF
        refine JD_adv 1 (JD_callF (xs := [.agg [.d (.bool y13.n_.neg), .d (.sl 1 (y13.n_.mag.map e_u32)), .d (.bool y13.d.neg), .d (.sl 1 (y13.d.mag.map e_u32))], .agg [.d (.bool y14.n_.neg), .d (.sl 1 (y14.n_.mag.map e_u32)), .d (.bool y14.d.neg), .d (.sl 1 (y14.d.mag.map e_u32))]]) [.agg [.d (.bool y13.n_.neg), .d (.sl 1 (y13.n_.mag.map e_u32)), .d (.bool y13.d.neg), .d (.sl 1 (y13.d.mag.map e_u32))], .agg [.d (.bool y14.n_.neg), .d (.sl 1 (y14.n_.mag.map e_u32)), .d (.bool y14.d.neg), .d (.sl 1 (y14.d.mag.map e_u32))]] (.agg [.d (.bool y15.n_.neg), .d (.sl 1 (y15.n_.mag.map e_u32)), .d (.bool y15.d.neg), .d (.sl 1 (y15.d.mag.map e_u32))]) (by kernel_rfl) (by kernel_rfl) en86 (Res'.refl _) (F86_ok e15) ?_)
        obtain ⟨y16, e16, hF⟩ := bnd hF
        refine JD_adv 0 (JD_callF (xs := [.agg [.d (.bool t3), .d (.sl 1 (l3.map e_u32)), .d (.bool t4), .d (.sl 1 (l4.map e_u32))], .agg [.d (.bool y15.n_.neg), .d (.sl 1 (y15.n_.mag.map e_u32)), .d (.bool y15.d.neg), .d (.sl 1 (y15.d.mag.map e_u32))]]) [.agg [.d (.bool t3), .d (.sl 1 (l3.map e_u32)), .d (.bool t4), .d (.sl 1 (l4.map e_u32))], .agg [.d (.bool y15.n_.neg), .d (.sl 1 (y15.n_.mag.map e_u32)), .d (.bool y15.d.neg), .d (.sl 1 (y15.d.mag.map e_u32))]] (.agg [.d (.bool y16.n_.neg), .d (.sl 1 (y16.n_.mag.map e_u32)), .d (.bool y16.d.neg), .d (.sl 1 (y16.d.mag.map e_u32))]) (by kernel_rfl) (by kernel_rfl) en54 (Res'.refl _) (F54_ok e16) ?_)
        refine JD_adv 1 (JD_end (by kernel_rfl) ?_)
        exact J_adv 5 (J_at [1, 4, 5, 10, 11, 12] [4, 5] (T0 := [.inLoop (cAt (bodyOf Tryz.f55) [1, 1, 0, 1, 0, 0]), .inBlock 0, .code (cAt (bodyOf Tryz.f55) [1, 1, 1])]) (by kernel_rfl) rfl (ih_F55_L1 (IntKind.i64.wrap (v2 + 1)) y16.n_.neg y16.n_.mag y16.d.neg y16.d.mag hF))
      · replace hF := iff' hb3 hF
        have hr_ := Option.some.inj hF; subst hr_
        exact J_adv 7 (J_ret (xs := [.agg [.d (.bool t3), .d (.sl 1 (l3.map e_u32)), .d (.bool t4), .d (.sl 1 (l4.map e_u32))]]) [.agg [.d (.bool t3), .d (.sl 1 (l3.map e_u32)), .d (.bool t4), .d (.sl 1 (l4.map e_u32))]] rfl rfl (by kernel_rfl) (Res'.refl _) rfl)
  exact J_adv 13 (J_at [1, 4, 5, 10, 11, 12] [4, 5] (T0 := [.inLoop (cAt (bodyOf Tryz.f55) [1, 1, 0, 1, 0, 0]), .inBlock 0, .code (cAt (bodyOf Tryz.f55) [1, 1, 1])]) (by kernel_rfl) rfl (hF55_L1 fuel 0 y1.n_.neg y1.n_.mag y1.d.neg y1.d.mag hF))
/- croupier/steps.texts -/
def F46_L1 (fuel : Nat) (d0 : List T_exact_Num) : Nat → Int → (List (List UInt8)) → Option (List (List UInt8))
  | 0, _, _ => none
  | n_F46_L1 + 1, v2, l5 =>
    bif decide (v2 < ((d0.map e_T_exact_Num).length : Int)) then
      (Option.bind (geti d0 v2) fun y7 =>
      Option.bind (F87 fuel y7) fun y8 =>
      Option.bind (geti l5 v2) fun y9 =>
      Option.bind (some (l5.set (0 + Int.toNat v2) y8)) fun l6 =>
      (F46_L1 fuel d0 n_F46_L1) (IntKind.i64.wrap (v2 + 1)) l6)
    else
      (some l5)
def F46 (fuel : Nat) (d0 : List T_exact_Num) : Option (List (List UInt8)) :=
  Option.bind (mkL ((d0.map e_T_exact_Num).length : Int) ((d0.map e_T_exact_Num).length : Int) []) fun l1 =>
  F46_L1 fuel d0 fuel 0 l1
theorem F46_ok {fuel : Nat} {d0 : List T_exact_Num} {r : List (List UInt8)} (hF : F46 fuel d0 = some r) :
    CallF Tryz.prog 46 [.d (.sl 4 (d0.map e_T_exact_Num))] (.d (.sl 1 (r.map e_s))) := by
  unfold F46 at hF
  refine callF_of (N := 23) (b := bodyOf Tryz.f46) Tryz.func46 (by kernel_rfl) rfl rfl ?_
  obtain ⟨l1, e1, hF⟩ := bnd hF
  refine J_adv 8 (J_opt2 (o := mk2 ((d0.map e_T_exact_Num).length : Int) ((d0.map e_T_exact_Num).length : Int) (e_s [])) (l1.map e_s) (by kernel_rfl) (mm e1) ?_)
  have hF46_L1 : ∀ (n_F46_L1 : Nat) (v2 : Int) (l5 : List (List UInt8)), F46_L1 fuel d0 n_F46_L1 v2 l5 = some r → J none Tryz.prog 23 [] (finF Tryz.prog Tryz.f46 (.d (.sl 1 (r.map e_s)))) ⟨mkT [(3, .suf 8 0 0), (9, .d (.sl 4 (d0.map e_T_exact_Num))), (10, .d (.int .i64 ((d0.map e_T_exact_Num).length : Int))), (11, .d (.int .i64 v2))], [(8, .buf 0 23 1 (l5.map e_s))], [.inLoop (cAt (bodyOf Tryz.f46) [1, 1, 0, 1, 0, 0]), .inBlock 0, .code (cAt (bodyOf Tryz.f46) [1, 1, 1])]⟩ := by
    clear hF; intro n_F46_L1
    induction n_F46_L1 with
    | zero => intro v2 l5 hF; cases hF
    | succ n_F46_L1 ih_F46_L1 =>
      intro v2 l5 hF
      rw [F46_L1] at hF
      refine J_adv 6 (J_bool 12 (b := decide (v2 < ((d0.map e_T_exact_Num).length : Int))) (by kernel_rfl) (fun hb3 => ?_) (fun hb3 => ?_))
      · replace hF := ift hb3 hF
        obtain ⟨y7, e10, hF⟩ := bnd hF
        refine J_adv 7 (J_opt1 (o := geti (d0.map e_T_exact_Num) v2) (e_T_exact_Num y7) (by kernel_rfl) (gm e10) ?_)
        obtain ⟨y8, e11, hF⟩ := bnd hF
        refine J_adv 9 (J_callF (xs := [.agg [.d (.bool y7.n_.neg), .d (.sl 1 (y7.n_.mag.map e_u32)), .d (.bool y7.d.neg), .d (.sl 1 (y7.d.mag.map e_u32))]]) [.agg [.d (.bool y7.n_.neg), .d (.sl 1 (y7.n_.mag.map e_u32)), .d (.bool y7.d.neg), .d (.sl 1 (y7.d.mag.map e_u32))]] (.d (.str y8)) (by kernel_rfl) en87 (Res'.refl _) (F87_ok e11) ?_)
        obtain ⟨y9, e12, hF⟩ := bnd hF
        refine J_adv 0 (J_opt1 (o := geti (l5.map e_s) v2) (e_s y9) (by kernel_rfl) (gm e12) ?_)
        obtain ⟨l6, e13, hF⟩ := bnd hF
        have hst := stm (f := e_s) (z := y8) (k := 0) (xs := [.str y8]) (gj e12) rfl
        refine J_adv 0 (J_opt2 (o := (match (l5.map e_s)[0 + Int.toNat v2]? with | some old => some ((l5.map e_s).set (0 + Int.toNat v2) (setD old 0 [.str y8])) | none => none)) (l6.map e_s) (by kernel_rfl) (by cases e13; exact hst) ?_)
        exact J_adv 6 (J_at [3, 9, 10, 11] [8] (T0 := [.inLoop (cAt (bodyOf Tryz.f46) [1, 1, 0, 1, 0, 0]), .inBlock 0, .code (cAt (bodyOf Tryz.f46) [1, 1, 1])]) (by kernel_rfl) rfl (ih_F46_L1 (IntKind.i64.wrap (v2 + 1)) l6 hF))
      · replace hF := iff' hb3 hF
        have hr_ := Option.some.inj hF; subst hr_
        exact J_adv 7 (J_ret (xs := [.d (.sl 1 (l5.map e_s))]) [.d (.sl 1 (l5.map e_s))] rfl rfl (by kernel_rfl) (Res'.refl _) rfl)
  exact J_adv 11 (J_at [3, 9, 10, 11] [8] (T0 := [.inLoop (cAt (bodyOf Tryz.f46) [1, 1, 0, 1, 0, 0]), .inBlock 0, .code (cAt (bodyOf Tryz.f46) [1, 1, 1])]) (by kernel_rfl) rfl (hF46_L1 fuel 0 l1 hF))
/- croupier/steps.further -/
def F45 (d0 : T_api_Model) (d1 : Int) : Option (List Int × List (List T_api_Choice) × Int) :=
  some (d0.Owner, d0.Choices, d1)
theorem F45_ok {d0 : T_api_Model} {d1 : Int} {r : List Int × List (List T_api_Choice) × Int} (hF : F45 d0 d1 = some r) :
    CallR Tryz.prog 45 [] [.agg [.d (.sl 1 (d0.Owner.map e_i64)), .d (.sl 1 (d0.Choices.map e_lT_api_Choice))], .d (.int .u64 d1)] [(2000, .box 34 [.d (.sl 1 (r.1.map e_i64)), .d (.sl 1 (r.2.1.map e_lT_api_Choice))]), (2001, .box 40 [.d (.int .u64 r.2.2)])] (.fn 94 [] [.ptr 2000 0, .ptr 2001 0]) := by
  unfold F45 at hF
  refine callR_of (N := 6) (b := bodyOf Tryz.f45) Tryz.func45 (by kernel_rfl) rfl rfl ?_
  refine J_adv 11 (J_at (S0 := [(4, .fn 94 [] [.ptr 2 0, .ptr 3 0])]) (O0 := [(2, .box 34 [.d (.sl 1 (d0.Owner.map e_i64)), .d (.sl 1 (d0.Choices.map e_lT_api_Choice))]), (3, .box 40 [.d (.int .u64 d1)])]) (T0 := [.code (cAt (bodyOf Tryz.f45) [1, 1])]) [4] [2, 3] (by kernel_rfl) rfl ?_)
  refine J_adv 0 (J_ren [(2, 2000), (3, 2001)] (by kernel_rfl) (by kernel_rfl) (by kernel_rfl) (by kernel_rfl) ?_)
  have hr_ := Option.some.inj hF; subst hr_
  exact J_adv 0 (J_retRR (xs := [.fn 94 [] [.ptr 2000 0, .ptr 2001 0]]) [.fn 94 [] [.ptr 2000 0, .ptr 2001 0]] rfl (by kernel_rfl) (by kernel_rfl) (Res'.refl _) rfl)
/- croupier/steps.further$1$1 -/
def F95 (fuel : Nat) (d0 : T_api_Choice) (d1 : List T_exact_Num) : Option T_exact_Num :=
  Option.bind (F55 fuel d0 d1) fun y1 =>
  some y1
theorem F95_ok {fuel : Nat} {d0 : T_api_Choice} {d1 : List T_exact_Num} {r : T_exact_Num} (hF : F95 fuel d0 d1 = some r) :
    CallF Tryz.prog 95 [.agg [.d (.str d0.Act), .d (.str d0.Gain), .d (.sl 2 (d0.Next.map e_T_api_Branch))], .rp [.sl 4 (d1.map e_T_exact_Num)] 0] (.agg [.d (.bool r.n_.neg), .d (.sl 1 (r.n_.mag.map e_u32)), .d (.bool r.d.neg), .d (.sl 1 (r.d.mag.map e_u32))]) := by
  unfold F95 at hF
  refine callF_of (N := 7) (b := bodyOf Tryz.f95) Tryz.func95 (by kernel_rfl) rfl rfl ?_
  obtain ⟨y1, e1, hF⟩ := bnd hF
  refine J_adv 9 (J_callF (xs := [.agg [.d (.str d0.Act), .d (.str d0.Gain), .d (.sl 2 (d0.Next.map e_T_api_Branch))], .d (.sl 4 (d1.map e_T_exact_Num))]) [.agg [.d (.str d0.Act), .d (.str d0.Gain), .d (.sl 2 (d0.Next.map e_T_api_Branch))], .d (.sl 4 (d1.map e_T_exact_Num))] (.agg [.d (.bool y1.n_.neg), .d (.sl 1 (y1.n_.mag.map e_u32)), .d (.bool y1.d.neg), .d (.sl 1 (y1.d.mag.map e_u32))]) (by kernel_rfl) en55 (Res'.refl _) (F55_ok e1) ?_)
  have hr_ := Option.some.inj hF; subst hr_
  exact J_adv 2 (J_ret (xs := [.agg [.d (.bool y1.n_.neg), .d (.sl 1 (y1.n_.mag.map e_u32)), .d (.bool y1.d.neg), .d (.sl 1 (y1.d.mag.map e_u32))]]) [.agg [.d (.bool y1.n_.neg), .d (.sl 1 (y1.n_.mag.map e_u32)), .d (.bool y1.d.neg), .d (.sl 1 (y1.d.mag.map e_u32))]] rfl rfl (by kernel_rfl) (Res'.refl _) rfl)
/- croupier/steps.best(croupier/api.Choice) -/
def F52_A2 (v6 : Int) (rec_F52_L1 : Int → Int → Bool → (List Int) → Bool → (List Int) → Option (T_exact_Num × Int)) (v7 : Int) (t14 : Bool) (l10 : List Int) (t15 : Bool) (l11 : List Int) : Option (T_exact_Num × Int) :=
  rec_F52_L1 v7 (IntKind.i64.wrap (v6 + 1)) t14 l10 t15 l11
def F52_L1 (fuel : Nat) (d0 : Int) (d2 : List T_exact_Num) (l1 : List T_api_Choice) : Nat → Int → Int → Bool → (List Int) → Bool → (List Int) → Option (T_exact_Num × Int)
  | 0, _, _, _, _, _, _ => none
  | n_F52_L1 + 1, v5, v6, t11, l8, t12, l9 =>
    bif decide (v6 < ((l1.map e_T_api_Choice).length : Int)) then
      (Option.bind (geti l1 v6) fun y18 =>
      Option.bind (F95 fuel y18 d2) fun y19 =>
      Option.bind (F50 fuel y19 (⟨(⟨t11, l8⟩ : T_exact_Whole), (⟨t12, l9⟩ : T_exact_Whole)⟩ : T_exact_Num)) fun y20 =>
      Option.bind (
        bif d0 == 0 then
          (bif decide (y20 > 0) then
            (some true)
          else
            (bif d0 == 1 then
              (some (decide (y20 < 0)))
            else
              (some false)))
        else
          (bif d0 == 1 then
            (some (decide (y20 < 0)))
          else
            (some false))) fun o6 =>
      bif o6 then
        (F52_A2 v6 (F52_L1 fuel d0 d2 l1 n_F52_L1) (IntKind.i64.wrap (v6 + 1)) y19.n_.neg y19.n_.mag y19.d.neg y19.d.mag)
      else
        (F52_A2 v6 (F52_L1 fuel d0 d2 l1 n_F52_L1) v5 t11 l8 t12 l9))
    else
      (some ((⟨(⟨t11, l8⟩ : T_exact_Whole), (⟨t12, l9⟩ : T_exact_Whole)⟩ : T_exact_Num), v5))
def F52 (fuel : Nat) (d0 : Int) (d1 : List T_api_Choice) (d2 : List T_exact_Num) : Option (T_exact_Num × Int) :=
  Option.bind (geti d1 0) fun y1 =>
  Option.bind (F95 fuel y1 d2) fun y2 =>
  Option.bind (slc d1 1 (d1.length : Int)) fun l1 =>
  F52_L1 fuel d0 d2 l1 fuel 0 0 y2.n_.neg y2.n_.mag y2.d.neg y2.d.mag
theorem F52_ok {fuel : Nat} {d0 : Int} {d1 : List T_api_Choice} {d2 : List T_exact_Num} {r : T_exact_Num × Int} (hF : F52 fuel d0 d1 d2 = some r) :
    CallF Tryz.prog 52 [.d (.int .i64 d0), .d (.sl 3 (d1.map e_T_api_Choice)), .fn 95 [] [.rp [.sl 4 (d2.map e_T_exact_Num)] 0]] (.tup [.agg [.d (.bool r.1.n_.neg), .d (.sl 1 (r.1.n_.mag.map e_u32)), .d (.bool r.1.d.neg), .d (.sl 1 (r.1.d.mag.map e_u32))], .d (.int .i64 r.2)]) := by
  unfold F52 at hF
  refine callF_of (N := 53) (b := bodyOf Tryz.f52) Tryz.func52 (by kernel_rfl) rfl rfl ?_
  obtain ⟨y1, e1, hF⟩ := bnd hF
  refine J_adv 9 (J_opt1 (o := geti (d1.map e_T_api_Choice) 0) (e_T_api_Choice y1) (by kernel_rfl) (gm e1) ?_)
  obtain ⟨y2, e2, hF⟩ := bnd hF
  refine J_adv 1 (J_callF (xs := [.agg [.d (.str y1.Act), .d (.str y1.Gain), .d (.sl 2 (y1.Next.map e_T_api_Branch))], .rp [.sl 4 (d2.map e_T_exact_Num)] 0]) [.agg [.d (.str y1.Act), .d (.str y1.Gain), .d (.sl 2 (y1.Next.map e_T_api_Branch))], .rp [.sl 4 (d2.map e_T_exact_Num)] 0] (.agg [.d (.bool y2.n_.neg), .d (.sl 1 (y2.n_.mag.map e_u32)), .d (.bool y2.d.neg), .d (.sl 1 (y2.d.mag.map e_u32))]) (by kernel_rfl) en95 (Res'.refl _) (F95_ok e2) ?_)
  obtain ⟨l1, e3, hF⟩ := bnd hF
  refine J_adv 8 (J_opt2 (o := slc (d1.map e_T_api_Choice) 1 ((d1.map e_T_api_Choice).length : Int)) (l1.map e_T_api_Choice) (by kernel_rfl) (smh e3) ?_)
  have hF52_L1 : ∀ (n_F52_L1 : Nat) (v5 : Int) (v6 : Int) (t11 : Bool) (l8 : List Int) (t12 : Bool) (l9 : List Int), F52_L1 fuel d0 d2 l1 n_F52_L1 v5 v6 t11 l8 t12 l9 = some r → J none Tryz.prog 53 [] (finF Tryz.prog Tryz.f52 (.tup [.agg [.d (.bool r.1.n_.neg), .d (.sl 1 (r.1.n_.mag.map e_u32)), .d (.bool r.1.d.neg), .d (.sl 1 (r.1.d.mag.map e_u32))], .d (.int .i64 r.2)])) ⟨mkT [(0, .d (.int .i64 d0)), (2, .fn 95 [] [.rp [.sl 4 (d2.map e_T_exact_Num)] 0]), (6, .ptr 6 0), (8, .d (.int .i64 v5)), (9, .ptr 9 0), (20, .d (.sl 3 (l1.map e_T_api_Choice))), (21, .d (.int .i64 ((l1.map e_T_api_Choice).length : Int))), (22, .d (.int .i64 v6))], [(6, .box 100 [.d (.bool false), .esl 1, .d (.bool false), .esl 1]), (9, .box 100 [.d (.bool t11), .d (.sl 1 (l8.map e_u32)), .d (.bool t12), .d (.sl 1 (l9.map e_u32))])], [.inLoop (cAt (bodyOf Tryz.f52) [1, 1, 0, 1, 0, 0]), .inBlock 0, .code (cAt (bodyOf Tryz.f52) [1, 1, 1])]⟩ := by
    clear hF; intro n_F52_L1
    induction n_F52_L1 with
    | zero => intro v5 v6 t11 l8 t12 l9 hF; cases hF
    | succ n_F52_L1 ih_F52_L1 =>
      intro v5 v6 t11 l8 t12 l9 hF
      rw [F52_L1] at hF
      refine J_adv 6 (J_bool 23 (b := decide (v6 < ((l1.map e_T_api_Choice).length : Int))) (by kernel_rfl) (fun hb55 => ?_) (fun hb55 => ?_))
      · replace hF := ift hb55 hF
        have hF52_A2 : ∀ (v7 : Int) (t14 : Bool) (l10 : List Int) (t15 : Bool) (l11 : List Int), F52_A2 v6 (F52_L1 fuel d0 d2 l1 n_F52_L1) v7 t14 l10 t15 l11 = some r → J none Tryz.prog 53 [] (finF Tryz.prog Tryz.f52 (.tup [.agg [.d (.bool r.1.n_.neg), .d (.sl 1 (r.1.n_.mag.map e_u32)), .d (.bool r.1.d.neg), .d (.sl 1 (r.1.d.mag.map e_u32))], .d (.int .i64 r.2)])) ⟨mkT [(0, .d (.int .i64 d0)), (2, .fn 95 [] [.rp [.sl 4 (d2.map e_T_exact_Num)] 0]), (6, .ptr 6 0), (8, .d (.int .i64 v7)), (9, .ptr 9 0), (20, .d (.sl 3 (l1.map e_T_api_Choice))), (21, .d (.int .i64 ((l1.map e_T_api_Choice).length : Int))), (22, .d (.int .i64 v6))], [(6, .box 100 [.d (.bool false), .esl 1, .d (.bool false), .esl 1]), (9, .box 100 [.d (.bool t14), .d (.sl 1 (l10.map e_u32)), .d (.bool t15), .d (.sl 1 (l11.map e_u32))])], [.code (cAt (bodyOf Tryz.f52) [1, 1, 0, 1, 0, 0, 1, 1, 1]), .inLoop (cAt (bodyOf Tryz.f52) [1, 1, 0, 1, 0, 0]), .inBlock 0, .code (cAt (bodyOf Tryz.f52) [1, 1, 1])]⟩ := by
          intro v7 t14 l10 t15 l11 hF
          unfold F52_A2 at hF
          exact J_adv 4 (J_at [0, 2, 6, 8, 9, 20, 21, 22] [6, 9] (T0 := [.inLoop (cAt (bodyOf Tryz.f52) [1, 1, 0, 1, 0, 0]), .inBlock 0, .code (cAt (bodyOf Tryz.f52) [1, 1, 1])]) (by kernel_rfl) rfl (ih_F52_L1 v7 (IntKind.i64.wrap (v6 + 1)) t14 l10 t15 l11 hF))
        obtain ⟨y18, e19, hF⟩ := bnd hF
        refine J_adv 7 (J_opt1 (o := geti (l1.map e_T_api_Choice) v6) (e_T_api_Choice y18) (by kernel_rfl) (gm e19) ?_)
        obtain ⟨y19, e20, hF⟩ := bnd hF
        refine J_adv 9 (J_callF (xs := [.agg [.d (.str y18.Act), .d (.str y18.Gain), .d (.sl 2 (y18.Next.map e_T_api_Branch))], .rp [.sl 4 (d2.map e_T_exact_Num)] 0]) [.agg [.d (.str y18.Act), .d (.str y18.Gain), .d (.sl 2 (y18.Next.map e_T_api_Branch))], .rp [.sl 4 (d2.map e_T_exact_Num)] 0] (.agg [.d (.bool y19.n_.neg), .d (.sl 1 (y19.n_.mag.map e_u32)), .d (.bool y19.d.neg), .d (.sl 1 (y19.d.mag.map e_u32))]) (by kernel_rfl) en95 (Res'.refl _) (F95_ok e20) ?_)
        obtain ⟨y20, e21, hF⟩ := bnd hF
        refine J_adv 7 (J_callF (xs := [.agg [.d (.bool y19.n_.neg), .d (.sl 1 (y19.n_.mag.map e_u32)), .d (.bool y19.d.neg), .d (.sl 1 (y19.d.mag.map e_u32))], .agg [.d (.bool t11), .d (.sl 1 (l8.map e_u32)), .d (.bool t12), .d (.sl 1 (l9.map e_u32))]]) [.agg [.d (.bool y19.n_.neg), .d (.sl 1 (y19.n_.mag.map e_u32)), .d (.bool y19.d.neg), .d (.sl 1 (y19.d.mag.map e_u32))], .agg [.d (.bool t11), .d (.sl 1 (l8.map e_u32)), .d (.bool t12), .d (.sl 1 (l9.map e_u32))]] (.d (.int .i64 y20)) (by kernel_rfl) en50 (Res'.refl _) (F50_ok e21) ?_)
        obtain ⟨o6, hO, hF⟩ := bnd hF
        have hR6 : J none Tryz.prog 53 [] (finF Tryz.prog Tryz.f52 (.tup [.agg [.d (.bool r.1.n_.neg), .d (.sl 1 (r.1.n_.mag.map e_u32)), .d (.bool r.1.d.neg), .d (.sl 1 (r.1.d.mag.map e_u32))], .d (.int .i64 r.2)])) ⟨mkT [(0, .d (.int .i64 d0)), (2, .fn 95 [] [.rp [.sl 4 (d2.map e_T_exact_Num)] 0]), (6, .ptr 6 0), (8, .d (.int .i64 v5)), (9, .ptr 9 0), (10, .d (.int .i64 v6)), (12, .ptr 12 0), (20, .d (.sl 3 (l1.map e_T_api_Choice))), (21, .d (.int .i64 ((l1.map e_T_api_Choice).length : Int))), (22, .d (.int .i64 v6)), (46, .d (.bool o6))], [(6, .box 100 [.d (.bool false), .esl 1, .d (.bool false), .esl 1]), (9, .box 100 [.d (.bool t11), .d (.sl 1 (l8.map e_u32)), .d (.bool t12), .d (.sl 1 (l9.map e_u32))]), (12, .box 100 [.d (.bool y19.n_.neg), .d (.sl 1 (y19.n_.mag.map e_u32)), .d (.bool y19.d.neg), .d (.sl 1 (y19.d.mag.map e_u32))])], [.ops (opsOf (cAt (bodyOf Tryz.f52) [1, 1, 0, 1, 0, 0, 1, 1, 0, 0, 1, 1, 1, 0])) [], .code (cAt (bodyOf Tryz.f52) [1, 1, 0, 1, 0, 0, 1, 1, 0, 0, 1, 1, 1, 1]), .inBlock 1, .code (cAt (bodyOf Tryz.f52) [1, 1, 0, 1, 0, 0, 1, 1, 1]), .inLoop (cAt (bodyOf Tryz.f52) [1, 1, 0, 1, 0, 0]), .inBlock 0, .code (cAt (bodyOf Tryz.f52) [1, 1, 1])]⟩ := by
          clear hO
          refine J_adv 1 (J_bool 46 (b := o6) (by kernel_rfl) (fun hb77 => ?_) (fun hb77 => ?_))
          · replace hF := ift hb77 hF
            refine J_adv 1 (J_draw (by kernel_rfl) (by kernel_rfl) ?_)
            refine JD_adv 5 (JD_end (by kernel_rfl) ?_)
            exact J_adv 1 (J_at [0, 2, 6, 8, 9, 20, 21, 22] [6, 9] (T0 := [.code (cAt (bodyOf Tryz.f52) [1, 1, 0, 1, 0, 0, 1, 1, 1]), .inLoop (cAt (bodyOf Tryz.f52) [1, 1, 0, 1, 0, 0]), .inBlock 0, .code (cAt (bodyOf Tryz.f52) [1, 1, 1])]) (by kernel_rfl) rfl (hF52_A2 (IntKind.i64.wrap (v6 + 1)) y19.n_.neg y19.n_.mag y19.d.neg y19.d.mag hF))
          · replace hF := iff' hb77 hF
            exact J_adv 3 (J_at [0, 2, 6, 8, 9, 20, 21, 22] [6, 9] (T0 := [.code (cAt (bodyOf Tryz.f52) [1, 1, 0, 1, 0, 0, 1, 1, 1]), .inLoop (cAt (bodyOf Tryz.f52) [1, 1, 0, 1, 0, 0]), .inBlock 0, .code (cAt (bodyOf Tryz.f52) [1, 1, 1])]) (by kernel_rfl) rfl (hF52_A2 v5 t11 l8 t12 l9 hF))
        clear hF; rename _ = some o6 => hF
        refine J_adv 7 (J_bool 35 (b := d0 == 0) (by kernel_rfl) (fun hb78 => ?_) (fun hb78 => ?_))
        · replace hF := ift hb78 hF
          refine J_adv 4 (J_bool 39 (b := decide (y20 > 0)) (by kernel_rfl) (fun hb79 => ?_) (fun hb79 => ?_))
          · replace hF := ift hb79 hF
            have hr_ := Option.some.inj hF; subst hr_
            exact J_adv 7 (J_at [0, 2, 6, 8, 9, 10, 12, 20, 21, 22, 46] [6, 9, 12] (T0 := [.ops (opsOf (cAt (bodyOf Tryz.f52) [1, 1, 0, 1, 0, 0, 1, 1, 0, 0, 1, 1, 1, 0])) [], .code (cAt (bodyOf Tryz.f52) [1, 1, 0, 1, 0, 0, 1, 1, 0, 0, 1, 1, 1, 1]), .inBlock 1, .code (cAt (bodyOf Tryz.f52) [1, 1, 0, 1, 0, 0, 1, 1, 1]), .inLoop (cAt (bodyOf Tryz.f52) [1, 1, 0, 1, 0, 0]), .inBlock 0, .code (cAt (bodyOf Tryz.f52) [1, 1, 1])]) (by kernel_rfl) rfl hR6)
          · replace hF := iff' hb79 hF
            refine J_adv 3 (J_bool 42 (b := d0 == 1) (by kernel_rfl) (fun hb80 => ?_) (fun hb80 => ?_))
            · replace hF := ift hb80 hF
              have hr_ := Option.some.inj hF; subst hr_
              exact J_adv 4 (J_at [0, 2, 6, 8, 9, 10, 12, 20, 21, 22, 46] [6, 9, 12] (T0 := [.ops (opsOf (cAt (bodyOf Tryz.f52) [1, 1, 0, 1, 0, 0, 1, 1, 0, 0, 1, 1, 1, 0])) [], .code (cAt (bodyOf Tryz.f52) [1, 1, 0, 1, 0, 0, 1, 1, 0, 0, 1, 1, 1, 1]), .inBlock 1, .code (cAt (bodyOf Tryz.f52) [1, 1, 0, 1, 0, 0, 1, 1, 1]), .inLoop (cAt (bodyOf Tryz.f52) [1, 1, 0, 1, 0, 0]), .inBlock 0, .code (cAt (bodyOf Tryz.f52) [1, 1, 1])]) (by kernel_rfl) rfl hR6)
            · replace hF := iff' hb80 hF
              have hr_ := Option.some.inj hF; subst hr_
              exact J_adv 4 (J_at [0, 2, 6, 8, 9, 10, 12, 20, 21, 22, 46] [6, 9, 12] (T0 := [.ops (opsOf (cAt (bodyOf Tryz.f52) [1, 1, 0, 1, 0, 0, 1, 1, 0, 0, 1, 1, 1, 0])) [], .code (cAt (bodyOf Tryz.f52) [1, 1, 0, 1, 0, 0, 1, 1, 0, 0, 1, 1, 1, 1]), .inBlock 1, .code (cAt (bodyOf Tryz.f52) [1, 1, 0, 1, 0, 0, 1, 1, 1]), .inLoop (cAt (bodyOf Tryz.f52) [1, 1, 0, 1, 0, 0]), .inBlock 0, .code (cAt (bodyOf Tryz.f52) [1, 1, 1])]) (by kernel_rfl) rfl hR6)
        · replace hF := iff' hb78 hF
          refine J_adv 7 (J_bool 42 (b := d0 == 1) (by kernel_rfl) (fun hb81 => ?_) (fun hb81 => ?_))
          · replace hF := ift hb81 hF
            have hr_ := Option.some.inj hF; subst hr_
            exact J_adv 4 (J_at [0, 2, 6, 8, 9, 10, 12, 20, 21, 22, 46] [6, 9, 12] (T0 := [.ops (opsOf (cAt (bodyOf Tryz.f52) [1, 1, 0, 1, 0, 0, 1, 1, 0, 0, 1, 1, 1, 0])) [], .code (cAt (bodyOf Tryz.f52) [1, 1, 0, 1, 0, 0, 1, 1, 0, 0, 1, 1, 1, 1]), .inBlock 1, .code (cAt (bodyOf Tryz.f52) [1, 1, 0, 1, 0, 0, 1, 1, 1]), .inLoop (cAt (bodyOf Tryz.f52) [1, 1, 0, 1, 0, 0]), .inBlock 0, .code (cAt (bodyOf Tryz.f52) [1, 1, 1])]) (by kernel_rfl) rfl hR6)
          · replace hF := iff' hb81 hF
            have hr_ := Option.some.inj hF; subst hr_
            exact J_adv 4 (J_at [0, 2, 6, 8, 9, 10, 12, 20, 21, 22, 46] [6, 9, 12] (T0 := [.ops (opsOf (cAt (bodyOf Tryz.f52) [1, 1, 0, 1, 0, 0, 1, 1, 0, 0, 1, 1, 1, 0])) [], .code (cAt (bodyOf Tryz.f52) [1, 1, 0, 1, 0, 0, 1, 1, 0, 0, 1, 1, 1, 1]), .inBlock 1, .code (cAt (bodyOf Tryz.f52) [1, 1, 0, 1, 0, 0, 1, 1, 1]), .inLoop (cAt (bodyOf Tryz.f52) [1, 1, 0, 1, 0, 0]), .inBlock 0, .code (cAt (bodyOf Tryz.f52) [1, 1, 1])]) (by kernel_rfl) rfl hR6)
      · replace hF := iff' hb55 hF
        have hr_ := Option.some.inj hF; subst hr_
        exact J_adv 9 (J_ret (xs := [.agg [.d (.bool t11), .d (.sl 1 (l8.map e_u32)), .d (.bool t12), .d (.sl 1 (l9.map e_u32))], .d (.int .i64 v5)]) [.agg [.d (.bool t11), .d (.sl 1 (l8.map e_u32)), .d (.bool t12), .d (.sl 1 (l9.map e_u32))], .d (.int .i64 v5)] rfl rfl (by kernel_rfl) (Res'.refl _) rfl)
  exact J_adv 5 (J_at [0, 2, 6, 8, 9, 20, 21, 22] [6, 9] (T0 := [.inLoop (cAt (bodyOf Tryz.f52) [1, 1, 0, 1, 0, 0]), .inBlock 0, .code (cAt (bodyOf Tryz.f52) [1, 1, 1])]) (by kernel_rfl) rfl (hF52_L1 fuel 0 0 y2.n_.neg y2.n_.mag y2.d.neg y2.d.mag hF))
/- croupier/steps.further$1 -/
def F94_A2 (v2 : Int) (rec_F94_L1 : Int → (List Int) → (List T_exact_Num) → Option (List T_exact_Num × List Int)) (l26 : List Int) (l27 : List T_exact_Num) : Option (List T_exact_Num × List Int) :=
  rec_F94_L1 (IntKind.i64.wrap (v2 + 1)) l26 l27
def F94_L1 (fuel : Nat) (d0 : List T_exact_Num) (d1 : List Int) (d2 : List (List T_api_Choice)) (d3 : Int) : Nat → Int → (List Int) → (List T_exact_Num) → Option (List T_exact_Num × List Int)
  | 0, _, _, _ => none
  | n_F94_L1 + 1, v2, l21, l22 =>
    bif decide (v2 < ((d2.map e_lT_api_Choice).length : Int)) then
      (Option.bind (geti d2 v2) fun y36 =>
      ass (decide (0 ≤ v2)) <|
      bif (IntKind.u64.wrap (BitVec.ofInt IntKind.u64.bits (Int.fdiv d3 (2 ^ (min (Int.toNat v2) IntKind.u64.bits))) &&& BitVec.ofInt IntKind.u64.bits 1).toNat) == 1 then
        (Option.bind (F51 fuel 1 1) fun y37 =>
        Option.bind (geti l22 v2) fun y38 =>
        Option.bind (some (l22.set (0 + Int.toNat v2) y37)) fun l28 =>
        F94_A2 v2 (F94_L1 fuel d0 d1 d2 d3 n_F94_L1) l21 l28)
      else
        (Option.bind (geti d1 v2) fun y39 =>
        Option.bind (F52 fuel y39 y36 d0) fun y40 =>
        Option.bind (geti l22 v2) fun y41 =>
        Option.bind (some (l22.set (0 + Int.toNat v2) y40.1)) fun l29 =>
        Option.bind (geti l21 v2) fun y42 =>
        Option.bind (some (l21.set (0 + Int.toNat v2) y40.2)) fun l30 =>
        F94_A2 v2 (F94_L1 fuel d0 d1 d2 d3 n_F94_L1) l30 l29))
    else
      (some (l22, l21))
def F94 (fuel : Nat) (d0 : List T_exact_Num) (d1 : List Int) (d2 : List (List T_api_Choice)) (d3 : Int) : Option (List T_exact_Num × List Int) :=
  Option.bind (mkL ((d0.map e_T_exact_Num).length : Int) ((d0.map e_T_exact_Num).length : Int) (⟨(⟨false, []⟩ : T_exact_Whole), (⟨false, []⟩ : T_exact_Whole)⟩ : T_exact_Num)) fun l1 =>
  Option.bind (mkL ((d0.map e_T_exact_Num).length : Int) ((d0.map e_T_exact_Num).length : Int) 0) fun l2 =>
  F94_L1 fuel d0 d1 d2 d3 fuel 0 l2 l1
theorem F94_ok {fuel : Nat} {d0 : List T_exact_Num} {d1 : List Int} {d2 : List (List T_api_Choice)} {d3 : Int} {r : List T_exact_Num × List Int} (hF : F94 fuel d0 d1 d2 d3 = some r) :
    CallF Tryz.prog 94 [.d (.sl 4 (d0.map e_T_exact_Num)), .rp [.sl 1 (d1.map e_i64), .sl 1 (d2.map e_lT_api_Choice)] 0, .rp [.int .u64 d3] 0] (.tup [.d (.sl 4 (r.1.map e_T_exact_Num)), .d (.sl 1 (r.2.map e_i64))]) := by
  unfold F94 at hF
  refine callF_of (N := 53) (b := bodyOf Tryz.f94) Tryz.func94 (by kernel_rfl) rfl rfl ?_
  refine J_adv 7 (J_draw (by kernel_rfl) (by kernel_rfl) ?_)
  obtain ⟨l1, e1, hF⟩ := bnd hF
  refine JD_adv 2 (JD_opt2 (o := mk2 ((d0.map e_T_exact_Num).length : Int) ((d0.map e_T_exact_Num).length : Int) (e_T_exact_Num (⟨(⟨false, []⟩ : T_exact_Whole), (⟨false, []⟩ : T_exact_Whole)⟩ : T_exact_Num))) (l1.map e_T_exact_Num) (by kernel_rfl) (by kernel_rfl) (mm e1) ?_)
  obtain ⟨l2, e2, hF⟩ := bnd hF
  refine JD_adv 2 (JD_opt2 (o := mk2 ((d0.map e_T_exact_Num).length : Int) ((d0.map e_T_exact_Num).length : Int) (e_i64 0)) (l2.map e_i64) (by kernel_rfl) (by kernel_rfl) (mm e2) ?_)
  refine JD_adv 2 (JD_end (by kernel_rfl) ?_)
  have hF94_L1 : ∀ (n_F94_L1 : Nat) (v2 : Int) (l21 : List Int) (l22 : List T_exact_Num), F94_L1 fuel d0 d1 d2 d3 n_F94_L1 v2 l21 l22 = some r → J none Tryz.prog 53 [] (finF Tryz.prog Tryz.f94 (.tup [.d (.sl 4 (r.1.map e_T_exact_Num)), .d (.sl 1 (r.2.map e_i64))])) ⟨mkT [(1, .rp [.sl 1 (d1.map e_i64), .sl 1 (d2.map e_lT_api_Choice)] 0), (2, .rp [.int .u64 d3] 0), (3, .ptr 3 0), (6, .suf 12 0 0), (7, .suf 15 0 0), (17, .d (.sl 1 (d2.map e_lT_api_Choice))), (18, .d (.int .i64 ((d2.map e_lT_api_Choice).length : Int))), (19, .d (.int .i64 v2))], [(3, .fzb [.d (.sl 4 (d0.map e_T_exact_Num))]), (12, .buf 0 100 4 (l22.map e_T_exact_Num)), (15, .buf 0 3 1 (l21.map e_i64))], [.inLoop (cAt (bodyOf Tryz.f94) [1, 1, 0, 1, 0, 0]), .inBlock 0, .code (cAt (bodyOf Tryz.f94) [1, 1, 1])]⟩ := by
    clear hF; intro n_F94_L1
    induction n_F94_L1 with
    | zero => intro v2 l21 l22 hF; cases hF
    | succ n_F94_L1 ih_F94_L1 =>
      intro v2 l21 l22 hF
      rw [F94_L1] at hF
      refine J_adv 6 (J_bool 20 (b := decide (v2 < ((d2.map e_lT_api_Choice).length : Int))) (by kernel_rfl) (fun hb11 => ?_) (fun hb11 => ?_))
      · replace hF := ift hb11 hF
        have hF94_A2 : ∀ (l26 : List Int) (l27 : List T_exact_Num), F94_A2 v2 (F94_L1 fuel d0 d1 d2 d3 n_F94_L1) l26 l27 = some r → J none Tryz.prog 53 [] (finF Tryz.prog Tryz.f94 (.tup [.d (.sl 4 (r.1.map e_T_exact_Num)), .d (.sl 1 (r.2.map e_i64))])) ⟨mkT [(1, .rp [.sl 1 (d1.map e_i64), .sl 1 (d2.map e_lT_api_Choice)] 0), (2, .rp [.int .u64 d3] 0), (3, .ptr 3 0), (6, .suf 12 0 0), (7, .suf 15 0 0), (17, .d (.sl 1 (d2.map e_lT_api_Choice))), (18, .d (.int .i64 ((d2.map e_lT_api_Choice).length : Int))), (19, .d (.int .i64 v2))], [(3, .fzb [.d (.sl 4 (d0.map e_T_exact_Num))]), (12, .buf 0 100 4 (l27.map e_T_exact_Num)), (15, .buf 0 3 1 (l26.map e_i64))], [.code (cAt (bodyOf Tryz.f94) [1, 1, 0, 1, 0, 0, 1, 1, 1]), .inLoop (cAt (bodyOf Tryz.f94) [1, 1, 0, 1, 0, 0]), .inBlock 0, .code (cAt (bodyOf Tryz.f94) [1, 1, 1])]⟩ := by
          intro l26 l27 hF
          unfold F94_A2 at hF
          exact J_adv 4 (J_at [1, 2, 3, 6, 7, 17, 18, 19] [3, 12, 15] (T0 := [.inLoop (cAt (bodyOf Tryz.f94) [1, 1, 0, 1, 0, 0]), .inBlock 0, .code (cAt (bodyOf Tryz.f94) [1, 1, 1])]) (by kernel_rfl) rfl (ih_F94_L1 (IntKind.i64.wrap (v2 + 1)) l26 l27 hF))
        obtain ⟨y36, e53, hF⟩ := bnd hF
        refine J_adv 7 (J_opt1 (o := geti (d2.map e_lT_api_Choice) v2) (e_lT_api_Choice y36) (by kernel_rfl) (gm e53) ?_)
        obtain ⟨hb14, hF⟩ := assd hF
        refine J_adv 9 (J_opt1 (o := chk (decide (0 ≤ v2))) [] (by kernel_rfl) (ck hb14) ?_)
        refine J_adv 3 (J_bool 28 (b := (IntKind.u64.wrap (BitVec.ofInt IntKind.u64.bits (Int.fdiv d3 (2 ^ (min (Int.toNat v2) IntKind.u64.bits))) &&& BitVec.ofInt IntKind.u64.bits 1).toNat) == 1) (by kernel_rfl) (fun hb15 => ?_) (fun hb15 => ?_))
        · replace hF := ift hb15 hF
          obtain ⟨y37, e54, hF⟩ := bnd hF
          refine J_adv 5 (J_callF (xs := [.d (.int .i64 1), .d (.int .i64 1)]) [.d (.int .i64 1), .d (.int .i64 1)] (.agg [.d (.bool y37.n_.neg), .d (.sl 1 (y37.n_.mag.map e_u32)), .d (.bool y37.d.neg), .d (.sl 1 (y37.d.mag.map e_u32))]) (by kernel_rfl) en51 (Res'.refl _) (F51_ok e54) ?_)
          obtain ⟨y38, e55, hF⟩ := bnd hF
          refine J_adv 0 (J_opt1 (o := geti (l22.map e_T_exact_Num) v2) (e_T_exact_Num y38) (by kernel_rfl) (gm e55) ?_)
          obtain ⟨l28, e56, hF⟩ := bnd hF
          have hst := stm (f := e_T_exact_Num) (z := y37) (k := 0) (xs := [.bool y37.n_.neg, .sl 1 (y37.n_.mag.map e_u32), .bool y37.d.neg, .sl 1 (y37.d.mag.map e_u32)]) (gj e55) rfl
          refine J_adv 0 (J_opt2 (o := (match (l22.map e_T_exact_Num)[0 + Int.toNat v2]? with | some old => some ((l22.map e_T_exact_Num).set (0 + Int.toNat v2) (setD old 0 [.bool y37.n_.neg, .sl 1 (y37.n_.mag.map e_u32), .bool y37.d.neg, .sl 1 (y37.d.mag.map e_u32)])) | none => none)) (l28.map e_T_exact_Num) (by kernel_rfl) (by cases e56; exact hst) ?_)
          exact J_adv 2 (J_at [1, 2, 3, 6, 7, 17, 18, 19] [3, 12, 15] (T0 := [.code (cAt (bodyOf Tryz.f94) [1, 1, 0, 1, 0, 0, 1, 1, 1]), .inLoop (cAt (bodyOf Tryz.f94) [1, 1, 0, 1, 0, 0]), .inBlock 0, .code (cAt (bodyOf Tryz.f94) [1, 1, 1])]) (by kernel_rfl) rfl (hF94_A2 l21 l28 hF))
        · replace hF := iff' hb15 hF
          obtain ⟨y39, e57, hF⟩ := bnd hF
          refine J_adv 10 (J_opt1 (o := geti (d1.map e_i64) v2) (e_i64 y39) (by kernel_rfl) (gm e57) ?_)
          obtain ⟨y40, e58, hF⟩ := bnd hF
          refine J_adv 3 (J_callF (xs := [.d (.int .i64 y39), .d (.sl 3 (y36.map e_T_api_Choice)), .fn 95 [] [.rp [.sl 4 (d0.map e_T_exact_Num)] 0]]) [.d (.int .i64 y39), .d (.sl 3 (y36.map e_T_api_Choice)), .fn 95 [] [.rp [.sl 4 (d0.map e_T_exact_Num)] 0]] (.tup [.agg [.d (.bool y40.1.n_.neg), .d (.sl 1 (y40.1.n_.mag.map e_u32)), .d (.bool y40.1.d.neg), .d (.sl 1 (y40.1.d.mag.map e_u32))], .d (.int .i64 y40.2)]) (by kernel_rfl) en52 (Res'.refl _) (F52_ok e58) ?_)
          obtain ⟨y41, e59, hF⟩ := bnd hF
          refine J_adv 3 (J_opt1 (o := geti (l22.map e_T_exact_Num) v2) (e_T_exact_Num y41) (by kernel_rfl) (gm e59) ?_)
          obtain ⟨l29, e60, hF⟩ := bnd hF
          have hst := stm (f := e_T_exact_Num) (z := y40.1) (k := 0) (xs := [.bool y40.1.n_.neg, .sl 1 (y40.1.n_.mag.map e_u32), .bool y40.1.d.neg, .sl 1 (y40.1.d.mag.map e_u32)]) (gj e59) rfl
          refine J_adv 0 (J_opt2 (o := (match (l22.map e_T_exact_Num)[0 + Int.toNat v2]? with | some old => some ((l22.map e_T_exact_Num).set (0 + Int.toNat v2) (setD old 0 [.bool y40.1.n_.neg, .sl 1 (y40.1.n_.mag.map e_u32), .bool y40.1.d.neg, .sl 1 (y40.1.d.mag.map e_u32)])) | none => none)) (l29.map e_T_exact_Num) (by kernel_rfl) (by cases e60; exact hst) ?_)
          obtain ⟨y42, e61, hF⟩ := bnd hF
          refine J_adv 0 (J_opt1 (o := geti (l21.map e_i64) v2) (e_i64 y42) (by kernel_rfl) (gm e61) ?_)
          obtain ⟨l30, e62, hF⟩ := bnd hF
          have hst := stm (f := e_i64) (z := y40.2) (k := 0) (xs := [.int .i64 y40.2]) (gj e61) rfl
          refine J_adv 0 (J_opt2 (o := (match (l21.map e_i64)[0 + Int.toNat v2]? with | some old => some ((l21.map e_i64).set (0 + Int.toNat v2) (setD old 0 [.int .i64 y40.2])) | none => none)) (l30.map e_i64) (by kernel_rfl) (by cases e62; exact hst) ?_)
          exact J_adv 2 (J_at [1, 2, 3, 6, 7, 17, 18, 19] [3, 12, 15] (T0 := [.code (cAt (bodyOf Tryz.f94) [1, 1, 0, 1, 0, 0, 1, 1, 1]), .inLoop (cAt (bodyOf Tryz.f94) [1, 1, 0, 1, 0, 0]), .inBlock 0, .code (cAt (bodyOf Tryz.f94) [1, 1, 1])]) (by kernel_rfl) rfl (hF94_A2 l30 l29 hF))
      · replace hF := iff' hb11 hF
        have hr_ := Option.some.inj hF; subst hr_
        exact J_adv 9 (J_ret (xs := [.d (.sl 4 (l22.map e_T_exact_Num)), .d (.sl 1 (l21.map e_i64))]) [.d (.sl 4 (l22.map e_T_exact_Num)), .d (.sl 1 (l21.map e_i64))] rfl rfl (by kernel_rfl) (Res'.refl _) rfl)
  refine J_adv 10 (J_frz (te := 88) 3 [.d (.sl 4 (d0.map e_T_exact_Num))] (by kernel_rfl) (by kernel_rfl) ?_)
  exact J_adv 0 (J_at [1, 2, 3, 6, 7, 17, 18, 19] [3, 12, 15] (T0 := [.inLoop (cAt (bodyOf Tryz.f94) [1, 1, 0, 1, 0, 0]), .inBlock 0, .code (cAt (bodyOf Tryz.f94) [1, 1, 1])]) (by kernel_rfl) rfl (hF94_L1 fuel 0 l2 l1 hF))
/- croupier/steps.Within -/
def F12_L1 (fuel : Nat) (d2 : Int) (y3 : List Int × List (List T_api_Choice) × Int) : Nat → (List T_exact_Num) → Int → Option (List (List UInt8) × Int)
  | 0, _, _ => none
  | n_F12_L1 + 1, l2, v2 =>
    bif decide (v2 < d2) then
      (Option.bind (F94 fuel l2 y3.1 y3.2.1 y3.2.2) fun y6 =>
      (F12_L1 fuel d2 y3 n_F12_L1) y6.1 (IntKind.i64.wrap (v2 + 1)))
    else
      (Option.bind (F46 fuel l2) fun y7 =>
      some (y7, 0))
def F12 (fuel : Nat) (d0 : T_api_Model) (d1 : Int) (d2 : Int) : Option (List (List UInt8) × Int) :=
  Option.bind (F43 fuel d0 d1 d2) fun y1 =>
  bif y1 != 0 then
    (some ([], y1))
  else
    (Option.bind (F44 fuel d0 d1) fun y2 =>
    Option.bind (F45 d0 d1) fun y3 =>
    F12_L1 fuel d2 y3 fuel y2 0)
theorem F12_ok {fuel : Nat} {d0 : T_api_Model} {d1 : Int} {d2 : Int} {r : List (List UInt8) × Int} (hF : F12 fuel d0 d1 d2 = some r) :
    CallF Tryz.prog 12 [.agg [.d (.sl 1 (d0.Owner.map e_i64)), .d (.sl 1 (d0.Choices.map e_lT_api_Choice))], .d (.int .u64 d1), .d (.int .i64 d2)] (.tup [.d (.sl 1 (r.1.map e_s)), .d (.int .i64 r.2)]) := by
  unfold F12 at hF
  refine callF_of (N := 36) (b := bodyOf Tryz.f12) Tryz.func12 (by kernel_rfl) rfl rfl ?_
  obtain ⟨y1, e1, hF⟩ := bnd hF
  refine J_adv 12 (J_callF (xs := [.agg [.d (.sl 1 (d0.Owner.map e_i64)), .d (.sl 1 (d0.Choices.map e_lT_api_Choice))], .d (.int .u64 d1), .d (.int .i64 d2)]) [.agg [.d (.sl 1 (d0.Owner.map e_i64)), .d (.sl 1 (d0.Choices.map e_lT_api_Choice))], .d (.int .u64 d1), .d (.int .i64 d2)] (.d (.int .i64 y1)) (by kernel_rfl) en43 (Res'.refl _) (F43_ok e1) ?_)
  refine J_adv 7 (J_bool 16 (b := y1 != 0) (by kernel_rfl) (fun hb1 => ?_) (fun hb1 => ?_))
  · replace hF := ift hb1 hF
    have hr_ := Option.some.inj hF; subst hr_
    exact J_adv 7 (J_ret (xs := [.d (.sl 1 ([].map e_s)), .d (.int .i64 y1)]) [.d (.sl 1 ([].map e_s)), .d (.int .i64 y1)] rfl rfl (by kernel_rfl) (Res'.refl _) rfl)
  · replace hF := iff' hb1 hF
    refine J_adv 3 (J_draw (by kernel_rfl) (by kernel_rfl) ?_)
    obtain ⟨y2, e2, hF⟩ := bnd hF
    refine JD_adv 2 (JD_callF (xs := [.agg [.d (.sl 1 (d0.Owner.map e_i64)), .d (.sl 1 (d0.Choices.map e_lT_api_Choice))], .d (.int .u64 d1)]) [.agg [.d (.sl 1 (d0.Owner.map e_i64)), .d (.sl 1 (d0.Choices.map e_lT_api_Choice))], .d (.int .u64 d1)] (.d (.sl 4 (y2.map e_T_exact_Num))) (by kernel_rfl) (by kernel_rfl) en44 (Res'.refl _) (F44_ok e2) ?_)
    obtain ⟨y3, e3, hF⟩ := bnd hF
    refine JD_adv 2 (JD_callR (os := []) (xs := [.agg [.d (.sl 1 (d0.Owner.map e_i64)), .d (.sl 1 (d0.Choices.map e_lT_api_Choice))], .d (.int .u64 d1)]) [(23, 2000), (1123, 2001)] [.agg [.d (.sl 1 (d0.Owner.map e_i64)), .d (.sl 1 (d0.Choices.map e_lT_api_Choice))], .d (.int .u64 d1)] [(2000, .box 34 [.d (.sl 1 (y3.1.map e_i64)), .d (.sl 1 (y3.2.1.map e_lT_api_Choice))]), (2001, .box 40 [.d (.int .u64 y3.2.2)])] (.fn 94 [] [.ptr 2000 0, .ptr 2001 0]) (by kernel_rfl) (by kernel_rfl) en45 (Res'.refl _) (F45_ok e3) ?_)
    refine JD_adv 2 (JD_end (by kernel_rfl) ?_)
    have hF12_L1 : ∀ (n_F12_L1 : Nat) (l2 : List T_exact_Num) (v2 : Int), F12_L1 fuel d2 y3 n_F12_L1 l2 v2 = some r → J none Tryz.prog 36 [] (finF Tryz.prog Tryz.f12 (.tup [.d (.sl 1 (r.1.map e_s)), .d (.int .i64 r.2)])) ⟨mkT [(9, .d (.sl 4 (l2.map e_T_exact_Num))), (10, .fn 94 [] [.ptr 23 0, .ptr 1123 0]), (24, .d (.int .i64 d2)), (25, .d (.int .i64 v2))], [(23, .fzb [.d (.sl 1 (y3.1.map e_i64)), .d (.sl 1 (y3.2.1.map e_lT_api_Choice))]), (1123, .fzb [.d (.int .u64 y3.2.2)])], [.inLoop (cAt (bodyOf Tryz.f12) [1, 1, 1, 0, 1, 0, 0]), .inBlock 0, .code (cAt (bodyOf Tryz.f12) [1, 1, 1, 1])]⟩ := by
      clear hF; intro n_F12_L1
      induction n_F12_L1 with
      | zero => intro l2 v2 hF; cases hF
      | succ n_F12_L1 ih_F12_L1 =>
        intro l2 v2 hF
        rw [F12_L1] at hF
        refine J_adv 6 (J_bool 26 (b := decide (v2 < d2)) (by kernel_rfl) (fun hb4 => ?_) (fun hb4 => ?_))
        · replace hF := ift hb4 hF
          obtain ⟨y6, e6, hF⟩ := bnd hF
          refine J_adv 7 (J_callF (xs := [.d (.sl 4 (l2.map e_T_exact_Num)), .rp [.sl 1 (y3.1.map e_i64), .sl 1 (y3.2.1.map e_lT_api_Choice)] 0, .rp [.int .u64 y3.2.2] 0]) [.d (.sl 4 (l2.map e_T_exact_Num)), .rp [.sl 1 (y3.1.map e_i64), .sl 1 (y3.2.1.map e_lT_api_Choice)] 0, .rp [.int .u64 y3.2.2] 0] (.tup [.d (.sl 4 (y6.1.map e_T_exact_Num)), .d (.sl 1 (y6.2.map e_i64))]) (by kernel_rfl) en94 (Res'.refl _) (F94_ok e6) ?_)
          exact J_adv 10 (J_at [9, 10, 24, 25] [23, 1123] (T0 := [.inLoop (cAt (bodyOf Tryz.f12) [1, 1, 1, 0, 1, 0, 0]), .inBlock 0, .code (cAt (bodyOf Tryz.f12) [1, 1, 1, 1])]) (by kernel_rfl) rfl (ih_F12_L1 y6.1 (IntKind.i64.wrap (v2 + 1)) hF))
        · replace hF := iff' hb4 hF
          obtain ⟨y7, e7, hF⟩ := bnd hF
          refine J_adv 5 (J_callF (xs := [.d (.sl 4 (l2.map e_T_exact_Num))]) [.d (.sl 4 (l2.map e_T_exact_Num))] (.d (.sl 1 (y7.map e_s))) (by kernel_rfl) en46 (Res'.refl _) (F46_ok e7) ?_)
          have hr_ := Option.some.inj hF; subst hr_
          exact J_adv 3 (J_ret (xs := [.d (.sl 1 (y7.map e_s)), .d (.int .i64 0)]) [.d (.sl 1 (y7.map e_s)), .d (.int .i64 0)] rfl rfl (by kernel_rfl) (Res'.refl _) rfl)
    refine J_adv 8 (J_frz (te := 40) 1123 [.d (.int .u64 y3.2.2)] (by kernel_rfl) (by kernel_rfl) ?_)
    refine J_adv 0 (J_frz (te := 34) 23 [.d (.sl 1 (y3.1.map e_i64)), .d (.sl 1 (y3.2.1.map e_lT_api_Choice))] (by kernel_rfl) (by kernel_rfl) ?_)
    exact J_adv 0 (J_at [9, 10, 24, 25] [23, 1123] (T0 := [.inLoop (cAt (bodyOf Tryz.f12) [1, 1, 1, 0, 1, 0, 0]), .inBlock 0, .code (cAt (bodyOf Tryz.f12) [1, 1, 1, 1])]) (by kernel_rfl) rfl (hF12_L1 fuel y2 0 hF))
def e_li64 (x : List Int) : List Dat := [.sl 1 (x.map e_i64)]
/- croupier/steps.Plan -/
def F15_L1 (fuel : Nat) (d2 : Int) (y3 : List Int × List (List T_api_Choice) × Int) : Nat → (List T_exact_Num) → Int → (List (List Int)) → Option (List (List Int) × Int)
  | 0, _, _, _ => none
  | n_F15_L1 + 1, l6, v2, l7 =>
    bif decide (v2 < d2) then
      (Option.bind (F94 fuel l6 y3.1 y3.2.1 y3.2.2) fun y8 =>
      Option.bind (geti l7 (IntKind.i64.wrap ((IntKind.i64.wrap (d2 - 1)) - v2))) fun y9 =>
      Option.bind (some (l7.set (0 + Int.toNat (IntKind.i64.wrap ((IntKind.i64.wrap (d2 - 1)) - v2))) y8.2)) fun l8 =>
      (F15_L1 fuel d2 y3 n_F15_L1) y8.1 (IntKind.i64.wrap (v2 + 1)) l8)
    else
      (some (l7, 0))
def F15 (fuel : Nat) (d0 : T_api_Model) (d1 : Int) (d2 : Int) : Option (List (List Int) × Int) :=
  Option.bind (F43 fuel d0 d1 d2) fun y1 =>
  bif y1 != 0 then
    (some ([], y1))
  else
    (Option.bind (F44 fuel d0 d1) fun y2 =>
    Option.bind (F45 d0 d1) fun y3 =>
    Option.bind (mkL d2 d2 []) fun l1 =>
    F15_L1 fuel d2 y3 fuel y2 0 l1)
theorem F15_ok {fuel : Nat} {d0 : T_api_Model} {d1 : Int} {d2 : Int} {r : List (List Int) × Int} (hF : F15 fuel d0 d1 d2 = some r) :
    CallF Tryz.prog 15 [.agg [.d (.sl 1 (d0.Owner.map e_i64)), .d (.sl 1 (d0.Choices.map e_lT_api_Choice))], .d (.int .u64 d1), .d (.int .i64 d2)] (.tup [.d (.sl 1 (r.1.map e_li64)), .d (.int .i64 r.2)]) := by
  unfold F15 at hF
  refine callF_of (N := 46) (b := bodyOf Tryz.f15) Tryz.func15 (by kernel_rfl) rfl rfl ?_
  obtain ⟨y1, e1, hF⟩ := bnd hF
  refine J_adv 12 (J_callF (xs := [.agg [.d (.sl 1 (d0.Owner.map e_i64)), .d (.sl 1 (d0.Choices.map e_lT_api_Choice))], .d (.int .u64 d1), .d (.int .i64 d2)]) [.agg [.d (.sl 1 (d0.Owner.map e_i64)), .d (.sl 1 (d0.Choices.map e_lT_api_Choice))], .d (.int .u64 d1), .d (.int .i64 d2)] (.d (.int .i64 y1)) (by kernel_rfl) en43 (Res'.refl _) (F43_ok e1) ?_)
  refine J_adv 7 (J_bool 18 (b := y1 != 0) (by kernel_rfl) (fun hb1 => ?_) (fun hb1 => ?_))
  · replace hF := ift hb1 hF
    have hr_ := Option.some.inj hF; subst hr_
    exact J_adv 7 (J_ret (xs := [.d (.sl 1 ([].map e_li64)), .d (.int .i64 y1)]) [.d (.sl 1 ([].map e_li64)), .d (.int .i64 y1)] rfl rfl (by kernel_rfl) (Res'.refl _) rfl)
  · replace hF := iff' hb1 hF
    refine J_adv 3 (J_draw (by kernel_rfl) (by kernel_rfl) ?_)
    obtain ⟨y2, e2, hF⟩ := bnd hF
    refine JD_adv 2 (JD_callF (xs := [.agg [.d (.sl 1 (d0.Owner.map e_i64)), .d (.sl 1 (d0.Choices.map e_lT_api_Choice))], .d (.int .u64 d1)]) [.agg [.d (.sl 1 (d0.Owner.map e_i64)), .d (.sl 1 (d0.Choices.map e_lT_api_Choice))], .d (.int .u64 d1)] (.d (.sl 4 (y2.map e_T_exact_Num))) (by kernel_rfl) (by kernel_rfl) en44 (Res'.refl _) (F44_ok e2) ?_)
    obtain ⟨y3, e3, hF⟩ := bnd hF
    refine JD_adv 2 (JD_callR (os := []) (xs := [.agg [.d (.sl 1 (d0.Owner.map e_i64)), .d (.sl 1 (d0.Choices.map e_lT_api_Choice))], .d (.int .u64 d1)]) [(25, 2000), (1125, 2001)] [.agg [.d (.sl 1 (d0.Owner.map e_i64)), .d (.sl 1 (d0.Choices.map e_lT_api_Choice))], .d (.int .u64 d1)] [(2000, .box 34 [.d (.sl 1 (y3.1.map e_i64)), .d (.sl 1 (y3.2.1.map e_lT_api_Choice))]), (2001, .box 40 [.d (.int .u64 y3.2.2)])] (.fn 94 [] [.ptr 2000 0, .ptr 2001 0]) (by kernel_rfl) (by kernel_rfl) en45 (Res'.refl _) (F45_ok e3) ?_)
    refine JD_adv 2 (JD_end (by kernel_rfl) ?_)
    obtain ⟨l1, e4, hF⟩ := bnd hF
    refine J_adv 3 (J_opt2 (o := mk2 d2 d2 (e_li64 [])) (l1.map e_li64) (by kernel_rfl) (mm e4) ?_)
    refine J_adv 2 (J_flat (g := 0) (sz := 1) (e := 22) (shs := [.o 3 1 [.z]]) (es := l1.map e_li64) 27 (by kernel_rfl) ?_)
    have hF15_L1 : ∀ (n_F15_L1 : Nat) (l6 : List T_exact_Num) (v2 : Int) (l7 : List (List Int)), F15_L1 fuel d2 y3 n_F15_L1 l6 v2 l7 = some r → J none Tryz.prog 46 [] (finF Tryz.prog Tryz.f15 (.tup [.d (.sl 1 (r.1.map e_li64)), .d (.int .i64 r.2)])) ⟨mkT [(2, .d (.int .i64 d2)), (9, .d (.sl 4 (l6.map e_T_exact_Num))), (10, .fn 94 [] [.ptr 25 0, .ptr 1125 0]), (11, .suf 27 0 0), (28, .d (.int .i64 d2)), (29, .d (.int .i64 v2))], [(25, .fzb [.d (.sl 1 (y3.1.map e_i64)), .d (.sl 1 (y3.2.1.map e_lT_api_Choice))]), (27, .buf 0 22 1 (l7.map e_li64)), (1125, .fzb [.d (.int .u64 y3.2.2)])], [.inLoop (cAt (bodyOf Tryz.f15) [1, 1, 1, 1, 0, 1, 0, 0]), .inBlock 0, .code (cAt (bodyOf Tryz.f15) [1, 1, 1, 1, 1])]⟩ := by
      clear hF; intro n_F15_L1
      induction n_F15_L1 with
      | zero => intro l6 v2 l7 hF; cases hF
      | succ n_F15_L1 ih_F15_L1 =>
        intro l6 v2 l7 hF
        rw [F15_L1] at hF
        refine J_adv 6 (J_bool 30 (b := decide (v2 < d2)) (by kernel_rfl) (fun hb4 => ?_) (fun hb4 => ?_))
        · replace hF := ift hb4 hF
          obtain ⟨y8, e11, hF⟩ := bnd hF
          refine J_adv 17 (J_callF (xs := [.d (.sl 4 (l6.map e_T_exact_Num)), .rp [.sl 1 (y3.1.map e_i64), .sl 1 (y3.2.1.map e_lT_api_Choice)] 0, .rp [.int .u64 y3.2.2] 0]) [.d (.sl 4 (l6.map e_T_exact_Num)), .rp [.sl 1 (y3.1.map e_i64), .sl 1 (y3.2.1.map e_lT_api_Choice)] 0, .rp [.int .u64 y3.2.2] 0] (.tup [.d (.sl 4 (y8.1.map e_T_exact_Num)), .d (.sl 1 (y8.2.map e_i64))]) (by kernel_rfl) en94 (Res'.refl _) (F94_ok e11) ?_)
          obtain ⟨y9, e12, hF⟩ := bnd hF
          refine J_adv 4 (J_opt1 (o := geti (l7.map e_li64) (IntKind.i64.wrap ((IntKind.i64.wrap (d2 - 1)) - v2))) (e_li64 y9) (by kernel_rfl) (gm e12) ?_)
          obtain ⟨l8, e13, hF⟩ := bnd hF
          have hst := stm (f := e_li64) (z := y8.2) (k := 0) (xs := [.sl 1 (y8.2.map e_i64)]) (gj e12) rfl
          refine J_adv 0 (J_opt2 (o := (match (l7.map e_li64)[0 + Int.toNat (IntKind.i64.wrap ((IntKind.i64.wrap (d2 - 1)) - v2))]? with | some old => some ((l7.map e_li64).set (0 + Int.toNat (IntKind.i64.wrap ((IntKind.i64.wrap (d2 - 1)) - v2))) (setD old 0 [.sl 1 (y8.2.map e_i64)])) | none => none)) (l8.map e_li64) (by kernel_rfl) (by cases e13; exact hst) ?_)
          exact J_adv 6 (J_at [2, 9, 10, 11, 28, 29] [25, 27, 1125] (T0 := [.inLoop (cAt (bodyOf Tryz.f15) [1, 1, 1, 1, 0, 1, 0, 0]), .inBlock 0, .code (cAt (bodyOf Tryz.f15) [1, 1, 1, 1, 1])]) (by kernel_rfl) rfl (ih_F15_L1 y8.1 (IntKind.i64.wrap (v2 + 1)) l8 hF))
        · replace hF := iff' hb4 hF
          have hr_ := Option.some.inj hF; subst hr_
          exact J_adv 8 (J_ret (xs := [.d (.sl 1 (l7.map e_li64)), .d (.int .i64 0)]) [.d (.sl 1 (l7.map e_li64)), .d (.int .i64 0)] rfl rfl (by kernel_rfl) (Res'.refl _) rfl)
    refine J_adv 8 (J_frz (te := 40) 1125 [.d (.int .u64 y3.2.2)] (by kernel_rfl) (by kernel_rfl) ?_)
    refine J_adv 0 (J_frz (te := 34) 25 [.d (.sl 1 (y3.1.map e_i64)), .d (.sl 1 (y3.2.1.map e_lT_api_Choice))] (by kernel_rfl) (by kernel_rfl) ?_)
    exact J_adv 0 (J_at [2, 9, 10, 11, 28, 29] [25, 27, 1125] (T0 := [.inLoop (cAt (bodyOf Tryz.f15) [1, 1, 1, 1, 0, 1, 0, 0]), .inBlock 0, .code (cAt (bodyOf Tryz.f15) [1, 1, 1, 1, 1])]) (by kernel_rfl) rfl (hF15_L1 fuel y2 0 l1 hF))
/- croupier/steps.Least -/
def F13_L1 (fuel : Nat) (d1 : Int) (y3 : T_exact_Num) (y11 : List Int × List (List T_api_Choice) × Int) : Nat → (List T_exact_Num) → Int → Option (Int × Int)
  | 0, _, _ => none
  | n_F13_L1 + 1, l2, v2 =>
    bif decide (v2 < 61) then
      (Option.bind (geti l2 d1) fun y18 =>
      Option.bind (F50 fuel y18 y3) fun y19 =>
      bif decide (y19 ≥ 0) then
        (some (v2, 0))
      else
        (Option.bind (F94 fuel l2 y11.1 y11.2.1 y11.2.2) fun y20 =>
        (F13_L1 fuel d1 y3 y11 n_F13_L1) y20.1 (IntKind.i64.wrap (v2 + 1))))
    else
      (some (0, 4))
def F13 (fuel : Nat) (d0 : T_api_Model) (d1 : Int) (d2 : Int) (d3 : List UInt8) : Option (Int × Int) :=
  Option.bind (F43 fuel d0 d2 0) fun y1 =>
  bif y1 != 0 then
    (some (0, y1))
  else
    (Option.bind (
      bif decide (d1 < 0) then
        (some true)
      else
        (some (decide (d1 ≥ ((d0.Owner.map e_i64).length : Int))))) fun o1 =>
    bif o1 then
      (some (0, 2))
    else
      (Option.bind (F47 fuel d3) fun y2 =>
      bif y2 != 0 then
        (some (0, 5))
      else
        (Option.bind (F48 fuel d3) fun y3 =>
        Option.bind (
          Option.bind (F49 y3) fun y21 =>
          bif decide (y21 < 0) then
            (some true)
          else
            (Option.bind (F51 fuel 1 1) fun y22 =>
            Option.bind (F50 fuel y3 y22) fun y23 =>
            some (decide (y23 > 0)))) fun o2 =>
        bif o2 then
          (some (0, 2))
        else
          (Option.bind (F44 fuel d0 d2) fun y10 =>
          Option.bind (F45 d0 d2) fun y11 =>
          F13_L1 fuel d1 y3 y11 fuel y10 0))))
theorem F13_ok {fuel : Nat} {d0 : T_api_Model} {d1 : Int} {d2 : Int} {d3 : List UInt8} {r : Int × Int} (hF : F13 fuel d0 d1 d2 d3 = some r) :
    CallF Tryz.prog 13 [.agg [.d (.sl 1 (d0.Owner.map e_i64)), .d (.sl 1 (d0.Choices.map e_lT_api_Choice))], .d (.int .i64 d1), .d (.int .u64 d2), .d (.str d3)] (.tup [.d (.int .i64 r.1), .d (.int .i64 r.2)]) := by
  unfold F13 at hF
  refine callF_of (N := 68) (b := bodyOf Tryz.f13) Tryz.func13 (by kernel_rfl) rfl rfl ?_
  obtain ⟨y1, e1, hF⟩ := bnd hF
  refine J_adv 11 (J_callF (xs := [.agg [.d (.sl 1 (d0.Owner.map e_i64)), .d (.sl 1 (d0.Choices.map e_lT_api_Choice))], .d (.int .u64 d2), .d (.int .i64 0)]) [.agg [.d (.sl 1 (d0.Owner.map e_i64)), .d (.sl 1 (d0.Choices.map e_lT_api_Choice))], .d (.int .u64 d2), .d (.int .i64 0)] (.d (.int .i64 y1)) (by kernel_rfl) en43 (Res'.refl _) (F43_ok e1) ?_)
  refine J_adv 7 (J_bool 19 (b := y1 != 0) (by kernel_rfl) (fun hb1 => ?_) (fun hb1 => ?_))
  · replace hF := ift hb1 hF
    have hr_ := Option.some.inj hF; subst hr_
    exact J_adv 7 (J_ret (xs := [.d (.int .i64 0), .d (.int .i64 y1)]) [.d (.int .i64 0), .d (.int .i64 y1)] rfl rfl (by kernel_rfl) (Res'.refl _) rfl)
  · replace hF := iff' hb1 hF
    obtain ⟨o1, hO, hF⟩ := bnd hF
    have hR1 : J none Tryz.prog 68 [] (finF Tryz.prog Tryz.f13 (.tup [.d (.int .i64 r.1), .d (.int .i64 r.2)])) ⟨mkT [(1, .d (.int .i64 d1)), (2, .d (.int .u64 d2)), (3, .d (.str d3)), (4, .ptr 4 0), (29, .d (.bool o1))], [(4, .box 34 [.d (.sl 1 (d0.Owner.map e_i64)), .d (.sl 1 (d0.Choices.map e_lT_api_Choice))])], [.ops (opsOf (cAt (bodyOf Tryz.f13) [1, 1, 0, 0])) [], .code (cAt (bodyOf Tryz.f13) [1, 1, 0, 1]), .code (cAt (bodyOf Tryz.f13) [1, 1, 1])]⟩ := by
      clear hO
      refine J_adv 1 (J_bool 29 (b := o1) (by kernel_rfl) (fun hb4 => ?_) (fun hb4 => ?_))
      · replace hF := ift hb4 hF
        have hr_ := Option.some.inj hF; subst hr_
        exact J_adv 6 (J_ret (xs := [.d (.int .i64 0), .d (.int .i64 2)]) [.d (.int .i64 0), .d (.int .i64 2)] rfl rfl (by kernel_rfl) (Res'.refl _) rfl)
      · replace hF := iff' hb4 hF
        obtain ⟨y2, e2, hF⟩ := bnd hF
        refine J_adv 6 (J_callF (xs := [.d (.str d3)]) [.d (.str d3)] (.d (.int .i64 y2)) (by kernel_rfl) en47 (Res'.refl _) (F47_ok e2) ?_)
        refine J_adv 2 (J_bool 32 (b := y2 != 0) (by kernel_rfl) (fun hb5 => ?_) (fun hb5 => ?_))
        · replace hF := ift hb5 hF
          have hr_ := Option.some.inj hF; subst hr_
          exact J_adv 6 (J_ret (xs := [.d (.int .i64 0), .d (.int .i64 5)]) [.d (.int .i64 0), .d (.int .i64 5)] rfl rfl (by kernel_rfl) (Res'.refl _) rfl)
        · replace hF := iff' hb5 hF
          obtain ⟨y3, e3, hF⟩ := bnd hF
          refine J_adv 5 (J_callF (xs := [.d (.str d3)]) [.d (.str d3)] (.agg [.d (.bool y3.n_.neg), .d (.sl 1 (y3.n_.mag.map e_u32)), .d (.bool y3.d.neg), .d (.sl 1 (y3.d.mag.map e_u32))]) (by kernel_rfl) en48 (Res'.refl _) (F48_ok e3) ?_)
          obtain ⟨o2, hO, hF⟩ := bnd hF
          have hR2 : J none Tryz.prog 68 [] (finF Tryz.prog Tryz.f13 (.tup [.d (.int .i64 r.1), .d (.int .i64 r.2)])) ⟨mkT [(1, .d (.int .i64 d1)), (2, .d (.int .u64 d2)), (4, .ptr 4 0), (11, .ptr 11 0), (43, .d (.bool o2))], [(4, .box 34 [.d (.sl 1 (d0.Owner.map e_i64)), .d (.sl 1 (d0.Choices.map e_lT_api_Choice))]), (11, .box 100 [.d (.bool y3.n_.neg), .d (.sl 1 (y3.n_.mag.map e_u32)), .d (.bool y3.d.neg), .d (.sl 1 (y3.d.mag.map e_u32))])], [.code (cAt (bodyOf Tryz.f13) [1, 1, 1, 1, 1, 0, 1]), .code (cAt (bodyOf Tryz.f13) [1, 1, 1, 1, 1, 1])]⟩ := by
            clear hO
            refine J_adv 0 (J_bool 43 (b := o2) (by kernel_rfl) (fun hb8 => ?_) (fun hb8 => ?_))
            · replace hF := ift hb8 hF
              have hr_ := Option.some.inj hF; subst hr_
              exact J_adv 6 (J_ret (xs := [.d (.int .i64 0), .d (.int .i64 2)]) [.d (.int .i64 0), .d (.int .i64 2)] rfl rfl (by kernel_rfl) (Res'.refl _) rfl)
            · replace hF := iff' hb8 hF
              refine J_adv 3 (J_draw (by kernel_rfl) (by kernel_rfl) ?_)
              obtain ⟨y10, e10, hF⟩ := bnd hF
              refine JD_adv 2 (JD_callF (xs := [.agg [.d (.sl 1 (d0.Owner.map e_i64)), .d (.sl 1 (d0.Choices.map e_lT_api_Choice))], .d (.int .u64 d2)]) [.agg [.d (.sl 1 (d0.Owner.map e_i64)), .d (.sl 1 (d0.Choices.map e_lT_api_Choice))], .d (.int .u64 d2)] (.d (.sl 4 (y10.map e_T_exact_Num))) (by kernel_rfl) (by kernel_rfl) en44 (Res'.refl _) (F44_ok e10) ?_)
              obtain ⟨y11, e11, hF⟩ := bnd hF
              refine JD_adv 2 (JD_callR (os := []) (xs := [.agg [.d (.sl 1 (d0.Owner.map e_i64)), .d (.sl 1 (d0.Choices.map e_lT_api_Choice))], .d (.int .u64 d2)]) [(49, 2000), (1149, 2001)] [.agg [.d (.sl 1 (d0.Owner.map e_i64)), .d (.sl 1 (d0.Choices.map e_lT_api_Choice))], .d (.int .u64 d2)] [(2000, .box 34 [.d (.sl 1 (y11.1.map e_i64)), .d (.sl 1 (y11.2.1.map e_lT_api_Choice))]), (2001, .box 40 [.d (.int .u64 y11.2.2)])] (.fn 94 [] [.ptr 2000 0, .ptr 2001 0]) (by kernel_rfl) (by kernel_rfl) en45 (Res'.refl _) (F45_ok e11) ?_)
              refine JD_adv 2 (JD_end (by kernel_rfl) ?_)
              have hF13_L1 : ∀ (n_F13_L1 : Nat) (l2 : List T_exact_Num) (v2 : Int), F13_L1 fuel d1 y3 y11 n_F13_L1 l2 v2 = some r → J none Tryz.prog 68 [] (finF Tryz.prog Tryz.f13 (.tup [.d (.int .i64 r.1), .d (.int .i64 r.2)])) ⟨mkT [(1, .d (.int .i64 d1)), (11, .ptr 11 0), (12, .d (.sl 4 (l2.map e_T_exact_Num))), (13, .fn 94 [] [.ptr 49 0, .ptr 1149 0]), (50, .d (.int .i64 v2))], [(11, .box 100 [.d (.bool y3.n_.neg), .d (.sl 1 (y3.n_.mag.map e_u32)), .d (.bool y3.d.neg), .d (.sl 1 (y3.d.mag.map e_u32))]), (49, .fzb [.d (.sl 1 (y11.1.map e_i64)), .d (.sl 1 (y11.2.1.map e_lT_api_Choice))]), (1149, .fzb [.d (.int .u64 y11.2.2)])], [.inLoop (cAt (bodyOf Tryz.f13) [1, 1, 1, 1, 1, 1, 1, 0, 1, 0, 0]), .inBlock 0, .code (cAt (bodyOf Tryz.f13) [1, 1, 1, 1, 1, 1, 1, 1])]⟩ := by
                clear hF; intro n_F13_L1
                induction n_F13_L1 with
                | zero => intro l2 v2 hF; cases hF
                | succ n_F13_L1 ih_F13_L1 =>
                  intro l2 v2 hF
                  rw [F13_L1] at hF
                  refine J_adv 6 (J_bool 51 (b := decide (v2 < 61)) (by kernel_rfl) (fun hb12 => ?_) (fun hb12 => ?_))
                  · replace hF := ift hb12 hF
                    refine J_adv 11 (J_draw (by kernel_rfl) (by kernel_rfl) ?_)
                    obtain ⟨y18, e18, hF⟩ := bnd hF
                    refine JD_adv 2 (JD_opt1 (o := geti (l2.map e_T_exact_Num) d1) (e_T_exact_Num y18) (by kernel_rfl) (by kernel_rfl) (gm e18) ?_)
                    obtain ⟨y19, e19, hF⟩ := bnd hF
                    refine JD_adv 2 (JD_callF (xs := [.agg [.d (.bool y18.n_.neg), .d (.sl 1 (y18.n_.mag.map e_u32)), .d (.bool y18.d.neg), .d (.sl 1 (y18.d.mag.map e_u32))], .agg [.d (.bool y3.n_.neg), .d (.sl 1 (y3.n_.mag.map e_u32)), .d (.bool y3.d.neg), .d (.sl 1 (y3.d.mag.map e_u32))]]) [.agg [.d (.bool y18.n_.neg), .d (.sl 1 (y18.n_.mag.map e_u32)), .d (.bool y18.d.neg), .d (.sl 1 (y18.d.mag.map e_u32))], .agg [.d (.bool y3.n_.neg), .d (.sl 1 (y3.n_.mag.map e_u32)), .d (.bool y3.d.neg), .d (.sl 1 (y3.d.mag.map e_u32))]] (.d (.int .i64 y19)) (by kernel_rfl) (by kernel_rfl) en50 (Res'.refl _) (F50_ok e19) ?_)
                    refine JD_adv 1 (JD_end (by kernel_rfl) ?_)
                    refine J_adv 0 (J_bool 59 (b := decide (y19 ≥ 0)) (by kernel_rfl) (fun hb13 => ?_) (fun hb13 => ?_))
                    · replace hF := ift hb13 hF
                      have hr_ := Option.some.inj hF; subst hr_
                      exact J_adv 7 (J_ret (xs := [.d (.int .i64 v2), .d (.int .i64 0)]) [.d (.int .i64 v2), .d (.int .i64 0)] rfl rfl (by kernel_rfl) (Res'.refl _) rfl)
                    · replace hF := iff' hb13 hF
                      obtain ⟨y20, e20, hF⟩ := bnd hF
                      refine J_adv 5 (J_callF (xs := [.d (.sl 4 (l2.map e_T_exact_Num)), .rp [.sl 1 (y11.1.map e_i64), .sl 1 (y11.2.1.map e_lT_api_Choice)] 0, .rp [.int .u64 y11.2.2] 0]) [.d (.sl 4 (l2.map e_T_exact_Num)), .rp [.sl 1 (y11.1.map e_i64), .sl 1 (y11.2.1.map e_lT_api_Choice)] 0, .rp [.int .u64 y11.2.2] 0] (.tup [.d (.sl 4 (y20.1.map e_T_exact_Num)), .d (.sl 1 (y20.2.map e_i64))]) (by kernel_rfl) en94 (Res'.refl _) (F94_ok e20) ?_)
                      exact J_adv 10 (J_at [1, 11, 12, 13, 50] [11, 49, 1149] (T0 := [.inLoop (cAt (bodyOf Tryz.f13) [1, 1, 1, 1, 1, 1, 1, 0, 1, 0, 0]), .inBlock 0, .code (cAt (bodyOf Tryz.f13) [1, 1, 1, 1, 1, 1, 1, 1])]) (by kernel_rfl) rfl (ih_F13_L1 y20.1 (IntKind.i64.wrap (v2 + 1)) hF))
                  · replace hF := iff' hb12 hF
                    have hr_ := Option.some.inj hF; subst hr_
                    exact J_adv 7 (J_ret (xs := [.d (.int .i64 0), .d (.int .i64 4)]) [.d (.int .i64 0), .d (.int .i64 4)] rfl rfl (by kernel_rfl) (Res'.refl _) rfl)
              refine J_adv 7 (J_frz (te := 40) 1149 [.d (.int .u64 y11.2.2)] (by kernel_rfl) (by kernel_rfl) ?_)
              refine J_adv 0 (J_frz (te := 34) 49 [.d (.sl 1 (y11.1.map e_i64)), .d (.sl 1 (y11.2.1.map e_lT_api_Choice))] (by kernel_rfl) (by kernel_rfl) ?_)
              exact J_adv 0 (J_at [1, 11, 12, 13, 50] [11, 49, 1149] (T0 := [.inLoop (cAt (bodyOf Tryz.f13) [1, 1, 1, 1, 1, 1, 1, 0, 1, 0, 0]), .inBlock 0, .code (cAt (bodyOf Tryz.f13) [1, 1, 1, 1, 1, 1, 1, 1])]) (by kernel_rfl) rfl (hF13_L1 fuel y10 0 hF))
          clear hF; rename _ = some o2 => hF
          refine J_adv 5 (J_draw (by kernel_rfl) (by kernel_rfl) ?_)
          obtain ⟨y21, e21, hF⟩ := bnd hF
          refine JD_adv 1 (JD_callF (xs := [.agg [.d (.bool y3.n_.neg), .d (.sl 1 (y3.n_.mag.map e_u32)), .d (.bool y3.d.neg), .d (.sl 1 (y3.d.mag.map e_u32))]]) [.agg [.d (.bool y3.n_.neg), .d (.sl 1 (y3.n_.mag.map e_u32)), .d (.bool y3.d.neg), .d (.sl 1 (y3.d.mag.map e_u32))]] (.d (.int .i64 y21)) (by kernel_rfl) (by kernel_rfl) en49 (Res'.refl _) (F49_ok e21) ?_)
          refine JD_adv 2 (JD_bool 38 (b := decide (y21 < 0)) (by kernel_rfl) (fun hb14 => ?_) (fun hb14 => ?_))
          · replace hF := ift hb14 hF
            refine JD_adv 5 (JD_end (by kernel_rfl) ?_)
            have hr_ := Option.some.inj hF; subst hr_
            exact J_adv 0 (J_at [1, 2, 4, 11, 43] [4, 11] (T0 := [.code (cAt (bodyOf Tryz.f13) [1, 1, 1, 1, 1, 0, 1]), .code (cAt (bodyOf Tryz.f13) [1, 1, 1, 1, 1, 1])]) (by kernel_rfl) rfl hR2)
          · replace hF := iff' hb14 hF
            obtain ⟨y22, e22, hF⟩ := bnd hF
            refine JD_adv 1 (JD_callF (xs := [.d (.int .i64 1), .d (.int .i64 1)]) [.d (.int .i64 1), .d (.int .i64 1)] (.agg [.d (.bool y22.n_.neg), .d (.sl 1 (y22.n_.mag.map e_u32)), .d (.bool y22.d.neg), .d (.sl 1 (y22.d.mag.map e_u32))]) (by kernel_rfl) (by kernel_rfl) en51 (Res'.refl _) (F51_ok e22) ?_)
            obtain ⟨y23, e23, hF⟩ := bnd hF
            refine JD_adv 0 (JD_callF (xs := [.agg [.d (.bool y3.n_.neg), .d (.sl 1 (y3.n_.mag.map e_u32)), .d (.bool y3.d.neg), .d (.sl 1 (y3.d.mag.map e_u32))], .agg [.d (.bool y22.n_.neg), .d (.sl 1 (y22.n_.mag.map e_u32)), .d (.bool y22.d.neg), .d (.sl 1 (y22.d.mag.map e_u32))]]) [.agg [.d (.bool y3.n_.neg), .d (.sl 1 (y3.n_.mag.map e_u32)), .d (.bool y3.d.neg), .d (.sl 1 (y3.d.mag.map e_u32))], .agg [.d (.bool y22.n_.neg), .d (.sl 1 (y22.n_.mag.map e_u32)), .d (.bool y22.d.neg), .d (.sl 1 (y22.d.mag.map e_u32))]] (.d (.int .i64 y23)) (by kernel_rfl) (by kernel_rfl) en50 (Res'.refl _) (F50_ok e23) ?_)
            refine JD_adv 2 (JD_end (by kernel_rfl) ?_)
            have hr_ := Option.some.inj hF; subst hr_
            exact J_adv 0 (J_at [1, 2, 4, 11, 43] [4, 11] (T0 := [.code (cAt (bodyOf Tryz.f13) [1, 1, 1, 1, 1, 0, 1]), .code (cAt (bodyOf Tryz.f13) [1, 1, 1, 1, 1, 1])]) (by kernel_rfl) rfl hR2)
    clear hF; rename _ = some o1 => hF
    refine J_adv 8 (J_bool 23 (b := decide (d1 < 0)) (by kernel_rfl) (fun hb15 => ?_) (fun hb15 => ?_))
    · replace hF := ift hb15 hF
      have hr_ := Option.some.inj hF; subst hr_
      exact J_adv 6 (J_at [1, 2, 3, 4, 29] [4] (T0 := [.ops (opsOf (cAt (bodyOf Tryz.f13) [1, 1, 0, 0])) [], .code (cAt (bodyOf Tryz.f13) [1, 1, 0, 1]), .code (cAt (bodyOf Tryz.f13) [1, 1, 1])]) (by kernel_rfl) rfl hR1)
    · replace hF := iff' hb15 hF
      have hr_ := Option.some.inj hF; subst hr_
      exact J_adv 6 (J_at [1, 2, 3, 4, 29] [4] (T0 := [.ops (opsOf (cAt (bodyOf Tryz.f13) [1, 1, 0, 0])) [], .code (cAt (bodyOf Tryz.f13) [1, 1, 0, 1]), .code (cAt (bodyOf Tryz.f13) [1, 1, 1])]) (by kernel_rfl) rfl hR1)
/- croupier/steps.Gains$1 -/
/- croupier/steps.best(croupier/api.Choice) -/
/- croupier/steps.Gains$1 -/
def F53a (fuel : Nat) (d0 : T_api_Choice) (d1 : List T_exact_Num) : Option T_exact_Num :=
  Option.bind (F48 fuel d0.Gain) fun y1 =>
  Option.bind (F55 fuel d0 d1) fun y2 =>
  Option.bind (F54 fuel y1 y2) fun y3 =>
  some y3
theorem F53a_ok {fuel : Nat} {d0 : T_api_Choice} {d1 : List T_exact_Num} {r : T_exact_Num} (hF : F53a fuel d0 d1 = some r) :
    CallR Tryz.prog 53 [(2000, .box 88 [.d (.sl 4 (d1.map e_T_exact_Num))])] [.agg [.d (.str d0.Act), .d (.str d0.Gain), .d (.sl 2 (d0.Next.map e_T_api_Branch))], .ptr 2000 0] [(2000, .box 88 [.d (.sl 4 (d1.map e_T_exact_Num))])] (.agg [.d (.bool r.n_.neg), .d (.sl 1 (r.n_.mag.map e_u32)), .d (.bool r.d.neg), .d (.sl 1 (r.d.mag.map e_u32))]) := by
  unfold F53a at hF
  refine callR_of (N := 11) (b := bodyOf Tryz.f53) Tryz.func53 (by kernel_rfl) rfl rfl ?_
  refine J_adv 6 (J_draw (by kernel_rfl) (by kernel_rfl) ?_)
  obtain ⟨y1, e1, hF⟩ := bnd hF
  refine JD_adv 2 (JD_callF (xs := [.d (.str d0.Gain)]) [.d (.str d0.Gain)] (.agg [.d (.bool y1.n_.neg), .d (.sl 1 (y1.n_.mag.map e_u32)), .d (.bool y1.d.neg), .d (.sl 1 (y1.d.mag.map e_u32))]) (by kernel_rfl) (by kernel_rfl) en48 (Res'.refl _) (F48_ok e1) ?_)
  obtain ⟨y2, e2, hF⟩ := bnd hF
  refine JD_adv 2 (JD_callF (xs := [.agg [.d (.str d0.Act), .d (.str d0.Gain), .d (.sl 2 (d0.Next.map e_T_api_Branch))], .d (.sl 4 (d1.map e_T_exact_Num))]) [.agg [.d (.str d0.Act), .d (.str d0.Gain), .d (.sl 2 (d0.Next.map e_T_api_Branch))], .d (.sl 4 (d1.map e_T_exact_Num))] (.agg [.d (.bool y2.n_.neg), .d (.sl 1 (y2.n_.mag.map e_u32)), .d (.bool y2.d.neg), .d (.sl 1 (y2.d.mag.map e_u32))]) (by kernel_rfl) (by kernel_rfl) en55 (Res'.refl _) (F55_ok e2) ?_)
  obtain ⟨y3, e3, hF⟩ := bnd hF
  refine JD_adv 0 (JD_callF (xs := [.agg [.d (.bool y1.n_.neg), .d (.sl 1 (y1.n_.mag.map e_u32)), .d (.bool y1.d.neg), .d (.sl 1 (y1.d.mag.map e_u32))], .agg [.d (.bool y2.n_.neg), .d (.sl 1 (y2.n_.mag.map e_u32)), .d (.bool y2.d.neg), .d (.sl 1 (y2.d.mag.map e_u32))]]) [.agg [.d (.bool y1.n_.neg), .d (.sl 1 (y1.n_.mag.map e_u32)), .d (.bool y1.d.neg), .d (.sl 1 (y1.d.mag.map e_u32))], .agg [.d (.bool y2.n_.neg), .d (.sl 1 (y2.n_.mag.map e_u32)), .d (.bool y2.d.neg), .d (.sl 1 (y2.d.mag.map e_u32))]] (.agg [.d (.bool y3.n_.neg), .d (.sl 1 (y3.n_.mag.map e_u32)), .d (.bool y3.d.neg), .d (.sl 1 (y3.d.mag.map e_u32))]) (by kernel_rfl) (by kernel_rfl) en54 (Res'.refl _) (F54_ok e3) ?_)
  refine JD_adv 1 (JD_end (by kernel_rfl) ?_)
  have hr_ := Option.some.inj hF; subst hr_
  exact J_adv 0 (J_retR (xs := [.agg [.d (.bool y3.n_.neg), .d (.sl 1 (y3.n_.mag.map e_u32)), .d (.bool y3.d.neg), .d (.sl 1 (y3.d.mag.map e_u32))]]) [.agg [.d (.bool y3.n_.neg), .d (.sl 1 (y3.n_.mag.map e_u32)), .d (.bool y3.d.neg), .d (.sl 1 (y3.d.mag.map e_u32))]] rfl (by kernel_rfl) (by kernel_rfl) (Res'.refl _) rfl)
/- croupier/steps.best(croupier/api.Choice) -/
def F52b_A2 (v6 : Int) (rec_F52b_L1 : Int → Int → Bool → (List Int) → Bool → (List Int) → Option (T_exact_Num × Int)) (v7 : Int) (t14 : Bool) (l10 : List Int) (t15 : Bool) (l11 : List Int) : Option (T_exact_Num × Int) :=
  rec_F52b_L1 v7 (IntKind.i64.wrap (v6 + 1)) t14 l10 t15 l11
def F52b_L1 (fuel : Nat) (d0 : Int) (d2 : List T_exact_Num) (l1 : List T_api_Choice) : Nat → Int → Int → Bool → (List Int) → Bool → (List Int) → Option (T_exact_Num × Int)
  | 0, _, _, _, _, _, _ => none
  | n_F52b_L1 + 1, v5, v6, t11, l8, t12, l9 =>
    bif decide (v6 < ((l1.map e_T_api_Choice).length : Int)) then
      (Option.bind (geti l1 v6) fun y18 =>
      Option.bind (F53a fuel y18 d2) fun y19 =>
      Option.bind (F50 fuel y19 (⟨(⟨t11, l8⟩ : T_exact_Whole), (⟨t12, l9⟩ : T_exact_Whole)⟩ : T_exact_Num)) fun y20 =>
      Option.bind (
        bif d0 == 0 then
          (bif decide (y20 > 0) then
            (some true)
          else
            (bif d0 == 1 then
              (some (decide (y20 < 0)))
            else
              (some false)))
        else
          (bif d0 == 1 then
            (some (decide (y20 < 0)))
          else
            (some false))) fun o6 =>
      bif o6 then
        (F52b_A2 v6 (F52b_L1 fuel d0 d2 l1 n_F52b_L1) (IntKind.i64.wrap (v6 + 1)) y19.n_.neg y19.n_.mag y19.d.neg y19.d.mag)
      else
        (F52b_A2 v6 (F52b_L1 fuel d0 d2 l1 n_F52b_L1) v5 t11 l8 t12 l9))
    else
      (some ((⟨(⟨t11, l8⟩ : T_exact_Whole), (⟨t12, l9⟩ : T_exact_Whole)⟩ : T_exact_Num), v5))
def F52b (fuel : Nat) (d0 : Int) (d1 : List T_api_Choice) (d2 : List T_exact_Num) : Option (T_exact_Num × Int) :=
  Option.bind (geti d1 0) fun y1 =>
  Option.bind (F53a fuel y1 d2) fun y2 =>
  Option.bind (slc d1 1 (d1.length : Int)) fun l1 =>
  F52b_L1 fuel d0 d2 l1 fuel 0 0 y2.n_.neg y2.n_.mag y2.d.neg y2.d.mag
theorem F52b_ok {fuel : Nat} {d0 : Int} {d1 : List T_api_Choice} {d2 : List T_exact_Num} {r : T_exact_Num × Int} (hF : F52b fuel d0 d1 d2 = some r) :
    CallR Tryz.prog 52 [(2000, .box 88 [.d (.sl 4 (d2.map e_T_exact_Num))])] [.d (.int .i64 d0), .d (.sl 3 (d1.map e_T_api_Choice)), .fn 53 [] [.ptr 2000 0]] [(2000, .box 88 [.d (.sl 4 (d2.map e_T_exact_Num))])] (.tup [.agg [.d (.bool r.1.n_.neg), .d (.sl 1 (r.1.n_.mag.map e_u32)), .d (.bool r.1.d.neg), .d (.sl 1 (r.1.d.mag.map e_u32))], .d (.int .i64 r.2)]) := by
  unfold F52b at hF
  refine callR_of (N := 53) (b := bodyOf Tryz.f52) Tryz.func52 (by kernel_rfl) rfl rfl ?_
  obtain ⟨y1, e1, hF⟩ := bnd hF
  refine J_adv 9 (J_opt1 (o := geti (d1.map e_T_api_Choice) 0) (e_T_api_Choice y1) (by kernel_rfl) (gm e1) ?_)
  obtain ⟨y2, e2, hF⟩ := bnd hF
  refine J_adv 1 (J_callR (os := [(2000, .box 88 [.d (.sl 4 (d2.map e_T_exact_Num))])]) (xs := [.agg [.d (.str y1.Act), .d (.str y1.Gain), .d (.sl 2 (y1.Next.map e_T_api_Branch))], .ptr 2000 0]) [(2000, 2000)] [.agg [.d (.str y1.Act), .d (.str y1.Gain), .d (.sl 2 (y1.Next.map e_T_api_Branch))], .ptr 2000 0] [(2000, .box 88 [.d (.sl 4 (d2.map e_T_exact_Num))])] (.agg [.d (.bool y2.n_.neg), .d (.sl 1 (y2.n_.mag.map e_u32)), .d (.bool y2.d.neg), .d (.sl 1 (y2.d.mag.map e_u32))]) (by kernel_rfl) (by kernel_rfl) en53 (Res'.refl _) (F53a_ok e2) ?_)
  obtain ⟨l1, e3, hF⟩ := bnd hF
  refine J_adv 8 (J_opt2 (o := slc (d1.map e_T_api_Choice) 1 ((d1.map e_T_api_Choice).length : Int)) (l1.map e_T_api_Choice) (by kernel_rfl) (smh e3) ?_)
  have hF52b_L1 : ∀ (n_F52b_L1 : Nat) (v5 : Int) (v6 : Int) (t11 : Bool) (l8 : List Int) (t12 : Bool) (l9 : List Int), F52b_L1 fuel d0 d2 l1 n_F52b_L1 v5 v6 t11 l8 t12 l9 = some r → J none Tryz.prog 53 [] (finR Tryz.prog Tryz.f52 [(2000, .box 88 [.d (.sl 4 (d2.map e_T_exact_Num))])] (.tup [.agg [.d (.bool r.1.n_.neg), .d (.sl 1 (r.1.n_.mag.map e_u32)), .d (.bool r.1.d.neg), .d (.sl 1 (r.1.d.mag.map e_u32))], .d (.int .i64 r.2)])) ⟨mkT [(0, .d (.int .i64 d0)), (2, .fn 53 [] [.ptr 2000 0]), (6, .ptr 6 0), (8, .d (.int .i64 v5)), (9, .ptr 9 0), (20, .d (.sl 3 (l1.map e_T_api_Choice))), (21, .d (.int .i64 ((l1.map e_T_api_Choice).length : Int))), (22, .d (.int .i64 v6))], [(6, .box 100 [.d (.bool false), .esl 1, .d (.bool false), .esl 1]), (9, .box 100 [.d (.bool t11), .d (.sl 1 (l8.map e_u32)), .d (.bool t12), .d (.sl 1 (l9.map e_u32))]), (2000, .box 88 [.d (.sl 4 (d2.map e_T_exact_Num))])], [.inLoop (cAt (bodyOf Tryz.f52) [1, 1, 0, 1, 0, 0]), .inBlock 0, .code (cAt (bodyOf Tryz.f52) [1, 1, 1])]⟩ := by
    clear hF; intro n_F52b_L1
    induction n_F52b_L1 with
    | zero => intro v5 v6 t11 l8 t12 l9 hF; cases hF
    | succ n_F52b_L1 ih_F52b_L1 =>
      intro v5 v6 t11 l8 t12 l9 hF
      rw [F52b_L1] at hF
      refine J_adv 6 (J_bool 23 (b := decide (v6 < ((l1.map e_T_api_Choice).length : Int))) (by kernel_rfl) (fun hb55 => ?_) (fun hb55 => ?_))
      · replace hF := ift hb55 hF
        have hF52b_A2 : ∀ (v7 : Int) (t14 : Bool) (l10 : List Int) (t15 : Bool) (l11 : List Int), F52b_A2 v6 (F52b_L1 fuel d0 d2 l1 n_F52b_L1) v7 t14 l10 t15 l11 = some r → J none Tryz.prog 53 [] (finR Tryz.prog Tryz.f52 [(2000, .box 88 [.d (.sl 4 (d2.map e_T_exact_Num))])] (.tup [.agg [.d (.bool r.1.n_.neg), .d (.sl 1 (r.1.n_.mag.map e_u32)), .d (.bool r.1.d.neg), .d (.sl 1 (r.1.d.mag.map e_u32))], .d (.int .i64 r.2)])) ⟨mkT [(0, .d (.int .i64 d0)), (2, .fn 53 [] [.ptr 2000 0]), (6, .ptr 6 0), (8, .d (.int .i64 v7)), (9, .ptr 9 0), (20, .d (.sl 3 (l1.map e_T_api_Choice))), (21, .d (.int .i64 ((l1.map e_T_api_Choice).length : Int))), (22, .d (.int .i64 v6))], [(6, .box 100 [.d (.bool false), .esl 1, .d (.bool false), .esl 1]), (9, .box 100 [.d (.bool t14), .d (.sl 1 (l10.map e_u32)), .d (.bool t15), .d (.sl 1 (l11.map e_u32))]), (2000, .box 88 [.d (.sl 4 (d2.map e_T_exact_Num))])], [.code (cAt (bodyOf Tryz.f52) [1, 1, 0, 1, 0, 0, 1, 1, 1]), .inLoop (cAt (bodyOf Tryz.f52) [1, 1, 0, 1, 0, 0]), .inBlock 0, .code (cAt (bodyOf Tryz.f52) [1, 1, 1])]⟩ := by
          intro v7 t14 l10 t15 l11 hF
          unfold F52b_A2 at hF
          exact J_adv 4 (J_at [0, 2, 6, 8, 9, 20, 21, 22] [6, 9, 2000] (T0 := [.inLoop (cAt (bodyOf Tryz.f52) [1, 1, 0, 1, 0, 0]), .inBlock 0, .code (cAt (bodyOf Tryz.f52) [1, 1, 1])]) (by kernel_rfl) rfl (ih_F52b_L1 v7 (IntKind.i64.wrap (v6 + 1)) t14 l10 t15 l11 hF))
        obtain ⟨y18, e19, hF⟩ := bnd hF
        refine J_adv 7 (J_opt1 (o := geti (l1.map e_T_api_Choice) v6) (e_T_api_Choice y18) (by kernel_rfl) (gm e19) ?_)
        obtain ⟨y19, e20, hF⟩ := bnd hF
        refine J_adv 9 (J_callR (os := [(2000, .box 88 [.d (.sl 4 (d2.map e_T_exact_Num))])]) (xs := [.agg [.d (.str y18.Act), .d (.str y18.Gain), .d (.sl 2 (y18.Next.map e_T_api_Branch))], .ptr 2000 0]) [(2000, 2000)] [.agg [.d (.str y18.Act), .d (.str y18.Gain), .d (.sl 2 (y18.Next.map e_T_api_Branch))], .ptr 2000 0] [(2000, .box 88 [.d (.sl 4 (d2.map e_T_exact_Num))])] (.agg [.d (.bool y19.n_.neg), .d (.sl 1 (y19.n_.mag.map e_u32)), .d (.bool y19.d.neg), .d (.sl 1 (y19.d.mag.map e_u32))]) (by kernel_rfl) (by kernel_rfl) en53 (Res'.refl _) (F53a_ok e20) ?_)
        obtain ⟨y20, e21, hF⟩ := bnd hF
        refine J_adv 7 (J_callF (xs := [.agg [.d (.bool y19.n_.neg), .d (.sl 1 (y19.n_.mag.map e_u32)), .d (.bool y19.d.neg), .d (.sl 1 (y19.d.mag.map e_u32))], .agg [.d (.bool t11), .d (.sl 1 (l8.map e_u32)), .d (.bool t12), .d (.sl 1 (l9.map e_u32))]]) [.agg [.d (.bool y19.n_.neg), .d (.sl 1 (y19.n_.mag.map e_u32)), .d (.bool y19.d.neg), .d (.sl 1 (y19.d.mag.map e_u32))], .agg [.d (.bool t11), .d (.sl 1 (l8.map e_u32)), .d (.bool t12), .d (.sl 1 (l9.map e_u32))]] (.d (.int .i64 y20)) (by kernel_rfl) en50 (Res'.refl _) (F50_ok e21) ?_)
        obtain ⟨o6, hO, hF⟩ := bnd hF
        have hR6 : J none Tryz.prog 53 [] (finR Tryz.prog Tryz.f52 [(2000, .box 88 [.d (.sl 4 (d2.map e_T_exact_Num))])] (.tup [.agg [.d (.bool r.1.n_.neg), .d (.sl 1 (r.1.n_.mag.map e_u32)), .d (.bool r.1.d.neg), .d (.sl 1 (r.1.d.mag.map e_u32))], .d (.int .i64 r.2)])) ⟨mkT [(0, .d (.int .i64 d0)), (2, .fn 53 [] [.ptr 2000 0]), (6, .ptr 6 0), (8, .d (.int .i64 v5)), (9, .ptr 9 0), (10, .d (.int .i64 v6)), (12, .ptr 12 0), (20, .d (.sl 3 (l1.map e_T_api_Choice))), (21, .d (.int .i64 ((l1.map e_T_api_Choice).length : Int))), (22, .d (.int .i64 v6)), (46, .d (.bool o6))], [(6, .box 100 [.d (.bool false), .esl 1, .d (.bool false), .esl 1]), (9, .box 100 [.d (.bool t11), .d (.sl 1 (l8.map e_u32)), .d (.bool t12), .d (.sl 1 (l9.map e_u32))]), (12, .box 100 [.d (.bool y19.n_.neg), .d (.sl 1 (y19.n_.mag.map e_u32)), .d (.bool y19.d.neg), .d (.sl 1 (y19.d.mag.map e_u32))]), (2000, .box 88 [.d (.sl 4 (d2.map e_T_exact_Num))])], [.ops (opsOf (cAt (bodyOf Tryz.f52) [1, 1, 0, 1, 0, 0, 1, 1, 0, 0, 1, 1, 1, 0])) [], .code (cAt (bodyOf Tryz.f52) [1, 1, 0, 1, 0, 0, 1, 1, 0, 0, 1, 1, 1, 1]), .inBlock 1, .code (cAt (bodyOf Tryz.f52) [1, 1, 0, 1, 0, 0, 1, 1, 1]), .inLoop (cAt (bodyOf Tryz.f52) [1, 1, 0, 1, 0, 0]), .inBlock 0, .code (cAt (bodyOf Tryz.f52) [1, 1, 1])]⟩ := by
          clear hO
          refine J_adv 1 (J_bool 46 (b := o6) (by kernel_rfl) (fun hb77 => ?_) (fun hb77 => ?_))
          · replace hF := ift hb77 hF
            refine J_adv 1 (J_draw (by kernel_rfl) (by kernel_rfl) ?_)
            refine JD_adv 5 (JD_end (by kernel_rfl) ?_)
            exact J_adv 1 (J_at [0, 2, 6, 8, 9, 20, 21, 22] [6, 9, 2000] (T0 := [.code (cAt (bodyOf Tryz.f52) [1, 1, 0, 1, 0, 0, 1, 1, 1]), .inLoop (cAt (bodyOf Tryz.f52) [1, 1, 0, 1, 0, 0]), .inBlock 0, .code (cAt (bodyOf Tryz.f52) [1, 1, 1])]) (by kernel_rfl) rfl (hF52b_A2 (IntKind.i64.wrap (v6 + 1)) y19.n_.neg y19.n_.mag y19.d.neg y19.d.mag hF))
          · replace hF := iff' hb77 hF
            exact J_adv 3 (J_at [0, 2, 6, 8, 9, 20, 21, 22] [6, 9, 2000] (T0 := [.code (cAt (bodyOf Tryz.f52) [1, 1, 0, 1, 0, 0, 1, 1, 1]), .inLoop (cAt (bodyOf Tryz.f52) [1, 1, 0, 1, 0, 0]), .inBlock 0, .code (cAt (bodyOf Tryz.f52) [1, 1, 1])]) (by kernel_rfl) rfl (hF52b_A2 v5 t11 l8 t12 l9 hF))
        clear hF; rename _ = some o6 => hF
        refine J_adv 7 (J_bool 35 (b := d0 == 0) (by kernel_rfl) (fun hb78 => ?_) (fun hb78 => ?_))
        · replace hF := ift hb78 hF
          refine J_adv 4 (J_bool 39 (b := decide (y20 > 0)) (by kernel_rfl) (fun hb79 => ?_) (fun hb79 => ?_))
          · replace hF := ift hb79 hF
            have hr_ := Option.some.inj hF; subst hr_
            exact J_adv 7 (J_at [0, 2, 6, 8, 9, 10, 12, 20, 21, 22, 46] [6, 9, 12, 2000] (T0 := [.ops (opsOf (cAt (bodyOf Tryz.f52) [1, 1, 0, 1, 0, 0, 1, 1, 0, 0, 1, 1, 1, 0])) [], .code (cAt (bodyOf Tryz.f52) [1, 1, 0, 1, 0, 0, 1, 1, 0, 0, 1, 1, 1, 1]), .inBlock 1, .code (cAt (bodyOf Tryz.f52) [1, 1, 0, 1, 0, 0, 1, 1, 1]), .inLoop (cAt (bodyOf Tryz.f52) [1, 1, 0, 1, 0, 0]), .inBlock 0, .code (cAt (bodyOf Tryz.f52) [1, 1, 1])]) (by kernel_rfl) rfl hR6)
          · replace hF := iff' hb79 hF
            refine J_adv 3 (J_bool 42 (b := d0 == 1) (by kernel_rfl) (fun hb80 => ?_) (fun hb80 => ?_))
            · replace hF := ift hb80 hF
              have hr_ := Option.some.inj hF; subst hr_
              exact J_adv 4 (J_at [0, 2, 6, 8, 9, 10, 12, 20, 21, 22, 46] [6, 9, 12, 2000] (T0 := [.ops (opsOf (cAt (bodyOf Tryz.f52) [1, 1, 0, 1, 0, 0, 1, 1, 0, 0, 1, 1, 1, 0])) [], .code (cAt (bodyOf Tryz.f52) [1, 1, 0, 1, 0, 0, 1, 1, 0, 0, 1, 1, 1, 1]), .inBlock 1, .code (cAt (bodyOf Tryz.f52) [1, 1, 0, 1, 0, 0, 1, 1, 1]), .inLoop (cAt (bodyOf Tryz.f52) [1, 1, 0, 1, 0, 0]), .inBlock 0, .code (cAt (bodyOf Tryz.f52) [1, 1, 1])]) (by kernel_rfl) rfl hR6)
            · replace hF := iff' hb80 hF
              have hr_ := Option.some.inj hF; subst hr_
              exact J_adv 4 (J_at [0, 2, 6, 8, 9, 10, 12, 20, 21, 22, 46] [6, 9, 12, 2000] (T0 := [.ops (opsOf (cAt (bodyOf Tryz.f52) [1, 1, 0, 1, 0, 0, 1, 1, 0, 0, 1, 1, 1, 0])) [], .code (cAt (bodyOf Tryz.f52) [1, 1, 0, 1, 0, 0, 1, 1, 0, 0, 1, 1, 1, 1]), .inBlock 1, .code (cAt (bodyOf Tryz.f52) [1, 1, 0, 1, 0, 0, 1, 1, 1]), .inLoop (cAt (bodyOf Tryz.f52) [1, 1, 0, 1, 0, 0]), .inBlock 0, .code (cAt (bodyOf Tryz.f52) [1, 1, 1])]) (by kernel_rfl) rfl hR6)
        · replace hF := iff' hb78 hF
          refine J_adv 7 (J_bool 42 (b := d0 == 1) (by kernel_rfl) (fun hb81 => ?_) (fun hb81 => ?_))
          · replace hF := ift hb81 hF
            have hr_ := Option.some.inj hF; subst hr_
            exact J_adv 4 (J_at [0, 2, 6, 8, 9, 10, 12, 20, 21, 22, 46] [6, 9, 12, 2000] (T0 := [.ops (opsOf (cAt (bodyOf Tryz.f52) [1, 1, 0, 1, 0, 0, 1, 1, 0, 0, 1, 1, 1, 0])) [], .code (cAt (bodyOf Tryz.f52) [1, 1, 0, 1, 0, 0, 1, 1, 0, 0, 1, 1, 1, 1]), .inBlock 1, .code (cAt (bodyOf Tryz.f52) [1, 1, 0, 1, 0, 0, 1, 1, 1]), .inLoop (cAt (bodyOf Tryz.f52) [1, 1, 0, 1, 0, 0]), .inBlock 0, .code (cAt (bodyOf Tryz.f52) [1, 1, 1])]) (by kernel_rfl) rfl hR6)
          · replace hF := iff' hb81 hF
            have hr_ := Option.some.inj hF; subst hr_
            exact J_adv 4 (J_at [0, 2, 6, 8, 9, 10, 12, 20, 21, 22, 46] [6, 9, 12, 2000] (T0 := [.ops (opsOf (cAt (bodyOf Tryz.f52) [1, 1, 0, 1, 0, 0, 1, 1, 0, 0, 1, 1, 1, 0])) [], .code (cAt (bodyOf Tryz.f52) [1, 1, 0, 1, 0, 0, 1, 1, 0, 0, 1, 1, 1, 1]), .inBlock 1, .code (cAt (bodyOf Tryz.f52) [1, 1, 0, 1, 0, 0, 1, 1, 1]), .inLoop (cAt (bodyOf Tryz.f52) [1, 1, 0, 1, 0, 0]), .inBlock 0, .code (cAt (bodyOf Tryz.f52) [1, 1, 1])]) (by kernel_rfl) rfl hR6)
      · replace hF := iff' hb55 hF
        have hr_ := Option.some.inj hF; subst hr_
        exact J_adv 9 (J_retR (xs := [.agg [.d (.bool t11), .d (.sl 1 (l8.map e_u32)), .d (.bool t12), .d (.sl 1 (l9.map e_u32))], .d (.int .i64 v5)]) [.agg [.d (.bool t11), .d (.sl 1 (l8.map e_u32)), .d (.bool t12), .d (.sl 1 (l9.map e_u32))], .d (.int .i64 v5)] rfl (by kernel_rfl) (by kernel_rfl) (Res'.refl _) rfl)
  exact J_adv 5 (J_at [0, 2, 6, 8, 9, 20, 21, 22] [6, 9, 2000] (T0 := [.inLoop (cAt (bodyOf Tryz.f52) [1, 1, 0, 1, 0, 0]), .inBlock 0, .code (cAt (bodyOf Tryz.f52) [1, 1, 1])]) (by kernel_rfl) rfl (hF52b_L1 fuel 0 0 y2.n_.neg y2.n_.mag y2.d.neg y2.d.mag hF))
/- croupier/steps.Gains -/
def F14_L3 (fuel : Nat) (d0 : T_api_Model) (l26 : List T_exact_Num) (v11 : Int) (rec_F14_L2 : Int → (List T_exact_Num) → Option (List (List UInt8) × Int)) : Nat → Int → (List T_exact_Num) → Option (List (List UInt8) × Int)
  | 0, _, _ => none
  | n_F14_L3 + 1, v13, l31 =>
    bif decide (v13 < ((d0.Choices.map e_lT_api_Choice).length : Int)) then
      (Option.bind (geti d0.Choices v13) fun y59 =>
      Option.bind (geti d0.Owner v13) fun y60 =>
      Option.bind (F52b fuel y60 y59 l26) fun y61 =>
      Option.bind (geti l31 v13) fun y62 =>
      Option.bind (some (l31.set (0 + Int.toNat v13) y61.1)) fun l32 =>
      (F14_L3 fuel d0 l26 v11 rec_F14_L2 n_F14_L3) (IntKind.i64.wrap (v13 + 1)) l32)
    else
      (rec_F14_L2 (IntKind.i64.wrap (v11 + 1)) l31)
def F14_L2 (fuel : Nat) (d0 : T_api_Model) (d1 : Int) : Nat → Int → (List T_exact_Num) → Option (List (List UInt8) × Int)
  | 0, _, _ => none
  | n_F14_L2 + 1, v11, l26 =>
    bif decide (v11 < d1) then
      (Option.bind (mkL ((l26.map e_T_exact_Num).length : Int) ((l26.map e_T_exact_Num).length : Int) (⟨(⟨false, []⟩ : T_exact_Whole), (⟨false, []⟩ : T_exact_Whole)⟩ : T_exact_Num)) fun l27 =>
      F14_L3 fuel d0 l26 v11 (F14_L2 fuel d0 d1 n_F14_L2) fuel 0 l27)
    else
      (Option.bind (F46 fuel l26) fun y63 =>
      some (y63, 0))
def F14_L1 (fuel : Nat) (d0 : T_api_Model) (d1 : Int) (y2 : List T_exact_Num) : Nat → Int → (List T_exact_Num) → Option (List (List UInt8) × Int)
  | 0, _, _ => none
  | n_F14_L1 + 1, v5, l11 =>
    bif decide (v5 < ((d0.Choices.map e_lT_api_Choice).length : Int)) then
      (Option.bind (geti d0.Choices v5) fun y23 =>
      Option.bind (geti d0.Owner v5) fun y24 =>
      Option.bind (F52b fuel y24 y23 y2) fun y25 =>
      Option.bind (geti l11 v5) fun y26 =>
      Option.bind (some (l11.set (0 + Int.toNat v5) y25.1)) fun l12 =>
      (F14_L1 fuel d0 d1 y2 n_F14_L1) (IntKind.i64.wrap (v5 + 1)) l12)
    else
      (F14_L2 fuel d0 d1 fuel (IntKind.i64.wrap (0 + 1)) l11)
def F14 (fuel : Nat) (d0 : T_api_Model) (d1 : Int) : Option (List (List UInt8) × Int) :=
  Option.bind (F43 fuel d0 0 d1) fun y1 =>
  bif y1 != 0 then
    (some ([], y1))
  else
    (Option.bind (F44 fuel d0 0) fun y2 =>
    bif decide (0 < d1) then
      (Option.bind (mkL ((y2.map e_T_exact_Num).length : Int) ((y2.map e_T_exact_Num).length : Int) (⟨(⟨false, []⟩ : T_exact_Whole), (⟨false, []⟩ : T_exact_Whole)⟩ : T_exact_Num)) fun l7 =>
      F14_L1 fuel d0 d1 y2 fuel 0 l7)
    else
      (Option.bind (F46 fuel y2) fun y64 =>
      some (y64, 0)))
theorem F14_ok {fuel : Nat} {d0 : T_api_Model} {d1 : Int} {r : List (List UInt8) × Int} (hF : F14 fuel d0 d1 = some r) :
    CallF Tryz.prog 14 [.agg [.d (.sl 1 (d0.Owner.map e_i64)), .d (.sl 1 (d0.Choices.map e_lT_api_Choice))], .d (.int .i64 d1)] (.tup [.d (.sl 1 (r.1.map e_s)), .d (.int .i64 r.2)]) := by
  unfold F14 at hF
  refine callF_of (N := 52) (b := bodyOf Tryz.f14) Tryz.func14 (by kernel_rfl) rfl rfl ?_
  obtain ⟨y1, e1, hF⟩ := bnd hF
  refine J_adv 11 (J_callF (xs := [.agg [.d (.sl 1 (d0.Owner.map e_i64)), .d (.sl 1 (d0.Choices.map e_lT_api_Choice))], .d (.int .u64 0), .d (.int .i64 d1)]) [.agg [.d (.sl 1 (d0.Owner.map e_i64)), .d (.sl 1 (d0.Choices.map e_lT_api_Choice))], .d (.int .u64 0), .d (.int .i64 d1)] (.d (.int .i64 y1)) (by kernel_rfl) en43 (Res'.refl _) (F43_ok e1) ?_)
  refine J_adv 7 (J_bool 15 (b := y1 != 0) (by kernel_rfl) (fun hb1 => ?_) (fun hb1 => ?_))
  · replace hF := ift hb1 hF
    have hr_ := Option.some.inj hF; subst hr_
    exact J_adv 7 (J_ret (xs := [.d (.sl 1 ([].map e_s)), .d (.int .i64 y1)]) [.d (.sl 1 ([].map e_s)), .d (.int .i64 y1)] rfl rfl (by kernel_rfl) (Res'.refl _) rfl)
  · replace hF := iff' hb1 hF
    obtain ⟨y2, e2, hF⟩ := bnd hF
    refine J_adv 5 (J_callF (xs := [.agg [.d (.sl 1 (d0.Owner.map e_i64)), .d (.sl 1 (d0.Choices.map e_lT_api_Choice))], .d (.int .u64 0)]) [.agg [.d (.sl 1 (d0.Owner.map e_i64)), .d (.sl 1 (d0.Choices.map e_lT_api_Choice))], .d (.int .u64 0)] (.d (.sl 4 (y2.map e_T_exact_Num))) (by kernel_rfl) en44 (Res'.refl _) (F44_ok e2) ?_)
    refine J_adv 17 (J_bool 21 (b := decide (0 < d1)) (by kernel_rfl) (fun hb7 => ?_) (fun hb7 => ?_))
    · replace hF := ift hb7 hF
      obtain ⟨l7, e19, hF⟩ := bnd hF
      refine J_adv 8 (J_opt2 (o := mk2 ((y2.map e_T_exact_Num).length : Int) ((y2.map e_T_exact_Num).length : Int) (e_T_exact_Num (⟨(⟨false, []⟩ : T_exact_Whole), (⟨false, []⟩ : T_exact_Whole)⟩ : T_exact_Num))) (l7.map e_T_exact_Num) (by kernel_rfl) (mm e19) ?_)
      have hF14_L1 : ∀ (n_F14_L1 : Nat) (v5 : Int) (l11 : List T_exact_Num), F14_L1 fuel d0 d1 y2 n_F14_L1 v5 l11 = some r → J none Tryz.prog 52 [] (finF Tryz.prog Tryz.f14 (.tup [.d (.sl 1 (r.1.map e_s)), .d (.int .i64 r.2)])) ⟨mkT [(2, .ptr 2 0), (7, .ptr 7 0), (8, .suf 24 0 0), (19, .d (.int .i64 d1)), (20, .d (.int .i64 0)), (26, .d (.sl 1 (d0.Choices.map e_lT_api_Choice))), (27, .d (.int .i64 ((d0.Choices.map e_lT_api_Choice).length : Int))), (28, .d (.int .i64 v5))], [(2, .box 34 [.d (.sl 1 (d0.Owner.map e_i64)), .d (.sl 1 (d0.Choices.map e_lT_api_Choice))]), (7, .box 88 [.d (.sl 4 (y2.map e_T_exact_Num))]), (24, .buf 0 100 4 (l11.map e_T_exact_Num))], [.inLoop (cAt (bodyOf Tryz.f14) [1, 1, 1, 0, 1, 0, 0, 1, 1, 0, 0, 1, 0, 1, 0, 0]), .inBlock 2, .code (cAt (bodyOf Tryz.f14) [1, 1, 1, 0, 1, 0, 0, 1, 1, 0, 0, 1, 1]), .inBlock 1, .code (cAt (bodyOf Tryz.f14) [1, 1, 1, 0, 1, 0, 0, 1, 1, 1]), .inLoop (cAt (bodyOf Tryz.f14) [1, 1, 1, 0, 1, 0, 0]), .inBlock 0, .code (cAt (bodyOf Tryz.f14) [1, 1, 1, 1])]⟩ := by
        clear hF; intro n_F14_L1
        induction n_F14_L1 with
        | zero => intro v5 l11 hF; cases hF
        | succ n_F14_L1 ih_F14_L1 =>
          intro v5 l11 hF
          rw [F14_L1] at hF
          refine J_adv 6 (J_bool 29 (b := decide (v5 < ((d0.Choices.map e_lT_api_Choice).length : Int))) (by kernel_rfl) (fun hb10 => ?_) (fun hb10 => ?_))
          · replace hF := ift hb10 hF
            obtain ⟨y23, e30, hF⟩ := bnd hF
            refine J_adv 7 (J_opt1 (o := geti (d0.Choices.map e_lT_api_Choice) v5) (e_lT_api_Choice y23) (by kernel_rfl) (gm e30) ?_)
            obtain ⟨y24, e31, hF⟩ := bnd hF
            refine J_adv 10 (J_opt1 (o := geti (d0.Owner.map e_i64) v5) (e_i64 y24) (by kernel_rfl) (gm e31) ?_)
            obtain ⟨y25, e32, hF⟩ := bnd hF
            refine J_adv 3 (J_callR (os := [(2000, .box 88 [.d (.sl 4 (y2.map e_T_exact_Num))])]) (xs := [.d (.int .i64 y24), .d (.sl 3 (y23.map e_T_api_Choice)), .fn 53 [] [.ptr 2000 0]]) [(7, 2000)] [.d (.int .i64 y24), .d (.sl 3 (y23.map e_T_api_Choice)), .fn 53 [] [.ptr 2000 0]] [(2000, .box 88 [.d (.sl 4 (y2.map e_T_exact_Num))])] (.tup [.agg [.d (.bool y25.1.n_.neg), .d (.sl 1 (y25.1.n_.mag.map e_u32)), .d (.bool y25.1.d.neg), .d (.sl 1 (y25.1.d.mag.map e_u32))], .d (.int .i64 y25.2)]) (by kernel_rfl) (by kernel_rfl) en52 (Res'.refl _) (F52b_ok e32) ?_)
            obtain ⟨y26, e33, hF⟩ := bnd hF
            refine J_adv 3 (J_opt1 (o := geti (l11.map e_T_exact_Num) v5) (e_T_exact_Num y26) (by kernel_rfl) (gm e33) ?_)
            obtain ⟨l12, e34, hF⟩ := bnd hF
            have hst := stm (f := e_T_exact_Num) (z := y25.1) (k := 0) (xs := [.bool y25.1.n_.neg, .sl 1 (y25.1.n_.mag.map e_u32), .bool y25.1.d.neg, .sl 1 (y25.1.d.mag.map e_u32)]) (gj e33) rfl
            refine J_adv 0 (J_opt2 (o := (match (l11.map e_T_exact_Num)[0 + Int.toNat v5]? with | some old => some ((l11.map e_T_exact_Num).set (0 + Int.toNat v5) (setD old 0 [.bool y25.1.n_.neg, .sl 1 (y25.1.n_.mag.map e_u32), .bool y25.1.d.neg, .sl 1 (y25.1.d.mag.map e_u32)])) | none => none)) (l12.map e_T_exact_Num) (by kernel_rfl) (by cases e34; exact hst) ?_)
            exact J_adv 6 (J_at [2, 7, 8, 19, 20, 26, 27, 28] [2, 7, 24] (T0 := [.inLoop (cAt (bodyOf Tryz.f14) [1, 1, 1, 0, 1, 0, 0, 1, 1, 0, 0, 1, 0, 1, 0, 0]), .inBlock 2, .code (cAt (bodyOf Tryz.f14) [1, 1, 1, 0, 1, 0, 0, 1, 1, 0, 0, 1, 1]), .inBlock 1, .code (cAt (bodyOf Tryz.f14) [1, 1, 1, 0, 1, 0, 0, 1, 1, 1]), .inLoop (cAt (bodyOf Tryz.f14) [1, 1, 1, 0, 1, 0, 0]), .inBlock 0, .code (cAt (bodyOf Tryz.f14) [1, 1, 1, 1])]) (by kernel_rfl) rfl (ih_F14_L1 (IntKind.i64.wrap (v5 + 1)) l12 hF))
          · replace hF := iff' hb10 hF
            have hF14_L2 : ∀ (n_F14_L2 : Nat) (v11 : Int) (l26 : List T_exact_Num), F14_L2 fuel d0 d1 n_F14_L2 v11 l26 = some r → J none Tryz.prog 52 [] (finF Tryz.prog Tryz.f14 (.tup [.d (.sl 1 (r.1.map e_s)), .d (.int .i64 r.2)])) ⟨mkT [(2, .ptr 2 0), (7, .ptr 7 0), (19, .d (.int .i64 d1)), (20, .d (.int .i64 v11))], [(2, .box 34 [.d (.sl 1 (d0.Owner.map e_i64)), .d (.sl 1 (d0.Choices.map e_lT_api_Choice))]), (7, .box 88 [.suf 24 0 0]), (24, .buf 0 100 4 (l26.map e_T_exact_Num))], [.inLoop (cAt (bodyOf Tryz.f14) [1, 1, 1, 0, 1, 0, 0]), .inBlock 0, .code (cAt (bodyOf Tryz.f14) [1, 1, 1, 1])]⟩ := by
              clear hF; intro n_F14_L2
              induction n_F14_L2 with
              | zero => intro v11 l26 hF; cases hF
              | succ n_F14_L2 ih_F14_L2 =>
                intro v11 l26 hF
                rw [F14_L2] at hF
                refine J_adv 6 (J_bool 21 (b := decide (v11 < d1)) (by kernel_rfl) (fun hb19 => ?_) (fun hb19 => ?_))
                · replace hF := ift hb19 hF
                  refine J_adv 5 (J_frzO (g := 0) (e := 100) (sz := 4) (es := l26.map e_T_exact_Num) 24 (by kernel_rfl) ?_)
                  refine J_adv 0 (J_at (S0 := [(2, .ptr 2 0), (7, .ptr 7 0), (19, .d (.int .i64 d1)), (20, .d (.int .i64 v11))]) (O0 := [(2, .box 34 [.d (.sl 1 (d0.Owner.map e_i64)), .d (.sl 1 (d0.Choices.map e_lT_api_Choice))]), (7, .box 88 [.d (.sl 4 (l26.map e_T_exact_Num))])]) (T0 := [.code (cAt (bodyOf Tryz.f14) [1, 1, 1, 0, 1, 0, 0, 1, 1, 0, 0, 0]), .code (cAt (bodyOf Tryz.f14) [1, 1, 1, 0, 1, 0, 0, 1, 1, 0, 0, 1]), .inBlock 1, .code (cAt (bodyOf Tryz.f14) [1, 1, 1, 0, 1, 0, 0, 1, 1, 1]), .inLoop (cAt (bodyOf Tryz.f14) [1, 1, 1, 0, 1, 0, 0]), .inBlock 0, .code (cAt (bodyOf Tryz.f14) [1, 1, 1, 1])]) [2, 7, 19, 20] [2, 7] (by kernel_rfl) rfl ?_)
                  obtain ⟨l27, e67, hF⟩ := bnd hF
                  refine J_adv 3 (J_opt2 (o := mk2 ((l26.map e_T_exact_Num).length : Int) ((l26.map e_T_exact_Num).length : Int) (e_T_exact_Num (⟨(⟨false, []⟩ : T_exact_Whole), (⟨false, []⟩ : T_exact_Whole)⟩ : T_exact_Num))) (l27.map e_T_exact_Num) (by kernel_rfl) (mm e67) ?_)
                  have hF14_L3 : ∀ (n_F14_L3 : Nat) (v13 : Int) (l31 : List T_exact_Num), F14_L3 fuel d0 l26 v11 (F14_L2 fuel d0 d1 n_F14_L2) n_F14_L3 v13 l31 = some r → J none Tryz.prog 52 [] (finF Tryz.prog Tryz.f14 (.tup [.d (.sl 1 (r.1.map e_s)), .d (.int .i64 r.2)])) ⟨mkT [(2, .ptr 2 0), (7, .ptr 7 0), (8, .suf 24 0 0), (19, .d (.int .i64 d1)), (20, .d (.int .i64 v11)), (26, .d (.sl 1 (d0.Choices.map e_lT_api_Choice))), (27, .d (.int .i64 ((d0.Choices.map e_lT_api_Choice).length : Int))), (28, .d (.int .i64 v13))], [(2, .box 34 [.d (.sl 1 (d0.Owner.map e_i64)), .d (.sl 1 (d0.Choices.map e_lT_api_Choice))]), (7, .box 88 [.d (.sl 4 (l26.map e_T_exact_Num))]), (24, .buf 0 100 4 (l31.map e_T_exact_Num))], [.inLoop (cAt (bodyOf Tryz.f14) [1, 1, 1, 0, 1, 0, 0, 1, 1, 0, 0, 1, 0, 1, 0, 0]), .inBlock 2, .code (cAt (bodyOf Tryz.f14) [1, 1, 1, 0, 1, 0, 0, 1, 1, 0, 0, 1, 1]), .inBlock 1, .code (cAt (bodyOf Tryz.f14) [1, 1, 1, 0, 1, 0, 0, 1, 1, 1]), .inLoop (cAt (bodyOf Tryz.f14) [1, 1, 1, 0, 1, 0, 0]), .inBlock 0, .code (cAt (bodyOf Tryz.f14) [1, 1, 1, 1])]⟩ := by
                    clear hF; intro n_F14_L3
                    induction n_F14_L3 with
                    | zero => intro v13 l31 hF; cases hF
                    | succ n_F14_L3 ih_F14_L3 =>
                      intro v13 l31 hF
                      rw [F14_L3] at hF
                      refine J_adv 6 (J_bool 29 (b := decide (v13 < ((d0.Choices.map e_lT_api_Choice).length : Int))) (by kernel_rfl) (fun hb22 => ?_) (fun hb22 => ?_))
                      · replace hF := ift hb22 hF
                        obtain ⟨y59, e78, hF⟩ := bnd hF
                        refine J_adv 7 (J_opt1 (o := geti (d0.Choices.map e_lT_api_Choice) v13) (e_lT_api_Choice y59) (by kernel_rfl) (gm e78) ?_)
                        obtain ⟨y60, e79, hF⟩ := bnd hF
                        refine J_adv 10 (J_opt1 (o := geti (d0.Owner.map e_i64) v13) (e_i64 y60) (by kernel_rfl) (gm e79) ?_)
                        obtain ⟨y61, e80, hF⟩ := bnd hF
                        refine J_adv 3 (J_callR (os := [(2000, .box 88 [.d (.sl 4 (l26.map e_T_exact_Num))])]) (xs := [.d (.int .i64 y60), .d (.sl 3 (y59.map e_T_api_Choice)), .fn 53 [] [.ptr 2000 0]]) [(7, 2000)] [.d (.int .i64 y60), .d (.sl 3 (y59.map e_T_api_Choice)), .fn 53 [] [.ptr 2000 0]] [(2000, .box 88 [.d (.sl 4 (l26.map e_T_exact_Num))])] (.tup [.agg [.d (.bool y61.1.n_.neg), .d (.sl 1 (y61.1.n_.mag.map e_u32)), .d (.bool y61.1.d.neg), .d (.sl 1 (y61.1.d.mag.map e_u32))], .d (.int .i64 y61.2)]) (by kernel_rfl) (by kernel_rfl) en52 (Res'.refl _) (F52b_ok e80) ?_)
                        obtain ⟨y62, e81, hF⟩ := bnd hF
                        refine J_adv 3 (J_opt1 (o := geti (l31.map e_T_exact_Num) v13) (e_T_exact_Num y62) (by kernel_rfl) (gm e81) ?_)
                        obtain ⟨l32, e82, hF⟩ := bnd hF
                        have hst := stm (f := e_T_exact_Num) (z := y61.1) (k := 0) (xs := [.bool y61.1.n_.neg, .sl 1 (y61.1.n_.mag.map e_u32), .bool y61.1.d.neg, .sl 1 (y61.1.d.mag.map e_u32)]) (gj e81) rfl
                        refine J_adv 0 (J_opt2 (o := (match (l31.map e_T_exact_Num)[0 + Int.toNat v13]? with | some old => some ((l31.map e_T_exact_Num).set (0 + Int.toNat v13) (setD old 0 [.bool y61.1.n_.neg, .sl 1 (y61.1.n_.mag.map e_u32), .bool y61.1.d.neg, .sl 1 (y61.1.d.mag.map e_u32)])) | none => none)) (l32.map e_T_exact_Num) (by kernel_rfl) (by cases e82; exact hst) ?_)
                        exact J_adv 6 (J_at [2, 7, 8, 19, 20, 26, 27, 28] [2, 7, 24] (T0 := [.inLoop (cAt (bodyOf Tryz.f14) [1, 1, 1, 0, 1, 0, 0, 1, 1, 0, 0, 1, 0, 1, 0, 0]), .inBlock 2, .code (cAt (bodyOf Tryz.f14) [1, 1, 1, 0, 1, 0, 0, 1, 1, 0, 0, 1, 1]), .inBlock 1, .code (cAt (bodyOf Tryz.f14) [1, 1, 1, 0, 1, 0, 0, 1, 1, 1]), .inLoop (cAt (bodyOf Tryz.f14) [1, 1, 1, 0, 1, 0, 0]), .inBlock 0, .code (cAt (bodyOf Tryz.f14) [1, 1, 1, 1])]) (by kernel_rfl) rfl (ih_F14_L3 (IntKind.i64.wrap (v13 + 1)) l32 hF))
                      · replace hF := iff' hb22 hF
                        exact J_adv 11 (J_at [2, 7, 19, 20] [2, 7, 24] (T0 := [.inLoop (cAt (bodyOf Tryz.f14) [1, 1, 1, 0, 1, 0, 0]), .inBlock 0, .code (cAt (bodyOf Tryz.f14) [1, 1, 1, 1])]) (by kernel_rfl) rfl (ih_F14_L2 (IntKind.i64.wrap (v11 + 1)) l31 hF))
                  exact J_adv 12 (J_at [2, 7, 8, 19, 20, 26, 27, 28] [2, 7, 24] (T0 := [.inLoop (cAt (bodyOf Tryz.f14) [1, 1, 1, 0, 1, 0, 0, 1, 1, 0, 0, 1, 0, 1, 0, 0]), .inBlock 2, .code (cAt (bodyOf Tryz.f14) [1, 1, 1, 0, 1, 0, 0, 1, 1, 0, 0, 1, 1]), .inBlock 1, .code (cAt (bodyOf Tryz.f14) [1, 1, 1, 0, 1, 0, 0, 1, 1, 1]), .inLoop (cAt (bodyOf Tryz.f14) [1, 1, 1, 0, 1, 0, 0]), .inBlock 0, .code (cAt (bodyOf Tryz.f14) [1, 1, 1, 1])]) (by kernel_rfl) rfl (hF14_L3 fuel 0 l27 hF))
                · replace hF := iff' hb19 hF
                  obtain ⟨y63, e83, hF⟩ := bnd hF
                  refine J_adv 5 (J_callF (xs := [.d (.sl 4 (l26.map e_T_exact_Num))]) [.d (.sl 4 (l26.map e_T_exact_Num))] (.d (.sl 1 (y63.map e_s))) (by kernel_rfl) en46 (Res'.refl _) (F46_ok e83) ?_)
                  have hr_ := Option.some.inj hF; subst hr_
                  exact J_adv 3 (J_ret (xs := [.d (.sl 1 (y63.map e_s)), .d (.int .i64 0)]) [.d (.sl 1 (y63.map e_s)), .d (.int .i64 0)] rfl rfl (by kernel_rfl) (Res'.refl _) rfl)
            exact J_adv 11 (J_at [2, 7, 19, 20] [2, 7, 24] (T0 := [.inLoop (cAt (bodyOf Tryz.f14) [1, 1, 1, 0, 1, 0, 0]), .inBlock 0, .code (cAt (bodyOf Tryz.f14) [1, 1, 1, 1])]) (by kernel_rfl) rfl (hF14_L2 fuel (IntKind.i64.wrap (0 + 1)) l11 hF))
      exact J_adv 12 (J_at [2, 7, 8, 19, 20, 26, 27, 28] [2, 7, 24] (T0 := [.inLoop (cAt (bodyOf Tryz.f14) [1, 1, 1, 0, 1, 0, 0, 1, 1, 0, 0, 1, 0, 1, 0, 0]), .inBlock 2, .code (cAt (bodyOf Tryz.f14) [1, 1, 1, 0, 1, 0, 0, 1, 1, 0, 0, 1, 1]), .inBlock 1, .code (cAt (bodyOf Tryz.f14) [1, 1, 1, 0, 1, 0, 0, 1, 1, 1]), .inLoop (cAt (bodyOf Tryz.f14) [1, 1, 1, 0, 1, 0, 0]), .inBlock 0, .code (cAt (bodyOf Tryz.f14) [1, 1, 1, 1])]) (by kernel_rfl) rfl (hF14_L1 fuel 0 l7 hF))
    · replace hF := iff' hb7 hF
      obtain ⟨y64, e84, hF⟩ := bnd hF
      refine J_adv 5 (J_callF (xs := [.d (.sl 4 (y2.map e_T_exact_Num))]) [.d (.sl 4 (y2.map e_T_exact_Num))] (.d (.sl 1 (y64.map e_s))) (by kernel_rfl) en46 (Res'.refl _) (F46_ok e84) ?_)
      have hr_ := Option.some.inj hF; subst hr_
      exact J_adv 3 (J_ret (xs := [.d (.sl 1 (y64.map e_s)), .d (.int .i64 0)]) [.d (.sl 1 (y64.map e_s)), .d (.int .i64 0)] rfl rfl (by kernel_rfl) (Res'.refl _) rfl)
/- croupier/croupierref21.Errors -/
/- croupier/croupierref21.first -/
/- croupier/croupierref21.mixed -/
/- croupier/croupierref21.pick -/
/- croupier/croupierref21.next -/
/- croupier/croupierref21.over -/
/- croupier/croupierref21.Values -/
/- croupier/croupierref21.Least -/
/- croupier/croupierref21.Gains -/
/- croupier/croupierlaw21.to -/
def F11 (d0 : Int) (d1 : List UInt8) : Option T_api_Branch :=
  some (⟨d0, d1⟩ : T_api_Branch)
theorem F11_ok {d0 : Int} {d1 : List UInt8} {r : T_api_Branch} (hF : F11 d0 d1 = some r) :
    CallF Tryz.prog 11 [.d (.int .i64 d0), .d (.str d1)] (.agg [.d (.int .i64 r.To), .d (.str r.P)]) := by
  unfold F11 at hF
  refine callF_of (N := 8) (b := bodyOf Tryz.f11) Tryz.func11 (by kernel_rfl) rfl rfl ?_
  have hr_ := Option.some.inj hF; subst hr_
  exact J_adv 11 (J_ret (xs := [.agg [.d (.int .i64 d0), .d (.str d1)]]) [.agg [.d (.int .i64 d0), .d (.str d1)]] rfl rfl (by kernel_rfl) (Res'.refl _) rfl)
/- croupier/croupierlaw21.choice -/
def F10 (d0 : List UInt8) (d1 : List T_api_Branch) : Option T_api_Choice :=
  some (⟨[], d0, d1⟩ : T_api_Choice)
theorem F10_ok {d0 : List UInt8} {d1 : List T_api_Branch} {r : T_api_Choice} (hF : F10 d0 d1 = some r) :
    CallF Tryz.prog 10 [.d (.str d0), .d (.sl 2 (d1.map e_T_api_Branch))] (.agg [.d (.str r.Act), .d (.str r.Gain), .d (.sl 2 (r.Next.map e_T_api_Branch))]) := by
  unfold F10 at hF
  refine callF_of (N := 8) (b := bodyOf Tryz.f10) Tryz.func10 (by kernel_rfl) rfl rfl ?_
  have hr_ := Option.some.inj hF; subst hr_
  exact J_adv 11 (J_ret (xs := [.agg [.d (.str []), .d (.str d0), .d (.sl 2 (d1.map e_T_api_Branch))]]) [.agg [.d (.str []), .d (.str d0), .d (.sl 2 (d1.map e_T_api_Branch))]] rfl rfl (by kernel_rfl) (Res'.refl _) rfl)
/- croupier/croupierlaw21.example -/
def F16 : Option T_api_Model :=
  Option.bind (F11 0 [49, 47, 50]) fun y1 =>
  Option.bind (F11 1 [49, 47, 50]) fun y2 =>
  Option.bind (F10 [49] [y1, y2]) fun y3 =>
  Option.bind (F11 1 [51, 47, 52]) fun y4 =>
  Option.bind (F11 2 [49, 47, 52]) fun y5 =>
  Option.bind (F10 [48] [y4, y5]) fun y6 =>
  Option.bind (F11 0 [49]) fun y7 =>
  Option.bind (F10 [50] [y7]) fun y8 =>
  Option.bind (F11 1 [49, 47, 50]) fun y9 =>
  Option.bind (F11 2 [49, 47, 50]) fun y10 =>
  Option.bind (F10 [49, 47, 50] [y9, y10]) fun y11 =>
  Option.bind (F11 2 [49]) fun y12 =>
  Option.bind (F10 [48] [y12]) fun y13 =>
  some (⟨[0, 1, 0], [[y3, y6], [y8, y11], [y13]]⟩ : T_api_Model)
theorem F16_ok {r : T_api_Model} (hF : F16 = some r) :
    CallF Tryz.prog 16 [] (.agg [.d (.sl 1 (r.Owner.map e_i64)), .d (.sl 1 (r.Choices.map e_lT_api_Choice))]) := by
  unfold F16 at hF
  refine callF_of (N := 25) (b := bodyOf Tryz.f16) Tryz.func16 (by kernel_rfl) rfl rfl ?_
  obtain ⟨y1, e1, hF⟩ := bnd hF
  refine J_adv 7 (J_callF (xs := [.d (.int .i64 0), .d (.str [49, 47, 50])]) [.d (.int .i64 0), .d (.str [49, 47, 50])] (.agg [.d (.int .i64 y1.To), .d (.str y1.P)]) (by kernel_rfl) en11 (Res'.refl _) (F11_ok e1) ?_)
  obtain ⟨y2, e2, hF⟩ := bnd hF
  refine J_adv 0 (J_callF (xs := [.d (.int .i64 1), .d (.str [49, 47, 50])]) [.d (.int .i64 1), .d (.str [49, 47, 50])] (.agg [.d (.int .i64 y2.To), .d (.str y2.P)]) (by kernel_rfl) en11 (Res'.refl _) (F11_ok e2) ?_)
  obtain ⟨y3, e3, hF⟩ := bnd hF
  refine J_adv 1 (J_callF (xs := [.d (.str [49]), .d (.sl 2 ([y1, y2].map e_T_api_Branch))]) [.d (.str [49]), .d (.sl 2 ([y1, y2].map e_T_api_Branch))] (.agg [.d (.str y3.Act), .d (.str y3.Gain), .d (.sl 2 (y3.Next.map e_T_api_Branch))]) (by kernel_rfl) en10 (Res'.refl _) (F10_ok e3) ?_)
  obtain ⟨y4, e4, hF⟩ := bnd hF
  refine J_adv 0 (J_callF (xs := [.d (.int .i64 1), .d (.str [51, 47, 52])]) [.d (.int .i64 1), .d (.str [51, 47, 52])] (.agg [.d (.int .i64 y4.To), .d (.str y4.P)]) (by kernel_rfl) en11 (Res'.refl _) (F11_ok e4) ?_)
  obtain ⟨y5, e5, hF⟩ := bnd hF
  refine J_adv 0 (J_callF (xs := [.d (.int .i64 2), .d (.str [49, 47, 52])]) [.d (.int .i64 2), .d (.str [49, 47, 52])] (.agg [.d (.int .i64 y5.To), .d (.str y5.P)]) (by kernel_rfl) en11 (Res'.refl _) (F11_ok e5) ?_)
  obtain ⟨y6, e6, hF⟩ := bnd hF
  refine J_adv 1 (J_callF (xs := [.d (.str [48]), .d (.sl 2 ([y4, y5].map e_T_api_Branch))]) [.d (.str [48]), .d (.sl 2 ([y4, y5].map e_T_api_Branch))] (.agg [.d (.str y6.Act), .d (.str y6.Gain), .d (.sl 2 (y6.Next.map e_T_api_Branch))]) (by kernel_rfl) en10 (Res'.refl _) (F10_ok e6) ?_)
  obtain ⟨y7, e7, hF⟩ := bnd hF
  refine J_adv 1 (J_callF (xs := [.d (.int .i64 0), .d (.str [49])]) [.d (.int .i64 0), .d (.str [49])] (.agg [.d (.int .i64 y7.To), .d (.str y7.P)]) (by kernel_rfl) en11 (Res'.refl _) (F11_ok e7) ?_)
  obtain ⟨y8, e8, hF⟩ := bnd hF
  refine J_adv 1 (J_callF (xs := [.d (.str [50]), .d (.sl 2 ([y7].map e_T_api_Branch))]) [.d (.str [50]), .d (.sl 2 ([y7].map e_T_api_Branch))] (.agg [.d (.str y8.Act), .d (.str y8.Gain), .d (.sl 2 (y8.Next.map e_T_api_Branch))]) (by kernel_rfl) en10 (Res'.refl _) (F10_ok e8) ?_)
  obtain ⟨y9, e9, hF⟩ := bnd hF
  refine J_adv 0 (J_callF (xs := [.d (.int .i64 1), .d (.str [49, 47, 50])]) [.d (.int .i64 1), .d (.str [49, 47, 50])] (.agg [.d (.int .i64 y9.To), .d (.str y9.P)]) (by kernel_rfl) en11 (Res'.refl _) (F11_ok e9) ?_)
  obtain ⟨y10, e10, hF⟩ := bnd hF
  refine J_adv 0 (J_callF (xs := [.d (.int .i64 2), .d (.str [49, 47, 50])]) [.d (.int .i64 2), .d (.str [49, 47, 50])] (.agg [.d (.int .i64 y10.To), .d (.str y10.P)]) (by kernel_rfl) en11 (Res'.refl _) (F11_ok e10) ?_)
  obtain ⟨y11, e11, hF⟩ := bnd hF
  refine J_adv 1 (J_callF (xs := [.d (.str [49, 47, 50]), .d (.sl 2 ([y9, y10].map e_T_api_Branch))]) [.d (.str [49, 47, 50]), .d (.sl 2 ([y9, y10].map e_T_api_Branch))] (.agg [.d (.str y11.Act), .d (.str y11.Gain), .d (.sl 2 (y11.Next.map e_T_api_Branch))]) (by kernel_rfl) en10 (Res'.refl _) (F10_ok e11) ?_)
  obtain ⟨y12, e12, hF⟩ := bnd hF
  refine J_adv 1 (J_callF (xs := [.d (.int .i64 2), .d (.str [49])]) [.d (.int .i64 2), .d (.str [49])] (.agg [.d (.int .i64 y12.To), .d (.str y12.P)]) (by kernel_rfl) en11 (Res'.refl _) (F11_ok e12) ?_)
  obtain ⟨y13, e13, hF⟩ := bnd hF
  refine J_adv 1 (J_callF (xs := [.d (.str [48]), .d (.sl 2 ([y12].map e_T_api_Branch))]) [.d (.str [48]), .d (.sl 2 ([y12].map e_T_api_Branch))] (.agg [.d (.str y13.Act), .d (.str y13.Gain), .d (.sl 2 (y13.Next.map e_T_api_Branch))]) (by kernel_rfl) en10 (Res'.refl _) (F10_ok e13) ?_)
  have hr_ := Option.some.inj hF; subst hr_
  exact J_adv 5 (J_ret (xs := [.agg [.d (.sl 1 ([0, 1, 0].map e_i64)), .d (.sl 1 ([[y3, y6], [y8, y11], [y13]].map e_lT_api_Choice))]]) [.agg [.d (.sl 1 ([0, 1, 0].map e_i64)), .d (.sl 1 ([[y3, y6], [y8, y11], [y13]].map e_lT_api_Choice))]] rfl rfl (by kernel_rfl) (Res'.refl _) rfl)
/- slices.Equal(()croupier/api.Q,croupier/api.Q) -/
def F17_L1 (d0 : List (List UInt8)) (d1 : List (List UInt8)) : Nat → Int → Option Bool
  | 0, _ => none
  | n_F17_L1 + 1, v2 =>
    bif decide (v2 < ((d0.map e_s).length : Int)) then
      (Option.bind (geti d0 v2) fun y5 =>
      Option.bind (geti d1 v2) fun y6 =>
      bif !(y5 == y6) then
        (some false)
      else
        ((F17_L1 d0 d1 n_F17_L1) (IntKind.i64.wrap (v2 + 1))))
    else
      (some true)
def F17 (fuel : Nat) (d0 : List (List UInt8)) (d1 : List (List UInt8)) : Option Bool :=
  bif ((d0.map e_s).length : Int) != ((d1.map e_s).length : Int) then
    (some false)
  else
    (F17_L1 d0 d1 fuel 0)
theorem F17_ok {fuel : Nat} {d0 : List (List UInt8)} {d1 : List (List UInt8)} {r : Bool} (hF : F17 fuel d0 d1 = some r) :
    CallF Tryz.prog 17 [.d (.sl 1 (d0.map e_s)), .d (.sl 1 (d1.map e_s))] (.d (.bool r)) := by
  unfold F17 at hF
  refine callF_of (N := 26) (b := bodyOf Tryz.f17) Tryz.func17 (by kernel_rfl) rfl rfl ?_
  refine J_adv 13 (J_bool 10 (b := ((d0.map e_s).length : Int) != ((d1.map e_s).length : Int)) (by kernel_rfl) (fun hb1 => ?_) (fun hb1 => ?_))
  · replace hF := ift hb1 hF
    have hr_ := Option.some.inj hF; subst hr_
    exact J_adv 5 (J_ret (xs := [.d (.bool false)]) [.d (.bool false)] rfl rfl (by kernel_rfl) (Res'.refl _) rfl)
  · replace hF := iff' hb1 hF
    have hF17_L1 : ∀ (n_F17_L1 : Nat) (v2 : Int), F17_L1 d0 d1 n_F17_L1 v2 = some r → J none Tryz.prog 26 [] (finF Tryz.prog Tryz.f17 (.d (.bool r))) ⟨mkT [(0, .d (.sl 1 (d0.map e_s))), (1, .d (.sl 1 (d1.map e_s))), (12, .d (.int .i64 ((d0.map e_s).length : Int))), (13, .d (.int .i64 v2))], [], [.inLoop (cAt (bodyOf Tryz.f17) [1, 1, 0, 1, 0, 0]), .inBlock 0, .code (cAt (bodyOf Tryz.f17) [1, 1, 1])]⟩ := by
      clear hF; intro n_F17_L1
      induction n_F17_L1 with
      | zero => intro v2 hF; cases hF
      | succ n_F17_L1 ih_F17_L1 =>
        intro v2 hF
        rw [F17_L1] at hF
        refine J_adv 6 (J_bool 14 (b := decide (v2 < ((d0.map e_s).length : Int))) (by kernel_rfl) (fun hb6 => ?_) (fun hb6 => ?_))
        · replace hF := ift hb6 hF
          refine J_adv 10 (J_draw (by kernel_rfl) (by kernel_rfl) ?_)
          obtain ⟨y5, e5, hF⟩ := bnd hF
          refine JD_adv 2 (JD_opt1 (o := geti (d0.map e_s) v2) (e_s y5) (by kernel_rfl) (by kernel_rfl) (gm e5) ?_)
          obtain ⟨y6, e6, hF⟩ := bnd hF
          refine JD_adv 3 (JD_opt1 (o := geti (d1.map e_s) v2) (e_s y6) (by kernel_rfl) (by kernel_rfl) (gm e6) ?_)
          refine JD_adv 2 (JD_end (by kernel_rfl) ?_)
          refine J_adv 0 (J_bool 24 (b := !(y5 == y6)) (by kernel_rfl) (fun hb7 => ?_) (fun hb7 => ?_))
          · replace hF := ift hb7 hF
            have hr_ := Option.some.inj hF; subst hr_
            exact J_adv 5 (J_ret (xs := [.d (.bool false)]) [.d (.bool false)] rfl rfl (by kernel_rfl) (Res'.refl _) rfl)
          · replace hF := iff' hb7 hF
            exact J_adv 7 (J_at [0, 1, 12, 13] [] (T0 := [.inLoop (cAt (bodyOf Tryz.f17) [1, 1, 0, 1, 0, 0]), .inBlock 0, .code (cAt (bodyOf Tryz.f17) [1, 1, 1])]) (by kernel_rfl) rfl (ih_F17_L1 (IntKind.i64.wrap (v2 + 1)) hF))
        · replace hF := iff' hb6 hF
          have hr_ := Option.some.inj hF; subst hr_
          exact J_adv 6 (J_ret (xs := [.d (.bool true)]) [.d (.bool true)] rfl rfl (by kernel_rfl) (Res'.refl _) rfl)
    exact J_adv 11 (J_at [0, 1, 12, 13] [] (T0 := [.inLoop (cAt (bodyOf Tryz.f17) [1, 1, 0, 1, 0, 0]), .inBlock 0, .code (cAt (bodyOf Tryz.f17) [1, 1, 1])]) (by kernel_rfl) rfl (hF17_L1 fuel 0 hF))
/- croupier/croupierlaw21.is -/
def F57 (fuel : Nat) (d0 : Int) (d1 : List (List UInt8)) : Option Bool :=
  Option.bind (F16) fun y1 =>
  Option.bind (F12 fuel y1 4 d0) fun y2 =>
  Option.bind (
    bif y2.2 == 0 then
      (Option.bind (F17 fuel y2.1 d1) fun y5 =>
      some y5)
    else
      (some false)) fun o1 =>
  some o1
theorem F57_ok {fuel : Nat} {d0 : Int} {d1 : List (List UInt8)} {r : Bool} (hF : F57 fuel d0 d1 = some r) :
    CallF Tryz.prog 57 [.d (.int .i64 d0), .d (.sl 1 (d1.map e_s))] (.d (.bool r)) := by
  unfold F57 at hF
  refine callF_of (N := 20) (b := bodyOf Tryz.f57) Tryz.func57 (by kernel_rfl) rfl rfl ?_
  obtain ⟨y1, e1, hF⟩ := bnd hF
  refine J_adv 6 (J_callF (xs := []) [] (.agg [.d (.sl 1 (y1.Owner.map e_i64)), .d (.sl 1 (y1.Choices.map e_lT_api_Choice))]) (by kernel_rfl) en16 (Res'.refl _) (F16_ok e1) ?_)
  obtain ⟨y2, e2, hF⟩ := bnd hF
  refine J_adv 1 (J_callF (xs := [.agg [.d (.sl 1 (y1.Owner.map e_i64)), .d (.sl 1 (y1.Choices.map e_lT_api_Choice))], .d (.int .u64 4), .d (.int .i64 d0)]) [.agg [.d (.sl 1 (y1.Owner.map e_i64)), .d (.sl 1 (y1.Choices.map e_lT_api_Choice))], .d (.int .u64 4), .d (.int .i64 d0)] (.tup [.d (.sl 1 (y2.1.map e_s)), .d (.int .i64 y2.2)]) (by kernel_rfl) en12 (Res'.refl _) (F12_ok e2) ?_)
  obtain ⟨o1, hO, hF⟩ := bnd hF
  have hR1 : J none Tryz.prog 20 [] (finF Tryz.prog Tryz.f57 (.d (.bool r))) ⟨mkT [(4, .d (.bool o1))], [], [.ops (opsOf (cAt (bodyOf Tryz.f57) [1, 1, 0])) [], .code (cAt (bodyOf Tryz.f57) [1, 1, 1])]⟩ := by
    clear hO
    have hr_ := Option.some.inj hF; subst hr_
    exact J_adv 1 (J_ret (xs := [.d (.bool o1)]) [.d (.bool o1)] rfl rfl (by kernel_rfl) (Res'.refl _) rfl)
  clear hF; rename _ = some o1 => hF
  refine J_adv 11 (J_bool 15 (b := y2.2 == 0) (by kernel_rfl) (fun hb3 => ?_) (fun hb3 => ?_))
  · replace hF := ift hb3 hF
    obtain ⟨y5, e5, hF⟩ := bnd hF
    refine J_adv 2 (J_callF (xs := [.d (.sl 1 (y2.1.map e_s)), .d (.sl 1 (d1.map e_s))]) [.d (.sl 1 (y2.1.map e_s)), .d (.sl 1 (d1.map e_s))] (.d (.bool y5)) (by kernel_rfl) en17 (Res'.refl _) (F17_ok e5) ?_)
    have hr_ := Option.some.inj hF; subst hr_
    exact J_adv 2 (J_at [4] [] (T0 := [.ops (opsOf (cAt (bodyOf Tryz.f57) [1, 1, 0])) [], .code (cAt (bodyOf Tryz.f57) [1, 1, 1])]) (by kernel_rfl) rfl hR1)
  · replace hF := iff' hb3 hF
    have hr_ := Option.some.inj hF; subst hr_
    exact J_adv 5 (J_at [4] [] (T0 := [.ops (opsOf (cAt (bodyOf Tryz.f57) [1, 1, 0])) [], .code (cAt (bodyOf Tryz.f57) [1, 1, 1])]) (by kernel_rfl) rfl hR1)
/- croupier/croupierref11.SameInts -/
def F69_L1 (d0 : List Int) (d1 : List Int) : Nat → Int → Option Bool
  | 0, _ => none
  | n_F69_L1 + 1, v2 =>
    bif decide (v2 < ((d0.map e_i64).length : Int)) then
      (Option.bind (geti d0 v2) fun y5 =>
      Option.bind (geti d1 v2) fun y6 =>
      bif y5 != y6 then
        (some false)
      else
        ((F69_L1 d0 d1 n_F69_L1) (IntKind.i64.wrap (v2 + 1))))
    else
      (some true)
def F69 (fuel : Nat) (d0 : List Int) (d1 : List Int) : Option Bool :=
  bif ((d0.map e_i64).length : Int) != ((d1.map e_i64).length : Int) then
    (some false)
  else
    (F69_L1 d0 d1 fuel 0)
theorem F69_ok {fuel : Nat} {d0 : List Int} {d1 : List Int} {r : Bool} (hF : F69 fuel d0 d1 = some r) :
    CallF Tryz.prog 69 [.d (.sl 1 (d0.map e_i64)), .d (.sl 1 (d1.map e_i64))] (.d (.bool r)) := by
  unfold F69 at hF
  refine callF_of (N := 26) (b := bodyOf Tryz.f69) Tryz.func69 (by kernel_rfl) rfl rfl ?_
  refine J_adv 13 (J_bool 10 (b := ((d0.map e_i64).length : Int) != ((d1.map e_i64).length : Int)) (by kernel_rfl) (fun hb1 => ?_) (fun hb1 => ?_))
  · replace hF := ift hb1 hF
    have hr_ := Option.some.inj hF; subst hr_
    exact J_adv 5 (J_ret (xs := [.d (.bool false)]) [.d (.bool false)] rfl rfl (by kernel_rfl) (Res'.refl _) rfl)
  · replace hF := iff' hb1 hF
    have hF69_L1 : ∀ (n_F69_L1 : Nat) (v2 : Int), F69_L1 d0 d1 n_F69_L1 v2 = some r → J none Tryz.prog 26 [] (finF Tryz.prog Tryz.f69 (.d (.bool r))) ⟨mkT [(0, .d (.sl 1 (d0.map e_i64))), (1, .d (.sl 1 (d1.map e_i64))), (5, .d (.int .i64 v2))], [], [.inLoop (cAt (bodyOf Tryz.f69) [1, 1, 0, 1, 0, 0]), .inBlock 0, .code (cAt (bodyOf Tryz.f69) [1, 1, 1])]⟩ := by
      clear hF; intro n_F69_L1
      induction n_F69_L1 with
      | zero => intro v2 hF; cases hF
      | succ n_F69_L1 ih_F69_L1 =>
        intro v2 hF
        rw [F69_L1] at hF
        refine J_adv 9 (J_bool 14 (b := decide (v2 < ((d0.map e_i64).length : Int))) (by kernel_rfl) (fun hb6 => ?_) (fun hb6 => ?_))
        · replace hF := ift hb6 hF
          refine J_adv 5 (J_draw (by kernel_rfl) (by kernel_rfl) ?_)
          obtain ⟨y5, e5, hF⟩ := bnd hF
          refine JD_adv 2 (JD_opt1 (o := geti (d0.map e_i64) v2) (e_i64 y5) (by kernel_rfl) (by kernel_rfl) (gm e5) ?_)
          obtain ⟨y6, e6, hF⟩ := bnd hF
          refine JD_adv 3 (JD_opt1 (o := geti (d1.map e_i64) v2) (e_i64 y6) (by kernel_rfl) (by kernel_rfl) (gm e6) ?_)
          refine JD_adv 2 (JD_end (by kernel_rfl) ?_)
          refine J_adv 0 (J_bool 25 (b := y5 != y6) (by kernel_rfl) (fun hb7 => ?_) (fun hb7 => ?_))
          · replace hF := ift hb7 hF
            have hr_ := Option.some.inj hF; subst hr_
            exact J_adv 5 (J_ret (xs := [.d (.bool false)]) [.d (.bool false)] rfl rfl (by kernel_rfl) (Res'.refl _) rfl)
          · replace hF := iff' hb7 hF
            exact J_adv 8 (J_at [0, 1, 5] [] (T0 := [.inLoop (cAt (bodyOf Tryz.f69) [1, 1, 0, 1, 0, 0]), .inBlock 0, .code (cAt (bodyOf Tryz.f69) [1, 1, 1])]) (by kernel_rfl) rfl (ih_F69_L1 (IntKind.i64.wrap (v2 + 1)) hF))
        · replace hF := iff' hb6 hF
          have hr_ := Option.some.inj hF; subst hr_
          exact J_adv 6 (J_ret (xs := [.d (.bool true)]) [.d (.bool true)] rfl rfl (by kernel_rfl) (Res'.refl _) rfl)
    exact J_adv 9 (J_at [0, 1, 5] [] (T0 := [.inLoop (cAt (bodyOf Tryz.f69) [1, 1, 0, 1, 0, 0]), .inBlock 0, .code (cAt (bodyOf Tryz.f69) [1, 1, 1])]) (by kernel_rfl) rfl (hF69_L1 fuel 0 hF))
/- croupier/croupierref11.SameLists -/
def F26_L1 (fuel : Nat) (d0 : List (List Int)) (d1 : List (List Int)) : Nat → Int → Option Bool
  | 0, _ => none
  | n_F26_L1 + 1, v2 =>
    bif decide (v2 < ((d0.map e_li64).length : Int)) then
      (Option.bind (geti d0 v2) fun y7 =>
      Option.bind (geti d1 v2) fun y8 =>
      Option.bind (F69 fuel y7 y8) fun y9 =>
      bif !y9 then
        (some false)
      else
        ((F26_L1 fuel d0 d1 n_F26_L1) (IntKind.i64.wrap (v2 + 1))))
    else
      (some true)
def F26 (fuel : Nat) (d0 : List (List Int)) (d1 : List (List Int)) : Option Bool :=
  bif ((d0.map e_li64).length : Int) != ((d1.map e_li64).length : Int) then
    (some false)
  else
    (F26_L1 fuel d0 d1 fuel 0)
theorem F26_ok {fuel : Nat} {d0 : List (List Int)} {d1 : List (List Int)} {r : Bool} (hF : F26 fuel d0 d1 = some r) :
    CallF Tryz.prog 26 [.d (.sl 1 (d0.map e_li64)), .d (.sl 1 (d1.map e_li64))] (.d (.bool r)) := by
  unfold F26 at hF
  refine callF_of (N := 27) (b := bodyOf Tryz.f26) Tryz.func26 (by kernel_rfl) rfl rfl ?_
  refine J_adv 13 (J_bool 10 (b := ((d0.map e_li64).length : Int) != ((d1.map e_li64).length : Int)) (by kernel_rfl) (fun hb1 => ?_) (fun hb1 => ?_))
  · replace hF := ift hb1 hF
    have hr_ := Option.some.inj hF; subst hr_
    exact J_adv 5 (J_ret (xs := [.d (.bool false)]) [.d (.bool false)] rfl rfl (by kernel_rfl) (Res'.refl _) rfl)
  · replace hF := iff' hb1 hF
    have hF26_L1 : ∀ (n_F26_L1 : Nat) (v2 : Int), F26_L1 fuel d0 d1 n_F26_L1 v2 = some r → J none Tryz.prog 27 [] (finF Tryz.prog Tryz.f26 (.d (.bool r))) ⟨mkT [(0, .d (.sl 1 (d0.map e_li64))), (1, .d (.sl 1 (d1.map e_li64))), (5, .d (.int .i64 v2))], [], [.inLoop (cAt (bodyOf Tryz.f26) [1, 1, 0, 1, 0, 0]), .inBlock 0, .code (cAt (bodyOf Tryz.f26) [1, 1, 1])]⟩ := by
      clear hF; intro n_F26_L1
      induction n_F26_L1 with
      | zero => intro v2 hF; cases hF
      | succ n_F26_L1 ih_F26_L1 =>
        intro v2 hF
        rw [F26_L1] at hF
        refine J_adv 9 (J_bool 14 (b := decide (v2 < ((d0.map e_li64).length : Int))) (by kernel_rfl) (fun hb6 => ?_) (fun hb6 => ?_))
        · replace hF := ift hb6 hF
          refine J_adv 5 (J_draw (by kernel_rfl) (by kernel_rfl) ?_)
          obtain ⟨y7, e7, hF⟩ := bnd hF
          refine JD_adv 2 (JD_opt1 (o := geti (d0.map e_li64) v2) (e_li64 y7) (by kernel_rfl) (by kernel_rfl) (gm e7) ?_)
          obtain ⟨y8, e8, hF⟩ := bnd hF
          refine JD_adv 3 (JD_opt1 (o := geti (d1.map e_li64) v2) (e_li64 y8) (by kernel_rfl) (by kernel_rfl) (gm e8) ?_)
          obtain ⟨y9, e9, hF⟩ := bnd hF
          refine JD_adv 1 (JD_callF (xs := [.d (.sl 1 (y7.map e_i64)), .d (.sl 1 (y8.map e_i64))]) [.d (.sl 1 (y7.map e_i64)), .d (.sl 1 (y8.map e_i64))] (.d (.bool y9)) (by kernel_rfl) (by kernel_rfl) en69 (Res'.refl _) (F69_ok e9) ?_)
          refine JD_adv 1 (JD_end (by kernel_rfl) ?_)
          refine J_adv 0 (J_bool 26 (b := !y9) (by kernel_rfl) (fun hb7 => ?_) (fun hb7 => ?_))
          · replace hF := ift hb7 hF
            have hr_ := Option.some.inj hF; subst hr_
            exact J_adv 5 (J_ret (xs := [.d (.bool false)]) [.d (.bool false)] rfl rfl (by kernel_rfl) (Res'.refl _) rfl)
          · replace hF := iff' hb7 hF
            exact J_adv 8 (J_at [0, 1, 5] [] (T0 := [.inLoop (cAt (bodyOf Tryz.f26) [1, 1, 0, 1, 0, 0]), .inBlock 0, .code (cAt (bodyOf Tryz.f26) [1, 1, 1])]) (by kernel_rfl) rfl (ih_F26_L1 (IntKind.i64.wrap (v2 + 1)) hF))
        · replace hF := iff' hb6 hF
          have hr_ := Option.some.inj hF; subst hr_
          exact J_adv 6 (J_ret (xs := [.d (.bool true)]) [.d (.bool true)] rfl rfl (by kernel_rfl) (Res'.refl _) rfl)
    exact J_adv 9 (J_at [0, 1, 5] [] (T0 := [.inLoop (cAt (bodyOf Tryz.f26) [1, 1, 0, 1, 0, 0]), .inBlock 0, .code (cAt (bodyOf Tryz.f26) [1, 1, 1])]) (by kernel_rfl) rfl (hF26_L1 fuel 0 hF))
/- croupier/croupierlaw21.gain -/
def F58 (fuel : Nat) (d0 : Int) (d1 : List (List UInt8)) : Option Bool :=
  Option.bind (F16) fun y1 =>
  Option.bind (F14 fuel y1 d0) fun y2 =>
  Option.bind (
    bif y2.2 == 0 then
      (Option.bind (F17 fuel y2.1 d1) fun y5 =>
      some y5)
    else
      (some false)) fun o1 =>
  some o1
theorem F58_ok {fuel : Nat} {d0 : Int} {d1 : List (List UInt8)} {r : Bool} (hF : F58 fuel d0 d1 = some r) :
    CallF Tryz.prog 58 [.d (.int .i64 d0), .d (.sl 1 (d1.map e_s))] (.d (.bool r)) := by
  unfold F58 at hF
  refine callF_of (N := 20) (b := bodyOf Tryz.f58) Tryz.func58 (by kernel_rfl) rfl rfl ?_
  obtain ⟨y1, e1, hF⟩ := bnd hF
  refine J_adv 6 (J_callF (xs := []) [] (.agg [.d (.sl 1 (y1.Owner.map e_i64)), .d (.sl 1 (y1.Choices.map e_lT_api_Choice))]) (by kernel_rfl) en16 (Res'.refl _) (F16_ok e1) ?_)
  obtain ⟨y2, e2, hF⟩ := bnd hF
  refine J_adv 1 (J_callF (xs := [.agg [.d (.sl 1 (y1.Owner.map e_i64)), .d (.sl 1 (y1.Choices.map e_lT_api_Choice))], .d (.int .i64 d0)]) [.agg [.d (.sl 1 (y1.Owner.map e_i64)), .d (.sl 1 (y1.Choices.map e_lT_api_Choice))], .d (.int .i64 d0)] (.tup [.d (.sl 1 (y2.1.map e_s)), .d (.int .i64 y2.2)]) (by kernel_rfl) en14 (Res'.refl _) (F14_ok e2) ?_)
  obtain ⟨o1, hO, hF⟩ := bnd hF
  have hR1 : J none Tryz.prog 20 [] (finF Tryz.prog Tryz.f58 (.d (.bool r))) ⟨mkT [(4, .d (.bool o1))], [], [.ops (opsOf (cAt (bodyOf Tryz.f58) [1, 1, 0])) [], .code (cAt (bodyOf Tryz.f58) [1, 1, 1])]⟩ := by
    clear hO
    have hr_ := Option.some.inj hF; subst hr_
    exact J_adv 1 (J_ret (xs := [.d (.bool o1)]) [.d (.bool o1)] rfl rfl (by kernel_rfl) (Res'.refl _) rfl)
  clear hF; rename _ = some o1 => hF
  refine J_adv 11 (J_bool 15 (b := y2.2 == 0) (by kernel_rfl) (fun hb3 => ?_) (fun hb3 => ?_))
  · replace hF := ift hb3 hF
    obtain ⟨y5, e5, hF⟩ := bnd hF
    refine J_adv 2 (J_callF (xs := [.d (.sl 1 (y2.1.map e_s)), .d (.sl 1 (d1.map e_s))]) [.d (.sl 1 (y2.1.map e_s)), .d (.sl 1 (d1.map e_s))] (.d (.bool y5)) (by kernel_rfl) en17 (Res'.refl _) (F17_ok e5) ?_)
    have hr_ := Option.some.inj hF; subst hr_
    exact J_adv 2 (J_at [4] [] (T0 := [.ops (opsOf (cAt (bodyOf Tryz.f58) [1, 1, 0])) [], .code (cAt (bodyOf Tryz.f58) [1, 1, 1])]) (by kernel_rfl) rfl hR1)
  · replace hF := iff' hb3 hF
    have hr_ := Option.some.inj hF; subst hr_
    exact J_adv 5 (J_at [4] [] (T0 := [.ops (opsOf (cAt (bodyOf Tryz.f58) [1, 1, 0])) [], .code (cAt (bodyOf Tryz.f58) [1, 1, 1])]) (by kernel_rfl) rfl hR1)
/- croupier/croupierlaw21.least -/
def F59 (fuel : Nat) (d0 : Int) (d1 : Int) (d2 : List UInt8) (d3 : Int) (d4 : Int) : Option Bool :=
  Option.bind (F16) fun y1 =>
  Option.bind (F13 fuel y1 d0 d1 d2) fun y2 =>
  Option.bind (
    bif y2.1 == d3 then
      (some (y2.2 == d4))
    else
      (some false)) fun o1 =>
  some o1
theorem F59_ok {fuel : Nat} {d0 : Int} {d1 : Int} {d2 : List UInt8} {d3 : Int} {d4 : Int} {r : Bool} (hF : F59 fuel d0 d1 d2 d3 d4 = some r) :
    CallF Tryz.prog 59 [.d (.int .i64 d0), .d (.int .u64 d1), .d (.str d2), .d (.int .i64 d3), .d (.int .i64 d4)] (.d (.bool r)) := by
  unfold F59 at hF
  refine callF_of (N := 29) (b := bodyOf Tryz.f59) Tryz.func59 (by kernel_rfl) rfl rfl ?_
  obtain ⟨y1, e1, hF⟩ := bnd hF
  refine J_adv 6 (J_callF (xs := []) [] (.agg [.d (.sl 1 (y1.Owner.map e_i64)), .d (.sl 1 (y1.Choices.map e_lT_api_Choice))]) (by kernel_rfl) en16 (Res'.refl _) (F16_ok e1) ?_)
  obtain ⟨y2, e2, hF⟩ := bnd hF
  refine J_adv 3 (J_callF (xs := [.agg [.d (.sl 1 (y1.Owner.map e_i64)), .d (.sl 1 (y1.Choices.map e_lT_api_Choice))], .d (.int .i64 d0), .d (.int .u64 d1), .d (.str d2)]) [.agg [.d (.sl 1 (y1.Owner.map e_i64)), .d (.sl 1 (y1.Choices.map e_lT_api_Choice))], .d (.int .i64 d0), .d (.int .u64 d1), .d (.str d2)] (.tup [.d (.int .i64 y2.1), .d (.int .i64 y2.2)]) (by kernel_rfl) en13 (Res'.refl _) (F13_ok e2) ?_)
  obtain ⟨o1, hO, hF⟩ := bnd hF
  have hR1 : J none Tryz.prog 29 [] (finF Tryz.prog Tryz.f59 (.d (.bool r))) ⟨mkT [(10, .d (.bool o1))], [], [.ops (opsOf (cAt (bodyOf Tryz.f59) [1, 1, 0])) [], .code (cAt (bodyOf Tryz.f59) [1, 1, 1])]⟩ := by
    clear hO
    have hr_ := Option.some.inj hF; subst hr_
    exact J_adv 1 (J_ret (xs := [.d (.bool o1)]) [.d (.bool o1)] rfl rfl (by kernel_rfl) (Res'.refl _) rfl)
  clear hF; rename _ = some o1 => hF
  refine J_adv 12 (J_bool 24 (b := y2.1 == d3) (by kernel_rfl) (fun hb3 => ?_) (fun hb3 => ?_))
  · replace hF := ift hb3 hF
    have hr_ := Option.some.inj hF; subst hr_
    exact J_adv 5 (J_at [10] [] (T0 := [.ops (opsOf (cAt (bodyOf Tryz.f59) [1, 1, 0])) [], .code (cAt (bodyOf Tryz.f59) [1, 1, 1])]) (by kernel_rfl) rfl hR1)
  · replace hF := iff' hb3 hF
    have hr_ := Option.some.inj hF; subst hr_
    exact J_adv 5 (J_at [10] [] (T0 := [.ops (opsOf (cAt (bodyOf Tryz.f59) [1, 1, 0])) [], .code (cAt (bodyOf Tryz.f59) [1, 1, 1])]) (by kernel_rfl) rfl hR1)
/- croupier/croupierlaw21.works -/
def F19 (fuel : Nat) : Option Bool :=
  Option.bind (F16) fun y1 =>
  Option.bind (F15 fuel y1 4 2) fun y2 =>
  Option.bind (F15 fuel y1 5 1) fun y3 =>
  Option.bind (F15 fuel y1 4 0) fun y4 =>
  Option.bind (F12 fuel y1 4 61) fun y5 =>
  Option.bind (
    Option.bind (F57 fuel 0 [[48], [48], [49]]) fun y50 =>
    bif y50 then
      (Option.bind (F57 fuel 1 [[49, 47, 52], [48], [49]]) fun y51 =>
      bif y51 then
        (Option.bind (F57 fuel 2 [[49, 47, 52], [49, 47, 52], [49]]) fun y52 =>
        bif y52 then
          (Option.bind (F57 fuel 3 [[55, 47, 49, 54], [49, 47, 52], [49]]) fun y53 =>
          bif y53 then
            (bif y2.2 == 0 then
              (bif y3.2 == 0 then
                (bif y4.2 == 0 then
                  (bif y5.2 == 2 then
                    (some (((y4.1.map e_li64).length : Int) == 0))
                  else
                    (some false))
                else
                  (some false))
              else
                (some false))
            else
              (some false))
          else
            (some false))
        else
          (some false))
      else
        (some false))
    else
      (some false)) fun o1 =>
  Option.bind (
    bif o1 then
      (Option.bind (F26 fuel y2.1 [[1, 0, 0], [1, 0, 0]]) fun y45 =>
      bif y45 then
        (Option.bind (F26 fuel y3.1 [[0, 1, 0]]) fun y46 =>
        bif y46 then
          (Option.bind (F58 fuel 0 [[48], [48], [48]]) fun y47 =>
          bif y47 then
            (Option.bind (F58 fuel 1 [[49], [49, 47, 50], [48]]) fun y48 =>
            bif y48 then
              (Option.bind (F58 fuel 2 [[55, 47, 52], [51, 47, 52], [48]]) fun y49 =>
              some y49)
            else
              (some false))
          else
            (some false))
        else
          (some false))
      else
        (some false))
    else
      (some false)) fun o2 =>
  Option.bind (
    bif o2 then
      (Option.bind (F59 fuel 0 4 [49, 47, 52] 1 0) fun y38 =>
      bif y38 then
        (Option.bind (F59 fuel 1 4 [49, 47, 52] 2 0) fun y39 =>
        bif y39 then
          (Option.bind (F59 fuel 0 4 [48] 0 0) fun y40 =>
          bif y40 then
            (Option.bind (F59 fuel 0 0 [49, 47, 50] 0 4) fun y41 =>
            bif y41 then
              (Option.bind (F59 fuel 3 4 [49] 0 2) fun y42 =>
              bif y42 then
                (Option.bind (F59 fuel 0 4 [53, 47, 52] 0 2) fun y43 =>
                bif y43 then
                  (Option.bind (F59 fuel 0 4 [120] 0 5) fun y44 =>
                  some y44)
                else
                  (some false))
              else
                (some false))
            else
              (some false))
          else
            (some false))
        else
          (some false))
      else
        (some false))
    else
      (some false)) fun o3 =>
  some o3
theorem F19_ok {fuel : Nat} {r : Bool} (hF : F19 fuel = some r) :
    CallF Tryz.prog 19 [] (.d (.bool r)) := by
  unfold F19 at hF
  refine callF_of (N := 115) (b := bodyOf Tryz.f19) Tryz.func19 (by kernel_rfl) rfl rfl ?_
  obtain ⟨y1, e1, hF⟩ := bnd hF
  refine J_adv 6 (J_callF (xs := []) [] (.agg [.d (.sl 1 (y1.Owner.map e_i64)), .d (.sl 1 (y1.Choices.map e_lT_api_Choice))]) (by kernel_rfl) en16 (Res'.refl _) (F16_ok e1) ?_)
  obtain ⟨y2, e2, hF⟩ := bnd hF
  refine J_adv 6 (J_callF (xs := [.agg [.d (.sl 1 (y1.Owner.map e_i64)), .d (.sl 1 (y1.Choices.map e_lT_api_Choice))], .d (.int .u64 4), .d (.int .i64 2)]) [.agg [.d (.sl 1 (y1.Owner.map e_i64)), .d (.sl 1 (y1.Choices.map e_lT_api_Choice))], .d (.int .u64 4), .d (.int .i64 2)] (.tup [.d (.sl 1 (y2.1.map e_li64)), .d (.int .i64 y2.2)]) (by kernel_rfl) en15 (Res'.refl _) (F15_ok e2) ?_)
  obtain ⟨y3, e3, hF⟩ := bnd hF
  refine J_adv 9 (J_callF (xs := [.agg [.d (.sl 1 (y1.Owner.map e_i64)), .d (.sl 1 (y1.Choices.map e_lT_api_Choice))], .d (.int .u64 5), .d (.int .i64 1)]) [.agg [.d (.sl 1 (y1.Owner.map e_i64)), .d (.sl 1 (y1.Choices.map e_lT_api_Choice))], .d (.int .u64 5), .d (.int .i64 1)] (.tup [.d (.sl 1 (y3.1.map e_li64)), .d (.int .i64 y3.2)]) (by kernel_rfl) en15 (Res'.refl _) (F15_ok e3) ?_)
  obtain ⟨y4, e4, hF⟩ := bnd hF
  refine J_adv 9 (J_callF (xs := [.agg [.d (.sl 1 (y1.Owner.map e_i64)), .d (.sl 1 (y1.Choices.map e_lT_api_Choice))], .d (.int .u64 4), .d (.int .i64 0)]) [.agg [.d (.sl 1 (y1.Owner.map e_i64)), .d (.sl 1 (y1.Choices.map e_lT_api_Choice))], .d (.int .u64 4), .d (.int .i64 0)] (.tup [.d (.sl 1 (y4.1.map e_li64)), .d (.int .i64 y4.2)]) (by kernel_rfl) en15 (Res'.refl _) (F15_ok e4) ?_)
  obtain ⟨y5, e5, hF⟩ := bnd hF
  refine J_adv 9 (J_callF (xs := [.agg [.d (.sl 1 (y1.Owner.map e_i64)), .d (.sl 1 (y1.Choices.map e_lT_api_Choice))], .d (.int .u64 4), .d (.int .i64 61)]) [.agg [.d (.sl 1 (y1.Owner.map e_i64)), .d (.sl 1 (y1.Choices.map e_lT_api_Choice))], .d (.int .u64 4), .d (.int .i64 61)] (.tup [.d (.sl 1 (y5.1.map e_s)), .d (.int .i64 y5.2)]) (by kernel_rfl) en12 (Res'.refl _) (F12_ok e5) ?_)
  obtain ⟨o1, hO, hF⟩ := bnd hF
  have hR1 : J none Tryz.prog 115 [] (finF Tryz.prog Tryz.f19 (.d (.bool r))) ⟨mkT [(2, .d (.sl 1 (y2.1.map e_li64))), (4, .d (.sl 1 (y3.1.map e_li64))), (10, .d (.bool o1))], [], [.ops (opsOf (cAt (bodyOf Tryz.f19) [1, 1, 1, 1, 1, 1, 0])) [], .code (cAt (bodyOf Tryz.f19) [1, 1, 1, 1, 1, 1, 1])]⟩ := by
    clear hO
    obtain ⟨o2, hO, hF⟩ := bnd hF
    have hR2 : J none Tryz.prog 115 [] (finF Tryz.prog Tryz.f19 (.d (.bool r))) ⟨mkT [(10, .d (.bool o2))], [], [.ops (opsOf (cAt (bodyOf Tryz.f19) [1, 1, 1, 1, 1, 1, 1, 0])) [], .code (cAt (bodyOf Tryz.f19) [1, 1, 1, 1, 1, 1, 1, 1])]⟩ := by
      clear hO
      obtain ⟨o3, hO, hF⟩ := bnd hF
      have hR3 : J none Tryz.prog 115 [] (finF Tryz.prog Tryz.f19 (.d (.bool r))) ⟨mkT [(0, .d (.bool o3))], [], [.ops (opsOf (cAt (bodyOf Tryz.f19) [1, 1, 1, 1, 1, 1, 1, 1, 0])) [], .code (cAt (bodyOf Tryz.f19) [1, 1, 1, 1, 1, 1, 1, 1, 1])]⟩ := by
        clear hO
        have hr_ := Option.some.inj hF; subst hr_
        exact J_adv 1 (J_ret (xs := [.d (.bool o3)]) [.d (.bool o3)] rfl rfl (by kernel_rfl) (Res'.refl _) rfl)
      clear hF; rename _ = some o3 => hF
      refine J_adv 5 (J_bool 94 (b := o2) (by kernel_rfl) (fun hb41 => ?_) (fun hb41 => ?_))
      · replace hF := ift hb41 hF
        obtain ⟨y38, e38, hF⟩ := bnd hF
        refine J_adv 0 (J_callF (xs := [.d (.int .i64 0), .d (.int .u64 4), .d (.str [49, 47, 52]), .d (.int .i64 1), .d (.int .i64 0)]) [.d (.int .i64 0), .d (.int .u64 4), .d (.str [49, 47, 52]), .d (.int .i64 1), .d (.int .i64 0)] (.d (.bool y38)) (by kernel_rfl) en59 (Res'.refl _) (F59_ok e38) ?_)
        refine J_adv 2 (J_bool 97 (b := y38) (by kernel_rfl) (fun hb42 => ?_) (fun hb42 => ?_))
        · replace hF := ift hb42 hF
          obtain ⟨y39, e39, hF⟩ := bnd hF
          refine J_adv 0 (J_callF (xs := [.d (.int .i64 1), .d (.int .u64 4), .d (.str [49, 47, 52]), .d (.int .i64 2), .d (.int .i64 0)]) [.d (.int .i64 1), .d (.int .u64 4), .d (.str [49, 47, 52]), .d (.int .i64 2), .d (.int .i64 0)] (.d (.bool y39)) (by kernel_rfl) en59 (Res'.refl _) (F59_ok e39) ?_)
          refine J_adv 2 (J_bool 100 (b := y39) (by kernel_rfl) (fun hb43 => ?_) (fun hb43 => ?_))
          · replace hF := ift hb43 hF
            obtain ⟨y40, e40, hF⟩ := bnd hF
            refine J_adv 0 (J_callF (xs := [.d (.int .i64 0), .d (.int .u64 4), .d (.str [48]), .d (.int .i64 0), .d (.int .i64 0)]) [.d (.int .i64 0), .d (.int .u64 4), .d (.str [48]), .d (.int .i64 0), .d (.int .i64 0)] (.d (.bool y40)) (by kernel_rfl) en59 (Res'.refl _) (F59_ok e40) ?_)
            refine J_adv 2 (J_bool 103 (b := y40) (by kernel_rfl) (fun hb44 => ?_) (fun hb44 => ?_))
            · replace hF := ift hb44 hF
              obtain ⟨y41, e41, hF⟩ := bnd hF
              refine J_adv 0 (J_callF (xs := [.d (.int .i64 0), .d (.int .u64 0), .d (.str [49, 47, 50]), .d (.int .i64 0), .d (.int .i64 4)]) [.d (.int .i64 0), .d (.int .u64 0), .d (.str [49, 47, 50]), .d (.int .i64 0), .d (.int .i64 4)] (.d (.bool y41)) (by kernel_rfl) en59 (Res'.refl _) (F59_ok e41) ?_)
              refine J_adv 2 (J_bool 106 (b := y41) (by kernel_rfl) (fun hb45 => ?_) (fun hb45 => ?_))
              · replace hF := ift hb45 hF
                obtain ⟨y42, e42, hF⟩ := bnd hF
                refine J_adv 0 (J_callF (xs := [.d (.int .i64 3), .d (.int .u64 4), .d (.str [49]), .d (.int .i64 0), .d (.int .i64 2)]) [.d (.int .i64 3), .d (.int .u64 4), .d (.str [49]), .d (.int .i64 0), .d (.int .i64 2)] (.d (.bool y42)) (by kernel_rfl) en59 (Res'.refl _) (F59_ok e42) ?_)
                refine J_adv 2 (J_bool 109 (b := y42) (by kernel_rfl) (fun hb46 => ?_) (fun hb46 => ?_))
                · replace hF := ift hb46 hF
                  obtain ⟨y43, e43, hF⟩ := bnd hF
                  refine J_adv 0 (J_callF (xs := [.d (.int .i64 0), .d (.int .u64 4), .d (.str [53, 47, 52]), .d (.int .i64 0), .d (.int .i64 2)]) [.d (.int .i64 0), .d (.int .u64 4), .d (.str [53, 47, 52]), .d (.int .i64 0), .d (.int .i64 2)] (.d (.bool y43)) (by kernel_rfl) en59 (Res'.refl _) (F59_ok e43) ?_)
                  refine J_adv 2 (J_bool 112 (b := y43) (by kernel_rfl) (fun hb47 => ?_) (fun hb47 => ?_))
                  · replace hF := ift hb47 hF
                    obtain ⟨y44, e44, hF⟩ := bnd hF
                    refine J_adv 0 (J_callF (xs := [.d (.int .i64 0), .d (.int .u64 4), .d (.str [120]), .d (.int .i64 0), .d (.int .i64 5)]) [.d (.int .i64 0), .d (.int .u64 4), .d (.str [120]), .d (.int .i64 0), .d (.int .i64 5)] (.d (.bool y44)) (by kernel_rfl) en59 (Res'.refl _) (F59_ok e44) ?_)
                    have hr_ := Option.some.inj hF; subst hr_
                    exact J_adv 2 (J_at [0] [] (T0 := [.ops (opsOf (cAt (bodyOf Tryz.f19) [1, 1, 1, 1, 1, 1, 1, 1, 0])) [], .code (cAt (bodyOf Tryz.f19) [1, 1, 1, 1, 1, 1, 1, 1, 1])]) (by kernel_rfl) rfl hR3)
                  · replace hF := iff' hb47 hF
                    have hr_ := Option.some.inj hF; subst hr_
                    exact J_adv 3 (J_at [0] [] (T0 := [.ops (opsOf (cAt (bodyOf Tryz.f19) [1, 1, 1, 1, 1, 1, 1, 1, 0])) [], .code (cAt (bodyOf Tryz.f19) [1, 1, 1, 1, 1, 1, 1, 1, 1])]) (by kernel_rfl) rfl hR3)
                · replace hF := iff' hb46 hF
                  have hr_ := Option.some.inj hF; subst hr_
                  exact J_adv 6 (J_at [0] [] (T0 := [.ops (opsOf (cAt (bodyOf Tryz.f19) [1, 1, 1, 1, 1, 1, 1, 1, 0])) [], .code (cAt (bodyOf Tryz.f19) [1, 1, 1, 1, 1, 1, 1, 1, 1])]) (by kernel_rfl) rfl hR3)
              · replace hF := iff' hb45 hF
                have hr_ := Option.some.inj hF; subst hr_
                exact J_adv 9 (J_at [0] [] (T0 := [.ops (opsOf (cAt (bodyOf Tryz.f19) [1, 1, 1, 1, 1, 1, 1, 1, 0])) [], .code (cAt (bodyOf Tryz.f19) [1, 1, 1, 1, 1, 1, 1, 1, 1])]) (by kernel_rfl) rfl hR3)
            · replace hF := iff' hb44 hF
              have hr_ := Option.some.inj hF; subst hr_
              exact J_adv 12 (J_at [0] [] (T0 := [.ops (opsOf (cAt (bodyOf Tryz.f19) [1, 1, 1, 1, 1, 1, 1, 1, 0])) [], .code (cAt (bodyOf Tryz.f19) [1, 1, 1, 1, 1, 1, 1, 1, 1])]) (by kernel_rfl) rfl hR3)
          · replace hF := iff' hb43 hF
            have hr_ := Option.some.inj hF; subst hr_
            exact J_adv 15 (J_at [0] [] (T0 := [.ops (opsOf (cAt (bodyOf Tryz.f19) [1, 1, 1, 1, 1, 1, 1, 1, 0])) [], .code (cAt (bodyOf Tryz.f19) [1, 1, 1, 1, 1, 1, 1, 1, 1])]) (by kernel_rfl) rfl hR3)
        · replace hF := iff' hb42 hF
          have hr_ := Option.some.inj hF; subst hr_
          exact J_adv 18 (J_at [0] [] (T0 := [.ops (opsOf (cAt (bodyOf Tryz.f19) [1, 1, 1, 1, 1, 1, 1, 1, 0])) [], .code (cAt (bodyOf Tryz.f19) [1, 1, 1, 1, 1, 1, 1, 1, 1])]) (by kernel_rfl) rfl hR3)
      · replace hF := iff' hb41 hF
        have hr_ := Option.some.inj hF; subst hr_
        exact J_adv 21 (J_at [0] [] (T0 := [.ops (opsOf (cAt (bodyOf Tryz.f19) [1, 1, 1, 1, 1, 1, 1, 1, 0])) [], .code (cAt (bodyOf Tryz.f19) [1, 1, 1, 1, 1, 1, 1, 1, 1])]) (by kernel_rfl) rfl hR3)
    clear hF; rename _ = some o2 => hF
    refine J_adv 5 (J_bool 68 (b := o1) (by kernel_rfl) (fun hb48 => ?_) (fun hb48 => ?_))
    · replace hF := ift hb48 hF
      obtain ⟨y45, e45, hF⟩ := bnd hF
      refine J_adv 4 (J_callF (xs := [.d (.sl 1 (y2.1.map e_li64)), .d (.sl 1 ([[1, 0, 0], [1, 0, 0]].map e_li64))]) [.d (.sl 1 (y2.1.map e_li64)), .d (.sl 1 ([[1, 0, 0], [1, 0, 0]].map e_li64))] (.d (.bool y45)) (by kernel_rfl) en26 (Res'.refl _) (F26_ok e45) ?_)
      refine J_adv 2 (J_bool 75 (b := y45) (by kernel_rfl) (fun hb49 => ?_) (fun hb49 => ?_))
      · replace hF := ift hb49 hF
        obtain ⟨y46, e46, hF⟩ := bnd hF
        refine J_adv 3 (J_callF (xs := [.d (.sl 1 (y3.1.map e_li64)), .d (.sl 1 ([[0, 1, 0]].map e_li64))]) [.d (.sl 1 (y3.1.map e_li64)), .d (.sl 1 ([[0, 1, 0]].map e_li64))] (.d (.bool y46)) (by kernel_rfl) en26 (Res'.refl _) (F26_ok e46) ?_)
        refine J_adv 2 (J_bool 81 (b := y46) (by kernel_rfl) (fun hb50 => ?_) (fun hb50 => ?_))
        · replace hF := ift hb50 hF
          obtain ⟨y47, e47, hF⟩ := bnd hF
          refine J_adv 1 (J_callF (xs := [.d (.int .i64 0), .d (.sl 1 ([[48], [48], [48]].map e_s))]) [.d (.int .i64 0), .d (.sl 1 ([[48], [48], [48]].map e_s))] (.d (.bool y47)) (by kernel_rfl) en58 (Res'.refl _) (F58_ok e47) ?_)
          refine J_adv 2 (J_bool 85 (b := y47) (by kernel_rfl) (fun hb51 => ?_) (fun hb51 => ?_))
          · replace hF := ift hb51 hF
            obtain ⟨y48, e48, hF⟩ := bnd hF
            refine J_adv 1 (J_callF (xs := [.d (.int .i64 1), .d (.sl 1 ([[49], [49, 47, 50], [48]].map e_s))]) [.d (.int .i64 1), .d (.sl 1 ([[49], [49, 47, 50], [48]].map e_s))] (.d (.bool y48)) (by kernel_rfl) en58 (Res'.refl _) (F58_ok e48) ?_)
            refine J_adv 2 (J_bool 89 (b := y48) (by kernel_rfl) (fun hb52 => ?_) (fun hb52 => ?_))
            · replace hF := ift hb52 hF
              obtain ⟨y49, e49, hF⟩ := bnd hF
              refine J_adv 1 (J_callF (xs := [.d (.int .i64 2), .d (.sl 1 ([[55, 47, 52], [51, 47, 52], [48]].map e_s))]) [.d (.int .i64 2), .d (.sl 1 ([[55, 47, 52], [51, 47, 52], [48]].map e_s))] (.d (.bool y49)) (by kernel_rfl) en58 (Res'.refl _) (F58_ok e49) ?_)
              have hr_ := Option.some.inj hF; subst hr_
              exact J_adv 2 (J_at [10] [] (T0 := [.ops (opsOf (cAt (bodyOf Tryz.f19) [1, 1, 1, 1, 1, 1, 1, 0])) [], .code (cAt (bodyOf Tryz.f19) [1, 1, 1, 1, 1, 1, 1, 1])]) (by kernel_rfl) rfl hR2)
            · replace hF := iff' hb52 hF
              have hr_ := Option.some.inj hF; subst hr_
              exact J_adv 4 (J_at [10] [] (T0 := [.ops (opsOf (cAt (bodyOf Tryz.f19) [1, 1, 1, 1, 1, 1, 1, 0])) [], .code (cAt (bodyOf Tryz.f19) [1, 1, 1, 1, 1, 1, 1, 1])]) (by kernel_rfl) rfl hR2)
          · replace hF := iff' hb51 hF
            have hr_ := Option.some.inj hF; subst hr_
            exact J_adv 8 (J_at [10] [] (T0 := [.ops (opsOf (cAt (bodyOf Tryz.f19) [1, 1, 1, 1, 1, 1, 1, 0])) [], .code (cAt (bodyOf Tryz.f19) [1, 1, 1, 1, 1, 1, 1, 1])]) (by kernel_rfl) rfl hR2)
        · replace hF := iff' hb50 hF
          have hr_ := Option.some.inj hF; subst hr_
          exact J_adv 12 (J_at [10] [] (T0 := [.ops (opsOf (cAt (bodyOf Tryz.f19) [1, 1, 1, 1, 1, 1, 1, 0])) [], .code (cAt (bodyOf Tryz.f19) [1, 1, 1, 1, 1, 1, 1, 1])]) (by kernel_rfl) rfl hR2)
      · replace hF := iff' hb49 hF
        have hr_ := Option.some.inj hF; subst hr_
        exact J_adv 18 (J_at [10] [] (T0 := [.ops (opsOf (cAt (bodyOf Tryz.f19) [1, 1, 1, 1, 1, 1, 1, 0])) [], .code (cAt (bodyOf Tryz.f19) [1, 1, 1, 1, 1, 1, 1, 1])]) (by kernel_rfl) rfl hR2)
    · replace hF := iff' hb48 hF
      have hr_ := Option.some.inj hF; subst hr_
      exact J_adv 25 (J_at [10] [] (T0 := [.ops (opsOf (cAt (bodyOf Tryz.f19) [1, 1, 1, 1, 1, 1, 1, 0])) [], .code (cAt (bodyOf Tryz.f19) [1, 1, 1, 1, 1, 1, 1, 1])]) (by kernel_rfl) rfl hR2)
  clear hF; rename _ = some o1 => hF
  obtain ⟨y50, e50, hF⟩ := bnd hF
  refine J_adv 9 (J_callF (xs := [.d (.int .i64 0), .d (.sl 1 ([[48], [48], [49]].map e_s))]) [.d (.int .i64 0), .d (.sl 1 ([[48], [48], [49]].map e_s))] (.d (.bool y50)) (by kernel_rfl) en57 (Res'.refl _) (F57_ok e50) ?_)
  refine J_adv 1 (J_bool 34 (b := y50) (by kernel_rfl) (fun hb53 => ?_) (fun hb53 => ?_))
  · replace hF := ift hb53 hF
    obtain ⟨y51, e51, hF⟩ := bnd hF
    refine J_adv 1 (J_callF (xs := [.d (.int .i64 1), .d (.sl 1 ([[49, 47, 52], [48], [49]].map e_s))]) [.d (.int .i64 1), .d (.sl 1 ([[49, 47, 52], [48], [49]].map e_s))] (.d (.bool y51)) (by kernel_rfl) en57 (Res'.refl _) (F57_ok e51) ?_)
    refine J_adv 2 (J_bool 38 (b := y51) (by kernel_rfl) (fun hb54 => ?_) (fun hb54 => ?_))
    · replace hF := ift hb54 hF
      obtain ⟨y52, e52, hF⟩ := bnd hF
      refine J_adv 1 (J_callF (xs := [.d (.int .i64 2), .d (.sl 1 ([[49, 47, 52], [49, 47, 52], [49]].map e_s))]) [.d (.int .i64 2), .d (.sl 1 ([[49, 47, 52], [49, 47, 52], [49]].map e_s))] (.d (.bool y52)) (by kernel_rfl) en57 (Res'.refl _) (F57_ok e52) ?_)
      refine J_adv 2 (J_bool 42 (b := y52) (by kernel_rfl) (fun hb55 => ?_) (fun hb55 => ?_))
      · replace hF := ift hb55 hF
        obtain ⟨y53, e53, hF⟩ := bnd hF
        refine J_adv 1 (J_callF (xs := [.d (.int .i64 3), .d (.sl 1 ([[55, 47, 49, 54], [49, 47, 52], [49]].map e_s))]) [.d (.int .i64 3), .d (.sl 1 ([[55, 47, 49, 54], [49, 47, 52], [49]].map e_s))] (.d (.bool y53)) (by kernel_rfl) en57 (Res'.refl _) (F57_ok e53) ?_)
        refine J_adv 2 (J_bool 46 (b := y53) (by kernel_rfl) (fun hb56 => ?_) (fun hb56 => ?_))
        · replace hF := ift hb56 hF
          refine J_adv 4 (J_bool 50 (b := y2.2 == 0) (by kernel_rfl) (fun hb57 => ?_) (fun hb57 => ?_))
          · replace hF := ift hb57 hF
            refine J_adv 4 (J_bool 54 (b := y3.2 == 0) (by kernel_rfl) (fun hb58 => ?_) (fun hb58 => ?_))
            · replace hF := ift hb58 hF
              refine J_adv 4 (J_bool 58 (b := y4.2 == 0) (by kernel_rfl) (fun hb59 => ?_) (fun hb59 => ?_))
              · replace hF := ift hb59 hF
                refine J_adv 4 (J_bool 62 (b := y5.2 == 2) (by kernel_rfl) (fun hb60 => ?_) (fun hb60 => ?_))
                · replace hF := ift hb60 hF
                  have hr_ := Option.some.inj hF; subst hr_
                  exact J_adv 5 (J_at [2, 4, 10] [] (T0 := [.ops (opsOf (cAt (bodyOf Tryz.f19) [1, 1, 1, 1, 1, 1, 0])) [], .code (cAt (bodyOf Tryz.f19) [1, 1, 1, 1, 1, 1, 1])]) (by kernel_rfl) rfl hR1)
                · replace hF := iff' hb60 hF
                  have hr_ := Option.some.inj hF; subst hr_
                  exact J_adv 5 (J_at [2, 4, 10] [] (T0 := [.ops (opsOf (cAt (bodyOf Tryz.f19) [1, 1, 1, 1, 1, 1, 0])) [], .code (cAt (bodyOf Tryz.f19) [1, 1, 1, 1, 1, 1, 1])]) (by kernel_rfl) rfl hR1)
              · replace hF := iff' hb59 hF
                have hr_ := Option.some.inj hF; subst hr_
                exact J_adv 9 (J_at [2, 4, 10] [] (T0 := [.ops (opsOf (cAt (bodyOf Tryz.f19) [1, 1, 1, 1, 1, 1, 0])) [], .code (cAt (bodyOf Tryz.f19) [1, 1, 1, 1, 1, 1, 1])]) (by kernel_rfl) rfl hR1)
            · replace hF := iff' hb58 hF
              have hr_ := Option.some.inj hF; subst hr_
              exact J_adv 13 (J_at [2, 4, 10] [] (T0 := [.ops (opsOf (cAt (bodyOf Tryz.f19) [1, 1, 1, 1, 1, 1, 0])) [], .code (cAt (bodyOf Tryz.f19) [1, 1, 1, 1, 1, 1, 1])]) (by kernel_rfl) rfl hR1)
          · replace hF := iff' hb57 hF
            have hr_ := Option.some.inj hF; subst hr_
            exact J_adv 17 (J_at [2, 4, 10] [] (T0 := [.ops (opsOf (cAt (bodyOf Tryz.f19) [1, 1, 1, 1, 1, 1, 0])) [], .code (cAt (bodyOf Tryz.f19) [1, 1, 1, 1, 1, 1, 1])]) (by kernel_rfl) rfl hR1)
        · replace hF := iff' hb56 hF
          have hr_ := Option.some.inj hF; subst hr_
          exact J_adv 21 (J_at [2, 4, 10] [] (T0 := [.ops (opsOf (cAt (bodyOf Tryz.f19) [1, 1, 1, 1, 1, 1, 0])) [], .code (cAt (bodyOf Tryz.f19) [1, 1, 1, 1, 1, 1, 1])]) (by kernel_rfl) rfl hR1)
      · replace hF := iff' hb55 hF
        have hr_ := Option.some.inj hF; subst hr_
        exact J_adv 25 (J_at [2, 4, 10] [] (T0 := [.ops (opsOf (cAt (bodyOf Tryz.f19) [1, 1, 1, 1, 1, 1, 0])) [], .code (cAt (bodyOf Tryz.f19) [1, 1, 1, 1, 1, 1, 1])]) (by kernel_rfl) rfl hR1)
    · replace hF := iff' hb54 hF
      have hr_ := Option.some.inj hF; subst hr_
      exact J_adv 29 (J_at [2, 4, 10] [] (T0 := [.ops (opsOf (cAt (bodyOf Tryz.f19) [1, 1, 1, 1, 1, 1, 0])) [], .code (cAt (bodyOf Tryz.f19) [1, 1, 1, 1, 1, 1, 1])]) (by kernel_rfl) rfl hR1)
  · replace hF := iff' hb53 hF
    have hr_ := Option.some.inj hF; subst hr_
    exact J_adv 33 (J_at [2, 4, 10] [] (T0 := [.ops (opsOf (cAt (bodyOf Tryz.f19) [1, 1, 1, 1, 1, 1, 0])) [], .code (cAt (bodyOf Tryz.f19) [1, 1, 1, 1, 1, 1, 1])]) (by kernel_rfl) rfl hR1)
/- math/bits.Mul64 -/
def F106 (d0 : Int) (d1 : Int) : Option (Int × Int) :=
  some (IntKind.u64.wrap ((IntKind.u64.wrap ((IntKind.u64.wrap ((Int.fdiv d0 (2 ^ (min (Int.toNat 32) IntKind.u64.bits))) * (Int.fdiv d1 (2 ^ (min (Int.toNat 32) IntKind.u64.bits))))) + (Int.fdiv (IntKind.u64.wrap ((IntKind.u64.wrap ((Int.fdiv d0 (2 ^ (min (Int.toNat 32) IntKind.u64.bits))) * (IntKind.u64.wrap (BitVec.ofInt IntKind.u64.bits d1 &&& BitVec.ofInt IntKind.u64.bits 4294967295).toNat))) + (Int.fdiv (IntKind.u64.wrap ((IntKind.u64.wrap (BitVec.ofInt IntKind.u64.bits d0 &&& BitVec.ofInt IntKind.u64.bits 4294967295).toNat) * (IntKind.u64.wrap (BitVec.ofInt IntKind.u64.bits d1 &&& BitVec.ofInt IntKind.u64.bits 4294967295).toNat))) (2 ^ (min (Int.toNat 32) IntKind.u64.bits))))) (2 ^ (min (Int.toNat 32) IntKind.u64.bits))))) + (Int.fdiv (IntKind.u64.wrap ((IntKind.u64.wrap (BitVec.ofInt IntKind.u64.bits (IntKind.u64.wrap ((IntKind.u64.wrap ((Int.fdiv d0 (2 ^ (min (Int.toNat 32) IntKind.u64.bits))) * (IntKind.u64.wrap (BitVec.ofInt IntKind.u64.bits d1 &&& BitVec.ofInt IntKind.u64.bits 4294967295).toNat))) + (Int.fdiv (IntKind.u64.wrap ((IntKind.u64.wrap (BitVec.ofInt IntKind.u64.bits d0 &&& BitVec.ofInt IntKind.u64.bits 4294967295).toNat) * (IntKind.u64.wrap (BitVec.ofInt IntKind.u64.bits d1 &&& BitVec.ofInt IntKind.u64.bits 4294967295).toNat))) (2 ^ (min (Int.toNat 32) IntKind.u64.bits))))) &&& BitVec.ofInt IntKind.u64.bits 4294967295).toNat) + (IntKind.u64.wrap ((IntKind.u64.wrap (BitVec.ofInt IntKind.u64.bits d0 &&& BitVec.ofInt IntKind.u64.bits 4294967295).toNat) * (Int.fdiv d1 (2 ^ (min (Int.toNat 32) IntKind.u64.bits))))))) (2 ^ (min (Int.toNat 32) IntKind.u64.bits)))), IntKind.u64.wrap (d0 * d1))
theorem F106_ok {d0 : Int} {d1 : Int} {r : Int × Int} (hF : F106 d0 d1 = some r) :
    CallF Tryz.prog 106 [.d (.int .u64 d0), .d (.int .u64 d1)] (.tup [.d (.int .u64 r.1), .d (.int .u64 r.2)]) := by
  unfold F106 at hF
  refine callF_of (N := 51) (b := bodyOf Tryz.f106) Tryz.func106 (by kernel_rfl) rfl rfl ?_
  have hr_ := Option.some.inj hF; subst hr_
  exact J_adv 86 (J_ret (xs := [.d (.int .u64 (IntKind.u64.wrap ((IntKind.u64.wrap ((IntKind.u64.wrap ((Int.fdiv d0 (2 ^ (min (Int.toNat 32) IntKind.u64.bits))) * (Int.fdiv d1 (2 ^ (min (Int.toNat 32) IntKind.u64.bits))))) + (Int.fdiv (IntKind.u64.wrap ((IntKind.u64.wrap ((Int.fdiv d0 (2 ^ (min (Int.toNat 32) IntKind.u64.bits))) * (IntKind.u64.wrap (BitVec.ofInt IntKind.u64.bits d1 &&& BitVec.ofInt IntKind.u64.bits 4294967295).toNat))) + (Int.fdiv (IntKind.u64.wrap ((IntKind.u64.wrap (BitVec.ofInt IntKind.u64.bits d0 &&& BitVec.ofInt IntKind.u64.bits 4294967295).toNat) * (IntKind.u64.wrap (BitVec.ofInt IntKind.u64.bits d1 &&& BitVec.ofInt IntKind.u64.bits 4294967295).toNat))) (2 ^ (min (Int.toNat 32) IntKind.u64.bits))))) (2 ^ (min (Int.toNat 32) IntKind.u64.bits))))) + (Int.fdiv (IntKind.u64.wrap ((IntKind.u64.wrap (BitVec.ofInt IntKind.u64.bits (IntKind.u64.wrap ((IntKind.u64.wrap ((Int.fdiv d0 (2 ^ (min (Int.toNat 32) IntKind.u64.bits))) * (IntKind.u64.wrap (BitVec.ofInt IntKind.u64.bits d1 &&& BitVec.ofInt IntKind.u64.bits 4294967295).toNat))) + (Int.fdiv (IntKind.u64.wrap ((IntKind.u64.wrap (BitVec.ofInt IntKind.u64.bits d0 &&& BitVec.ofInt IntKind.u64.bits 4294967295).toNat) * (IntKind.u64.wrap (BitVec.ofInt IntKind.u64.bits d1 &&& BitVec.ofInt IntKind.u64.bits 4294967295).toNat))) (2 ^ (min (Int.toNat 32) IntKind.u64.bits))))) &&& BitVec.ofInt IntKind.u64.bits 4294967295).toNat) + (IntKind.u64.wrap ((IntKind.u64.wrap (BitVec.ofInt IntKind.u64.bits d0 &&& BitVec.ofInt IntKind.u64.bits 4294967295).toNat) * (Int.fdiv d1 (2 ^ (min (Int.toNat 32) IntKind.u64.bits))))))) (2 ^ (min (Int.toNat 32) IntKind.u64.bits)))))), .d (.int .u64 (IntKind.u64.wrap (d0 * d1)))]) [.d (.int .u64 (IntKind.u64.wrap ((IntKind.u64.wrap ((IntKind.u64.wrap ((Int.fdiv d0 (2 ^ (min (Int.toNat 32) IntKind.u64.bits))) * (Int.fdiv d1 (2 ^ (min (Int.toNat 32) IntKind.u64.bits))))) + (Int.fdiv (IntKind.u64.wrap ((IntKind.u64.wrap ((Int.fdiv d0 (2 ^ (min (Int.toNat 32) IntKind.u64.bits))) * (IntKind.u64.wrap (BitVec.ofInt IntKind.u64.bits d1 &&& BitVec.ofInt IntKind.u64.bits 4294967295).toNat))) + (Int.fdiv (IntKind.u64.wrap ((IntKind.u64.wrap (BitVec.ofInt IntKind.u64.bits d0 &&& BitVec.ofInt IntKind.u64.bits 4294967295).toNat) * (IntKind.u64.wrap (BitVec.ofInt IntKind.u64.bits d1 &&& BitVec.ofInt IntKind.u64.bits 4294967295).toNat))) (2 ^ (min (Int.toNat 32) IntKind.u64.bits))))) (2 ^ (min (Int.toNat 32) IntKind.u64.bits))))) + (Int.fdiv (IntKind.u64.wrap ((IntKind.u64.wrap (BitVec.ofInt IntKind.u64.bits (IntKind.u64.wrap ((IntKind.u64.wrap ((Int.fdiv d0 (2 ^ (min (Int.toNat 32) IntKind.u64.bits))) * (IntKind.u64.wrap (BitVec.ofInt IntKind.u64.bits d1 &&& BitVec.ofInt IntKind.u64.bits 4294967295).toNat))) + (Int.fdiv (IntKind.u64.wrap ((IntKind.u64.wrap (BitVec.ofInt IntKind.u64.bits d0 &&& BitVec.ofInt IntKind.u64.bits 4294967295).toNat) * (IntKind.u64.wrap (BitVec.ofInt IntKind.u64.bits d1 &&& BitVec.ofInt IntKind.u64.bits 4294967295).toNat))) (2 ^ (min (Int.toNat 32) IntKind.u64.bits))))) &&& BitVec.ofInt IntKind.u64.bits 4294967295).toNat) + (IntKind.u64.wrap ((IntKind.u64.wrap (BitVec.ofInt IntKind.u64.bits d0 &&& BitVec.ofInt IntKind.u64.bits 4294967295).toNat) * (Int.fdiv d1 (2 ^ (min (Int.toNat 32) IntKind.u64.bits))))))) (2 ^ (min (Int.toNat 32) IntKind.u64.bits)))))), .d (.int .u64 (IntKind.u64.wrap (d0 * d1)))] rfl rfl (by kernel_rfl) (Res'.refl _) rfl)
/- math/bits.Mul -/
def F56 (d0 : Int) (d1 : Int) : Option (Int × Int) :=
  Option.bind (F106 d0 d1) fun y1 =>
  some (y1.1, y1.2)
theorem F56_ok {d0 : Int} {d1 : Int} {r : Int × Int} (hF : F56 d0 d1 = some r) :
    CallF Tryz.prog 56 [.d (.int .u64 d0), .d (.int .u64 d1)] (.tup [.d (.int .u64 r.1), .d (.int .u64 r.2)]) := by
  unfold F56 at hF
  refine callF_of (N := 30) (b := bodyOf Tryz.f56) Tryz.func56 (by kernel_rfl) rfl rfl ?_
  obtain ⟨y1, e1, hF⟩ := bnd hF
  refine J_adv 12 (J_callF (xs := [.d (.int .u64 d0), .d (.int .u64 d1)]) [.d (.int .u64 d0), .d (.int .u64 d1)] (.tup [.d (.int .u64 y1.1), .d (.int .u64 y1.2)]) (by kernel_rfl) en106 (Res'.refl _) (F106_ok e1) ?_)
  have hr_ := Option.some.inj hF; subst hr_
  exact J_adv 13 (J_ret (xs := [.d (.int .u64 y1.1), .d (.int .u64 y1.2)]) [.d (.int .u64 y1.1), .d (.int .u64 y1.2)] rfl rfl (by kernel_rfl) (Res'.refl _) rfl)
/- slices.Repeat(()croupier/api.Q,croupier/api.Q) -/
def F18_L1 : Nat → Int → (List (List UInt8)) → Option (List (List UInt8))
  | 0, _, _ => none
  | n_F18_L1 + 1, v2, l3 =>
    bif decide (v2 < ((l3.map e_s).length : Int)) then
      (ass (decide ((0 : Int) ≤ v2) && decide (v2 ≤ (((l3.map e_s).drop 0).length : Int))) <|
      ass (decide ((0 : Int) ≤ 0) && decide (0 ≤ v2) && decide (v2 ≤ (((l3.map e_s).drop 0).length : Int))) <|
      (F18_L1 n_F18_L1) (IntKind.i64.wrap (v2 + (cpyN (l3.map e_s) (0 + Int.toNat v2) (((l3.map e_s).drop (0 + Int.toNat 0)).take (Int.toNat (v2 - 0)))))) (cpy l3 (0 + Int.toNat v2) ((l3.drop (0 + Int.toNat 0)).take (Int.toNat (v2 - 0)))))
    else
      (some l3)
def F18 (fuel : Nat) (d0 : List (List UInt8)) (d1 : Int) : Option (List (List UInt8)) :=
  bif decide (d1 < 0) then
    (none)
  else
    (Option.bind (F56 (IntKind.u64.wrap ((d0.map e_s).length : Int)) (IntKind.u64.wrap d1)) fun y1 =>
    Option.bind (
      bif decide (y1.1 > 0) then
        (some true)
      else
        (some (decide (y1.2 > 9223372036854775807)))) fun o1 =>
    bif o1 then
      (none)
    else
      (Option.bind (mkL (IntKind.i64.wrap y1.2) (IntKind.i64.wrap y1.2) []) fun l1 =>
      F18_L1 fuel (cpyN (l1.map e_s) 0 (d0.map e_s)) (cpy l1 0 d0)))
theorem F18_ok {fuel : Nat} {d0 : List (List UInt8)} {d1 : Int} {r : List (List UInt8)} (hF : F18 fuel d0 d1 = some r) :
    CallF Tryz.prog 18 [.d (.sl 1 (d0.map e_s)), .d (.int .i64 d1)] (.d (.sl 1 (r.map e_s))) := by
  unfold F18 at hF
  refine callF_of (N := 48) (b := bodyOf Tryz.f18) Tryz.func18 (by kernel_rfl) rfl rfl ?_
  refine J_adv 10 (J_bool 10 (b := decide (d1 < 0)) (by kernel_rfl) (fun hb1 => ?_) (fun hb1 => ?_))
  · replace hF := ift hb1 hF
    cases hF
  · replace hF := iff' hb1 hF
    obtain ⟨y1, e1, hF⟩ := bnd hF
    refine J_adv 9 (J_callF (xs := [.d (.int .u64 (IntKind.u64.wrap ((d0.map e_s).length : Int))), .d (.int .u64 (IntKind.u64.wrap d1))]) [.d (.int .u64 (IntKind.u64.wrap ((d0.map e_s).length : Int))), .d (.int .u64 (IntKind.u64.wrap d1))] (.tup [.d (.int .u64 y1.1), .d (.int .u64 y1.2)]) (by kernel_rfl) en56 (Res'.refl _) (F56_ok e1) ?_)
    obtain ⟨o1, hO, hF⟩ := bnd hF
    have hR1 : J none Tryz.prog 48 [] (finF Tryz.prog Tryz.f18 (.d (.sl 1 (r.map e_s)))) ⟨mkT [(0, .d (.sl 1 (d0.map e_s))), (6, .d (.int .u64 y1.2)), (26, .d (.bool o1))], [], [.ops (opsOf (cAt (bodyOf Tryz.f18) [1, 1, 1, 0, 0])) [], .code (cAt (bodyOf Tryz.f18) [1, 1, 1, 0, 1]), .code (cAt (bodyOf Tryz.f18) [1, 1, 1, 1])]⟩ := by
      clear hO
      refine J_adv 1 (J_bool 26 (b := o1) (by kernel_rfl) (fun hb4 => ?_) (fun hb4 => ?_))
      · replace hF := ift hb4 hF
        cases hF
      · replace hF := iff' hb4 hF
        obtain ⟨l1, e2, hF⟩ := bnd hF
        refine J_adv 6 (J_opt2 (o := mk2 (IntKind.i64.wrap y1.2) (IntKind.i64.wrap y1.2) (e_s [])) (l1.map e_s) (by kernel_rfl) (mm e2) ?_)
        refine J_adv 6 (J_opt2 (o := cpy2 (l1.map e_s) 0 (d0.map e_s)) ((cpy l1 0 d0).map e_s) (by kernel_rfl) cp2m ?_)
        have hF18_L1 : ∀ (n_F18_L1 : Nat) (v2 : Int) (l3 : List (List UInt8)), F18_L1 n_F18_L1 v2 l3 = some r → J none Tryz.prog 48 [] (finF Tryz.prog Tryz.f18 (.d (.sl 1 (r.map e_s)))) ⟨mkT [(7, .suf 30 0 0), (8, .d (.int .i64 v2))], [(30, .buf 0 23 1 (l3.map e_s))], [.inLoop (cAt (bodyOf Tryz.f18) [1, 1, 1, 1, 1, 1, 0, 0, 0]), .inBlock 0, .code (cAt (bodyOf Tryz.f18) [1, 1, 1, 1, 1, 1, 1])]⟩ := by
          clear hF; intro n_F18_L1
          induction n_F18_L1 with
          | zero => intro v2 l3 hF; cases hF
          | succ n_F18_L1 ih_F18_L1 =>
            intro v2 l3 hF
            rw [F18_L1] at hF
            refine J_adv 9 (J_bool 37 (b := decide (v2 < ((l3.map e_s).length : Int))) (by kernel_rfl) (fun hb11 => ?_) (fun hb11 => ?_))
            · replace hF := ift hb11 hF
              refine J_adv 3 (J_draw (by kernel_rfl) (by kernel_rfl) ?_)
              obtain ⟨hb12, hF⟩ := assd hF
              refine JD_adv 3 (JD_opt1 (o := chk (decide ((0 : Int) ≤ v2) && decide (v2 ≤ (((l3.map e_s).drop 0).length : Int)))) [] (by kernel_rfl) (by kernel_rfl) (ck hb12) ?_)
              obtain ⟨hb13, hF⟩ := assd hF
              refine JD_adv 2 (JD_opt1 (o := chk (decide ((0 : Int) ≤ 0) && decide (0 ≤ v2) && decide (v2 ≤ (((l3.map e_s).drop 0).length : Int)))) [] (by kernel_rfl) (by kernel_rfl) (ck hb13) ?_)
              refine JD_adv 0 (JD_opt2 (o := cpy2 (l3.map e_s) (0 + Int.toNat v2) (((l3.map e_s).drop (0 + Int.toNat 0)).take (Int.toNat (v2 - 0)))) ((cpy l3 (0 + Int.toNat v2) ((l3.drop (0 + Int.toNat 0)).take (Int.toNat (v2 - 0)))).map e_s) (by kernel_rfl) (by kernel_rfl) cp2t ?_)
              refine JD_adv 2 (JD_end (by kernel_rfl) ?_)
              exact J_adv 1 (J_at [7, 8] [30] (T0 := [.inLoop (cAt (bodyOf Tryz.f18) [1, 1, 1, 1, 1, 1, 0, 0, 0]), .inBlock 0, .code (cAt (bodyOf Tryz.f18) [1, 1, 1, 1, 1, 1, 1])]) (by kernel_rfl) rfl (ih_F18_L1 (IntKind.i64.wrap (v2 + (cpyN (l3.map e_s) (0 + Int.toNat v2) (((l3.map e_s).drop (0 + Int.toNat 0)).take (Int.toNat (v2 - 0)))))) (cpy l3 (0 + Int.toNat v2) ((l3.drop (0 + Int.toNat 0)).take (Int.toNat (v2 - 0)))) hF))
            · replace hF := iff' hb11 hF
              have hr_ := Option.some.inj hF; subst hr_
              exact J_adv 7 (J_ret (xs := [.d (.sl 1 (l3.map e_s))]) [.d (.sl 1 (l3.map e_s))] rfl rfl (by kernel_rfl) (Res'.refl _) rfl)
        exact J_adv 5 (J_at [7, 8] [30] (T0 := [.inLoop (cAt (bodyOf Tryz.f18) [1, 1, 1, 1, 1, 1, 0, 0, 0]), .inBlock 0, .code (cAt (bodyOf Tryz.f18) [1, 1, 1, 1, 1, 1, 1])]) (by kernel_rfl) rfl (hF18_L1 fuel (cpyN (l1.map e_s) 0 (d0.map e_s)) (cpy l1 0 d0) hF))
    clear hF; rename _ = some o1 => hF
    refine J_adv 12 (J_bool 23 (b := decide (y1.1 > 0)) (by kernel_rfl) (fun hb14 => ?_) (fun hb14 => ?_))
    · replace hF := ift hb14 hF
      have hr_ := Option.some.inj hF; subst hr_
      exact J_adv 3 (J_at [0, 6, 26] [] (T0 := [.ops (opsOf (cAt (bodyOf Tryz.f18) [1, 1, 1, 0, 0])) [], .code (cAt (bodyOf Tryz.f18) [1, 1, 1, 0, 1]), .code (cAt (bodyOf Tryz.f18) [1, 1, 1, 1])]) (by kernel_rfl) rfl hR1)
    · replace hF := iff' hb14 hF
      have hr_ := Option.some.inj hF; subst hr_
      exact J_adv 3 (J_at [0, 6, 26] [] (T0 := [.ops (opsOf (cAt (bodyOf Tryz.f18) [1, 1, 1, 0, 0])) [], .code (cAt (bodyOf Tryz.f18) [1, 1, 1, 0, 1]), .code (cAt (bodyOf Tryz.f18) [1, 1, 1, 1])]) (by kernel_rfl) rfl hR1)
end Go.Proofs.YtfgbhfphjmmiaaaGreatDoor
end
section
set_option linter.unusedVariables false
set_option maxRecDepth 100000
namespace Go.Proofs.YtfgbhfphjmmiaaaGreatDoor
open Go Go.RowKit Kx
theorem en18 : entersT Tryz.prog 18 := Kx.enters_of Tryz.func18 (by kernel_rfl) (by kernel_rfl)
theorem en19 : entersT Tryz.prog 19 := Kx.enters_of Tryz.func19 (by kernel_rfl) (by kernel_rfl)
/- croupier/croupierlaw21.StepsKnown -/
def F3_L1 (fuel : Nat) (l1 : List Int) (y6 : List (List UInt8) × Int) (y7 : Int × Int) (y8 : Int × Int) (y9 : List (List UInt8) × Int) : Nat → Int → (List (List T_api_Choice)) → Option Bool
  | 0, _, _ => none
  | n_F3_L1 + 1, v2, l5 =>
    bif decide (v2 < 12) then
      (Option.bind (F11 v2 [49]) fun y18 =>
      Option.bind (F10 [48] [y18]) fun y19 =>
      Option.bind (F11 (bif decide (11 < (IntKind.i64.wrap (v2 + 1))) then 11 else (IntKind.i64.wrap (v2 + 1))) [49]) fun y20 =>
      Option.bind (F10 [50] [y20]) fun y21 =>
      Option.bind (app l5 [[y19, y21]]) fun l6 =>
      (F3_L1 fuel l1 y6 y7 y8 y9 n_F3_L1) (IntKind.i64.wrap (v2 + 1)) l6)
    else
      (Option.bind (F13 fuel (⟨l1, l5⟩ : T_api_Model) 0 2048 [49]) fun y22 =>
      Option.bind (F15 fuel (⟨l1, l5⟩ : T_api_Model) 2048 11) fun y23 =>
      Option.bind (F12 fuel (⟨l1, l5⟩ : T_api_Model) 2048 10) fun y24 =>
      Option.bind (F14 fuel (⟨l1, l5⟩ : T_api_Model) 60) fun y25 =>
      Option.bind (F12 fuel (⟨[], []⟩ : T_api_Model) 1 (-1)) fun y26 =>
      Option.bind (F16) fun y27 =>
      Option.bind (F15 fuel y27 8 0) fun y28 =>
      Option.bind (F16) fun y29 =>
      Option.bind (F13 fuel y29 (-1) 4 [120]) fun y30 =>
      Option.bind (F16) fun y31 =>
      Option.bind (F13 fuel y31 0 8 []) fun y32 =>
      Option.bind (F16) fun y33 =>
      Option.bind (F13 fuel y33 0 4 [45, 49, 47, 50]) fun y34 =>
      Option.bind (F16) fun y35 =>
      Option.bind (F14 fuel y35 (-1)) fun y36 =>
      Option.bind (F13 fuel (⟨[], []⟩ : T_api_Model) 0 0 []) fun y37 =>
      Option.bind (F16) fun y38 =>
      Option.bind (F13 fuel y38 0 4 [50, 47, 52]) fun y39 =>
      Option.bind (
        bif y6.2 != 0 then
          (some true)
        else
          (bif y7.2 != 0 then
            (some true)
          else
            (bif y9.2 != 0 then
              (some true)
            else
              (bif y22.2 != 0 then
                (some true)
              else
                (bif y23.2 != 0 then
                  (some true)
                else
                  (bif y24.2 != 0 then
                    (some true)
                  else
                    (bif y25.2 != 0 then
                      (some true)
                    else
                      (bif ((y23.1.map e_li64).length : Int) != 11 then
                        (some true)
                      else
                        (Option.bind (geti y23.1 0) fun y89 =>
                        bif ((y89.map e_i64).length : Int) != 12 then
                          (some true)
                        else
                          (Option.bind (geti y23.1 10) fun y90 =>
                          some (((y90.map e_i64).length : Int) != 12))))))))))) fun o1 =>
      bif o1 then
        (some false)
      else
        (Option.bind (
          Option.bind (F17 fuel y6.1 [[49, 49, 53, 50, 57, 50, 49, 53, 48, 52, 54, 48, 54, 56, 52, 54, 57, 55, 53, 47, 49, 49, 53, 50, 57, 50, 49, 53, 48, 52, 54, 48, 54, 56, 52, 54, 57, 55, 54], [49]]) fun y75 =>
          bif y75 then
            (bif y7.1 == 60 then
              (bif y8.2 == 4 then
                (Option.bind (F17 fuel y9.1 [[49, 47, 57, 57, 57, 57], [57, 57, 57, 57]]) fun y76 =>
                bif y76 then
                  (bif y22.1 == 11 then
                    (Option.bind (geti y23.1 0) fun y77 =>
                    Option.bind (geti y77 0) fun y78 =>
                    bif y78 == 1 then
                      (Option.bind (geti y23.1 0) fun y79 =>
                      Option.bind (geti y79 3) fun y80 =>
                      bif y80 == 0 then
                        (Option.bind (geti y23.1 10) fun y81 =>
                        Option.bind (geti y81 10) fun y82 =>
                        bif y82 == 1 then
                          (Option.bind (geti y23.1 10) fun y83 =>
                          Option.bind (geti y83 9) fun y84 =>
                          bif y84 == 0 then
                            (Option.bind (geti y24.1 0) fun y85 =>
                            bif y85 == [48] then
                              (Option.bind (geti y24.1 1) fun y86 =>
                              bif y86 == [49] then
                                (Option.bind (F18 fuel [[49, 50, 48]] 12) fun y87 =>
                                Option.bind (F17 fuel y25.1 y87) fun y88 =>
                                some y88)
                              else
                                (some false))
                            else
                              (some false))
                          else
                            (some false))
                        else
                          (some false))
                      else
                        (some false))
                    else
                      (some false))
                  else
                    (some false))
                else
                  (some false))
              else
                (some false))
            else
              (some false))
          else
            (some false)) fun o2 =>
        Option.bind (
          Option.bind (F19 fuel) fun y74 =>
          bif y74 then
            (bif o2 then
              (bif y26.2 == 110 then
                (bif y28.2 == 2 then
                  (bif y30.2 == 2 then
                    (bif y32.2 == 2 then
                      (bif y34.2 == 2 then
                        (bif y36.2 == 2 then
                          (bif y37.2 == 110 then
                            (some (y39.2 == 5))
                          else
                            (some false))
                        else
                          (some false))
                      else
                        (some false))
                    else
                      (some false))
                  else
                    (some false))
                else
                  (some false))
              else
                (some false))
            else
              (some false))
          else
            (some false)) fun o3 =>
        some o3))
def F3 (fuel : Nat) : Option Bool :=
  Option.bind (F11 0 [49, 47, 50]) fun y1 =>
  Option.bind (F11 1 [49, 47, 50]) fun y2 =>
  Option.bind (F10 [49, 47, 57, 57, 57, 57] [y1, y2]) fun y3 =>
  Option.bind (F11 1 [49]) fun y4 =>
  Option.bind (F10 [57, 57, 57, 57] [y4]) fun y5 =>
  Option.bind (F12 fuel (⟨[1, 0], [[y3], [y5]]⟩ : T_api_Model) 2 60) fun y6 =>
  Option.bind (F13 fuel (⟨[1, 0], [[y3], [y5]]⟩ : T_api_Model) 0 2 [49, 49, 53, 50, 57, 50, 49, 53, 48, 52, 54, 48, 54, 56, 52, 54, 57, 55, 53, 47, 49, 49, 53, 50, 57, 50, 49, 53, 48, 52, 54, 48, 54, 56, 52, 54, 57, 55, 54]) fun y7 =>
  Option.bind (F13 fuel (⟨[1, 0], [[y3], [y5]]⟩ : T_api_Model) 0 2 [49]) fun y8 =>
  Option.bind (F14 fuel (⟨[1, 0], [[y3], [y5]]⟩ : T_api_Model) 1) fun y9 =>
  Option.bind (mkL 12 12 0) fun l1 =>
  F3_L1 fuel l1 y6 y7 y8 y9 fuel 0 []
theorem F3_ok {fuel : Nat} {r : Bool} (hF : F3 fuel = some r) :
    CallF Tryz.prog 3 [] (.d (.bool r)) := by
  unfold F3 at hF
  refine callF_of (N := 304) (b := bodyOf Tryz.f3) Tryz.func3 (by kernel_rfl) rfl rfl ?_
  obtain ⟨y1, e1, hF⟩ := bnd hF
  refine J_adv 7 (J_callF (xs := [.d (.int .i64 0), .d (.str [49, 47, 50])]) [.d (.int .i64 0), .d (.str [49, 47, 50])] (.agg [.d (.int .i64 y1.To), .d (.str y1.P)]) (by kernel_rfl) en11 (Res'.refl _) (F11_ok e1) ?_)
  obtain ⟨y2, e2, hF⟩ := bnd hF
  refine J_adv 0 (J_callF (xs := [.d (.int .i64 1), .d (.str [49, 47, 50])]) [.d (.int .i64 1), .d (.str [49, 47, 50])] (.agg [.d (.int .i64 y2.To), .d (.str y2.P)]) (by kernel_rfl) en11 (Res'.refl _) (F11_ok e2) ?_)
  obtain ⟨y3, e3, hF⟩ := bnd hF
  refine J_adv 1 (J_callF (xs := [.d (.str [49, 47, 57, 57, 57, 57]), .d (.sl 2 ([y1, y2].map e_T_api_Branch))]) [.d (.str [49, 47, 57, 57, 57, 57]), .d (.sl 2 ([y1, y2].map e_T_api_Branch))] (.agg [.d (.str y3.Act), .d (.str y3.Gain), .d (.sl 2 (y3.Next.map e_T_api_Branch))]) (by kernel_rfl) en10 (Res'.refl _) (F10_ok e3) ?_)
  obtain ⟨y4, e4, hF⟩ := bnd hF
  refine J_adv 1 (J_callF (xs := [.d (.int .i64 1), .d (.str [49])]) [.d (.int .i64 1), .d (.str [49])] (.agg [.d (.int .i64 y4.To), .d (.str y4.P)]) (by kernel_rfl) en11 (Res'.refl _) (F11_ok e4) ?_)
  obtain ⟨y5, e5, hF⟩ := bnd hF
  refine J_adv 1 (J_callF (xs := [.d (.str [57, 57, 57, 57]), .d (.sl 2 ([y4].map e_T_api_Branch))]) [.d (.str [57, 57, 57, 57]), .d (.sl 2 ([y4].map e_T_api_Branch))] (.agg [.d (.str y5.Act), .d (.str y5.Gain), .d (.sl 2 (y5.Next.map e_T_api_Branch))]) (by kernel_rfl) en10 (Res'.refl _) (F10_ok e5) ?_)
  obtain ⟨y6, e6, hF⟩ := bnd hF
  refine J_adv 9 (J_callF (xs := [.agg [.d (.sl 1 ([1, 0].map e_i64)), .d (.sl 1 ([[y3], [y5]].map e_lT_api_Choice))], .d (.int .u64 2), .d (.int .i64 60)]) [.agg [.d (.sl 1 ([1, 0].map e_i64)), .d (.sl 1 ([[y3], [y5]].map e_lT_api_Choice))], .d (.int .u64 2), .d (.int .i64 60)] (.tup [.d (.sl 1 (y6.1.map e_s)), .d (.int .i64 y6.2)]) (by kernel_rfl) en12 (Res'.refl _) (F12_ok e6) ?_)
  obtain ⟨y7, e7, hF⟩ := bnd hF
  refine J_adv 9 (J_callF (xs := [.agg [.d (.sl 1 ([1, 0].map e_i64)), .d (.sl 1 ([[y3], [y5]].map e_lT_api_Choice))], .d (.int .i64 0), .d (.int .u64 2), .d (.str [49, 49, 53, 50, 57, 50, 49, 53, 48, 52, 54, 48, 54, 56, 52, 54, 57, 55, 53, 47, 49, 49, 53, 50, 57, 50, 49, 53, 48, 52, 54, 48, 54, 56, 52, 54, 57, 55, 54])]) [.agg [.d (.sl 1 ([1, 0].map e_i64)), .d (.sl 1 ([[y3], [y5]].map e_lT_api_Choice))], .d (.int .i64 0), .d (.int .u64 2), .d (.str [49, 49, 53, 50, 57, 50, 49, 53, 48, 52, 54, 48, 54, 56, 52, 54, 57, 55, 53, 47, 49, 49, 53, 50, 57, 50, 49, 53, 48, 52, 54, 48, 54, 56, 52, 54, 57, 55, 54])] (.tup [.d (.int .i64 y7.1), .d (.int .i64 y7.2)]) (by kernel_rfl) en13 (Res'.refl _) (F13_ok e7) ?_)
  obtain ⟨y8, e8, hF⟩ := bnd hF
  refine J_adv 9 (J_callF (xs := [.agg [.d (.sl 1 ([1, 0].map e_i64)), .d (.sl 1 ([[y3], [y5]].map e_lT_api_Choice))], .d (.int .i64 0), .d (.int .u64 2), .d (.str [49])]) [.agg [.d (.sl 1 ([1, 0].map e_i64)), .d (.sl 1 ([[y3], [y5]].map e_lT_api_Choice))], .d (.int .i64 0), .d (.int .u64 2), .d (.str [49])] (.tup [.d (.int .i64 y8.1), .d (.int .i64 y8.2)]) (by kernel_rfl) en13 (Res'.refl _) (F13_ok e8) ?_)
  obtain ⟨y9, e9, hF⟩ := bnd hF
  refine J_adv 9 (J_callF (xs := [.agg [.d (.sl 1 ([1, 0].map e_i64)), .d (.sl 1 ([[y3], [y5]].map e_lT_api_Choice))], .d (.int .i64 1)]) [.agg [.d (.sl 1 ([1, 0].map e_i64)), .d (.sl 1 ([[y3], [y5]].map e_lT_api_Choice))], .d (.int .i64 1)] (.tup [.d (.sl 1 (y9.1.map e_s)), .d (.int .i64 y9.2)]) (by kernel_rfl) en14 (Res'.refl _) (F14_ok e9) ?_)
  obtain ⟨l1, e10, hF⟩ := bnd hF
  refine J_adv 8 (J_opt2 (o := mk2 12 12 (e_i64 0)) (l1.map e_i64) (by kernel_rfl) (mm e10) ?_)
  have hF3_L1 : ∀ (n_F3_L1 : Nat) (v2 : Int) (l5 : List (List T_api_Choice)), F3_L1 fuel l1 y6 y7 y8 y9 n_F3_L1 v2 l5 = some r → J none Tryz.prog 304 [] (finF Tryz.prog Tryz.f3 (.d (.bool r))) ⟨mkT [(2, .d (.sl 1 (y6.1.map e_s))), (3, .d (.int .i64 y6.2)), (4, .d (.int .i64 y7.1)), (5, .d (.int .i64 y7.2)), (7, .d (.int .i64 y8.2)), (8, .d (.sl 1 (y9.1.map e_s))), (9, .d (.int .i64 y9.2)), (10, .ptr 10 0), (71, .d (.int .i64 v2))], [(10, .box 34 [.suf 69 0 0, .suf 88 0 0]), (69, .buf 0 3 1 (l1.map e_i64)), (88, .buf 0 31 1 (l5.map e_lT_api_Choice))], [.inLoop (cAt (bodyOf Tryz.f3) [1, 1, 1, 1, 1, 1, 1, 0, 1, 0, 0]), .inBlock 0, .code (cAt (bodyOf Tryz.f3) [1, 1, 1, 1, 1, 1, 1, 1])]⟩ := by
    clear hF; intro n_F3_L1
    induction n_F3_L1 with
    | zero => intro v2 l5 hF; cases hF
    | succ n_F3_L1 ih_F3_L1 =>
      intro v2 l5 hF
      rw [F3_L1] at hF
      refine J_adv 6 (J_bool 72 (b := decide (v2 < 12)) (by kernel_rfl) (fun hb2 => ?_) (fun hb2 => ?_))
      · replace hF := ift hb2 hF
        refine J_adv 9 (J_draw (by kernel_rfl) (by kernel_rfl) ?_)
        obtain ⟨y18, e21, hF⟩ := bnd hF
        refine JD_adv 3 (JD_callF (xs := [.d (.int .i64 v2), .d (.str [49])]) [.d (.int .i64 v2), .d (.str [49])] (.agg [.d (.int .i64 y18.To), .d (.str y18.P)]) (by kernel_rfl) (by kernel_rfl) en11 (Res'.refl _) (F11_ok e21) ?_)
        obtain ⟨y19, e22, hF⟩ := bnd hF
        refine JD_adv 1 (JD_callF (xs := [.d (.str [48]), .d (.sl 2 ([y18].map e_T_api_Branch))]) [.d (.str [48]), .d (.sl 2 ([y18].map e_T_api_Branch))] (.agg [.d (.str y19.Act), .d (.str y19.Gain), .d (.sl 2 (y19.Next.map e_T_api_Branch))]) (by kernel_rfl) (by kernel_rfl) en10 (Res'.refl _) (F10_ok e22) ?_)
        obtain ⟨y20, e23, hF⟩ := bnd hF
        refine JD_adv 3 (JD_callF (xs := [.d (.int .i64 (bif decide (11 < (IntKind.i64.wrap (v2 + 1))) then 11 else (IntKind.i64.wrap (v2 + 1)))), .d (.str [49])]) [.d (.int .i64 (bif decide (11 < (IntKind.i64.wrap (v2 + 1))) then 11 else (IntKind.i64.wrap (v2 + 1)))), .d (.str [49])] (.agg [.d (.int .i64 y20.To), .d (.str y20.P)]) (by kernel_rfl) (by kernel_rfl) en11 (Res'.refl _) (F11_ok e23) ?_)
        obtain ⟨y21, e24, hF⟩ := bnd hF
        refine JD_adv 1 (JD_callF (xs := [.d (.str [50]), .d (.sl 2 ([y20].map e_T_api_Branch))]) [.d (.str [50]), .d (.sl 2 ([y20].map e_T_api_Branch))] (.agg [.d (.str y21.Act), .d (.str y21.Gain), .d (.sl 2 (y21.Next.map e_T_api_Branch))]) (by kernel_rfl) (by kernel_rfl) en10 (Res'.refl _) (F10_ok e24) ?_)
        obtain ⟨l6, e25, hF⟩ := bnd hF
        refine JD_adv 2 (JD_opt2 (o := app2 ((l5.map e_lT_api_Choice).drop 0) ([[y19, y21]].map e_lT_api_Choice)) (l6.map e_lT_api_Choice) (by kernel_rfl) (by kernel_rfl) (am e25) ?_)
        refine JD_adv 2 (JD_end (by kernel_rfl) ?_)
        exact J_adv 5 (J_at [2, 3, 4, 5, 7, 8, 9, 10, 71] [10, 69, 88] (T0 := [.inLoop (cAt (bodyOf Tryz.f3) [1, 1, 1, 1, 1, 1, 1, 0, 1, 0, 0]), .inBlock 0, .code (cAt (bodyOf Tryz.f3) [1, 1, 1, 1, 1, 1, 1, 1])]) (by kernel_rfl) rfl (ih_F3_L1 (IntKind.i64.wrap (v2 + 1)) l6 hF))
      · replace hF := iff' hb2 hF
        obtain ⟨y22, e26, hF⟩ := bnd hF
        refine J_adv 5 (J_callF (xs := [.agg [.d (.sl 1 (l1.map e_i64)), .d (.sl 1 (l5.map e_lT_api_Choice))], .d (.int .i64 0), .d (.int .u64 2048), .d (.str [49])]) [.agg [.d (.sl 1 (l1.map e_i64)), .d (.sl 1 (l5.map e_lT_api_Choice))], .d (.int .i64 0), .d (.int .u64 2048), .d (.str [49])] (.tup [.d (.int .i64 y22.1), .d (.int .i64 y22.2)]) (by kernel_rfl) en13 (Res'.refl _) (F13_ok e26) ?_)
        obtain ⟨y23, e27, hF⟩ := bnd hF
        refine J_adv 9 (J_callF (xs := [.agg [.d (.sl 1 (l1.map e_i64)), .d (.sl 1 (l5.map e_lT_api_Choice))], .d (.int .u64 2048), .d (.int .i64 11)]) [.agg [.d (.sl 1 (l1.map e_i64)), .d (.sl 1 (l5.map e_lT_api_Choice))], .d (.int .u64 2048), .d (.int .i64 11)] (.tup [.d (.sl 1 (y23.1.map e_li64)), .d (.int .i64 y23.2)]) (by kernel_rfl) en15 (Res'.refl _) (F15_ok e27) ?_)
        obtain ⟨y24, e28, hF⟩ := bnd hF
        refine J_adv 9 (J_callF (xs := [.agg [.d (.sl 1 (l1.map e_i64)), .d (.sl 1 (l5.map e_lT_api_Choice))], .d (.int .u64 2048), .d (.int .i64 10)]) [.agg [.d (.sl 1 (l1.map e_i64)), .d (.sl 1 (l5.map e_lT_api_Choice))], .d (.int .u64 2048), .d (.int .i64 10)] (.tup [.d (.sl 1 (y24.1.map e_s)), .d (.int .i64 y24.2)]) (by kernel_rfl) en12 (Res'.refl _) (F12_ok e28) ?_)
        obtain ⟨y25, e29, hF⟩ := bnd hF
        refine J_adv 9 (J_callF (xs := [.agg [.d (.sl 1 (l1.map e_i64)), .d (.sl 1 (l5.map e_lT_api_Choice))], .d (.int .i64 60)]) [.agg [.d (.sl 1 (l1.map e_i64)), .d (.sl 1 (l5.map e_lT_api_Choice))], .d (.int .i64 60)] (.tup [.d (.sl 1 (y25.1.map e_s)), .d (.int .i64 y25.2)]) (by kernel_rfl) en14 (Res'.refl _) (F14_ok e29) ?_)
        obtain ⟨y26, e30, hF⟩ := bnd hF
        refine J_adv 9 (J_callF (xs := [.agg [.d (.sl 1 ([].map e_i64)), .d (.sl 1 ([].map e_lT_api_Choice))], .d (.int .u64 1), .d (.int .i64 (-1))]) [.agg [.d (.sl 1 ([].map e_i64)), .d (.sl 1 ([].map e_lT_api_Choice))], .d (.int .u64 1), .d (.int .i64 (-1))] (.tup [.d (.sl 1 (y26.1.map e_s)), .d (.int .i64 y26.2)]) (by kernel_rfl) en12 (Res'.refl _) (F12_ok e30) ?_)
        obtain ⟨y27, e31, hF⟩ := bnd hF
        refine J_adv 8 (J_callF (xs := []) [] (.agg [.d (.sl 1 (y27.Owner.map e_i64)), .d (.sl 1 (y27.Choices.map e_lT_api_Choice))]) (by kernel_rfl) en16 (Res'.refl _) (F16_ok e31) ?_)
        obtain ⟨y28, e32, hF⟩ := bnd hF
        refine J_adv 0 (J_callF (xs := [.agg [.d (.sl 1 (y27.Owner.map e_i64)), .d (.sl 1 (y27.Choices.map e_lT_api_Choice))], .d (.int .u64 8), .d (.int .i64 0)]) [.agg [.d (.sl 1 (y27.Owner.map e_i64)), .d (.sl 1 (y27.Choices.map e_lT_api_Choice))], .d (.int .u64 8), .d (.int .i64 0)] (.tup [.d (.sl 1 (y28.1.map e_li64)), .d (.int .i64 y28.2)]) (by kernel_rfl) en15 (Res'.refl _) (F15_ok e32) ?_)
        obtain ⟨y29, e33, hF⟩ := bnd hF
        refine J_adv 8 (J_callF (xs := []) [] (.agg [.d (.sl 1 (y29.Owner.map e_i64)), .d (.sl 1 (y29.Choices.map e_lT_api_Choice))]) (by kernel_rfl) en16 (Res'.refl _) (F16_ok e33) ?_)
        obtain ⟨y30, e34, hF⟩ := bnd hF
        refine J_adv 0 (J_callF (xs := [.agg [.d (.sl 1 (y29.Owner.map e_i64)), .d (.sl 1 (y29.Choices.map e_lT_api_Choice))], .d (.int .i64 (-1)), .d (.int .u64 4), .d (.str [120])]) [.agg [.d (.sl 1 (y29.Owner.map e_i64)), .d (.sl 1 (y29.Choices.map e_lT_api_Choice))], .d (.int .i64 (-1)), .d (.int .u64 4), .d (.str [120])] (.tup [.d (.int .i64 y30.1), .d (.int .i64 y30.2)]) (by kernel_rfl) en13 (Res'.refl _) (F13_ok e34) ?_)
        obtain ⟨y31, e35, hF⟩ := bnd hF
        refine J_adv 8 (J_callF (xs := []) [] (.agg [.d (.sl 1 (y31.Owner.map e_i64)), .d (.sl 1 (y31.Choices.map e_lT_api_Choice))]) (by kernel_rfl) en16 (Res'.refl _) (F16_ok e35) ?_)
        obtain ⟨y32, e36, hF⟩ := bnd hF
        refine J_adv 0 (J_callF (xs := [.agg [.d (.sl 1 (y31.Owner.map e_i64)), .d (.sl 1 (y31.Choices.map e_lT_api_Choice))], .d (.int .i64 0), .d (.int .u64 8), .d (.str [])]) [.agg [.d (.sl 1 (y31.Owner.map e_i64)), .d (.sl 1 (y31.Choices.map e_lT_api_Choice))], .d (.int .i64 0), .d (.int .u64 8), .d (.str [])] (.tup [.d (.int .i64 y32.1), .d (.int .i64 y32.2)]) (by kernel_rfl) en13 (Res'.refl _) (F13_ok e36) ?_)
        obtain ⟨y33, e37, hF⟩ := bnd hF
        refine J_adv 8 (J_callF (xs := []) [] (.agg [.d (.sl 1 (y33.Owner.map e_i64)), .d (.sl 1 (y33.Choices.map e_lT_api_Choice))]) (by kernel_rfl) en16 (Res'.refl _) (F16_ok e37) ?_)
        obtain ⟨y34, e38, hF⟩ := bnd hF
        refine J_adv 0 (J_callF (xs := [.agg [.d (.sl 1 (y33.Owner.map e_i64)), .d (.sl 1 (y33.Choices.map e_lT_api_Choice))], .d (.int .i64 0), .d (.int .u64 4), .d (.str [45, 49, 47, 50])]) [.agg [.d (.sl 1 (y33.Owner.map e_i64)), .d (.sl 1 (y33.Choices.map e_lT_api_Choice))], .d (.int .i64 0), .d (.int .u64 4), .d (.str [45, 49, 47, 50])] (.tup [.d (.int .i64 y34.1), .d (.int .i64 y34.2)]) (by kernel_rfl) en13 (Res'.refl _) (F13_ok e38) ?_)
        obtain ⟨y35, e39, hF⟩ := bnd hF
        refine J_adv 8 (J_callF (xs := []) [] (.agg [.d (.sl 1 (y35.Owner.map e_i64)), .d (.sl 1 (y35.Choices.map e_lT_api_Choice))]) (by kernel_rfl) en16 (Res'.refl _) (F16_ok e39) ?_)
        obtain ⟨y36, e40, hF⟩ := bnd hF
        refine J_adv 0 (J_callF (xs := [.agg [.d (.sl 1 (y35.Owner.map e_i64)), .d (.sl 1 (y35.Choices.map e_lT_api_Choice))], .d (.int .i64 (-1))]) [.agg [.d (.sl 1 (y35.Owner.map e_i64)), .d (.sl 1 (y35.Choices.map e_lT_api_Choice))], .d (.int .i64 (-1))] (.tup [.d (.sl 1 (y36.1.map e_s)), .d (.int .i64 y36.2)]) (by kernel_rfl) en14 (Res'.refl _) (F14_ok e40) ?_)
        obtain ⟨y37, e41, hF⟩ := bnd hF
        refine J_adv 9 (J_callF (xs := [.agg [.d (.sl 1 ([].map e_i64)), .d (.sl 1 ([].map e_lT_api_Choice))], .d (.int .i64 0), .d (.int .u64 0), .d (.str [])]) [.agg [.d (.sl 1 ([].map e_i64)), .d (.sl 1 ([].map e_lT_api_Choice))], .d (.int .i64 0), .d (.int .u64 0), .d (.str [])] (.tup [.d (.int .i64 y37.1), .d (.int .i64 y37.2)]) (by kernel_rfl) en13 (Res'.refl _) (F13_ok e41) ?_)
        obtain ⟨y38, e42, hF⟩ := bnd hF
        refine J_adv 8 (J_callF (xs := []) [] (.agg [.d (.sl 1 (y38.Owner.map e_i64)), .d (.sl 1 (y38.Choices.map e_lT_api_Choice))]) (by kernel_rfl) en16 (Res'.refl _) (F16_ok e42) ?_)
        obtain ⟨y39, e43, hF⟩ := bnd hF
        refine J_adv 0 (J_callF (xs := [.agg [.d (.sl 1 (y38.Owner.map e_i64)), .d (.sl 1 (y38.Choices.map e_lT_api_Choice))], .d (.int .i64 0), .d (.int .u64 4), .d (.str [50, 47, 52])]) [.agg [.d (.sl 1 (y38.Owner.map e_i64)), .d (.sl 1 (y38.Choices.map e_lT_api_Choice))], .d (.int .i64 0), .d (.int .u64 4), .d (.str [50, 47, 52])] (.tup [.d (.int .i64 y39.1), .d (.int .i64 y39.2)]) (by kernel_rfl) en13 (Res'.refl _) (F13_ok e43) ?_)
        obtain ⟨o1, hO, hF⟩ := bnd hF
        have hR1 : J none Tryz.prog 304 [] (finF Tryz.prog Tryz.f3 (.d (.bool r))) ⟨mkT [(2, .d (.sl 1 (y6.1.map e_s))), (4, .d (.int .i64 y7.1)), (7, .d (.int .i64 y8.2)), (8, .d (.sl 1 (y9.1.map e_s))), (12, .d (.int .i64 y22.1)), (14, .d (.sl 1 (y23.1.map e_li64))), (16, .d (.sl 1 (y24.1.map e_s))), (18, .d (.sl 1 (y25.1.map e_s))), (21, .d (.int .i64 y26.2)), (23, .d (.int .i64 y28.2)), (25, .d (.int .i64 y30.2)), (27, .d (.int .i64 y32.2)), (29, .d (.int .i64 y34.2)), (31, .d (.int .i64 y36.2)), (33, .d (.int .i64 y37.2)), (35, .d (.int .i64 y39.2)), (195, .d (.bool o1))], [], [.ops (opsOf (cAt (bodyOf Tryz.f3) [1, 1, 1, 1, 1, 1, 1, 1, 1, 1, 1, 1, 1, 1, 1, 1, 1, 1, 1, 1, 0, 0])) [], .code (cAt (bodyOf Tryz.f3) [1, 1, 1, 1, 1, 1, 1, 1, 1, 1, 1, 1, 1, 1, 1, 1, 1, 1, 1, 1, 0, 1]), .code (cAt (bodyOf Tryz.f3) [1, 1, 1, 1, 1, 1, 1, 1, 1, 1, 1, 1, 1, 1, 1, 1, 1, 1, 1, 1, 1])]⟩ := by
          clear hO
          refine J_adv 1 (J_bool 195 (b := o1) (by kernel_rfl) (fun hb21 => ?_) (fun hb21 => ?_))
          · replace hF := ift hb21 hF
            have hr_ := Option.some.inj hF; subst hr_
            exact J_adv 5 (J_ret (xs := [.d (.bool false)]) [.d (.bool false)] rfl rfl (by kernel_rfl) (Res'.refl _) rfl)
          · replace hF := iff' hb21 hF
            obtain ⟨o2, hO, hF⟩ := bnd hF
            have hR2 : J none Tryz.prog 304 [] (finF Tryz.prog Tryz.f3 (.d (.bool r))) ⟨mkT [(21, .d (.int .i64 y26.2)), (23, .d (.int .i64 y28.2)), (25, .d (.int .i64 y30.2)), (27, .d (.int .i64 y32.2)), (29, .d (.int .i64 y34.2)), (31, .d (.int .i64 y36.2)), (33, .d (.int .i64 y37.2)), (35, .d (.int .i64 y39.2)), (36, .d (.bool o2))], [], [.ops (opsOf (cAt (bodyOf Tryz.f3) [1, 1, 1, 1, 1, 1, 1, 1, 1, 1, 1, 1, 1, 1, 1, 1, 1, 1, 1, 1, 1, 0])) [], .code (cAt (bodyOf Tryz.f3) [1, 1, 1, 1, 1, 1, 1, 1, 1, 1, 1, 1, 1, 1, 1, 1, 1, 1, 1, 1, 1, 1])]⟩ := by
              clear hO
              obtain ⟨o3, hO, hF⟩ := bnd hF
              have hR3 : J none Tryz.prog 304 [] (finF Tryz.prog Tryz.f3 (.d (.bool r))) ⟨mkT [(0, .d (.bool o3))], [], [.ops (opsOf (cAt (bodyOf Tryz.f3) [1, 1, 1, 1, 1, 1, 1, 1, 1, 1, 1, 1, 1, 1, 1, 1, 1, 1, 1, 1, 1, 1, 0])) [], .code (cAt (bodyOf Tryz.f3) [1, 1, 1, 1, 1, 1, 1, 1, 1, 1, 1, 1, 1, 1, 1, 1, 1, 1, 1, 1, 1, 1, 1])]⟩ := by
                clear hO
                have hr_ := Option.some.inj hF; subst hr_
                exact J_adv 1 (J_ret (xs := [.d (.bool o3)]) [.d (.bool o3)] rfl rfl (by kernel_rfl) (Res'.refl _) rfl)
              clear hF; rename _ = some o3 => hF
              obtain ⟨y74, e78, hF⟩ := bnd hF
              refine J_adv 4 (J_callF (xs := []) [] (.d (.bool y74)) (by kernel_rfl) en19 (Res'.refl _) (F19_ok e78) ?_)
              refine J_adv 2 (J_bool 269 (b := y74) (by kernel_rfl) (fun hb62 => ?_) (fun hb62 => ?_))
              · replace hF := ift hb62 hF
                refine J_adv 3 (J_bool 272 (b := o2) (by kernel_rfl) (fun hb63 => ?_) (fun hb63 => ?_))
                · replace hF := ift hb63 hF
                  refine J_adv 4 (J_bool 276 (b := y26.2 == 110) (by kernel_rfl) (fun hb64 => ?_) (fun hb64 => ?_))
                  · replace hF := ift hb64 hF
                    refine J_adv 4 (J_bool 280 (b := y28.2 == 2) (by kernel_rfl) (fun hb65 => ?_) (fun hb65 => ?_))
                    · replace hF := ift hb65 hF
                      refine J_adv 4 (J_bool 284 (b := y30.2 == 2) (by kernel_rfl) (fun hb66 => ?_) (fun hb66 => ?_))
                      · replace hF := ift hb66 hF
                        refine J_adv 4 (J_bool 288 (b := y32.2 == 2) (by kernel_rfl) (fun hb67 => ?_) (fun hb67 => ?_))
                        · replace hF := ift hb67 hF
                          refine J_adv 4 (J_bool 292 (b := y34.2 == 2) (by kernel_rfl) (fun hb68 => ?_) (fun hb68 => ?_))
                          · replace hF := ift hb68 hF
                            refine J_adv 4 (J_bool 296 (b := y36.2 == 2) (by kernel_rfl) (fun hb69 => ?_) (fun hb69 => ?_))
                            · replace hF := ift hb69 hF
                              refine J_adv 4 (J_bool 300 (b := y37.2 == 110) (by kernel_rfl) (fun hb70 => ?_) (fun hb70 => ?_))
                              · replace hF := ift hb70 hF
                                have hr_ := Option.some.inj hF; subst hr_
                                exact J_adv 4 (J_at [0] [] (T0 := [.ops (opsOf (cAt (bodyOf Tryz.f3) [1, 1, 1, 1, 1, 1, 1, 1, 1, 1, 1, 1, 1, 1, 1, 1, 1, 1, 1, 1, 1, 1, 0])) [], .code (cAt (bodyOf Tryz.f3) [1, 1, 1, 1, 1, 1, 1, 1, 1, 1, 1, 1, 1, 1, 1, 1, 1, 1, 1, 1, 1, 1, 1])]) (by kernel_rfl) rfl hR3)
                              · replace hF := iff' hb70 hF
                                have hr_ := Option.some.inj hF; subst hr_
                                exact J_adv 4 (J_at [0] [] (T0 := [.ops (opsOf (cAt (bodyOf Tryz.f3) [1, 1, 1, 1, 1, 1, 1, 1, 1, 1, 1, 1, 1, 1, 1, 1, 1, 1, 1, 1, 1, 1, 0])) [], .code (cAt (bodyOf Tryz.f3) [1, 1, 1, 1, 1, 1, 1, 1, 1, 1, 1, 1, 1, 1, 1, 1, 1, 1, 1, 1, 1, 1, 1])]) (by kernel_rfl) rfl hR3)
                            · replace hF := iff' hb69 hF
                              have hr_ := Option.some.inj hF; subst hr_
                              exact J_adv 8 (J_at [0] [] (T0 := [.ops (opsOf (cAt (bodyOf Tryz.f3) [1, 1, 1, 1, 1, 1, 1, 1, 1, 1, 1, 1, 1, 1, 1, 1, 1, 1, 1, 1, 1, 1, 0])) [], .code (cAt (bodyOf Tryz.f3) [1, 1, 1, 1, 1, 1, 1, 1, 1, 1, 1, 1, 1, 1, 1, 1, 1, 1, 1, 1, 1, 1, 1])]) (by kernel_rfl) rfl hR3)
                          · replace hF := iff' hb68 hF
                            have hr_ := Option.some.inj hF; subst hr_
                            exact J_adv 12 (J_at [0] [] (T0 := [.ops (opsOf (cAt (bodyOf Tryz.f3) [1, 1, 1, 1, 1, 1, 1, 1, 1, 1, 1, 1, 1, 1, 1, 1, 1, 1, 1, 1, 1, 1, 0])) [], .code (cAt (bodyOf Tryz.f3) [1, 1, 1, 1, 1, 1, 1, 1, 1, 1, 1, 1, 1, 1, 1, 1, 1, 1, 1, 1, 1, 1, 1])]) (by kernel_rfl) rfl hR3)
                        · replace hF := iff' hb67 hF
                          have hr_ := Option.some.inj hF; subst hr_
                          exact J_adv 16 (J_at [0] [] (T0 := [.ops (opsOf (cAt (bodyOf Tryz.f3) [1, 1, 1, 1, 1, 1, 1, 1, 1, 1, 1, 1, 1, 1, 1, 1, 1, 1, 1, 1, 1, 1, 0])) [], .code (cAt (bodyOf Tryz.f3) [1, 1, 1, 1, 1, 1, 1, 1, 1, 1, 1, 1, 1, 1, 1, 1, 1, 1, 1, 1, 1, 1, 1])]) (by kernel_rfl) rfl hR3)
                      · replace hF := iff' hb66 hF
                        have hr_ := Option.some.inj hF; subst hr_
                        exact J_adv 20 (J_at [0] [] (T0 := [.ops (opsOf (cAt (bodyOf Tryz.f3) [1, 1, 1, 1, 1, 1, 1, 1, 1, 1, 1, 1, 1, 1, 1, 1, 1, 1, 1, 1, 1, 1, 0])) [], .code (cAt (bodyOf Tryz.f3) [1, 1, 1, 1, 1, 1, 1, 1, 1, 1, 1, 1, 1, 1, 1, 1, 1, 1, 1, 1, 1, 1, 1])]) (by kernel_rfl) rfl hR3)
                    · replace hF := iff' hb65 hF
                      have hr_ := Option.some.inj hF; subst hr_
                      exact J_adv 24 (J_at [0] [] (T0 := [.ops (opsOf (cAt (bodyOf Tryz.f3) [1, 1, 1, 1, 1, 1, 1, 1, 1, 1, 1, 1, 1, 1, 1, 1, 1, 1, 1, 1, 1, 1, 0])) [], .code (cAt (bodyOf Tryz.f3) [1, 1, 1, 1, 1, 1, 1, 1, 1, 1, 1, 1, 1, 1, 1, 1, 1, 1, 1, 1, 1, 1, 1])]) (by kernel_rfl) rfl hR3)
                  · replace hF := iff' hb64 hF
                    have hr_ := Option.some.inj hF; subst hr_
                    exact J_adv 28 (J_at [0] [] (T0 := [.ops (opsOf (cAt (bodyOf Tryz.f3) [1, 1, 1, 1, 1, 1, 1, 1, 1, 1, 1, 1, 1, 1, 1, 1, 1, 1, 1, 1, 1, 1, 0])) [], .code (cAt (bodyOf Tryz.f3) [1, 1, 1, 1, 1, 1, 1, 1, 1, 1, 1, 1, 1, 1, 1, 1, 1, 1, 1, 1, 1, 1, 1])]) (by kernel_rfl) rfl hR3)
                · replace hF := iff' hb63 hF
                  have hr_ := Option.some.inj hF; subst hr_
                  exact J_adv 32 (J_at [0] [] (T0 := [.ops (opsOf (cAt (bodyOf Tryz.f3) [1, 1, 1, 1, 1, 1, 1, 1, 1, 1, 1, 1, 1, 1, 1, 1, 1, 1, 1, 1, 1, 1, 0])) [], .code (cAt (bodyOf Tryz.f3) [1, 1, 1, 1, 1, 1, 1, 1, 1, 1, 1, 1, 1, 1, 1, 1, 1, 1, 1, 1, 1, 1, 1])]) (by kernel_rfl) rfl hR3)
              · replace hF := iff' hb62 hF
                have hr_ := Option.some.inj hF; subst hr_
                exact J_adv 35 (J_at [0] [] (T0 := [.ops (opsOf (cAt (bodyOf Tryz.f3) [1, 1, 1, 1, 1, 1, 1, 1, 1, 1, 1, 1, 1, 1, 1, 1, 1, 1, 1, 1, 1, 1, 0])) [], .code (cAt (bodyOf Tryz.f3) [1, 1, 1, 1, 1, 1, 1, 1, 1, 1, 1, 1, 1, 1, 1, 1, 1, 1, 1, 1, 1, 1, 1])]) (by kernel_rfl) rfl hR3)
            clear hF; rename _ = some o2 => hF
            obtain ⟨y75, e79, hF⟩ := bnd hF
            refine J_adv 6 (J_callF (xs := [.d (.sl 1 (y6.1.map e_s)), .d (.sl 1 ([[49, 49, 53, 50, 57, 50, 49, 53, 48, 52, 54, 48, 54, 56, 52, 54, 57, 55, 53, 47, 49, 49, 53, 50, 57, 50, 49, 53, 48, 52, 54, 48, 54, 56, 52, 54, 57, 55, 54], [49]].map e_s))]) [.d (.sl 1 (y6.1.map e_s)), .d (.sl 1 ([[49, 49, 53, 50, 57, 50, 49, 53, 48, 52, 54, 48, 54, 56, 52, 54, 57, 55, 53, 47, 49, 49, 53, 50, 57, 50, 49, 53, 48, 52, 54, 48, 54, 56, 52, 54, 57, 55, 54], [49]].map e_s))] (.d (.bool y75)) (by kernel_rfl) en17 (Res'.refl _) (F17_ok e79) ?_)
            refine J_adv 1 (J_bool 199 (b := y75) (by kernel_rfl) (fun hb71 => ?_) (fun hb71 => ?_))
            · replace hF := ift hb71 hF
              refine J_adv 4 (J_bool 203 (b := y7.1 == 60) (by kernel_rfl) (fun hb72 => ?_) (fun hb72 => ?_))
              · replace hF := ift hb72 hF
                refine J_adv 4 (J_bool 207 (b := y8.2 == 4) (by kernel_rfl) (fun hb73 => ?_) (fun hb73 => ?_))
                · replace hF := ift hb73 hF
                  obtain ⟨y76, e80, hF⟩ := bnd hF
                  refine J_adv 2 (J_callF (xs := [.d (.sl 1 (y9.1.map e_s)), .d (.sl 1 ([[49, 47, 57, 57, 57, 57], [57, 57, 57, 57]].map e_s))]) [.d (.sl 1 (y9.1.map e_s)), .d (.sl 1 ([[49, 47, 57, 57, 57, 57], [57, 57, 57, 57]].map e_s))] (.d (.bool y76)) (by kernel_rfl) en17 (Res'.refl _) (F17_ok e80) ?_)
                  refine J_adv 2 (J_bool 212 (b := y76) (by kernel_rfl) (fun hb74 => ?_) (fun hb74 => ?_))
                  · replace hF := ift hb74 hF
                    refine J_adv 4 (J_bool 216 (b := y22.1 == 11) (by kernel_rfl) (fun hb75 => ?_) (fun hb75 => ?_))
                    · replace hF := ift hb75 hF
                      obtain ⟨y77, e81, hF⟩ := bnd hF
                      refine J_adv 1 (J_opt1 (o := geti (y23.1.map e_li64) 0) (e_li64 y77) (by kernel_rfl) (gm e81) ?_)
                      obtain ⟨y78, e82, hF⟩ := bnd hF
                      refine J_adv 1 (J_opt1 (o := geti (y77.map e_i64) 0) (e_i64 y78) (by kernel_rfl) (gm e82) ?_)
                      refine J_adv 4 (J_bool 224 (b := y78 == 1) (by kernel_rfl) (fun hb76 => ?_) (fun hb76 => ?_))
                      · replace hF := ift hb76 hF
                        obtain ⟨y79, e83, hF⟩ := bnd hF
                        refine J_adv 1 (J_opt1 (o := geti (y23.1.map e_li64) 0) (e_li64 y79) (by kernel_rfl) (gm e83) ?_)
                        obtain ⟨y80, e84, hF⟩ := bnd hF
                        refine J_adv 1 (J_opt1 (o := geti (y79.map e_i64) 3) (e_i64 y80) (by kernel_rfl) (gm e84) ?_)
                        refine J_adv 4 (J_bool 232 (b := y80 == 0) (by kernel_rfl) (fun hb77 => ?_) (fun hb77 => ?_))
                        · replace hF := ift hb77 hF
                          obtain ⟨y81, e85, hF⟩ := bnd hF
                          refine J_adv 1 (J_opt1 (o := geti (y23.1.map e_li64) 10) (e_li64 y81) (by kernel_rfl) (gm e85) ?_)
                          obtain ⟨y82, e86, hF⟩ := bnd hF
                          refine J_adv 1 (J_opt1 (o := geti (y81.map e_i64) 10) (e_i64 y82) (by kernel_rfl) (gm e86) ?_)
                          refine J_adv 4 (J_bool 240 (b := y82 == 1) (by kernel_rfl) (fun hb78 => ?_) (fun hb78 => ?_))
                          · replace hF := ift hb78 hF
                            obtain ⟨y83, e87, hF⟩ := bnd hF
                            refine J_adv 1 (J_opt1 (o := geti (y23.1.map e_li64) 10) (e_li64 y83) (by kernel_rfl) (gm e87) ?_)
                            obtain ⟨y84, e88, hF⟩ := bnd hF
                            refine J_adv 1 (J_opt1 (o := geti (y83.map e_i64) 9) (e_i64 y84) (by kernel_rfl) (gm e88) ?_)
                            refine J_adv 4 (J_bool 248 (b := y84 == 0) (by kernel_rfl) (fun hb79 => ?_) (fun hb79 => ?_))
                            · replace hF := ift hb79 hF
                              obtain ⟨y85, e89, hF⟩ := bnd hF
                              refine J_adv 1 (J_opt1 (o := geti (y24.1.map e_s) 0) (e_s y85) (by kernel_rfl) (gm e89) ?_)
                              refine J_adv 4 (J_bool 254 (b := y85 == [48]) (by kernel_rfl) (fun hb80 => ?_) (fun hb80 => ?_))
                              · replace hF := ift hb80 hF
                                obtain ⟨y86, e90, hF⟩ := bnd hF
                                refine J_adv 1 (J_opt1 (o := geti (y24.1.map e_s) 1) (e_s y86) (by kernel_rfl) (gm e90) ?_)
                                refine J_adv 4 (J_bool 260 (b := y86 == [49]) (by kernel_rfl) (fun hb81 => ?_) (fun hb81 => ?_))
                                · replace hF := ift hb81 hF
                                  obtain ⟨y87, e91, hF⟩ := bnd hF
                                  refine J_adv 2 (J_callF (xs := [.d (.sl 1 ([[49, 50, 48]].map e_s)), .d (.int .i64 12)]) [.d (.sl 1 ([[49, 50, 48]].map e_s)), .d (.int .i64 12)] (.d (.sl 1 (y87.map e_s))) (by kernel_rfl) en18 (Res'.refl _) (F18_ok e91) ?_)
                                  obtain ⟨y88, e92, hF⟩ := bnd hF
                                  refine J_adv 0 (J_callF (xs := [.d (.sl 1 (y25.1.map e_s)), .d (.sl 1 (y87.map e_s))]) [.d (.sl 1 (y25.1.map e_s)), .d (.sl 1 (y87.map e_s))] (.d (.bool y88)) (by kernel_rfl) en17 (Res'.refl _) (F17_ok e92) ?_)
                                  have hr_ := Option.some.inj hF; subst hr_
                                  exact J_adv 2 (J_at [21, 23, 25, 27, 29, 31, 33, 35, 36] [] (T0 := [.ops (opsOf (cAt (bodyOf Tryz.f3) [1, 1, 1, 1, 1, 1, 1, 1, 1, 1, 1, 1, 1, 1, 1, 1, 1, 1, 1, 1, 1, 0])) [], .code (cAt (bodyOf Tryz.f3) [1, 1, 1, 1, 1, 1, 1, 1, 1, 1, 1, 1, 1, 1, 1, 1, 1, 1, 1, 1, 1, 1])]) (by kernel_rfl) rfl hR2)
                                · replace hF := iff' hb81 hF
                                  have hr_ := Option.some.inj hF; subst hr_
                                  exact J_adv 6 (J_at [21, 23, 25, 27, 29, 31, 33, 35, 36] [] (T0 := [.ops (opsOf (cAt (bodyOf Tryz.f3) [1, 1, 1, 1, 1, 1, 1, 1, 1, 1, 1, 1, 1, 1, 1, 1, 1, 1, 1, 1, 1, 0])) [], .code (cAt (bodyOf Tryz.f3) [1, 1, 1, 1, 1, 1, 1, 1, 1, 1, 1, 1, 1, 1, 1, 1, 1, 1, 1, 1, 1, 1])]) (by kernel_rfl) rfl hR2)
                              · replace hF := iff' hb80 hF
                                have hr_ := Option.some.inj hF; subst hr_
                                exact J_adv 12 (J_at [21, 23, 25, 27, 29, 31, 33, 35, 36] [] (T0 := [.ops (opsOf (cAt (bodyOf Tryz.f3) [1, 1, 1, 1, 1, 1, 1, 1, 1, 1, 1, 1, 1, 1, 1, 1, 1, 1, 1, 1, 1, 0])) [], .code (cAt (bodyOf Tryz.f3) [1, 1, 1, 1, 1, 1, 1, 1, 1, 1, 1, 1, 1, 1, 1, 1, 1, 1, 1, 1, 1, 1])]) (by kernel_rfl) rfl hR2)
                            · replace hF := iff' hb79 hF
                              have hr_ := Option.some.inj hF; subst hr_
                              exact J_adv 18 (J_at [21, 23, 25, 27, 29, 31, 33, 35, 36] [] (T0 := [.ops (opsOf (cAt (bodyOf Tryz.f3) [1, 1, 1, 1, 1, 1, 1, 1, 1, 1, 1, 1, 1, 1, 1, 1, 1, 1, 1, 1, 1, 0])) [], .code (cAt (bodyOf Tryz.f3) [1, 1, 1, 1, 1, 1, 1, 1, 1, 1, 1, 1, 1, 1, 1, 1, 1, 1, 1, 1, 1, 1])]) (by kernel_rfl) rfl hR2)
                          · replace hF := iff' hb78 hF
                            have hr_ := Option.some.inj hF; subst hr_
                            exact J_adv 26 (J_at [21, 23, 25, 27, 29, 31, 33, 35, 36] [] (T0 := [.ops (opsOf (cAt (bodyOf Tryz.f3) [1, 1, 1, 1, 1, 1, 1, 1, 1, 1, 1, 1, 1, 1, 1, 1, 1, 1, 1, 1, 1, 0])) [], .code (cAt (bodyOf Tryz.f3) [1, 1, 1, 1, 1, 1, 1, 1, 1, 1, 1, 1, 1, 1, 1, 1, 1, 1, 1, 1, 1, 1])]) (by kernel_rfl) rfl hR2)
                        · replace hF := iff' hb77 hF
                          have hr_ := Option.some.inj hF; subst hr_
                          exact J_adv 34 (J_at [21, 23, 25, 27, 29, 31, 33, 35, 36] [] (T0 := [.ops (opsOf (cAt (bodyOf Tryz.f3) [1, 1, 1, 1, 1, 1, 1, 1, 1, 1, 1, 1, 1, 1, 1, 1, 1, 1, 1, 1, 1, 0])) [], .code (cAt (bodyOf Tryz.f3) [1, 1, 1, 1, 1, 1, 1, 1, 1, 1, 1, 1, 1, 1, 1, 1, 1, 1, 1, 1, 1, 1])]) (by kernel_rfl) rfl hR2)
                      · replace hF := iff' hb76 hF
                        have hr_ := Option.some.inj hF; subst hr_
                        exact J_adv 42 (J_at [21, 23, 25, 27, 29, 31, 33, 35, 36] [] (T0 := [.ops (opsOf (cAt (bodyOf Tryz.f3) [1, 1, 1, 1, 1, 1, 1, 1, 1, 1, 1, 1, 1, 1, 1, 1, 1, 1, 1, 1, 1, 0])) [], .code (cAt (bodyOf Tryz.f3) [1, 1, 1, 1, 1, 1, 1, 1, 1, 1, 1, 1, 1, 1, 1, 1, 1, 1, 1, 1, 1, 1])]) (by kernel_rfl) rfl hR2)
                    · replace hF := iff' hb75 hF
                      have hr_ := Option.some.inj hF; subst hr_
                      exact J_adv 50 (J_at [21, 23, 25, 27, 29, 31, 33, 35, 36] [] (T0 := [.ops (opsOf (cAt (bodyOf Tryz.f3) [1, 1, 1, 1, 1, 1, 1, 1, 1, 1, 1, 1, 1, 1, 1, 1, 1, 1, 1, 1, 1, 0])) [], .code (cAt (bodyOf Tryz.f3) [1, 1, 1, 1, 1, 1, 1, 1, 1, 1, 1, 1, 1, 1, 1, 1, 1, 1, 1, 1, 1, 1])]) (by kernel_rfl) rfl hR2)
                  · replace hF := iff' hb74 hF
                    have hr_ := Option.some.inj hF; subst hr_
                    exact J_adv 54 (J_at [21, 23, 25, 27, 29, 31, 33, 35, 36] [] (T0 := [.ops (opsOf (cAt (bodyOf Tryz.f3) [1, 1, 1, 1, 1, 1, 1, 1, 1, 1, 1, 1, 1, 1, 1, 1, 1, 1, 1, 1, 1, 0])) [], .code (cAt (bodyOf Tryz.f3) [1, 1, 1, 1, 1, 1, 1, 1, 1, 1, 1, 1, 1, 1, 1, 1, 1, 1, 1, 1, 1, 1])]) (by kernel_rfl) rfl hR2)
                · replace hF := iff' hb73 hF
                  have hr_ := Option.some.inj hF; subst hr_
                  exact J_adv 59 (J_at [21, 23, 25, 27, 29, 31, 33, 35, 36] [] (T0 := [.ops (opsOf (cAt (bodyOf Tryz.f3) [1, 1, 1, 1, 1, 1, 1, 1, 1, 1, 1, 1, 1, 1, 1, 1, 1, 1, 1, 1, 1, 0])) [], .code (cAt (bodyOf Tryz.f3) [1, 1, 1, 1, 1, 1, 1, 1, 1, 1, 1, 1, 1, 1, 1, 1, 1, 1, 1, 1, 1, 1])]) (by kernel_rfl) rfl hR2)
              · replace hF := iff' hb72 hF
                have hr_ := Option.some.inj hF; subst hr_
                exact J_adv 63 (J_at [21, 23, 25, 27, 29, 31, 33, 35, 36] [] (T0 := [.ops (opsOf (cAt (bodyOf Tryz.f3) [1, 1, 1, 1, 1, 1, 1, 1, 1, 1, 1, 1, 1, 1, 1, 1, 1, 1, 1, 1, 1, 0])) [], .code (cAt (bodyOf Tryz.f3) [1, 1, 1, 1, 1, 1, 1, 1, 1, 1, 1, 1, 1, 1, 1, 1, 1, 1, 1, 1, 1, 1])]) (by kernel_rfl) rfl hR2)
            · replace hF := iff' hb71 hF
              have hr_ := Option.some.inj hF; subst hr_
              exact J_adv 67 (J_at [21, 23, 25, 27, 29, 31, 33, 35, 36] [] (T0 := [.ops (opsOf (cAt (bodyOf Tryz.f3) [1, 1, 1, 1, 1, 1, 1, 1, 1, 1, 1, 1, 1, 1, 1, 1, 1, 1, 1, 1, 1, 0])) [], .code (cAt (bodyOf Tryz.f3) [1, 1, 1, 1, 1, 1, 1, 1, 1, 1, 1, 1, 1, 1, 1, 1, 1, 1, 1, 1, 1, 1])]) (by kernel_rfl) rfl hR2)
        clear hF; rename _ = some o1 => hF
        refine J_adv 12 (J_bool 153 (b := y6.2 != 0) (by kernel_rfl) (fun hb82 => ?_) (fun hb82 => ?_))
        · replace hF := ift hb82 hF
          have hr_ := Option.some.inj hF; subst hr_
          exact J_adv 42 (J_at [2, 4, 7, 8, 12, 14, 16, 18, 21, 23, 25, 27, 29, 31, 33, 35, 195] [] (T0 := [.ops (opsOf (cAt (bodyOf Tryz.f3) [1, 1, 1, 1, 1, 1, 1, 1, 1, 1, 1, 1, 1, 1, 1, 1, 1, 1, 1, 1, 0, 0])) [], .code (cAt (bodyOf Tryz.f3) [1, 1, 1, 1, 1, 1, 1, 1, 1, 1, 1, 1, 1, 1, 1, 1, 1, 1, 1, 1, 0, 1]), .code (cAt (bodyOf Tryz.f3) [1, 1, 1, 1, 1, 1, 1, 1, 1, 1, 1, 1, 1, 1, 1, 1, 1, 1, 1, 1, 1])]) (by kernel_rfl) rfl hR1)
        · replace hF := iff' hb82 hF
          refine J_adv 4 (J_bool 157 (b := y7.2 != 0) (by kernel_rfl) (fun hb83 => ?_) (fun hb83 => ?_))
          · replace hF := ift hb83 hF
            have hr_ := Option.some.inj hF; subst hr_
            exact J_adv 38 (J_at [2, 4, 7, 8, 12, 14, 16, 18, 21, 23, 25, 27, 29, 31, 33, 35, 195] [] (T0 := [.ops (opsOf (cAt (bodyOf Tryz.f3) [1, 1, 1, 1, 1, 1, 1, 1, 1, 1, 1, 1, 1, 1, 1, 1, 1, 1, 1, 1, 0, 0])) [], .code (cAt (bodyOf Tryz.f3) [1, 1, 1, 1, 1, 1, 1, 1, 1, 1, 1, 1, 1, 1, 1, 1, 1, 1, 1, 1, 0, 1]), .code (cAt (bodyOf Tryz.f3) [1, 1, 1, 1, 1, 1, 1, 1, 1, 1, 1, 1, 1, 1, 1, 1, 1, 1, 1, 1, 1])]) (by kernel_rfl) rfl hR1)
          · replace hF := iff' hb83 hF
            refine J_adv 4 (J_bool 161 (b := y9.2 != 0) (by kernel_rfl) (fun hb84 => ?_) (fun hb84 => ?_))
            · replace hF := ift hb84 hF
              have hr_ := Option.some.inj hF; subst hr_
              exact J_adv 34 (J_at [2, 4, 7, 8, 12, 14, 16, 18, 21, 23, 25, 27, 29, 31, 33, 35, 195] [] (T0 := [.ops (opsOf (cAt (bodyOf Tryz.f3) [1, 1, 1, 1, 1, 1, 1, 1, 1, 1, 1, 1, 1, 1, 1, 1, 1, 1, 1, 1, 0, 0])) [], .code (cAt (bodyOf Tryz.f3) [1, 1, 1, 1, 1, 1, 1, 1, 1, 1, 1, 1, 1, 1, 1, 1, 1, 1, 1, 1, 0, 1]), .code (cAt (bodyOf Tryz.f3) [1, 1, 1, 1, 1, 1, 1, 1, 1, 1, 1, 1, 1, 1, 1, 1, 1, 1, 1, 1, 1])]) (by kernel_rfl) rfl hR1)
            · replace hF := iff' hb84 hF
              refine J_adv 4 (J_bool 165 (b := y22.2 != 0) (by kernel_rfl) (fun hb85 => ?_) (fun hb85 => ?_))
              · replace hF := ift hb85 hF
                have hr_ := Option.some.inj hF; subst hr_
                exact J_adv 30 (J_at [2, 4, 7, 8, 12, 14, 16, 18, 21, 23, 25, 27, 29, 31, 33, 35, 195] [] (T0 := [.ops (opsOf (cAt (bodyOf Tryz.f3) [1, 1, 1, 1, 1, 1, 1, 1, 1, 1, 1, 1, 1, 1, 1, 1, 1, 1, 1, 1, 0, 0])) [], .code (cAt (bodyOf Tryz.f3) [1, 1, 1, 1, 1, 1, 1, 1, 1, 1, 1, 1, 1, 1, 1, 1, 1, 1, 1, 1, 0, 1]), .code (cAt (bodyOf Tryz.f3) [1, 1, 1, 1, 1, 1, 1, 1, 1, 1, 1, 1, 1, 1, 1, 1, 1, 1, 1, 1, 1])]) (by kernel_rfl) rfl hR1)
              · replace hF := iff' hb85 hF
                refine J_adv 4 (J_bool 169 (b := y23.2 != 0) (by kernel_rfl) (fun hb86 => ?_) (fun hb86 => ?_))
                · replace hF := ift hb86 hF
                  have hr_ := Option.some.inj hF; subst hr_
                  exact J_adv 26 (J_at [2, 4, 7, 8, 12, 14, 16, 18, 21, 23, 25, 27, 29, 31, 33, 35, 195] [] (T0 := [.ops (opsOf (cAt (bodyOf Tryz.f3) [1, 1, 1, 1, 1, 1, 1, 1, 1, 1, 1, 1, 1, 1, 1, 1, 1, 1, 1, 1, 0, 0])) [], .code (cAt (bodyOf Tryz.f3) [1, 1, 1, 1, 1, 1, 1, 1, 1, 1, 1, 1, 1, 1, 1, 1, 1, 1, 1, 1, 0, 1]), .code (cAt (bodyOf Tryz.f3) [1, 1, 1, 1, 1, 1, 1, 1, 1, 1, 1, 1, 1, 1, 1, 1, 1, 1, 1, 1, 1])]) (by kernel_rfl) rfl hR1)
                · replace hF := iff' hb86 hF
                  refine J_adv 4 (J_bool 173 (b := y24.2 != 0) (by kernel_rfl) (fun hb87 => ?_) (fun hb87 => ?_))
                  · replace hF := ift hb87 hF
                    have hr_ := Option.some.inj hF; subst hr_
                    exact J_adv 22 (J_at [2, 4, 7, 8, 12, 14, 16, 18, 21, 23, 25, 27, 29, 31, 33, 35, 195] [] (T0 := [.ops (opsOf (cAt (bodyOf Tryz.f3) [1, 1, 1, 1, 1, 1, 1, 1, 1, 1, 1, 1, 1, 1, 1, 1, 1, 1, 1, 1, 0, 0])) [], .code (cAt (bodyOf Tryz.f3) [1, 1, 1, 1, 1, 1, 1, 1, 1, 1, 1, 1, 1, 1, 1, 1, 1, 1, 1, 1, 0, 1]), .code (cAt (bodyOf Tryz.f3) [1, 1, 1, 1, 1, 1, 1, 1, 1, 1, 1, 1, 1, 1, 1, 1, 1, 1, 1, 1, 1])]) (by kernel_rfl) rfl hR1)
                  · replace hF := iff' hb87 hF
                    refine J_adv 4 (J_bool 177 (b := y25.2 != 0) (by kernel_rfl) (fun hb88 => ?_) (fun hb88 => ?_))
                    · replace hF := ift hb88 hF
                      have hr_ := Option.some.inj hF; subst hr_
                      exact J_adv 18 (J_at [2, 4, 7, 8, 12, 14, 16, 18, 21, 23, 25, 27, 29, 31, 33, 35, 195] [] (T0 := [.ops (opsOf (cAt (bodyOf Tryz.f3) [1, 1, 1, 1, 1, 1, 1, 1, 1, 1, 1, 1, 1, 1, 1, 1, 1, 1, 1, 1, 0, 0])) [], .code (cAt (bodyOf Tryz.f3) [1, 1, 1, 1, 1, 1, 1, 1, 1, 1, 1, 1, 1, 1, 1, 1, 1, 1, 1, 1, 0, 1]), .code (cAt (bodyOf Tryz.f3) [1, 1, 1, 1, 1, 1, 1, 1, 1, 1, 1, 1, 1, 1, 1, 1, 1, 1, 1, 1, 1])]) (by kernel_rfl) rfl hR1)
                    · replace hF := iff' hb88 hF
                      refine J_adv 5 (J_bool 182 (b := ((y23.1.map e_li64).length : Int) != 11) (by kernel_rfl) (fun hb89 => ?_) (fun hb89 => ?_))
                      · replace hF := ift hb89 hF
                        have hr_ := Option.some.inj hF; subst hr_
                        exact J_adv 13 (J_at [2, 4, 7, 8, 12, 14, 16, 18, 21, 23, 25, 27, 29, 31, 33, 35, 195] [] (T0 := [.ops (opsOf (cAt (bodyOf Tryz.f3) [1, 1, 1, 1, 1, 1, 1, 1, 1, 1, 1, 1, 1, 1, 1, 1, 1, 1, 1, 1, 0, 0])) [], .code (cAt (bodyOf Tryz.f3) [1, 1, 1, 1, 1, 1, 1, 1, 1, 1, 1, 1, 1, 1, 1, 1, 1, 1, 1, 1, 0, 1]), .code (cAt (bodyOf Tryz.f3) [1, 1, 1, 1, 1, 1, 1, 1, 1, 1, 1, 1, 1, 1, 1, 1, 1, 1, 1, 1, 1])]) (by kernel_rfl) rfl hR1)
                      · replace hF := iff' hb89 hF
                        obtain ⟨y89, e93, hF⟩ := bnd hF
                        refine J_adv 1 (J_opt1 (o := geti (y23.1.map e_li64) 0) (e_li64 y89) (by kernel_rfl) (gm e93) ?_)
                        refine J_adv 5 (J_bool 189 (b := ((y89.map e_i64).length : Int) != 12) (by kernel_rfl) (fun hb90 => ?_) (fun hb90 => ?_))
                        · replace hF := ift hb90 hF
                          have hr_ := Option.some.inj hF; subst hr_
                          exact J_adv 6 (J_at [2, 4, 7, 8, 12, 14, 16, 18, 21, 23, 25, 27, 29, 31, 33, 35, 195] [] (T0 := [.ops (opsOf (cAt (bodyOf Tryz.f3) [1, 1, 1, 1, 1, 1, 1, 1, 1, 1, 1, 1, 1, 1, 1, 1, 1, 1, 1, 1, 0, 0])) [], .code (cAt (bodyOf Tryz.f3) [1, 1, 1, 1, 1, 1, 1, 1, 1, 1, 1, 1, 1, 1, 1, 1, 1, 1, 1, 1, 0, 1]), .code (cAt (bodyOf Tryz.f3) [1, 1, 1, 1, 1, 1, 1, 1, 1, 1, 1, 1, 1, 1, 1, 1, 1, 1, 1, 1, 1])]) (by kernel_rfl) rfl hR1)
                        · replace hF := iff' hb90 hF
                          obtain ⟨y90, e94, hF⟩ := bnd hF
                          refine J_adv 1 (J_opt1 (o := geti (y23.1.map e_li64) 10) (e_li64 y90) (by kernel_rfl) (gm e94) ?_)
                          have hr_ := Option.some.inj hF; subst hr_
                          exact J_adv 4 (J_at [2, 4, 7, 8, 12, 14, 16, 18, 21, 23, 25, 27, 29, 31, 33, 35, 195] [] (T0 := [.ops (opsOf (cAt (bodyOf Tryz.f3) [1, 1, 1, 1, 1, 1, 1, 1, 1, 1, 1, 1, 1, 1, 1, 1, 1, 1, 1, 1, 0, 0])) [], .code (cAt (bodyOf Tryz.f3) [1, 1, 1, 1, 1, 1, 1, 1, 1, 1, 1, 1, 1, 1, 1, 1, 1, 1, 1, 1, 0, 1]), .code (cAt (bodyOf Tryz.f3) [1, 1, 1, 1, 1, 1, 1, 1, 1, 1, 1, 1, 1, 1, 1, 1, 1, 1, 1, 1, 1])]) (by kernel_rfl) rfl hR1)
  refine J_adv 11 (J_ownc (n := 1) 10 1 88 31 1 (by kernel_rfl) (by kernel_rfl) ?_)
  exact J_adv 0 (J_at [2, 3, 4, 5, 7, 8, 9, 10, 71] [10, 69, 88] (T0 := [.inLoop (cAt (bodyOf Tryz.f3) [1, 1, 1, 1, 1, 1, 1, 0, 1, 0, 0]), .inBlock 0, .code (cAt (bodyOf Tryz.f3) [1, 1, 1, 1, 1, 1, 1, 1])]) (by kernel_rfl) rfl (hF3_L1 fuel 0 [] hF))
end Go.Proofs.YtfgbhfphjmmiaaaGreatDoor
end
section
namespace Go.Proofs.YtfgbhfphjmmiaaaGreatDoor.stepsKnown
open Go.ChangeShapes Go.WideShapes Go.ChangeAt Go.RowKit Kx
open Go.ChangeMaps (open_string shut_string)
set_option linter.unusedVariables false
set_option maxRecDepth 100000
theorem law : ∃ fuel, F3 fuel = some true := ⟨100, by kernel_rfl⟩
theorem own : ownKnob Tryz.prog.godebug = none := by kernel_rfl
theorem glok {W : World} (h0 : laidMetH Tryz.prog Rows.stepsKnownRow.laid W) (hs : W.ShapedOpen Tryz.prog) : GlA (HeapM W) W := by
  have h : laidMet Tryz.prog Rows.stepsKnownRow.laid W := by
    rw [MakeChecks.laidMetH_plain _ _ _ (by kernel_rfl)] at h0
    exact h0
  have all : ∀ n cs, gl n = some cs → (∃ us, Cells (HeapM W) n 0 us ∧ RelDs (HeapM W) cs us) ∧ ∃ c e z, W.heap[n]? = some (.cells c e z) ∧ c.size = cs.length := fun n cs e => by
    refine glIn_all (Q := fun n cs => (∃ us, Cells (HeapM W) n 0 us ∧ RelDs (HeapM W) cs us) ∧ ∃ c e z, W.heap[n]? = some (.cells c e z) ∧ c.size = cs.length) ?_ e
    show _ ∧ _ ∧ _ ∧ _ ∧ _ ∧ True
    exact ⟨gl_arr h 0 (g := 4) (t := 338) (e := 5) rfl (by kernel_rfl) (by kernel_rfl) Tryz.underlying338 (by kernel_rfl) (by kernel_rfl) (by kernel_rfl) (by kernel_rfl),
      gl_arr h 1 (g := 5) (t := 339) (e := 5) rfl (by kernel_rfl) (by kernel_rfl) Tryz.underlying339 (by kernel_rfl) (by kernel_rfl) (by kernel_rfl) (by kernel_rfl),
      gl_arr h 2 (g := 3) (t := 310) (e := 39) rfl (by kernel_rfl) (by kernel_rfl) Tryz.underlying310 (by kernel_rfl) (by kernel_rfl) (by kernel_rfl) (by kernel_rfl),
      gl_one h 4 (g := 1) (t := 203) rfl (by kernel_rfl) (by kernel_rfl) (by kernel_rfl) rfl,
      gl_one h 3 (g := 2) (t := 203) rfl (by kernel_rfl) (by kernel_rfl) (by kernel_rfl) rfl,
      trivial⟩
  refine ⟨⟨fun n cs e => (all n cs e).1, fun n k e => ?_⟩, fun n cs e => (all n cs e).2⟩
  · simp only [gxT, List.mem_cons, List.mem_nil_iff, or_false, Prod.mk.injEq] at e
    obtain ⟨rfl, rfl⟩ := e
    exact gl_x hs (zero := #[.int .i64 0]) (t := 3) (of_decide_eq_true (by kernel_rfl)) (by kernel_rfl) (by kernel_rfl) (by kernel_rfl) Tryz.underlying3 (by kernel_rfl)
theorem lifted (os : Os) (started : os.Started) (H : Type) (enc : TypeId × Value → H) :
    ReturnsInHanded {} Tryz.checked os 3 .any (fun w args => (Rows.stepsKnownSpec.pre enc Tryz.prog Tryz.f3 Rows.stepsKnownRow.domain false w args ∧ laidMetH Tryz.prog Rows.stepsKnownRow.laid w) ∧ sizedMet enc Tryz.prog Tryz.f3 (OpenSpec.ofChange Rows.stepsKnownSpec) false w args)
      (Rows.stepsKnownSpec.post enc Tryz.prog Tryz.f3 false true false false) := by
  refine returns_of_change_open (C := Tryz.checked) (X := fun w _ => laidMetH Tryz.prog Rows.stepsKnownRow.laid w) (fun _ _ _ hh h => h.of_heap hh) own started (by kernel_rfl) Tryz.func3
    (ChangeSpec.witness_shaped (enc := enc) (C := Tryz.checked) (os := os) (X := fun w _ => laidMetH Tryz.prog Rows.stepsKnownRow.laid w) false (World.laidAll Tryz.prog os Rows.stepsKnownRow.laid) #[] 8 (World.laidAll_os _ _ _)
      (World.shaped_of_ZipB (by kernel_rfl) (by kernel_rfl)) (by kernel_rfl) (by kernel_rfl) (by kernel_rfl)
      (by rw [MakeChecks.laidMetH_plain _ _ _ (by kernel_rfl)]; exact laidMet_laidAll _ (by kernel_rfl) (by kernel_rfl))) ?_
  intro W base args ds gs before hval0 hW hcnd hlaid hshape
  have hgl : GlA (HeapM W) W := glok hlaid hshape
  have hval : ∀ (j : Nat) t v, Tryz.f3.params[j]? = some t → args[j]? = some v → Value.okWide Tryz.prog W .any base t v := hval0
  have hW' := hW
  obtain ⟨p, q, hA0, hV, rfl, hfz, hnd⟩ := hW
  have hA : DataW.TrodAll enc Tryz.prog W 0 (fun _ => true) true Tryz.f3.params.toList args.toList ds p := hA0
  rw [Tryz.params3] at hA hval
  obtain ⟨rfl, rfl, rfl⟩ := trodAll_none hA
  obtain ⟨rfl, rfl⟩ := trodVars_none hV
  obtain ⟨fuel, hF⟩ := law  
  clear hA0 hval0
  refine (F3_ok hF (HeapM W) W [] (HeapM_sits W) hgl (by simp only [RelVs])).mono fun e W' hE => ?_
  obtain ⟨u, M', rfl, hext, hv⟩ := hE
  have bel := hext.below
  have hv := relV_d hv
  cases hv
  exact ⟨_, rfl, _, _, _, [], _, [], hW', trodAll_mk1 (shut_bool Tryz.underlying4 _), trodAll_mk0, rfl, bel.frame _, fun h => by cases h⟩
theorem over : Rows.stepsKnownRow.holds Tryz.pinned (OpenSpec.ofChange Rows.stepsKnownSpec) :=
  OpenClaim.holds_of_wide 3 Tryz.f3 rfl rfl rfl rfl rfl rfl rfl ⟨rfl, rfl, rfl, rfl, rfl⟩ rfl rfl rfl rfl rfl (by kernel_rfl) Tryz.func3 (by kernel_rfl)
    (of_decide_eq_true (by kernel_rfl)) (by unfold Func.isWrapper; first | (rw [if_pos (by decide +kernel)]; kernel_rfl) | (rw [if_neg (by decide +kernel)]; exact ⟨rfl, rfl⟩))
    (fun os started H enc _ => lifted os started H enc)
/-- The statement. -/
theorem proved : Rows.StepsKnownCardSaid :=
  Claim7.holds_tied_plain_at .later [] [.data, .data, .data, .sentinel, .sentinel] true (true, "502f4c70369b75b0d817dcaec3831be972de460fbc89e4c07d93a27f2ee98cfe") true over (fun _ h => by cases h) (by kernel_rfl) (fun _ h => by cases h) stepsKnown_row_tie rfl ⟨rfl, rfl⟩ (by kernel_rfl) rfl
    (fun f fn hf hfn => by
      obtain rfl : f = 3 := Option.some.inj ((show Tryz.prog.funcNamed "croupier/croupierlaw21.StepsKnown" = some 3 by kernel_rfl).symm.trans hf) |>.symm
      obtain rfl : fn = Tryz.f3 := (Option.some.inj (Tryz.func3.symm.trans hfn)).symm
      exact ⟨by kernel_rfl, fun j t ht => by
        rw [Tryz.params3] at ht
        simp at ht⟩)
    (by kernel_rfl)
#print axioms proved
end Go.Proofs.YtfgbhfphjmmiaaaGreatDoor.stepsKnown
end
