import Derived.Test.YtljkgnjmigmcgaaFRig
import Derived.KernelRfl
set_option linter.unusedVariables false
set_option maxRecDepth 100000
namespace Go.Proofs.Ytljkgnjmigmcgaa
open Go Go.RowKit Kx

theorem en25 : entersT Try.prog 25 := enters_of Try.func25 (by kernel_rfl) (by kernel_rfl)
theorem en26 : entersT Try.prog 26 := enters_of Try.func26 (by kernel_rfl) (by kernel_rfl)
theorem en27 : entersT Try.prog 27 := enters_of Try.func27 (by kernel_rfl) (by kernel_rfl)
theorem en28 : entersT Try.prog 28 := enters_of Try.func28 (by kernel_rfl) (by kernel_rfl)

/- croupier/croupierlaw30.few -/
def F25 (d0 : T_api_Rules) : Option T_api_Rules :=
  Option.bind (slc d0.List 0 (bif decide (14 < ((d0.List.map e_T_api_Rule).length : Int)) then 14 else ((d0.List.map e_T_api_Rule).length : Int))) fun l1 =>
  some (⟨l1, d0.Else⟩ : T_api_Rules)
theorem F25_ok {d0 : T_api_Rules} {r : T_api_Rules} (hF : F25 d0 = some r) :
    CallF Try.prog 25 [.agg [.d (.sl 4 (d0.List.map e_T_api_Rule)), .d (.int .i64 d0.Else)]] (.agg [.d (.sl 4 (r.List.map e_T_api_Rule)), .d (.int .i64 r.Else)]) := by
  unfold F25 at hF
  refine callF_of (N := 12) (b := bodyOf Try.f25) Try.func25 (by kernel_rfl) rfl rfl ?_
  obtain ⟨l1, e1, hF⟩ := bnd hF
  refine J_adv 13 (J_opt2 (o := slc (d0.List.map e_T_api_Rule) 0 (bif decide (14 < ((d0.List.map e_T_api_Rule).length : Int)) then 14 else ((d0.List.map e_T_api_Rule).length : Int))) (l1.map e_T_api_Rule) (by kernel_rfl) (sm e1) ?_)
  have hr_ := Option.some.inj hF; subst hr_
  exact J_adv 8 (J_ret (xs := [.agg [.d (.sl 4 (l1.map e_T_api_Rule)), .d (.int .i64 d0.Else)]]) [.agg [.d (.sl 4 (l1.map e_T_api_Rule)), .d (.int .i64 d0.Else)]] rfl rfl (by kernel_rfl) (Res'.refl _) rfl)

/- croupier/rules.Check -/
def F26 (fuel : Nat) (d0 : T_api_Rules) : Option Int :=
  Option.bind (F32 fuel d0) fun y1 =>
  bif !y1 then
    (some 300)
  else
    (some 0)
theorem F26_ok {fuel : Nat} {d0 : T_api_Rules} {r : Int} (hF : F26 fuel d0 = some r) :
    CallF Try.prog 26 [.agg [.d (.sl 4 (d0.List.map e_T_api_Rule)), .d (.int .i64 d0.Else)]] (.d (.int .i64 r)) := by
  unfold F26 at hF
  refine callF_of (N := 6) (b := bodyOf Try.f26) Try.func26 (by kernel_rfl) rfl rfl ?_
  obtain ⟨y1, e1, hF⟩ := bnd hF
  refine J_adv 9 (J_callF (xs := [.agg [.d (.sl 4 (d0.List.map e_T_api_Rule)), .d (.int .i64 d0.Else)]]) [.agg [.d (.sl 4 (d0.List.map e_T_api_Rule)), .d (.int .i64 d0.Else)]] (.d (.bool y1)) (by kernel_rfl) en32 (Res'.refl _) (F32_ok e1) ?_)
  refine J_adv 2 (J_bool 5 (b := !y1) (by kernel_rfl) (fun hb1 => ?_) (fun hb1 => ?_))
  · replace hF := ift hb1 hF
    have hr_ := Option.some.inj hF; subst hr_
    exact J_adv 5 (J_ret (xs := [.d (.int .i64 300)]) [.d (.int .i64 300)] rfl rfl (by kernel_rfl) (Res'.refl _) rfl)
  · replace hF := iff' hb1 hF
    have hr_ := Option.some.inj hF; subst hr_
    exact J_adv 6 (J_ret (xs := [.d (.int .i64 0)]) [.d (.int .i64 0)] rfl rfl (by kernel_rfl) (Res'.refl _) rfl)

/- croupier/croupierref30.Check -/
def F27 (fuel : Nat) (d0 : T_api_Rules) : Option Int :=
  Option.bind (F21 fuel d0) fun y1 =>
  bif !y1 then
    (some 300)
  else
    (some 0)
theorem F27_ok {fuel : Nat} {d0 : T_api_Rules} {r : Int} (hF : F27 fuel d0 = some r) :
    CallF Try.prog 27 [.agg [.d (.sl 4 (d0.List.map e_T_api_Rule)), .d (.int .i64 d0.Else)]] (.d (.int .i64 r)) := by
  unfold F27 at hF
  refine callF_of (N := 6) (b := bodyOf Try.f27) Try.func27 (by kernel_rfl) rfl rfl ?_
  obtain ⟨y1, e1, hF⟩ := bnd hF
  refine J_adv 9 (J_callF (xs := [.agg [.d (.sl 4 (d0.List.map e_T_api_Rule)), .d (.int .i64 d0.Else)]]) [.agg [.d (.sl 4 (d0.List.map e_T_api_Rule)), .d (.int .i64 d0.Else)]] (.d (.bool y1)) (by kernel_rfl) en21 (Res'.refl _) (F21_ok e1) ?_)
  refine J_adv 2 (J_bool 5 (b := !y1) (by kernel_rfl) (fun hb1 => ?_) (fun hb1 => ?_))
  · replace hF := ift hb1 hF
    have hr_ := Option.some.inj hF; subst hr_
    exact J_adv 5 (J_ret (xs := [.d (.int .i64 300)]) [.d (.int .i64 300)] rfl rfl (by kernel_rfl) (Res'.refl _) rfl)
  · replace hF := iff' hb1 hF
    have hr_ := Option.some.inj hF; subst hr_
    exact J_adv 6 (J_ret (xs := [.d (.int .i64 0)]) [.d (.int .i64 0)] rfl rfl (by kernel_rfl) (Res'.refl _) rfl)

/- croupier/croupierref30.Apply -/
def F28 (fuel : Nat) (d0 : T_api_Rules) (d1 : List Int) : Option (Int × Int) :=
  Option.bind (F21 fuel d0) fun y1 =>
  bif !y1 then
    (some (0, 300))
  else
    (Option.bind (
      Option.bind (F44 fuel d1) fun y7 =>
      bif !y7 then
        (some true)
      else
        (Option.bind (F43 fuel d0 ((d1.map e_i64).length : Int)) fun y8 =>
        some (!y8))) fun o1 =>
    bif o1 then
      (some (0, 2))
    else
      (Option.bind (F14 fuel d0 d1) fun y6 =>
      some (y6, 0)))
theorem F28_ok {fuel : Nat} {d0 : T_api_Rules} {d1 : List Int} {r : Int × Int} (hF : F28 fuel d0 d1 = some r) :
    CallF Try.prog 28 [.agg [.d (.sl 4 (d0.List.map e_T_api_Rule)), .d (.int .i64 d0.Else)], .d (.sl 1 (d1.map e_i64))] (.tup [.d (.int .i64 r.1), .d (.int .i64 r.2)]) := by
  unfold F28 at hF
  refine callF_of (N := 22) (b := bodyOf Try.f28) Try.func28 (by kernel_rfl) rfl rfl ?_
  obtain ⟨y1, e1, hF⟩ := bnd hF
  refine J_adv 10 (J_callF (xs := [.agg [.d (.sl 4 (d0.List.map e_T_api_Rule)), .d (.int .i64 d0.Else)]]) [.agg [.d (.sl 4 (d0.List.map e_T_api_Rule)), .d (.int .i64 d0.Else)]] (.d (.bool y1)) (by kernel_rfl) en21 (Res'.refl _) (F21_ok e1) ?_)
  refine J_adv 2 (J_bool 8 (b := !y1) (by kernel_rfl) (fun hb1 => ?_) (fun hb1 => ?_))
  · replace hF := ift hb1 hF
    have hr_ := Option.some.inj hF; subst hr_
    exact J_adv 6 (J_ret (xs := [.d (.int .i64 0), .d (.int .i64 300)]) [.d (.int .i64 0), .d (.int .i64 300)] rfl rfl (by kernel_rfl) (Res'.refl _) rfl)
  · replace hF := iff' hb1 hF
    obtain ⟨o1, hO, hF⟩ := bnd hF
    have hR1 : J none Try.prog 22 [] (finF Try.prog Try.f28 (.tup [.d (.int .i64 r.1), .d (.int .i64 r.2)])) ⟨mkT [(1, .d (.sl 1 (d1.map e_i64))), (2, .ptr 2 0), (18, .d (.bool o1))], [(2, .box [.d (.sl 4 (d0.List.map e_T_api_Rule)), .d (.int .i64 d0.Else)])], [.ops (opsOf (cAt (bodyOf Try.f28) [1, 1, 0, 0])) [], .code (cAt (bodyOf Try.f28) [1, 1, 0, 1]), .code (cAt (bodyOf Try.f28) [1, 1, 1])]⟩ := by
      clear hO
      refine J_adv 1 (J_bool 18 (b := o1) (by kernel_rfl) (fun hb4 => ?_) (fun hb4 => ?_))
      · replace hF := ift hb4 hF
        have hr_ := Option.some.inj hF; subst hr_
        exact J_adv 6 (J_ret (xs := [.d (.int .i64 0), .d (.int .i64 2)]) [.d (.int .i64 0), .d (.int .i64 2)] rfl rfl (by kernel_rfl) (Res'.refl _) rfl)
      · replace hF := iff' hb4 hF
        obtain ⟨y6, e6, hF⟩ := bnd hF
        refine J_adv 6 (J_callF (xs := [.agg [.d (.sl 4 (d0.List.map e_T_api_Rule)), .d (.int .i64 d0.Else)], .d (.sl 1 (d1.map e_i64))]) [.agg [.d (.sl 4 (d0.List.map e_T_api_Rule)), .d (.int .i64 d0.Else)], .d (.sl 1 (d1.map e_i64))] (.d (.int .i64 y6)) (by kernel_rfl) en14 (Res'.refl _) (F14_ok e6) ?_)
        have hr_ := Option.some.inj hF; subst hr_
        exact J_adv 3 (J_ret (xs := [.d (.int .i64 y6), .d (.int .i64 0)]) [.d (.int .i64 y6), .d (.int .i64 0)] rfl rfl (by kernel_rfl) (Res'.refl _) rfl)
    clear hF; rename _ = some o1 => hF
    obtain ⟨y7, e7, hF⟩ := bnd hF
    refine J_adv 6 (J_callF (xs := [.d (.sl 1 (d1.map e_i64))]) [.d (.sl 1 (d1.map e_i64))] (.d (.bool y7)) (by kernel_rfl) en44 (Res'.refl _) (F44_ok e7) ?_)
    refine J_adv 2 (J_bool 12 (b := !y7) (by kernel_rfl) (fun hb5 => ?_) (fun hb5 => ?_))
    · replace hF := ift hb5 hF
      have hr_ := Option.some.inj hF; subst hr_
      exact J_adv 6 (J_at [1, 2, 18] [2] (T0 := [.ops (opsOf (cAt (bodyOf Try.f28) [1, 1, 0, 0])) [], .code (cAt (bodyOf Try.f28) [1, 1, 0, 1]), .code (cAt (bodyOf Try.f28) [1, 1, 1])]) (by kernel_rfl) rfl hR1)
    · replace hF := iff' hb5 hF
      obtain ⟨y8, e8, hF⟩ := bnd hF
      refine J_adv 3 (J_callF (xs := [.agg [.d (.sl 4 (d0.List.map e_T_api_Rule)), .d (.int .i64 d0.Else)], .d (.int .i64 ((d1.map e_i64).length : Int))]) [.agg [.d (.sl 4 (d0.List.map e_T_api_Rule)), .d (.int .i64 d0.Else)], .d (.int .i64 ((d1.map e_i64).length : Int))] (.d (.bool y8)) (by kernel_rfl) en43 (Res'.refl _) (F43_ok e8) ?_)
      have hr_ := Option.some.inj hF; subst hr_
      exact J_adv 2 (J_at [1, 2, 18] [2] (T0 := [.ops (opsOf (cAt (bodyOf Try.f28) [1, 1, 0, 0])) [], .code (cAt (bodyOf Try.f28) [1, 1, 0, 1]), .code (cAt (bodyOf Try.f28) [1, 1, 1])]) (by kernel_rfl) rfl hR1)

/- croupier/croupierlaw30.RulesApplies -/
def F9_L3 (fuel : Nat) (l17 : List Int) (l18 : List Int) (l19 : List Int) (v8 : Int) (y32 : T_api_Rules) (rec_F9_L2 : (List Int) → Int → Option Bool) : Nat → Int → Option Bool
  | 0, _ => none
  | n_F9_L3 + 1, v10 =>
    bif decide (v10 < 3) then
      (Option.bind (geti [l17, l18, l19] v10) fun y41 =>
      Option.bind (F24 fuel y32 y41) fun y42 =>
      Option.bind (F28 fuel y32 y41) fun y43 =>
      Option.bind (
        bif y42.1 != y43.1 then
          (some true)
        else
          (some (y42.2 != y43.2))) fun o9 =>
      bif o9 then
        (some false)
      else
        ((F9_L3 fuel l17 l18 l19 v8 y32 rec_F9_L2 n_F9_L3) (IntKind.i64.wrap (v10 + 1))))
    else
      (rec_F9_L2 l17 (IntKind.i64.wrap (v8 + 1)))
def F9_L2 (fuel : Nat) (d3 : Int) (d4 : List Int) (y2 : T_api_Rules) (y6 : T_api_Rules) (y7 : T_api_Rules) : Nat → (List Int) → Int → Option Bool
  | 0, _, _ => none
  | n_F9_L2 + 1, l17, v8 =>
    bif decide (v8 < 3) then
      (Option.bind (geti [y2, y6, y7] v8) fun y32 =>
      Option.bind (F26 fuel y32) fun y33 =>
      Option.bind (F27 fuel y32) fun y34 =>
      bif y33 != y34 then
        (some false)
      else
        (Option.bind (slc d4 0 (bif decide (6 < ((d4.map e_i64).length : Int)) then 6 else ((d4.map e_i64).length : Int))) fun l18 =>
        Option.bind (slc l17 0 (bif decide (1 > (IntKind.i64.wrap ((IntKind.i64.wrap (1 + (IntKind.i64.wrap (Int.tmod d3 4)))) - 1))) then 1 else (IntKind.i64.wrap ((IntKind.i64.wrap (1 + (IntKind.i64.wrap (Int.tmod d3 4)))) - 1)))) fun l19 =>
        F9_L3 fuel l17 l18 l19 v8 y32 (F9_L2 fuel d3 d4 y2 y6 y7 n_F9_L2) fuel 0))
    else
      (some true)
def F9_L1 (fuel : Nat) (d1 : T_croupierlaw30_Bend) (d2 : T_api_Rules) (d3 : Int) (d4 : List Int) (d5 : A_a4i8) (y2 : T_api_Rules) : Nat → Int → (List Int) → Option Bool
  | 0, _, _ => none
  | n_F9_L1 + 1, v2, l4 =>
    bif decide (v2 < (IntKind.i64.wrap (1 + (IntKind.i64.wrap (Int.tmod d3 4))))) then
      (Option.bind (geti [d5.a0, d5.a1, d5.a2, d5.a3] v2) fun y5 =>
      Option.bind (app l4 [Int.tmod (IntKind.i64.wrap y5) 100]) fun l5 =>
      (F9_L1 fuel d1 d2 d3 d4 d5 y2 n_F9_L1) (IntKind.i64.wrap (v2 + 1)) l5)
    else
      (Option.bind (F15 fuel d1 y2) fun y6 =>
      Option.bind (F25 d2) fun y7 =>
      F9_L2 fuel d3 d4 y2 y6 y7 fuel l4 0)
def F9 (fuel : Nat) (d0 : T_croupierref30_Wish) (d1 : T_croupierlaw30_Bend) (d2 : T_api_Rules) (d3 : Int) (d4 : List Int) (d5 : A_a4i8) : Option Bool :=
  Option.bind (F11 fuel) fun y1 =>
  bif !y1 then
    (some false)
  else
    (Option.bind (F13 fuel d0 (IntKind.i64.wrap (1 + (IntKind.i64.wrap (Int.tmod d3 4))))) fun y2 =>
    F9_L1 fuel d1 d2 d3 d4 d5 y2 fuel 0 [])
theorem F9_ok {fuel : Nat} {d0 : T_croupierref30_Wish} {d1 : T_croupierlaw30_Bend} {d2 : T_api_Rules} {d3 : Int} {d4 : List Int} {d5 : A_a4i8} {r : Bool} (hF : F9 fuel d0 d1 d2 d3 d4 d5 = some r) :
    CallF Try.prog 9 [.agg [.d (.sl 4 (d0.L.map e_a4i8)), .d (.int .u8 d0.Else)], .agg [.d (.int .u8 d1.What), .d (.int .u8 d1.At), .d (.int .i64 d1.N)], .agg [.d (.sl 4 (d2.List.map e_T_api_Rule)), .d (.int .i64 d2.Else)], .d (.int .u8 d3), .d (.sl 1 (d4.map e_i64)), .agg [.d (.int .i8 d5.a0), .d (.int .i8 d5.a1), .d (.int .i8 d5.a2), .d (.int .i8 d5.a3)]] (.d (.bool r)) := by
  unfold F9 at hF
  refine callF_of (N := 99) (b := bodyOf Try.f9) Try.func9 (by kernel_rfl) rfl rfl ?_
  obtain ⟨y1, e1, hF⟩ := bnd hF
  refine J_adv 11 (J_callF (xs := []) [] (.d (.bool y1)) (by kernel_rfl) en11 (Res'.refl _) (F11_ok e1) ?_)
  refine J_adv 2 (J_bool 26 (b := !y1) (by kernel_rfl) (fun hb1 => ?_) (fun hb1 => ?_))
  · replace hF := ift hb1 hF
    have hr_ := Option.some.inj hF; subst hr_
    exact J_adv 5 (J_ret (xs := [.d (.bool false)]) [.d (.bool false)] rfl rfl (by kernel_rfl) (Res'.refl _) rfl)
  · replace hF := iff' hb1 hF
    obtain ⟨y2, e2, hF⟩ := bnd hF
    refine J_adv 14 (J_callF (xs := [.agg [.d (.sl 4 (d0.L.map e_a4i8)), .d (.int .u8 d0.Else)], .d (.int .i64 (IntKind.i64.wrap (1 + (IntKind.i64.wrap (Int.tmod d3 4)))))]) [.agg [.d (.sl 4 (d0.L.map e_a4i8)), .d (.int .u8 d0.Else)], .d (.int .i64 (IntKind.i64.wrap (1 + (IntKind.i64.wrap (Int.tmod d3 4)))))] (.agg [.d (.sl 4 (y2.List.map e_T_api_Rule)), .d (.int .i64 y2.Else)]) (by kernel_rfl) en13 (Res'.refl _) (F13_ok e2) ?_)
    have hF9_L1 : ∀ (n_F9_L1 : Nat) (v2 : Int) (l4 : List Int), F9_L1 fuel d1 d2 d3 d4 d5 y2 n_F9_L1 v2 l4 = some r → J none Try.prog 99 [] (finF Try.prog Try.f9 (.d (.bool r))) ⟨mkT [(4, .d (.sl 1 (d4.map e_i64))), (7, .ptr 7 0), (8, .ptr 8 0), (11, .ptr 11 0), (13, .d (.int .i64 (IntKind.i64.wrap (1 + (IntKind.i64.wrap (Int.tmod d3 4)))))), (14, .ptr 14 0), (15, .suf 45 0 0), (34, .d (.int .i64 (IntKind.i64.wrap (1 + (IntKind.i64.wrap (Int.tmod d3 4)))))), (35, .d (.int .i64 v2))], [(7, .box [.d (.int .u8 d1.What), .d (.int .u8 d1.At), .d (.int .i64 d1.N)]), (8, .box [.d (.sl 4 (d2.List.map e_T_api_Rule)), .d (.int .i64 d2.Else)]), (11, .fzb [.d (.int .i8 d5.a0), .d (.int .i8 d5.a1), .d (.int .i8 d5.a2), .d (.int .i8 d5.a3)]), (14, .box [.d (.sl 4 (y2.List.map e_T_api_Rule)), .d (.int .i64 y2.Else)]), (45, .buf 0 3 1 (l4.map e_i64))], [.inLoop (cAt (bodyOf Try.f9) [1, 1, 1, 1, 1, 0, 1, 0, 0]), .inBlock 0, .code (cAt (bodyOf Try.f9) [1, 1, 1, 1, 1, 1])]⟩ := by
      clear hF; intro n_F9_L1
      induction n_F9_L1 with
      | zero => intro v2 l4 hF; cases hF
      | succ n_F9_L1 ih_F9_L1 =>
        intro v2 l4 hF
        rw [F9_L1] at hF
        refine J_adv 6 (J_bool 36 (b := decide (v2 < (IntKind.i64.wrap (1 + (IntKind.i64.wrap (Int.tmod d3 4)))))) (by kernel_rfl) (fun hb4 => ?_) (fun hb4 => ?_))
        · replace hF := ift hb4 hF
          obtain ⟨y5, e7, hF⟩ := bnd hF
          refine J_adv 12 (J_opt1 (o := geti (chunks 1 4 (([.int .i8 d5.a0, .int .i8 d5.a1, .int .i8 d5.a2, .int .i8 d5.a3] : List Dat).drop 0)) v2) (e_i8 y5) (by kernel_rfl) (gm (f := e_i8) e7) ?_)
          obtain ⟨l5, e8, hF⟩ := bnd hF
          refine J_adv 4 (J_opt2 (o := app2 ((l4.map e_i64).drop 0) ([Int.tmod (IntKind.i64.wrap y5) 100].map e_i64)) (l5.map e_i64) (by kernel_rfl) (am e8) ?_)
          exact J_adv 7 (J_at [4, 7, 8, 11, 13, 14, 15, 34, 35] [7, 8, 11, 14, 45] (T0 := [.inLoop (cAt (bodyOf Try.f9) [1, 1, 1, 1, 1, 0, 1, 0, 0]), .inBlock 0, .code (cAt (bodyOf Try.f9) [1, 1, 1, 1, 1, 1])]) (by kernel_rfl) rfl (ih_F9_L1 (IntKind.i64.wrap (v2 + 1)) l5 hF))
        · replace hF := iff' hb4 hF
          refine J_adv 4 (J_draw (by kernel_rfl) (by kernel_rfl) ?_)
          obtain ⟨y6, e9, hF⟩ := bnd hF
          refine JD_adv 3 (JD_callF (xs := [.agg [.d (.int .u8 d1.What), .d (.int .u8 d1.At), .d (.int .i64 d1.N)], .agg [.d (.sl 4 (y2.List.map e_T_api_Rule)), .d (.int .i64 y2.Else)]]) [.agg [.d (.int .u8 d1.What), .d (.int .u8 d1.At), .d (.int .i64 d1.N)], .agg [.d (.sl 4 (y2.List.map e_T_api_Rule)), .d (.int .i64 y2.Else)]] (.agg [.d (.sl 4 (y6.List.map e_T_api_Rule)), .d (.int .i64 y6.Else)]) (by kernel_rfl) (by kernel_rfl) en15 (Res'.refl _) (F15_ok e9) ?_)
          obtain ⟨y7, e10, hF⟩ := bnd hF
          refine JD_adv 1 (JD_callF (xs := [.agg [.d (.sl 4 (d2.List.map e_T_api_Rule)), .d (.int .i64 d2.Else)]]) [.agg [.d (.sl 4 (d2.List.map e_T_api_Rule)), .d (.int .i64 d2.Else)]] (.agg [.d (.sl 4 (y7.List.map e_T_api_Rule)), .d (.int .i64 y7.Else)]) (by kernel_rfl) (by kernel_rfl) en25 (Res'.refl _) (F25_ok e10) ?_)
          refine JD_adv 2 (JD_end (by kernel_rfl) ?_)
          have hF9_L2 : ∀ (n_F9_L2 : Nat) (l17 : List Int) (v8 : Int), F9_L2 fuel d3 d4 y2 y6 y7 n_F9_L2 l17 v8 = some r → J none Try.prog 99 [] (finF Try.prog Try.f9 (.d (.bool r))) ⟨mkT [(4, .d (.sl 1 (d4.map e_i64))), (13, .d (.int .i64 (IntKind.i64.wrap (1 + (IntKind.i64.wrap (Int.tmod d3 4)))))), (15, .d (.sl 1 (l17.map e_i64))), (53, .agg [.d (.sl 4 (y2.List.map e_T_api_Rule)), .d (.int .i64 y2.Else), .d (.sl 4 (y6.List.map e_T_api_Rule)), .d (.int .i64 y6.Else), .d (.sl 4 (y7.List.map e_T_api_Rule)), .d (.int .i64 y7.Else)]), (54, .d (.int .i64 v8))], [], [.inLoop (cAt (bodyOf Try.f9) [1, 1, 1, 1, 1, 1, 0, 1, 0, 0]), .inBlock 2, .code (cAt (bodyOf Try.f9) [1, 1, 1, 1, 1, 1, 1])]⟩ := by
            clear hF; intro n_F9_L2
            induction n_F9_L2 with
            | zero => intro l17 v8 hF; cases hF
            | succ n_F9_L2 ih_F9_L2 =>
              intro l17 v8 hF
              rw [F9_L2] at hF
              refine J_adv 6 (J_bool 55 (b := decide (v8 < 3)) (by kernel_rfl) (fun hb38 => ?_) (fun hb38 => ?_))
              · replace hF := ift hb38 hF
                obtain ⟨y32, e39, hF⟩ := bnd hF
                refine J_adv 6 (J_opt1 (o := geti (chunks 2 3 ([.sl 4 (y2.List.map e_T_api_Rule), .int .i64 y2.Else, .sl 4 (y6.List.map e_T_api_Rule), .int .i64 y6.Else, .sl 4 (y7.List.map e_T_api_Rule), .int .i64 y7.Else] : List Dat)) v8) (e_T_api_Rules y32) (by kernel_rfl) (gm (f := e_T_api_Rules) e39) ?_)
                refine J_adv 5 (J_draw (by kernel_rfl) (by kernel_rfl) ?_)
                obtain ⟨y33, e40, hF⟩ := bnd hF
                refine JD_adv 1 (JD_callF (xs := [.agg [.d (.sl 4 (y32.List.map e_T_api_Rule)), .d (.int .i64 y32.Else)]]) [.agg [.d (.sl 4 (y32.List.map e_T_api_Rule)), .d (.int .i64 y32.Else)]] (.d (.int .i64 y33)) (by kernel_rfl) (by kernel_rfl) en26 (Res'.refl _) (F26_ok e40) ?_)
                obtain ⟨y34, e41, hF⟩ := bnd hF
                refine JD_adv 1 (JD_callF (xs := [.agg [.d (.sl 4 (y32.List.map e_T_api_Rule)), .d (.int .i64 y32.Else)]]) [.agg [.d (.sl 4 (y32.List.map e_T_api_Rule)), .d (.int .i64 y32.Else)]] (.d (.int .i64 y34)) (by kernel_rfl) (by kernel_rfl) en27 (Res'.refl _) (F27_ok e41) ?_)
                refine JD_adv 1 (JD_end (by kernel_rfl) ?_)
                refine J_adv 0 (J_bool 61 (b := y33 != y34) (by kernel_rfl) (fun hb39 => ?_) (fun hb39 => ?_))
                · replace hF := ift hb39 hF
                  have hr_ := Option.some.inj hF; subst hr_
                  exact J_adv 5 (J_ret (xs := [.d (.bool false)]) [.d (.bool false)] rfl rfl (by kernel_rfl) (Res'.refl _) rfl)
                · replace hF := iff' hb39 hF
                  refine J_adv 3 (J_draw (by kernel_rfl) (by kernel_rfl) ?_)
                  obtain ⟨l18, e42, hF⟩ := bnd hF
                  refine JD_adv 5 (JD_opt2 (o := slc (d4.map e_i64) 0 (bif decide (6 < ((d4.map e_i64).length : Int)) then 6 else ((d4.map e_i64).length : Int))) (l18.map e_i64) (by kernel_rfl) (by kernel_rfl) (sm e42) ?_)
                  obtain ⟨l19, e43, hF⟩ := bnd hF
                  refine JD_adv 4 (JD_opt2 (o := slc (l17.map e_i64) 0 (bif decide (1 > (IntKind.i64.wrap ((IntKind.i64.wrap (1 + (IntKind.i64.wrap (Int.tmod d3 4)))) - 1))) then 1 else (IntKind.i64.wrap ((IntKind.i64.wrap (1 + (IntKind.i64.wrap (Int.tmod d3 4)))) - 1)))) (l19.map e_i64) (by kernel_rfl) (by kernel_rfl) (sm e43) ?_)
                  refine JD_adv 2 (JD_end (by kernel_rfl) ?_)
                  have hF9_L3 : ∀ (n_F9_L3 : Nat) (v10 : Int), F9_L3 fuel l17 l18 l19 v8 y32 (F9_L2 fuel d3 d4 y2 y6 y7 n_F9_L2) n_F9_L3 v10 = some r → J none Try.prog 99 [] (finF Try.prog Try.f9 (.d (.bool r))) ⟨mkT [(4, .d (.sl 1 (d4.map e_i64))), (13, .d (.int .i64 (IntKind.i64.wrap (1 + (IntKind.i64.wrap (Int.tmod d3 4)))))), (15, .d (.sl 1 (l17.map e_i64))), (18, .ptr 18 0), (53, .agg [.d (.sl 4 (y2.List.map e_T_api_Rule)), .d (.int .i64 y2.Else), .d (.sl 4 (y6.List.map e_T_api_Rule)), .d (.int .i64 y6.Else), .d (.sl 4 (y7.List.map e_T_api_Rule)), .d (.int .i64 y7.Else)]), (54, .d (.int .i64 v8)), (73, .agg [.d (.sl 1 (l17.map e_i64)), .d (.sl 1 (l18.map e_i64)), .d (.sl 1 (l19.map e_i64))]), (74, .d (.int .i64 v10))], [(18, .box [.d (.sl 4 (y32.List.map e_T_api_Rule)), .d (.int .i64 y32.Else)])], [.inLoop (cAt (bodyOf Try.f9) [1, 1, 1, 1, 1, 1, 0, 1, 0, 0, 1, 1, 0, 0, 1, 1, 1, 0, 0]), .inBlock 4, .inBlock 3, .code (cAt (bodyOf Try.f9) [1, 1, 1, 1, 1, 1, 0, 1, 0, 0, 1, 1, 1]), .inLoop (cAt (bodyOf Try.f9) [1, 1, 1, 1, 1, 1, 0, 1, 0, 0]), .inBlock 2, .code (cAt (bodyOf Try.f9) [1, 1, 1, 1, 1, 1, 1])]⟩ := by
                    clear hF; intro n_F9_L3
                    induction n_F9_L3 with
                    | zero => intro v10 hF; cases hF
                    | succ n_F9_L3 ih_F9_L3 =>
                      intro v10 hF
                      rw [F9_L3] at hF
                      refine J_adv 6 (J_bool 75 (b := decide (v10 < 3)) (by kernel_rfl) (fun hb50 => ?_) (fun hb50 => ?_))
                      · replace hF := ift hb50 hF
                        obtain ⟨y41, e50, hF⟩ := bnd hF
                        refine J_adv 6 (J_opt1 (o := geti (chunks 1 3 ([.sl 1 (l17.map e_i64), .sl 1 (l18.map e_i64), .sl 1 (l19.map e_i64)] : List Dat)) v10) (e_li64 y41) (by kernel_rfl) (gm (f := e_li64) e50) ?_)
                        obtain ⟨y42, e51, hF⟩ := bnd hF
                        refine J_adv 6 (J_callF (xs := [.agg [.d (.sl 4 (y32.List.map e_T_api_Rule)), .d (.int .i64 y32.Else)], .d (.sl 1 (y41.map e_i64))]) [.agg [.d (.sl 4 (y32.List.map e_T_api_Rule)), .d (.int .i64 y32.Else)], .d (.sl 1 (y41.map e_i64))] (.tup [.d (.int .i64 y42.1), .d (.int .i64 y42.2)]) (by kernel_rfl) en24 (Res'.refl _) (F24_ok e51) ?_)
                        obtain ⟨y43, e52, hF⟩ := bnd hF
                        refine J_adv 10 (J_callF (xs := [.agg [.d (.sl 4 (y32.List.map e_T_api_Rule)), .d (.int .i64 y32.Else)], .d (.sl 1 (y41.map e_i64))]) [.agg [.d (.sl 4 (y32.List.map e_T_api_Rule)), .d (.int .i64 y32.Else)], .d (.sl 1 (y41.map e_i64))] (.tup [.d (.int .i64 y43.1), .d (.int .i64 y43.2)]) (by kernel_rfl) en28 (Res'.refl _) (F28_ok e52) ?_)
                        obtain ⟨o9, hO, hF⟩ := bnd hF
                        have hR9 : J none Try.prog 99 [] (finF Try.prog Try.f9 (.d (.bool r))) ⟨mkT [(4, .d (.sl 1 (d4.map e_i64))), (13, .d (.int .i64 (IntKind.i64.wrap (1 + (IntKind.i64.wrap (Int.tmod d3 4)))))), (15, .d (.sl 1 (l17.map e_i64))), (18, .ptr 18 0), (53, .agg [.d (.sl 4 (y2.List.map e_T_api_Rule)), .d (.int .i64 y2.Else), .d (.sl 4 (y6.List.map e_T_api_Rule)), .d (.int .i64 y6.Else), .d (.sl 4 (y7.List.map e_T_api_Rule)), .d (.int .i64 y7.Else)]), (54, .d (.int .i64 v8)), (73, .agg [.d (.sl 1 (l17.map e_i64)), .d (.sl 1 (l18.map e_i64)), .d (.sl 1 (l19.map e_i64))]), (74, .d (.int .i64 v10)), (96, .d (.bool o9))], [(18, .box [.d (.sl 4 (y32.List.map e_T_api_Rule)), .d (.int .i64 y32.Else)])], [.ops (opsOf (cAt (bodyOf Try.f9) [1, 1, 1, 1, 1, 1, 0, 1, 0, 0, 1, 1, 0, 0, 1, 1, 1, 0, 0, 1, 1, 0, 0, 1, 1, 1, 0])) [], .code (cAt (bodyOf Try.f9) [1, 1, 1, 1, 1, 1, 0, 1, 0, 0, 1, 1, 0, 0, 1, 1, 1, 0, 0, 1, 1, 0, 0, 1, 1, 1, 1]), .inBlock 5, .code (cAt (bodyOf Try.f9) [1, 1, 1, 1, 1, 1, 0, 1, 0, 0, 1, 1, 0, 0, 1, 1, 1, 0, 0, 1, 1, 1]), .inLoop (cAt (bodyOf Try.f9) [1, 1, 1, 1, 1, 1, 0, 1, 0, 0, 1, 1, 0, 0, 1, 1, 1, 0, 0]), .inBlock 4, .inBlock 3, .code (cAt (bodyOf Try.f9) [1, 1, 1, 1, 1, 1, 0, 1, 0, 0, 1, 1, 1]), .inLoop (cAt (bodyOf Try.f9) [1, 1, 1, 1, 1, 1, 0, 1, 0, 0]), .inBlock 2, .code (cAt (bodyOf Try.f9) [1, 1, 1, 1, 1, 1, 1])]⟩ := by
                          clear hO
                          refine J_adv 1 (J_bool 96 (b := o9) (by kernel_rfl) (fun hb53 => ?_) (fun hb53 => ?_))
                          · replace hF := ift hb53 hF
                            have hr_ := Option.some.inj hF; subst hr_
                            exact J_adv 5 (J_ret (xs := [.d (.bool false)]) [.d (.bool false)] rfl rfl (by kernel_rfl) (Res'.refl _) rfl)
                          · replace hF := iff' hb53 hF
                            exact J_adv 7 (J_at [4, 13, 15, 18, 53, 54, 73, 74] [18] (T0 := [.inLoop (cAt (bodyOf Try.f9) [1, 1, 1, 1, 1, 1, 0, 1, 0, 0, 1, 1, 0, 0, 1, 1, 1, 0, 0]), .inBlock 4, .inBlock 3, .code (cAt (bodyOf Try.f9) [1, 1, 1, 1, 1, 1, 0, 1, 0, 0, 1, 1, 1]), .inLoop (cAt (bodyOf Try.f9) [1, 1, 1, 1, 1, 1, 0, 1, 0, 0]), .inBlock 2, .code (cAt (bodyOf Try.f9) [1, 1, 1, 1, 1, 1, 1])]) (by kernel_rfl) rfl (ih_F9_L3 (IntKind.i64.wrap (v10 + 1)) hF))
                        clear hF; rename _ = some o9 => hF
                        refine J_adv 12 (J_bool 92 (b := y42.1 != y43.1) (by kernel_rfl) (fun hb54 => ?_) (fun hb54 => ?_))
                        · replace hF := ift hb54 hF
                          have hr_ := Option.some.inj hF; subst hr_
                          exact J_adv 4 (J_at [4, 13, 15, 18, 53, 54, 73, 74, 96] [18] (T0 := [.ops (opsOf (cAt (bodyOf Try.f9) [1, 1, 1, 1, 1, 1, 0, 1, 0, 0, 1, 1, 0, 0, 1, 1, 1, 0, 0, 1, 1, 0, 0, 1, 1, 1, 0])) [], .code (cAt (bodyOf Try.f9) [1, 1, 1, 1, 1, 1, 0, 1, 0, 0, 1, 1, 0, 0, 1, 1, 1, 0, 0, 1, 1, 0, 0, 1, 1, 1, 1]), .inBlock 5, .code (cAt (bodyOf Try.f9) [1, 1, 1, 1, 1, 1, 0, 1, 0, 0, 1, 1, 0, 0, 1, 1, 1, 0, 0, 1, 1, 1]), .inLoop (cAt (bodyOf Try.f9) [1, 1, 1, 1, 1, 1, 0, 1, 0, 0, 1, 1, 0, 0, 1, 1, 1, 0, 0]), .inBlock 4, .inBlock 3, .code (cAt (bodyOf Try.f9) [1, 1, 1, 1, 1, 1, 0, 1, 0, 0, 1, 1, 1]), .inLoop (cAt (bodyOf Try.f9) [1, 1, 1, 1, 1, 1, 0, 1, 0, 0]), .inBlock 2, .code (cAt (bodyOf Try.f9) [1, 1, 1, 1, 1, 1, 1])]) (by kernel_rfl) rfl hR9)
                        · replace hF := iff' hb54 hF
                          have hr_ := Option.some.inj hF; subst hr_
                          exact J_adv 4 (J_at [4, 13, 15, 18, 53, 54, 73, 74, 96] [18] (T0 := [.ops (opsOf (cAt (bodyOf Try.f9) [1, 1, 1, 1, 1, 1, 0, 1, 0, 0, 1, 1, 0, 0, 1, 1, 1, 0, 0, 1, 1, 0, 0, 1, 1, 1, 0])) [], .code (cAt (bodyOf Try.f9) [1, 1, 1, 1, 1, 1, 0, 1, 0, 0, 1, 1, 0, 0, 1, 1, 1, 0, 0, 1, 1, 0, 0, 1, 1, 1, 1]), .inBlock 5, .code (cAt (bodyOf Try.f9) [1, 1, 1, 1, 1, 1, 0, 1, 0, 0, 1, 1, 0, 0, 1, 1, 1, 0, 0, 1, 1, 1]), .inLoop (cAt (bodyOf Try.f9) [1, 1, 1, 1, 1, 1, 0, 1, 0, 0, 1, 1, 0, 0, 1, 1, 1, 0, 0]), .inBlock 4, .inBlock 3, .code (cAt (bodyOf Try.f9) [1, 1, 1, 1, 1, 1, 0, 1, 0, 0, 1, 1, 1]), .inLoop (cAt (bodyOf Try.f9) [1, 1, 1, 1, 1, 1, 0, 1, 0, 0]), .inBlock 2, .code (cAt (bodyOf Try.f9) [1, 1, 1, 1, 1, 1, 1])]) (by kernel_rfl) rfl hR9)
                      · replace hF := iff' hb50 hF
                        exact J_adv 7 (J_at [4, 13, 15, 53, 54] [] (T0 := [.inLoop (cAt (bodyOf Try.f9) [1, 1, 1, 1, 1, 1, 0, 1, 0, 0]), .inBlock 2, .code (cAt (bodyOf Try.f9) [1, 1, 1, 1, 1, 1, 1])]) (by kernel_rfl) rfl (ih_F9_L2 l17 (IntKind.i64.wrap (v8 + 1)) hF))
                  exact J_adv 2 (J_at [4, 13, 15, 18, 53, 54, 73, 74] [18] (T0 := [.inLoop (cAt (bodyOf Try.f9) [1, 1, 1, 1, 1, 1, 0, 1, 0, 0, 1, 1, 0, 0, 1, 1, 1, 0, 0]), .inBlock 4, .inBlock 3, .code (cAt (bodyOf Try.f9) [1, 1, 1, 1, 1, 1, 0, 1, 0, 0, 1, 1, 1]), .inLoop (cAt (bodyOf Try.f9) [1, 1, 1, 1, 1, 1, 0, 1, 0, 0]), .inBlock 2, .code (cAt (bodyOf Try.f9) [1, 1, 1, 1, 1, 1, 1])]) (by kernel_rfl) rfl (hF9_L3 fuel 0 hF))
              · replace hF := iff' hb38 hF
                have hr_ := Option.some.inj hF; subst hr_
                exact J_adv 6 (J_ret (xs := [.d (.bool true)]) [.d (.bool true)] rfl rfl (by kernel_rfl) (Res'.refl _) rfl)
          refine J_adv 2 (J_frzS 15 (by kernel_rfl) (by kernel_rfl) ?_)
          exact J_adv 0 (J_at [4, 13, 15, 53, 54] [] (T0 := [.inLoop (cAt (bodyOf Try.f9) [1, 1, 1, 1, 1, 1, 0, 1, 0, 0]), .inBlock 2, .code (cAt (bodyOf Try.f9) [1, 1, 1, 1, 1, 1, 1])]) (by kernel_rfl) rfl (hF9_L2 fuel l4 0 hF))
    refine J_adv 15 (J_frz 11 [.d (.int .i8 d5.a0), .d (.int .i8 d5.a1), .d (.int .i8 d5.a2), .d (.int .i8 d5.a3)] (by kernel_rfl) (by kernel_rfl) ?_)
    refine J_adv 0 (J_own (n := 1) 15 45 3 1 (by kernel_rfl) (by kernel_rfl) ?_)
    exact J_adv 0 (J_at [4, 7, 8, 11, 13, 14, 15, 34, 35] [7, 8, 11, 14, 45] (T0 := [.inLoop (cAt (bodyOf Try.f9) [1, 1, 1, 1, 1, 0, 1, 0, 0]), .inBlock 0, .code (cAt (bodyOf Try.f9) [1, 1, 1, 1, 1, 1])]) (by kernel_rfl) rfl (hF9_L1 fuel 0 [] hF))

end Go.Proofs.Ytljkgnjmigmcgaa
