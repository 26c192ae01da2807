import Derived.Test.YtilfjfpemjfalaaGreatDoorFCh
import Derived.KernelRfl
set_option linter.unusedVariables false
set_option maxRecDepth 100000
namespace Go.Proofs.YtilfjfpemjfalaaGreatDoor
open Go Go.RowKit Kx

theorem en28 : entersT Tryz.prog 28 := Kx.enters_of Tryz.func28 (by kernel_rfl) (by kernel_rfl)

/- strings.Repeat -/
def F28 (d0 : List UInt8) (d1 : Int) : Option (List UInt8) := repF d0 d1
theorem F28_ok {d0 : List UInt8} {d1 : Int} {r : List UInt8} (hF : F28 d0 d1 = some r) : CallF Tryz.prog 28 [.d (.str d0), .d (.int .i64 d1)] (.d (.str r)) := repeat_callF (rl := Lib.repeatL) rep_eq (fun s c w h2 h9 hl h0 => Tryz.strings_Repeat_main s c w h2 h9 hl h0) hF

/- croupier/croupierlaw31.CodeKnown -/
def F7_L2 (fuel : Nat) (y35 : Int × Int × Int) (y36 : Int × Int × Int) (y37 : Int × Int × Int) (y38 : List T_api_Instr × Int) : Nat → (List T_api_Instr) → Int → Option Bool
  | 0, _, _ => none
  | n_F7_L2 + 1, l4, v4 =>
    bif decide (v4 < (([[], [97, 99, 116, 32, 48], [103, 111, 32, 48, 10], [97, 99, 116, 32, 48, 10, 10], [97, 99, 116, 32, 32, 48, 10], [97, 99, 116, 32, 48, 48, 10], [97, 99, 116, 32, 45, 48, 10], [97, 99, 116, 32, 52, 10], [32, 97, 99, 116, 32, 48, 10], [65, 99, 116, 32, 48, 10], [97, 99, 116, 32, 48, 32, 10], [97, 99, 116, 10], [101, 113, 32, 48, 32, 48, 10, 97, 99, 116, 32, 48, 10], [108, 101, 32, 48, 32, 48, 32, 50, 10, 97, 99, 116, 32, 48, 10], [97, 99, 116, 32, 48, 13, 10], [97, 99, 116, 32, 57, 57, 57, 57, 57, 57, 57, 57, 57, 57, 57, 57, 57, 57, 57, 57, 57, 57, 57, 57, 10]].map e_s).length : Int)) then
      (Option.bind (geti [[], [97, 99, 116, 32, 48], [103, 111, 32, 48, 10], [97, 99, 116, 32, 48, 10, 10], [97, 99, 116, 32, 32, 48, 10], [97, 99, 116, 32, 48, 48, 10], [97, 99, 116, 32, 45, 48, 10], [97, 99, 116, 32, 52, 10], [32, 97, 99, 116, 32, 48, 10], [65, 99, 116, 32, 48, 10], [97, 99, 116, 32, 48, 32, 10], [97, 99, 116, 10], [101, 113, 32, 48, 32, 48, 10, 97, 99, 116, 32, 48, 10], [108, 101, 32, 48, 32, 48, 32, 50, 10, 97, 99, 116, 32, 48, 10], [97, 99, 116, 32, 48, 13, 10], [97, 99, 116, 32, 57, 57, 57, 57, 57, 57, 57, 57, 57, 57, 57, 57, 57, 57, 57, 57, 57, 57, 57, 57, 10]] v4) fun y43 =>
      Option.bind (F15 fuel y43) fun y44 =>
      Option.bind (
        bif y44.2 != 5 then
          (some true)
        else
          (some (((y44.1.map e_T_api_Instr).length : Int) != 0))) fun o6 =>
      bif o6 then
        (some false)
      else
        ((F7_L2 fuel y35 y36 y37 y38 n_F7_L2) l4 (IntKind.i64.wrap (v4 + 1))))
    else
      (Option.bind (F28 [97, 99, 116, 32, 48, 10] 40) fun y45 =>
      Option.bind (F15 fuel y45) fun y46 =>
      Option.bind (F28 [97, 99, 116, 32, 48, 10] 41) fun y47 =>
      Option.bind (F15 fuel y47) fun y48 =>
      Option.bind (F28 [120] 2001) fun y49 =>
      Option.bind (F15 fuel y49) fun y50 =>
      Option.bind (F15 fuel [97, 99, 116, 32, 49, 10, 97, 99, 116, 32, 48, 10]) fun y51 =>
      Option.bind (
        bif y35.2.2 == 2 then
          (bif y36.2.2 == 2 then
            (bif y37.2.2 == 2 then
              (bif y38.2 == 300 then
                (bif y46.2 == 0 then
                  (bif ((y46.1.map e_T_api_Instr).length : Int) == 40 then
                    (bif y48.2 == 5 then
                      (bif y50.2 == 3 then
                        (bif y51.2 == 0 then
                          (bif ((y51.1.map e_T_api_Instr).length : Int) == 2 then
                            (Option.bind (F29 fuel y51.1 1 1 [0]) fun y60 =>
                            bif y60 then
                              (Option.bind (F29 fuel l4 3 2 [0, 0, 0, (-99)]) fun y61 =>
                              bif y61 then
                                (Option.bind (F29 fuel l4 3 2 [0, 0, 0, 5]) fun y62 =>
                                bif y62 then
                                  (Option.bind (F22 fuel y51.1) fun y63 =>
                                  some (y63 == 0))
                                else
                                  (some false))
                              else
                                (some false))
                            else
                              (some false))
                          else
                            (some false))
                        else
                          (some false))
                      else
                        (some false))
                    else
                      (some false))
                  else
                    (some false))
                else
                  (some false))
              else
                (some false))
            else
              (some false))
          else
            (some false))
        else
          (some false)) fun o7 =>
      some o7)
def F7_L1 (fuel : Nat) (l1 : List T_api_Instr) (y2 : T_api_Instr) (y3 : T_api_Instr) (y4 : T_api_Instr) (y5 : T_api_Instr) (y6 : T_api_Instr) (y7 : T_api_Instr) (y8 : T_api_Instr) (y9 : T_api_Instr) (y10 : T_api_Instr) (y11 : T_api_Instr) : Nat → Int → Option Bool
  | 0, _ => none
  | n_F7_L1 + 1, v2 =>
    bif decide (v2 < (([[], [(⟨0, 0, 0, 0⟩ : T_api_Instr)], [(⟨4, 0, 0, 1⟩ : T_api_Instr), y2], [(⟨4, 0, 0, 0⟩ : T_api_Instr), y3], [(⟨4, 0, 0, 2⟩ : T_api_Instr), y4], [(⟨4, 1, 0, 1⟩ : T_api_Instr), y5], [(⟨6, 0, 0, 1⟩ : T_api_Instr), y6], [(⟨2, 4, 0, 1⟩ : T_api_Instr), y7], [(⟨2, 0, 100, 1⟩ : T_api_Instr), y8], [(⟨5, 0, 0, 1⟩ : T_api_Instr), y9], [y10], [y11, (⟨1, 3, (-99), 1⟩ : T_api_Instr)], l1].map e_lT_api_Instr).length : Int)) then
      (Option.bind (geti [[], [(⟨0, 0, 0, 0⟩ : T_api_Instr)], [(⟨4, 0, 0, 1⟩ : T_api_Instr), y2], [(⟨4, 0, 0, 0⟩ : T_api_Instr), y3], [(⟨4, 0, 0, 2⟩ : T_api_Instr), y4], [(⟨4, 1, 0, 1⟩ : T_api_Instr), y5], [(⟨6, 0, 0, 1⟩ : T_api_Instr), y6], [(⟨2, 4, 0, 1⟩ : T_api_Instr), y7], [(⟨2, 0, 100, 1⟩ : T_api_Instr), y8], [(⟨5, 0, 0, 1⟩ : T_api_Instr), y9], [y10], [y11, (⟨1, 3, (-99), 1⟩ : T_api_Instr)], l1] v2) fun y26 =>
      Option.bind (F18 fuel y26) fun y27 =>
      Option.bind (F20 fuel y26) fun y28 =>
      Option.bind (F11 fuel y26 []) fun y29 =>
      Option.bind (
        Option.bind (F22 fuel y26) fun y32 =>
        bif y32 != 310 then
          (some true)
        else
          (bif y27.2 != 310 then
            (some true)
          else
            (bif y28.2 != 310 then
              (some true)
            else
              (some (y29.2.2 != 310))))) fun o3 =>
      bif o3 then
        (some false)
      else
        ((F7_L1 fuel l1 y2 y3 y4 y5 y6 y7 y8 y9 y10 y11 n_F7_L1) (IntKind.i64.wrap (v2 + 1))))
    else
      (Option.bind (F27 3) fun y33 =>
      Option.bind (F27 0) fun y34 =>
      Option.bind (F11 fuel [(⟨1, 1, 0, 1⟩ : T_api_Instr), y34] [7]) fun y35 =>
      Option.bind (F11 fuel [(⟨1, 3, (-99), 1⟩ : T_api_Instr), y33] [0, 0, 0, 100]) fun y36 =>
      Option.bind (F11 fuel [(⟨1, 3, (-99), 1⟩ : T_api_Instr), y33] [0, 0, 0, 0, 0]) fun y37 =>
      Option.bind (F25 fuel (⟨[], 4⟩ : T_api_Rules)) fun y38 =>
      F7_L2 fuel y35 y36 y37 y38 fuel [(⟨1, 3, (-99), 1⟩ : T_api_Instr), y33] 0)
def F7 (fuel : Nat) : Option Bool :=
  Option.bind (F8 fuel) fun y1 =>
  bif !y1 then
    (some false)
  else
    (Option.bind (F27 4) fun y2 =>
    Option.bind (F27 0) fun y3 =>
    Option.bind (F27 0) fun y4 =>
    Option.bind (F27 0) fun y5 =>
    Option.bind (F27 0) fun y6 =>
    Option.bind (F27 0) fun y7 =>
    Option.bind (F27 0) fun y8 =>
    Option.bind (F27 0) fun y9 =>
    Option.bind (F27 (-1)) fun y10 =>
    Option.bind (F27 0) fun y11 =>
    Option.bind (mkL 41 41 (⟨0, 0, 0, 0⟩ : T_api_Instr)) fun l1 =>
    F7_L1 fuel l1 y2 y3 y4 y5 y6 y7 y8 y9 y10 y11 fuel 0)
theorem F7_ok {fuel : Nat} {r : Bool} (hF : F7 fuel = some r) :
    CallF Tryz.prog 7 [] (.d (.bool r)) := by
  unfold F7 at hF
  refine callF_of (N := 239) (b := bodyOf Tryz.f7) Tryz.func7 (by kernel_rfl) rfl rfl ?_
  obtain ⟨y1, e1, hF⟩ := bnd hF
  refine J_adv 7 (J_callF (xs := []) [] (.d (.bool y1)) (by kernel_rfl) en8 (Res'.refl _) (F8_ok e1) ?_)
  refine J_adv 2 (J_bool 37 (b := !y1) (by kernel_rfl) (fun hb1 => ?_) (fun hb1 => ?_))
  · replace hF := ift hb1 hF
    have hr_ := Option.some.inj hF; subst hr_
    exact J_adv 5 (J_ret (xs := [.d (.bool false)]) [.d (.bool false)] rfl rfl (by kernel_rfl) (Res'.refl _) rfl)
  · replace hF := iff' hb1 hF
    refine J_adv 10 (J_draw (by kernel_rfl) (by kernel_rfl) ?_)
    obtain ⟨y2, e2, hF⟩ := bnd hF
    refine JD_adv 3 (JD_callF (xs := [.d (.int .i64 4)]) [.d (.int .i64 4)] (.agg [.d (.int .i64 y2.Op), .d (.int .i64 y2.Var), .d (.int .i64 y2.Val), .d (.int .i64 y2.Go)]) (by kernel_rfl) (by kernel_rfl) en27 (Res'.refl _) (F27_ok e2) ?_)
    obtain ⟨y3, e3, hF⟩ := bnd hF
    refine JD_adv 2 (JD_callF (xs := [.d (.int .i64 0)]) [.d (.int .i64 0)] (.agg [.d (.int .i64 y3.Op), .d (.int .i64 y3.Var), .d (.int .i64 y3.Val), .d (.int .i64 y3.Go)]) (by kernel_rfl) (by kernel_rfl) en27 (Res'.refl _) (F27_ok e3) ?_)
    obtain ⟨y4, e4, hF⟩ := bnd hF
    refine JD_adv 2 (JD_callF (xs := [.d (.int .i64 0)]) [.d (.int .i64 0)] (.agg [.d (.int .i64 y4.Op), .d (.int .i64 y4.Var), .d (.int .i64 y4.Val), .d (.int .i64 y4.Go)]) (by kernel_rfl) (by kernel_rfl) en27 (Res'.refl _) (F27_ok e4) ?_)
    obtain ⟨y5, e5, hF⟩ := bnd hF
    refine JD_adv 2 (JD_callF (xs := [.d (.int .i64 0)]) [.d (.int .i64 0)] (.agg [.d (.int .i64 y5.Op), .d (.int .i64 y5.Var), .d (.int .i64 y5.Val), .d (.int .i64 y5.Go)]) (by kernel_rfl) (by kernel_rfl) en27 (Res'.refl _) (F27_ok e5) ?_)
    obtain ⟨y6, e6, hF⟩ := bnd hF
    refine JD_adv 2 (JD_callF (xs := [.d (.int .i64 0)]) [.d (.int .i64 0)] (.agg [.d (.int .i64 y6.Op), .d (.int .i64 y6.Var), .d (.int .i64 y6.Val), .d (.int .i64 y6.Go)]) (by kernel_rfl) (by kernel_rfl) en27 (Res'.refl _) (F27_ok e6) ?_)
    obtain ⟨y7, e7, hF⟩ := bnd hF
    refine JD_adv 2 (JD_callF (xs := [.d (.int .i64 0)]) [.d (.int .i64 0)] (.agg [.d (.int .i64 y7.Op), .d (.int .i64 y7.Var), .d (.int .i64 y7.Val), .d (.int .i64 y7.Go)]) (by kernel_rfl) (by kernel_rfl) en27 (Res'.refl _) (F27_ok e7) ?_)
    obtain ⟨y8, e8, hF⟩ := bnd hF
    refine JD_adv 2 (JD_callF (xs := [.d (.int .i64 0)]) [.d (.int .i64 0)] (.agg [.d (.int .i64 y8.Op), .d (.int .i64 y8.Var), .d (.int .i64 y8.Val), .d (.int .i64 y8.Go)]) (by kernel_rfl) (by kernel_rfl) en27 (Res'.refl _) (F27_ok e8) ?_)
    obtain ⟨y9, e9, hF⟩ := bnd hF
    refine JD_adv 2 (JD_callF (xs := [.d (.int .i64 0)]) [.d (.int .i64 0)] (.agg [.d (.int .i64 y9.Op), .d (.int .i64 y9.Var), .d (.int .i64 y9.Val), .d (.int .i64 y9.Go)]) (by kernel_rfl) (by kernel_rfl) en27 (Res'.refl _) (F27_ok e9) ?_)
    obtain ⟨y10, e10, hF⟩ := bnd hF
    refine JD_adv 1 (JD_callF (xs := [.d (.int .i64 (-1))]) [.d (.int .i64 (-1))] (.agg [.d (.int .i64 y10.Op), .d (.int .i64 y10.Var), .d (.int .i64 y10.Val), .d (.int .i64 y10.Go)]) (by kernel_rfl) (by kernel_rfl) en27 (Res'.refl _) (F27_ok e10) ?_)
    obtain ⟨y11, e11, hF⟩ := bnd hF
    refine JD_adv 1 (JD_callF (xs := [.d (.int .i64 0)]) [.d (.int .i64 0)] (.agg [.d (.int .i64 y11.Op), .d (.int .i64 y11.Var), .d (.int .i64 y11.Val), .d (.int .i64 y11.Go)]) (by kernel_rfl) (by kernel_rfl) en27 (Res'.refl _) (F27_ok e11) ?_)
    obtain ⟨l1, e12, hF⟩ := bnd hF
    refine JD_adv 2 (JD_opt2 (o := mk2 41 41 (e_T_api_Instr (⟨0, 0, 0, 0⟩ : T_api_Instr))) (l1.map e_T_api_Instr) (by kernel_rfl) (by kernel_rfl) (mm e12) ?_)
    refine JD_adv 3 (JD_end (by kernel_rfl) ?_)
    have hF7_L1 : ∀ (n_F7_L1 : Nat) (v2 : Int), F7_L1 fuel l1 y2 y3 y4 y5 y6 y7 y8 y9 y10 y11 n_F7_L1 v2 = some r → J none Tryz.prog 239 [] (finF Tryz.prog Tryz.f7 (.d (.bool r))) ⟨mkT [(1, .ptr 1 0), (71, .suf 71 0 0), (72, .d (.int .i64 (([[], [(⟨0, 0, 0, 0⟩ : T_api_Instr)], [(⟨4, 0, 0, 1⟩ : T_api_Instr), y2], [(⟨4, 0, 0, 0⟩ : T_api_Instr), y3], [(⟨4, 0, 0, 2⟩ : T_api_Instr), y4], [(⟨4, 1, 0, 1⟩ : T_api_Instr), y5], [(⟨6, 0, 0, 1⟩ : T_api_Instr), y6], [(⟨2, 4, 0, 1⟩ : T_api_Instr), y7], [(⟨2, 0, 100, 1⟩ : T_api_Instr), y8], [(⟨5, 0, 0, 1⟩ : T_api_Instr), y9], [y10], [y11, (⟨1, 3, (-99), 1⟩ : T_api_Instr)], l1].map e_lT_api_Instr).length : Int))), (73, .d (.int .i64 v2))], [(1, .box 66 [.d (.int .i64 1), .d (.int .i64 3), .d (.int .i64 (-99)), .d (.int .i64 1)]), (71, .buf 0 29 1 ([[], [(⟨0, 0, 0, 0⟩ : T_api_Instr)], [(⟨4, 0, 0, 1⟩ : T_api_Instr), y2], [(⟨4, 0, 0, 0⟩ : T_api_Instr), y3], [(⟨4, 0, 0, 2⟩ : T_api_Instr), y4], [(⟨4, 1, 0, 1⟩ : T_api_Instr), y5], [(⟨6, 0, 0, 1⟩ : T_api_Instr), y6], [(⟨2, 4, 0, 1⟩ : T_api_Instr), y7], [(⟨2, 0, 100, 1⟩ : T_api_Instr), y8], [(⟨5, 0, 0, 1⟩ : T_api_Instr), y9], [y10], [y11, (⟨1, 3, (-99), 1⟩ : T_api_Instr)], l1].map e_lT_api_Instr))], [.inLoop (cAt (bodyOf Tryz.f7) [1, 1, 1, 0, 1, 0, 0]), .inBlock 0, .code (cAt (bodyOf Tryz.f7) [1, 1, 1, 1])]⟩ := by
      clear hF; intro n_F7_L1
      induction n_F7_L1 with
      | zero => intro v2 hF; cases hF
      | succ n_F7_L1 ih_F7_L1 =>
        intro v2 hF
        rw [F7_L1] at hF
        refine J_adv 6 (J_bool 74 (b := decide (v2 < (([[], [(⟨0, 0, 0, 0⟩ : T_api_Instr)], [(⟨4, 0, 0, 1⟩ : T_api_Instr), y2], [(⟨4, 0, 0, 0⟩ : T_api_Instr), y3], [(⟨4, 0, 0, 2⟩ : T_api_Instr), y4], [(⟨4, 1, 0, 1⟩ : T_api_Instr), y5], [(⟨6, 0, 0, 1⟩ : T_api_Instr), y6], [(⟨2, 4, 0, 1⟩ : T_api_Instr), y7], [(⟨2, 0, 100, 1⟩ : T_api_Instr), y8], [(⟨5, 0, 0, 1⟩ : T_api_Instr), y9], [y10], [y11, (⟨1, 3, (-99), 1⟩ : T_api_Instr)], l1].map e_lT_api_Instr).length : Int))) (by kernel_rfl) (fun hb24 => ?_) (fun hb24 => ?_))
        · replace hF := ift hb24 hF
          obtain ⟨y26, e27, hF⟩ := bnd hF
          refine J_adv 6 (J_opt1 (o := geti ([[], [(⟨0, 0, 0, 0⟩ : T_api_Instr)], [(⟨4, 0, 0, 1⟩ : T_api_Instr), y2], [(⟨4, 0, 0, 0⟩ : T_api_Instr), y3], [(⟨4, 0, 0, 2⟩ : T_api_Instr), y4], [(⟨4, 1, 0, 1⟩ : T_api_Instr), y5], [(⟨6, 0, 0, 1⟩ : T_api_Instr), y6], [(⟨2, 4, 0, 1⟩ : T_api_Instr), y7], [(⟨2, 0, 100, 1⟩ : T_api_Instr), y8], [(⟨5, 0, 0, 1⟩ : T_api_Instr), y9], [y10], [y11, (⟨1, 3, (-99), 1⟩ : T_api_Instr)], l1].map e_lT_api_Instr) v2) (e_lT_api_Instr y26) (by kernel_rfl) (gm e27) ?_)
          refine J_adv 0 (J_opt1 (o := ([[], [(⟨0, 0, 0, 0⟩ : T_api_Instr)], [(⟨4, 0, 0, 1⟩ : T_api_Instr), y2], [(⟨4, 0, 0, 0⟩ : T_api_Instr), y3], [(⟨4, 0, 0, 2⟩ : T_api_Instr), y4], [(⟨4, 1, 0, 1⟩ : T_api_Instr), y5], [(⟨6, 0, 0, 1⟩ : T_api_Instr), y6], [(⟨2, 4, 0, 1⟩ : T_api_Instr), y7], [(⟨2, 0, 100, 1⟩ : T_api_Instr), y8], [(⟨5, 0, 0, 1⟩ : T_api_Instr), y9], [y10], [y11, (⟨1, 3, (-99), 1⟩ : T_api_Instr)], l1].map e_lT_api_Instr)[0 + Int.toNat v2]?) (e_lT_api_Instr y26) (by kernel_rfl) (gjm (gj e27)) ?_)
          obtain ⟨y27, e28, hF⟩ := bnd hF
          refine J_adv 5 (J_callF (xs := [.d (.sl 4 (y26.map e_T_api_Instr))]) [.d (.sl 4 (y26.map e_T_api_Instr))] (.tup [.d (.str y27.1), .d (.int .i64 y27.2)]) (by kernel_rfl) en18 (Res'.refl _) (F18_ok e28) ?_)
          obtain ⟨y28, e29, hF⟩ := bnd hF
          refine J_adv 9 (J_callF (xs := [.d (.sl 4 (y26.map e_T_api_Instr))]) [.d (.sl 4 (y26.map e_T_api_Instr))] (.tup [.d (.sl 4 (y28.1.map e_T_api_Instr)), .d (.int .i64 y28.2)]) (by kernel_rfl) en20 (Res'.refl _) (F20_ok e29) ?_)
          obtain ⟨y29, e30, hF⟩ := bnd hF
          refine J_adv 9 (J_callF (xs := [.d (.sl 4 (y26.map e_T_api_Instr)), .d (.sl 0 [])]) [.d (.sl 4 (y26.map e_T_api_Instr)), .d (.sl 1 ([].map e_i64))] (.tup [.d (.int .i64 y29.1), .d (.int .i64 y29.2.1), .d (.int .i64 y29.2.2)]) (by kernel_rfl) en11 ⟨Re.refl _, ⟨Re.nil _ _, trivial⟩⟩ (F11_ok e30) ?_)
          obtain ⟨o3, hO, hF⟩ := bnd hF
          have hR3 : J none Tryz.prog 239 [] (finF Tryz.prog Tryz.f7 (.d (.bool r))) ⟨mkT [(1, .ptr 1 0), (71, .suf 71 0 0), (72, .d (.int .i64 (([[], [(⟨0, 0, 0, 0⟩ : T_api_Instr)], [(⟨4, 0, 0, 1⟩ : T_api_Instr), y2], [(⟨4, 0, 0, 0⟩ : T_api_Instr), y3], [(⟨4, 0, 0, 2⟩ : T_api_Instr), y4], [(⟨4, 1, 0, 1⟩ : T_api_Instr), y5], [(⟨6, 0, 0, 1⟩ : T_api_Instr), y6], [(⟨2, 4, 0, 1⟩ : T_api_Instr), y7], [(⟨2, 0, 100, 1⟩ : T_api_Instr), y8], [(⟨5, 0, 0, 1⟩ : T_api_Instr), y9], [y10], [y11, (⟨1, 3, (-99), 1⟩ : T_api_Instr)], l1].map e_lT_api_Instr).length : Int))), (73, .d (.int .i64 v2)), (107, .d (.bool o3))], [(1, .box 66 [.d (.int .i64 1), .d (.int .i64 3), .d (.int .i64 (-99)), .d (.int .i64 1)]), (71, .buf 0 29 1 ([[], [(⟨0, 0, 0, 0⟩ : T_api_Instr)], [(⟨4, 0, 0, 1⟩ : T_api_Instr), y2], [(⟨4, 0, 0, 0⟩ : T_api_Instr), y3], [(⟨4, 0, 0, 2⟩ : T_api_Instr), y4], [(⟨4, 1, 0, 1⟩ : T_api_Instr), y5], [(⟨6, 0, 0, 1⟩ : T_api_Instr), y6], [(⟨2, 4, 0, 1⟩ : T_api_Instr), y7], [(⟨2, 0, 100, 1⟩ : T_api_Instr), y8], [(⟨5, 0, 0, 1⟩ : T_api_Instr), y9], [y10], [y11, (⟨1, 3, (-99), 1⟩ : T_api_Instr)], l1].map e_lT_api_Instr))], [.ops (opsOf (cAt (bodyOf Tryz.f7) [1, 1, 1, 0, 1, 0, 0, 1, 1, 0, 0, 1, 1, 1, 1, 0])) [], .code (cAt (bodyOf Tryz.f7) [1, 1, 1, 0, 1, 0, 0, 1, 1, 0, 0, 1, 1, 1, 1, 1]), .inBlock 1, .code (cAt (bodyOf Tryz.f7) [1, 1, 1, 0, 1, 0, 0, 1, 1, 1]), .inLoop (cAt (bodyOf Tryz.f7) [1, 1, 1, 0, 1, 0, 0]), .inBlock 0, .code (cAt (bodyOf Tryz.f7) [1, 1, 1, 1])]⟩ := by
            clear hO
            refine J_adv 1 (J_bool 107 (b := o3) (by kernel_rfl) (fun hb31 => ?_) (fun hb31 => ?_))
            · replace hF := ift hb31 hF
              have hr_ := Option.some.inj hF; subst hr_
              exact J_adv 5 (J_ret (xs := [.d (.bool false)]) [.d (.bool false)] rfl rfl (by kernel_rfl) (Res'.refl _) rfl)
            · replace hF := iff' hb31 hF
              exact J_adv 7 (J_at [1, 71, 72, 73] [1, 71] (T0 := [.inLoop (cAt (bodyOf Tryz.f7) [1, 1, 1, 0, 1, 0, 0]), .inBlock 0, .code (cAt (bodyOf Tryz.f7) [1, 1, 1, 1])]) (by kernel_rfl) rfl (ih_F7_L1 (IntKind.i64.wrap (v2 + 1)) hF))
          clear hF; rename _ = some o3 => hF
          obtain ⟨y32, e33, hF⟩ := bnd hF
          refine J_adv 11 (J_callF (xs := [.d (.sl 4 (y26.map e_T_api_Instr))]) [.d (.sl 4 (y26.map e_T_api_Instr))] (.d (.int .i64 y32)) (by kernel_rfl) en22 (Res'.refl _) (F22_ok e33) ?_)
          refine J_adv 2 (J_bool 96 (b := y32 != 310) (by kernel_rfl) (fun hb32 => ?_) (fun hb32 => ?_))
          · replace hF := ift hb32 hF
            have hr_ := Option.some.inj hF; subst hr_
            exact J_adv 11 (J_at [1, 71, 72, 73, 107] [1, 71] (T0 := [.ops (opsOf (cAt (bodyOf Tryz.f7) [1, 1, 1, 0, 1, 0, 0, 1, 1, 0, 0, 1, 1, 1, 1, 0])) [], .code (cAt (bodyOf Tryz.f7) [1, 1, 1, 0, 1, 0, 0, 1, 1, 0, 0, 1, 1, 1, 1, 1]), .inBlock 1, .code (cAt (bodyOf Tryz.f7) [1, 1, 1, 0, 1, 0, 0, 1, 1, 1]), .inLoop (cAt (bodyOf Tryz.f7) [1, 1, 1, 0, 1, 0, 0]), .inBlock 0, .code (cAt (bodyOf Tryz.f7) [1, 1, 1, 1])]) (by kernel_rfl) rfl hR3)
          · replace hF := iff' hb32 hF
            refine J_adv 4 (J_bool 100 (b := y27.2 != 310) (by kernel_rfl) (fun hb33 => ?_) (fun hb33 => ?_))
            · replace hF := ift hb33 hF
              have hr_ := Option.some.inj hF; subst hr_
              exact J_adv 7 (J_at [1, 71, 72, 73, 107] [1, 71] (T0 := [.ops (opsOf (cAt (bodyOf Tryz.f7) [1, 1, 1, 0, 1, 0, 0, 1, 1, 0, 0, 1, 1, 1, 1, 0])) [], .code (cAt (bodyOf Tryz.f7) [1, 1, 1, 0, 1, 0, 0, 1, 1, 0, 0, 1, 1, 1, 1, 1]), .inBlock 1, .code (cAt (bodyOf Tryz.f7) [1, 1, 1, 0, 1, 0, 0, 1, 1, 1]), .inLoop (cAt (bodyOf Tryz.f7) [1, 1, 1, 0, 1, 0, 0]), .inBlock 0, .code (cAt (bodyOf Tryz.f7) [1, 1, 1, 1])]) (by kernel_rfl) rfl hR3)
            · replace hF := iff' hb33 hF
              refine J_adv 4 (J_bool 104 (b := y28.2 != 310) (by kernel_rfl) (fun hb34 => ?_) (fun hb34 => ?_))
              · replace hF := ift hb34 hF
                have hr_ := Option.some.inj hF; subst hr_
                exact J_adv 3 (J_at [1, 71, 72, 73, 107] [1, 71] (T0 := [.ops (opsOf (cAt (bodyOf Tryz.f7) [1, 1, 1, 0, 1, 0, 0, 1, 1, 0, 0, 1, 1, 1, 1, 0])) [], .code (cAt (bodyOf Tryz.f7) [1, 1, 1, 0, 1, 0, 0, 1, 1, 0, 0, 1, 1, 1, 1, 1]), .inBlock 1, .code (cAt (bodyOf Tryz.f7) [1, 1, 1, 0, 1, 0, 0, 1, 1, 1]), .inLoop (cAt (bodyOf Tryz.f7) [1, 1, 1, 0, 1, 0, 0]), .inBlock 0, .code (cAt (bodyOf Tryz.f7) [1, 1, 1, 1])]) (by kernel_rfl) rfl hR3)
              · replace hF := iff' hb34 hF
                have hr_ := Option.some.inj hF; subst hr_
                exact J_adv 3 (J_at [1, 71, 72, 73, 107] [1, 71] (T0 := [.ops (opsOf (cAt (bodyOf Tryz.f7) [1, 1, 1, 0, 1, 0, 0, 1, 1, 0, 0, 1, 1, 1, 1, 0])) [], .code (cAt (bodyOf Tryz.f7) [1, 1, 1, 0, 1, 0, 0, 1, 1, 0, 0, 1, 1, 1, 1, 1]), .inBlock 1, .code (cAt (bodyOf Tryz.f7) [1, 1, 1, 0, 1, 0, 0, 1, 1, 1]), .inLoop (cAt (bodyOf Tryz.f7) [1, 1, 1, 0, 1, 0, 0]), .inBlock 0, .code (cAt (bodyOf Tryz.f7) [1, 1, 1, 1])]) (by kernel_rfl) rfl hR3)
        · replace hF := iff' hb24 hF
          refine J_adv 3 (J_draw (by kernel_rfl) (by kernel_rfl) ?_)
          obtain ⟨y33, e34, hF⟩ := bnd hF
          refine JD_adv 1 (JD_callF (xs := [.d (.int .i64 3)]) [.d (.int .i64 3)] (.agg [.d (.int .i64 y33.Op), .d (.int .i64 y33.Var), .d (.int .i64 y33.Val), .d (.int .i64 y33.Go)]) (by kernel_rfl) (by kernel_rfl) en27 (Res'.refl _) (F27_ok e34) ?_)
          refine JD_adv 2 (JD_end (by kernel_rfl) ?_)
          obtain ⟨y34, e35, hF⟩ := bnd hF
          refine J_adv 3 (J_callF (xs := [.d (.int .i64 0)]) [.d (.int .i64 0)] (.agg [.d (.int .i64 y34.Op), .d (.int .i64 y34.Var), .d (.int .i64 y34.Val), .d (.int .i64 y34.Go)]) (by kernel_rfl) en27 (Res'.refl _) (F27_ok e35) ?_)
          obtain ⟨y35, e36, hF⟩ := bnd hF
          refine J_adv 7 (J_callF (xs := [.d (.sl 4 ([(⟨1, 1, 0, 1⟩ : T_api_Instr), y34].map e_T_api_Instr)), .d (.sl 1 ([7].map e_i64))]) [.d (.sl 4 ([(⟨1, 1, 0, 1⟩ : T_api_Instr), y34].map e_T_api_Instr)), .d (.sl 1 ([7].map e_i64))] (.tup [.d (.int .i64 y35.1), .d (.int .i64 y35.2.1), .d (.int .i64 y35.2.2)]) (by kernel_rfl) en11 (Res'.refl _) (F11_ok e36) ?_)
          obtain ⟨y36, e37, hF⟩ := bnd hF
          refine J_adv 12 (J_callF (xs := [.d (.sl 4 ([(⟨1, 3, (-99), 1⟩ : T_api_Instr), y33].map e_T_api_Instr)), .d (.sl 1 ([0, 0, 0, 100].map e_i64))]) [.d (.sl 4 ([(⟨1, 3, (-99), 1⟩ : T_api_Instr), y33].map e_T_api_Instr)), .d (.sl 1 ([0, 0, 0, 100].map e_i64))] (.tup [.d (.int .i64 y36.1), .d (.int .i64 y36.2.1), .d (.int .i64 y36.2.2)]) (by kernel_rfl) en11 (Res'.refl _) (F11_ok e37) ?_)
          obtain ⟨y37, e38, hF⟩ := bnd hF
          refine J_adv 12 (J_callF (xs := [.d (.sl 4 ([(⟨1, 3, (-99), 1⟩ : T_api_Instr), y33].map e_T_api_Instr)), .d (.sl 1 ([0, 0, 0, 0, 0].map e_i64))]) [.d (.sl 4 ([(⟨1, 3, (-99), 1⟩ : T_api_Instr), y33].map e_T_api_Instr)), .d (.sl 1 ([0, 0, 0, 0, 0].map e_i64))] (.tup [.d (.int .i64 y37.1), .d (.int .i64 y37.2.1), .d (.int .i64 y37.2.2)]) (by kernel_rfl) en11 (Res'.refl _) (F11_ok e38) ?_)
          obtain ⟨y38, e39, hF⟩ := bnd hF
          refine J_adv 11 (J_callF (xs := [.agg [.d (.sl 4 ([].map e_T_api_Rule)), .d (.int .i64 4)]]) [.agg [.d (.sl 4 ([].map e_T_api_Rule)), .d (.int .i64 4)]] (.tup [.d (.sl 4 (y38.1.map e_T_api_Instr)), .d (.int .i64 y38.2)]) (by kernel_rfl) en25 (Res'.refl _) (F25_ok e39) ?_)
          have hF7_L2 : ∀ (n_F7_L2 : Nat) (l4 : List T_api_Instr) (v4 : Int), F7_L2 fuel y35 y36 y37 y38 n_F7_L2 l4 v4 = some r → J none Tryz.prog 239 [] (finF Tryz.prog Tryz.f7 (.d (.bool r))) ⟨mkT [(11, .d (.sl 4 (l4.map e_T_api_Instr))), (15, .d (.int .i64 y35.2.2)), (18, .d (.int .i64 y36.2.2)), (21, .d (.int .i64 y37.2.2)), (23, .d (.int .i64 y38.2)), (141, .suf 141 0 0), (142, .d (.int .i64 (([[], [97, 99, 116, 32, 48], [103, 111, 32, 48, 10], [97, 99, 116, 32, 48, 10, 10], [97, 99, 116, 32, 32, 48, 10], [97, 99, 116, 32, 48, 48, 10], [97, 99, 116, 32, 45, 48, 10], [97, 99, 116, 32, 52, 10], [32, 97, 99, 116, 32, 48, 10], [65, 99, 116, 32, 48, 10], [97, 99, 116, 32, 48, 32, 10], [97, 99, 116, 10], [101, 113, 32, 48, 32, 48, 10, 97, 99, 116, 32, 48, 10], [108, 101, 32, 48, 32, 48, 32, 50, 10, 97, 99, 116, 32, 48, 10], [97, 99, 116, 32, 48, 13, 10], [97, 99, 116, 32, 57, 57, 57, 57, 57, 57, 57, 57, 57, 57, 57, 57, 57, 57, 57, 57, 57, 57, 57, 57, 10]].map e_s).length : Int))), (143, .d (.int .i64 v4))], [(141, .buf 0 9 1 ([[], [97, 99, 116, 32, 48], [103, 111, 32, 48, 10], [97, 99, 116, 32, 48, 10, 10], [97, 99, 116, 32, 32, 48, 10], [97, 99, 116, 32, 48, 48, 10], [97, 99, 116, 32, 45, 48, 10], [97, 99, 116, 32, 52, 10], [32, 97, 99, 116, 32, 48, 10], [65, 99, 116, 32, 48, 10], [97, 99, 116, 32, 48, 32, 10], [97, 99, 116, 10], [101, 113, 32, 48, 32, 48, 10, 97, 99, 116, 32, 48, 10], [108, 101, 32, 48, 32, 48, 32, 50, 10, 97, 99, 116, 32, 48, 10], [97, 99, 116, 32, 48, 13, 10], [97, 99, 116, 32, 57, 57, 57, 57, 57, 57, 57, 57, 57, 57, 57, 57, 57, 57, 57, 57, 57, 57, 57, 57, 10]].map e_s))], [.inLoop (cAt (bodyOf Tryz.f7) [1, 1, 1, 1, 1, 1, 1, 1, 1, 1, 0, 1, 0, 0]), .inBlock 2, .code (cAt (bodyOf Tryz.f7) [1, 1, 1, 1, 1, 1, 1, 1, 1, 1, 1])]⟩ := by
            clear hF; intro n_F7_L2
            induction n_F7_L2 with
            | zero => intro l4 v4 hF; cases hF
            | succ n_F7_L2 ih_F7_L2 =>
              intro l4 v4 hF
              rw [F7_L2] at hF
              refine J_adv 6 (J_bool 144 (b := decide (v4 < (([[], [97, 99, 116, 32, 48], [103, 111, 32, 48, 10], [97, 99, 116, 32, 48, 10, 10], [97, 99, 116, 32, 32, 48, 10], [97, 99, 116, 32, 48, 48, 10], [97, 99, 116, 32, 45, 48, 10], [97, 99, 116, 32, 52, 10], [32, 97, 99, 116, 32, 48, 10], [65, 99, 116, 32, 48, 10], [97, 99, 116, 32, 48, 32, 10], [97, 99, 116, 10], [101, 113, 32, 48, 32, 48, 10, 97, 99, 116, 32, 48, 10], [108, 101, 32, 48, 32, 48, 32, 50, 10, 97, 99, 116, 32, 48, 10], [97, 99, 116, 32, 48, 13, 10], [97, 99, 116, 32, 57, 57, 57, 57, 57, 57, 57, 57, 57, 57, 57, 57, 57, 57, 57, 57, 57, 57, 57, 57, 10]].map e_s).length : Int))) (by kernel_rfl) (fun hb45 => ?_) (fun hb45 => ?_))
              · replace hF := ift hb45 hF
                obtain ⟨y43, e44, hF⟩ := bnd hF
                refine J_adv 6 (J_opt1 (o := geti ([[], [97, 99, 116, 32, 48], [103, 111, 32, 48, 10], [97, 99, 116, 32, 48, 10, 10], [97, 99, 116, 32, 32, 48, 10], [97, 99, 116, 32, 48, 48, 10], [97, 99, 116, 32, 45, 48, 10], [97, 99, 116, 32, 52, 10], [32, 97, 99, 116, 32, 48, 10], [65, 99, 116, 32, 48, 10], [97, 99, 116, 32, 48, 32, 10], [97, 99, 116, 10], [101, 113, 32, 48, 32, 48, 10, 97, 99, 116, 32, 48, 10], [108, 101, 32, 48, 32, 48, 32, 50, 10, 97, 99, 116, 32, 48, 10], [97, 99, 116, 32, 48, 13, 10], [97, 99, 116, 32, 57, 57, 57, 57, 57, 57, 57, 57, 57, 57, 57, 57, 57, 57, 57, 57, 57, 57, 57, 57, 10]].map e_s) v4) (e_s y43) (by kernel_rfl) (gm e44) ?_)
                refine J_adv 0 (J_opt1 (o := ([[], [97, 99, 116, 32, 48], [103, 111, 32, 48, 10], [97, 99, 116, 32, 48, 10, 10], [97, 99, 116, 32, 32, 48, 10], [97, 99, 116, 32, 48, 48, 10], [97, 99, 116, 32, 45, 48, 10], [97, 99, 116, 32, 52, 10], [32, 97, 99, 116, 32, 48, 10], [65, 99, 116, 32, 48, 10], [97, 99, 116, 32, 48, 32, 10], [97, 99, 116, 10], [101, 113, 32, 48, 32, 48, 10, 97, 99, 116, 32, 48, 10], [108, 101, 32, 48, 32, 48, 32, 50, 10, 97, 99, 116, 32, 48, 10], [97, 99, 116, 32, 48, 13, 10], [97, 99, 116, 32, 57, 57, 57, 57, 57, 57, 57, 57, 57, 57, 57, 57, 57, 57, 57, 57, 57, 57, 57, 57, 10]].map e_s)[0 + Int.toNat v4]?) (e_s y43) (by kernel_rfl) (gjm (gj e44)) ?_)
                obtain ⟨y44, e45, hF⟩ := bnd hF
                refine J_adv 5 (J_callF (xs := [.d (.str y43)]) [.d (.str y43)] (.tup [.d (.sl 4 (y44.1.map e_T_api_Instr)), .d (.int .i64 y44.2)]) (by kernel_rfl) en15 (Res'.refl _) (F15_ok e45) ?_)
                obtain ⟨o6, hO, hF⟩ := bnd hF
                have hR6 : J none Tryz.prog 239 [] (finF Tryz.prog Tryz.f7 (.d (.bool r))) ⟨mkT [(11, .d (.sl 4 (l4.map e_T_api_Instr))), (15, .d (.int .i64 y35.2.2)), (18, .d (.int .i64 y36.2.2)), (21, .d (.int .i64 y37.2.2)), (23, .d (.int .i64 y38.2)), (141, .suf 141 0 0), (142, .d (.int .i64 (([[], [97, 99, 116, 32, 48], [103, 111, 32, 48, 10], [97, 99, 116, 32, 48, 10, 10], [97, 99, 116, 32, 32, 48, 10], [97, 99, 116, 32, 48, 48, 10], [97, 99, 116, 32, 45, 48, 10], [97, 99, 116, 32, 52, 10], [32, 97, 99, 116, 32, 48, 10], [65, 99, 116, 32, 48, 10], [97, 99, 116, 32, 48, 32, 10], [97, 99, 116, 10], [101, 113, 32, 48, 32, 48, 10, 97, 99, 116, 32, 48, 10], [108, 101, 32, 48, 32, 48, 32, 50, 10, 97, 99, 116, 32, 48, 10], [97, 99, 116, 32, 48, 13, 10], [97, 99, 116, 32, 57, 57, 57, 57, 57, 57, 57, 57, 57, 57, 57, 57, 57, 57, 57, 57, 57, 57, 57, 57, 10]].map e_s).length : Int))), (143, .d (.int .i64 v4)), (158, .d (.bool o6))], [(141, .buf 0 9 1 ([[], [97, 99, 116, 32, 48], [103, 111, 32, 48, 10], [97, 99, 116, 32, 48, 10, 10], [97, 99, 116, 32, 32, 48, 10], [97, 99, 116, 32, 48, 48, 10], [97, 99, 116, 32, 45, 48, 10], [97, 99, 116, 32, 52, 10], [32, 97, 99, 116, 32, 48, 10], [65, 99, 116, 32, 48, 10], [97, 99, 116, 32, 48, 32, 10], [97, 99, 116, 10], [101, 113, 32, 48, 32, 48, 10, 97, 99, 116, 32, 48, 10], [108, 101, 32, 48, 32, 48, 32, 50, 10, 97, 99, 116, 32, 48, 10], [97, 99, 116, 32, 48, 13, 10], [97, 99, 116, 32, 57, 57, 57, 57, 57, 57, 57, 57, 57, 57, 57, 57, 57, 57, 57, 57, 57, 57, 57, 57, 10]].map e_s))], [.ops (opsOf (cAt (bodyOf Tryz.f7) [1, 1, 1, 1, 1, 1, 1, 1, 1, 1, 0, 1, 0, 0, 1, 1, 0, 0, 1, 1, 0])) [], .code (cAt (bodyOf Tryz.f7) [1, 1, 1, 1, 1, 1, 1, 1, 1, 1, 0, 1, 0, 0, 1, 1, 0, 0, 1, 1, 1]), .inBlock 3, .code (cAt (bodyOf Tryz.f7) [1, 1, 1, 1, 1, 1, 1, 1, 1, 1, 0, 1, 0, 0, 1, 1, 1]), .inLoop (cAt (bodyOf Tryz.f7) [1, 1, 1, 1, 1, 1, 1, 1, 1, 1, 0, 1, 0, 0]), .inBlock 2, .code (cAt (bodyOf Tryz.f7) [1, 1, 1, 1, 1, 1, 1, 1, 1, 1, 1])]⟩ := by
                  clear hO
                  refine J_adv 1 (J_bool 158 (b := o6) (by kernel_rfl) (fun hb48 => ?_) (fun hb48 => ?_))
                  · replace hF := ift hb48 hF
                    have hr_ := Option.some.inj hF; subst hr_
                    exact J_adv 5 (J_ret (xs := [.d (.bool false)]) [.d (.bool false)] rfl rfl (by kernel_rfl) (Res'.refl _) rfl)
                  · replace hF := iff' hb48 hF
                    exact J_adv 7 (J_at [11, 15, 18, 21, 23, 141, 142, 143] [141] (T0 := [.inLoop (cAt (bodyOf Tryz.f7) [1, 1, 1, 1, 1, 1, 1, 1, 1, 1, 0, 1, 0, 0]), .inBlock 2, .code (cAt (bodyOf Tryz.f7) [1, 1, 1, 1, 1, 1, 1, 1, 1, 1, 1])]) (by kernel_rfl) rfl (ih_F7_L2 l4 (IntKind.i64.wrap (v4 + 1)) hF))
                clear hF; rename _ = some o6 => hF
                refine J_adv 11 (J_bool 154 (b := y44.2 != 5) (by kernel_rfl) (fun hb49 => ?_) (fun hb49 => ?_))
                · replace hF := ift hb49 hF
                  have hr_ := Option.some.inj hF; subst hr_
                  exact J_adv 4 (J_at [11, 15, 18, 21, 23, 141, 142, 143, 158] [141] (T0 := [.ops (opsOf (cAt (bodyOf Tryz.f7) [1, 1, 1, 1, 1, 1, 1, 1, 1, 1, 0, 1, 0, 0, 1, 1, 0, 0, 1, 1, 0])) [], .code (cAt (bodyOf Tryz.f7) [1, 1, 1, 1, 1, 1, 1, 1, 1, 1, 0, 1, 0, 0, 1, 1, 0, 0, 1, 1, 1]), .inBlock 3, .code (cAt (bodyOf Tryz.f7) [1, 1, 1, 1, 1, 1, 1, 1, 1, 1, 0, 1, 0, 0, 1, 1, 1]), .inLoop (cAt (bodyOf Tryz.f7) [1, 1, 1, 1, 1, 1, 1, 1, 1, 1, 0, 1, 0, 0]), .inBlock 2, .code (cAt (bodyOf Tryz.f7) [1, 1, 1, 1, 1, 1, 1, 1, 1, 1, 1])]) (by kernel_rfl) rfl hR6)
                · replace hF := iff' hb49 hF
                  have hr_ := Option.some.inj hF; subst hr_
                  exact J_adv 4 (J_at [11, 15, 18, 21, 23, 141, 142, 143, 158] [141] (T0 := [.ops (opsOf (cAt (bodyOf Tryz.f7) [1, 1, 1, 1, 1, 1, 1, 1, 1, 1, 0, 1, 0, 0, 1, 1, 0, 0, 1, 1, 0])) [], .code (cAt (bodyOf Tryz.f7) [1, 1, 1, 1, 1, 1, 1, 1, 1, 1, 0, 1, 0, 0, 1, 1, 0, 0, 1, 1, 1]), .inBlock 3, .code (cAt (bodyOf Tryz.f7) [1, 1, 1, 1, 1, 1, 1, 1, 1, 1, 0, 1, 0, 0, 1, 1, 1]), .inLoop (cAt (bodyOf Tryz.f7) [1, 1, 1, 1, 1, 1, 1, 1, 1, 1, 0, 1, 0, 0]), .inBlock 2, .code (cAt (bodyOf Tryz.f7) [1, 1, 1, 1, 1, 1, 1, 1, 1, 1, 1])]) (by kernel_rfl) rfl hR6)
              · replace hF := iff' hb45 hF
                obtain ⟨y45, e46, hF⟩ := bnd hF
                refine J_adv 4 (J_callF (xs := [.d (.str [97, 99, 116, 32, 48, 10]), .d (.int .i64 40)]) [.d (.str [97, 99, 116, 32, 48, 10]), .d (.int .i64 40)] (.d (.str y45)) (by kernel_rfl) en28 (Res'.refl _) (F28_ok e46) ?_)
                obtain ⟨y46, e47, hF⟩ := bnd hF
                refine J_adv 0 (J_callF (xs := [.d (.str y45)]) [.d (.str y45)] (.tup [.d (.sl 4 (y46.1.map e_T_api_Instr)), .d (.int .i64 y46.2)]) (by kernel_rfl) en15 (Res'.refl _) (F15_ok e47) ?_)
                obtain ⟨y47, e48, hF⟩ := bnd hF
                refine J_adv 8 (J_callF (xs := [.d (.str [97, 99, 116, 32, 48, 10]), .d (.int .i64 41)]) [.d (.str [97, 99, 116, 32, 48, 10]), .d (.int .i64 41)] (.d (.str y47)) (by kernel_rfl) en28 (Res'.refl _) (F28_ok e48) ?_)
                obtain ⟨y48, e49, hF⟩ := bnd hF
                refine J_adv 0 (J_callF (xs := [.d (.str y47)]) [.d (.str y47)] (.tup [.d (.sl 4 (y48.1.map e_T_api_Instr)), .d (.int .i64 y48.2)]) (by kernel_rfl) en15 (Res'.refl _) (F15_ok e49) ?_)
                obtain ⟨y49, e50, hF⟩ := bnd hF
                refine J_adv 8 (J_callF (xs := [.d (.str [120]), .d (.int .i64 2001)]) [.d (.str [120]), .d (.int .i64 2001)] (.d (.str y49)) (by kernel_rfl) en28 (Res'.refl _) (F28_ok e50) ?_)
                obtain ⟨y50, e51, hF⟩ := bnd hF
                refine J_adv 0 (J_callF (xs := [.d (.str y49)]) [.d (.str y49)] (.tup [.d (.sl 4 (y50.1.map e_T_api_Instr)), .d (.int .i64 y50.2)]) (by kernel_rfl) en15 (Res'.refl _) (F15_ok e51) ?_)
                obtain ⟨y51, e52, hF⟩ := bnd hF
                refine J_adv 8 (J_callF (xs := [.d (.str [97, 99, 116, 32, 49, 10, 97, 99, 116, 32, 48, 10])]) [.d (.str [97, 99, 116, 32, 49, 10, 97, 99, 116, 32, 48, 10])] (.tup [.d (.sl 4 (y51.1.map e_T_api_Instr)), .d (.int .i64 y51.2)]) (by kernel_rfl) en15 (Res'.refl _) (F15_ok e52) ?_)
                obtain ⟨o7, hO, hF⟩ := bnd hF
                have hR7 : J none Tryz.prog 239 [] (finF Tryz.prog Tryz.f7 (.d (.bool r))) ⟨mkT [(0, .d (.bool o7))], [], [.ops (opsOf (cAt (bodyOf Tryz.f7) [1, 1, 1, 1, 1, 1, 1, 1, 1, 1, 1, 1, 1, 1, 1, 0])) [], .code (cAt (bodyOf Tryz.f7) [1, 1, 1, 1, 1, 1, 1, 1, 1, 1, 1, 1, 1, 1, 1, 1])]⟩ := by
                  clear hO
                  have hr_ := Option.some.inj hF; subst hr_
                  exact J_adv 1 (J_ret (xs := [.d (.bool o7)]) [.d (.bool o7)] rfl rfl (by kernel_rfl) (Res'.refl _) rfl)
                clear hF; rename _ = some o7 => hF
                refine J_adv 11 (J_bool 181 (b := y35.2.2 == 2) (by kernel_rfl) (fun hb76 => ?_) (fun hb76 => ?_))
                · replace hF := ift hb76 hF
                  refine J_adv 4 (J_bool 185 (b := y36.2.2 == 2) (by kernel_rfl) (fun hb77 => ?_) (fun hb77 => ?_))
                  · replace hF := ift hb77 hF
                    refine J_adv 4 (J_bool 189 (b := y37.2.2 == 2) (by kernel_rfl) (fun hb78 => ?_) (fun hb78 => ?_))
                    · replace hF := ift hb78 hF
                      refine J_adv 4 (J_bool 193 (b := y38.2 == 300) (by kernel_rfl) (fun hb79 => ?_) (fun hb79 => ?_))
                      · replace hF := ift hb79 hF
                        refine J_adv 4 (J_bool 197 (b := y46.2 == 0) (by kernel_rfl) (fun hb80 => ?_) (fun hb80 => ?_))
                        · replace hF := ift hb80 hF
                          refine J_adv 5 (J_bool 202 (b := ((y46.1.map e_T_api_Instr).length : Int) == 40) (by kernel_rfl) (fun hb81 => ?_) (fun hb81 => ?_))
                          · replace hF := ift hb81 hF
                            refine J_adv 4 (J_bool 206 (b := y48.2 == 5) (by kernel_rfl) (fun hb82 => ?_) (fun hb82 => ?_))
                            · replace hF := ift hb82 hF
                              refine J_adv 4 (J_bool 210 (b := y50.2 == 3) (by kernel_rfl) (fun hb83 => ?_) (fun hb83 => ?_))
                              · replace hF := ift hb83 hF
                                refine J_adv 4 (J_bool 214 (b := y51.2 == 0) (by kernel_rfl) (fun hb84 => ?_) (fun hb84 => ?_))
                                · replace hF := ift hb84 hF
                                  refine J_adv 5 (J_bool 219 (b := ((y51.1.map e_T_api_Instr).length : Int) == 2) (by kernel_rfl) (fun hb85 => ?_) (fun hb85 => ?_))
                                  · replace hF := ift hb85 hF
                                    obtain ⟨y60, e61, hF⟩ := bnd hF
                                    refine J_adv 2 (J_callF (xs := [.d (.sl 4 (y51.1.map e_T_api_Instr)), .d (.int .i64 1), .d (.int .i64 1), .d (.sl 1 ([0].map e_i64))]) [.d (.sl 4 (y51.1.map e_T_api_Instr)), .d (.int .i64 1), .d (.int .i64 1), .d (.sl 1 ([0].map e_i64))] (.d (.bool y60)) (by kernel_rfl) en29 (Res'.refl _) (F29_ok e61) ?_)
                                    refine J_adv 2 (J_bool 224 (b := y60) (by kernel_rfl) (fun hb86 => ?_) (fun hb86 => ?_))
                                    · replace hF := ift hb86 hF
                                      obtain ⟨y61, e62, hF⟩ := bnd hF
                                      refine J_adv 2 (J_callF (xs := [.d (.sl 4 (l4.map e_T_api_Instr)), .d (.int .i64 3), .d (.int .i64 2), .d (.sl 1 ([0, 0, 0, (-99)].map e_i64))]) [.d (.sl 4 (l4.map e_T_api_Instr)), .d (.int .i64 3), .d (.int .i64 2), .d (.sl 1 ([0, 0, 0, (-99)].map e_i64))] (.d (.bool y61)) (by kernel_rfl) en29 (Res'.refl _) (F29_ok e62) ?_)
                                      refine J_adv 2 (J_bool 229 (b := y61) (by kernel_rfl) (fun hb87 => ?_) (fun hb87 => ?_))
                                      · replace hF := ift hb87 hF
                                        obtain ⟨y62, e63, hF⟩ := bnd hF
                                        refine J_adv 2 (J_callF (xs := [.d (.sl 4 (l4.map e_T_api_Instr)), .d (.int .i64 3), .d (.int .i64 2), .d (.sl 1 ([0, 0, 0, 5].map e_i64))]) [.d (.sl 4 (l4.map e_T_api_Instr)), .d (.int .i64 3), .d (.int .i64 2), .d (.sl 1 ([0, 0, 0, 5].map e_i64))] (.d (.bool y62)) (by kernel_rfl) en29 (Res'.refl _) (F29_ok e63) ?_)
                                        refine J_adv 2 (J_bool 234 (b := y62) (by kernel_rfl) (fun hb88 => ?_) (fun hb88 => ?_))
                                        · replace hF := ift hb88 hF
                                          obtain ⟨y63, e64, hF⟩ := bnd hF
                                          refine J_adv 1 (J_callF (xs := [.d (.sl 4 (y51.1.map e_T_api_Instr))]) [.d (.sl 4 (y51.1.map e_T_api_Instr))] (.d (.int .i64 y63)) (by kernel_rfl) en22 (Res'.refl _) (F22_ok e64) ?_)
                                          have hr_ := Option.some.inj hF; subst hr_
                                          exact J_adv 3 (J_at [0] [] (T0 := [.ops (opsOf (cAt (bodyOf Tryz.f7) [1, 1, 1, 1, 1, 1, 1, 1, 1, 1, 1, 1, 1, 1, 1, 0])) [], .code (cAt (bodyOf Tryz.f7) [1, 1, 1, 1, 1, 1, 1, 1, 1, 1, 1, 1, 1, 1, 1, 1])]) (by kernel_rfl) rfl hR7)
                                        · replace hF := iff' hb88 hF
                                          have hr_ := Option.some.inj hF; subst hr_
                                          exact J_adv 5 (J_at [0] [] (T0 := [.ops (opsOf (cAt (bodyOf Tryz.f7) [1, 1, 1, 1, 1, 1, 1, 1, 1, 1, 1, 1, 1, 1, 1, 0])) [], .code (cAt (bodyOf Tryz.f7) [1, 1, 1, 1, 1, 1, 1, 1, 1, 1, 1, 1, 1, 1, 1, 1])]) (by kernel_rfl) rfl hR7)
                                      · replace hF := iff' hb87 hF
                                        have hr_ := Option.some.inj hF; subst hr_
                                        exact J_adv 10 (J_at [0] [] (T0 := [.ops (opsOf (cAt (bodyOf Tryz.f7) [1, 1, 1, 1, 1, 1, 1, 1, 1, 1, 1, 1, 1, 1, 1, 0])) [], .code (cAt (bodyOf Tryz.f7) [1, 1, 1, 1, 1, 1, 1, 1, 1, 1, 1, 1, 1, 1, 1, 1])]) (by kernel_rfl) rfl hR7)
                                    · replace hF := iff' hb86 hF
                                      have hr_ := Option.some.inj hF; subst hr_
                                      exact J_adv 15 (J_at [0] [] (T0 := [.ops (opsOf (cAt (bodyOf Tryz.f7) [1, 1, 1, 1, 1, 1, 1, 1, 1, 1, 1, 1, 1, 1, 1, 0])) [], .code (cAt (bodyOf Tryz.f7) [1, 1, 1, 1, 1, 1, 1, 1, 1, 1, 1, 1, 1, 1, 1, 1])]) (by kernel_rfl) rfl hR7)
                                  · replace hF := iff' hb85 hF
                                    have hr_ := Option.some.inj hF; subst hr_
                                    exact J_adv 20 (J_at [0] [] (T0 := [.ops (opsOf (cAt (bodyOf Tryz.f7) [1, 1, 1, 1, 1, 1, 1, 1, 1, 1, 1, 1, 1, 1, 1, 0])) [], .code (cAt (bodyOf Tryz.f7) [1, 1, 1, 1, 1, 1, 1, 1, 1, 1, 1, 1, 1, 1, 1, 1])]) (by kernel_rfl) rfl hR7)
                                · replace hF := iff' hb84 hF
                                  have hr_ := Option.some.inj hF; subst hr_
                                  exact J_adv 25 (J_at [0] [] (T0 := [.ops (opsOf (cAt (bodyOf Tryz.f7) [1, 1, 1, 1, 1, 1, 1, 1, 1, 1, 1, 1, 1, 1, 1, 0])) [], .code (cAt (bodyOf Tryz.f7) [1, 1, 1, 1, 1, 1, 1, 1, 1, 1, 1, 1, 1, 1, 1, 1])]) (by kernel_rfl) rfl hR7)
                              · replace hF := iff' hb83 hF
                                have hr_ := Option.some.inj hF; subst hr_
                                exact J_adv 29 (J_at [0] [] (T0 := [.ops (opsOf (cAt (bodyOf Tryz.f7) [1, 1, 1, 1, 1, 1, 1, 1, 1, 1, 1, 1, 1, 1, 1, 0])) [], .code (cAt (bodyOf Tryz.f7) [1, 1, 1, 1, 1, 1, 1, 1, 1, 1, 1, 1, 1, 1, 1, 1])]) (by kernel_rfl) rfl hR7)
                            · replace hF := iff' hb82 hF
                              have hr_ := Option.some.inj hF; subst hr_
                              exact J_adv 33 (J_at [0] [] (T0 := [.ops (opsOf (cAt (bodyOf Tryz.f7) [1, 1, 1, 1, 1, 1, 1, 1, 1, 1, 1, 1, 1, 1, 1, 0])) [], .code (cAt (bodyOf Tryz.f7) [1, 1, 1, 1, 1, 1, 1, 1, 1, 1, 1, 1, 1, 1, 1, 1])]) (by kernel_rfl) rfl hR7)
                          · replace hF := iff' hb81 hF
                            have hr_ := Option.some.inj hF; subst hr_
                            exact J_adv 37 (J_at [0] [] (T0 := [.ops (opsOf (cAt (bodyOf Tryz.f7) [1, 1, 1, 1, 1, 1, 1, 1, 1, 1, 1, 1, 1, 1, 1, 0])) [], .code (cAt (bodyOf Tryz.f7) [1, 1, 1, 1, 1, 1, 1, 1, 1, 1, 1, 1, 1, 1, 1, 1])]) (by kernel_rfl) rfl hR7)
                        · replace hF := iff' hb80 hF
                          have hr_ := Option.some.inj hF; subst hr_
                          exact J_adv 42 (J_at [0] [] (T0 := [.ops (opsOf (cAt (bodyOf Tryz.f7) [1, 1, 1, 1, 1, 1, 1, 1, 1, 1, 1, 1, 1, 1, 1, 0])) [], .code (cAt (bodyOf Tryz.f7) [1, 1, 1, 1, 1, 1, 1, 1, 1, 1, 1, 1, 1, 1, 1, 1])]) (by kernel_rfl) rfl hR7)
                      · replace hF := iff' hb79 hF
                        have hr_ := Option.some.inj hF; subst hr_
                        exact J_adv 46 (J_at [0] [] (T0 := [.ops (opsOf (cAt (bodyOf Tryz.f7) [1, 1, 1, 1, 1, 1, 1, 1, 1, 1, 1, 1, 1, 1, 1, 0])) [], .code (cAt (bodyOf Tryz.f7) [1, 1, 1, 1, 1, 1, 1, 1, 1, 1, 1, 1, 1, 1, 1, 1])]) (by kernel_rfl) rfl hR7)
                    · replace hF := iff' hb78 hF
                      have hr_ := Option.some.inj hF; subst hr_
                      exact J_adv 50 (J_at [0] [] (T0 := [.ops (opsOf (cAt (bodyOf Tryz.f7) [1, 1, 1, 1, 1, 1, 1, 1, 1, 1, 1, 1, 1, 1, 1, 0])) [], .code (cAt (bodyOf Tryz.f7) [1, 1, 1, 1, 1, 1, 1, 1, 1, 1, 1, 1, 1, 1, 1, 1])]) (by kernel_rfl) rfl hR7)
                  · replace hF := iff' hb77 hF
                    have hr_ := Option.some.inj hF; subst hr_
                    exact J_adv 54 (J_at [0] [] (T0 := [.ops (opsOf (cAt (bodyOf Tryz.f7) [1, 1, 1, 1, 1, 1, 1, 1, 1, 1, 1, 1, 1, 1, 1, 0])) [], .code (cAt (bodyOf Tryz.f7) [1, 1, 1, 1, 1, 1, 1, 1, 1, 1, 1, 1, 1, 1, 1, 1])]) (by kernel_rfl) rfl hR7)
                · replace hF := iff' hb76 hF
                  have hr_ := Option.some.inj hF; subst hr_
                  exact J_adv 58 (J_at [0] [] (T0 := [.ops (opsOf (cAt (bodyOf Tryz.f7) [1, 1, 1, 1, 1, 1, 1, 1, 1, 1, 1, 1, 1, 1, 1, 0])) [], .code (cAt (bodyOf Tryz.f7) [1, 1, 1, 1, 1, 1, 1, 1, 1, 1, 1, 1, 1, 1, 1, 1])]) (by kernel_rfl) rfl hR7)
          exact J_adv 15 (J_at [11, 15, 18, 21, 23, 141, 142, 143] [141] (T0 := [.inLoop (cAt (bodyOf Tryz.f7) [1, 1, 1, 1, 1, 1, 1, 1, 1, 1, 0, 1, 0, 0]), .inBlock 2, .code (cAt (bodyOf Tryz.f7) [1, 1, 1, 1, 1, 1, 1, 1, 1, 1, 1])]) (by kernel_rfl) rfl (hF7_L2 fuel [(⟨1, 3, (-99), 1⟩ : T_api_Instr), y33] 0 hF))
    exact J_adv 2 (J_at [1, 71, 72, 73] [1, 71] (T0 := [.inLoop (cAt (bodyOf Tryz.f7) [1, 1, 1, 0, 1, 0, 0]), .inBlock 0, .code (cAt (bodyOf Tryz.f7) [1, 1, 1, 1])]) (by kernel_rfl) rfl (hF7_L1 fuel 0 hF))

end Go.Proofs.YtilfjfpemjfalaaGreatDoor
