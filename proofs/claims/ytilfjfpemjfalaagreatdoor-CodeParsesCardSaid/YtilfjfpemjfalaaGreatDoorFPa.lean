import Derived.Test.YtilfjfpemjfalaaGreatDoorFCh
import Derived.KernelRfl
set_option linter.unusedVariables false
set_option maxRecDepth 100000
namespace Go.Proofs.YtilfjfpemjfalaaGreatDoor
open Go Go.RowKit Kx

theorem en14 : entersT Tryz.prog 14 := Kx.enters_of Tryz.func14 (by kernel_rfl) (by kernel_rfl)
theorem en80 : entersT Tryz.prog 80 := Kx.enters_of Tryz.func80 (by kernel_rfl) (by kernel_rfl)
theorem en81 : entersT Tryz.prog 81 := Kx.enters_of Tryz.func81 (by kernel_rfl) (by kernel_rfl)
theorem en100 : entersT Tryz.prog 100 := Kx.enters_of Tryz.func100 (by kernel_rfl) (by kernel_rfl)
theorem en112 : entersT Tryz.prog 112 := Kx.enters_of Tryz.func112 (by kernel_rfl) (by kernel_rfl)
theorem en134 : entersT Tryz.prog 134 := Kx.enters_of Tryz.func134 (by kernel_rfl) (by kernel_rfl)
theorem en114 : entersT Tryz.prog 114 := Kx.enters_of Tryz.func114 (by kernel_rfl) (by kernel_rfl)
theorem en113 : entersT Tryz.prog 113 := Kx.enters_of Tryz.func113 (by kernel_rfl) (by kernel_rfl)
theorem en99 : entersT Tryz.prog 99 := Kx.enters_of Tryz.func99 (by kernel_rfl) (by kernel_rfl)
theorem en82 : entersT Tryz.prog 82 := Kx.enters_of Tryz.func82 (by kernel_rfl) (by kernel_rfl)
theorem en46 : entersT Tryz.prog 46 := Kx.enters_of Tryz.func46 (by kernel_rfl) (by kernel_rfl)
theorem en16 : entersT Tryz.prog 16 := Kx.enters_of Tryz.func16 (by kernel_rfl) (by kernel_rfl)

structure T_croupierlaw31_Edit where
  At : Int
  Less : Int
  Text : List UInt8
  deriving DecidableEq
/- (croupier/croupierlaw31.Edit).Of -/
def F14 (d0 : T_croupierlaw31_Edit) (d1 : List UInt8) : Option (List UInt8) :=
  ass (decide ((IntKind.i64.wrap ((d1.length : Int) + 1)) ≠ 0)) <|
  ass (decide (0 ≤ 0) && decide (0 ≤ (Int.tmod (IntKind.i64.wrap d0.At) (IntKind.i64.wrap ((d1.length : Int) + 1)))) && decide ((Int.tmod (IntKind.i64.wrap d0.At) (IntKind.i64.wrap ((d1.length : Int) + 1))) ≤ d1.length)) <|
  ass (decide (0 ≤ 0) && decide (0 ≤ (bif decide (40 < (d0.Text.length : Int)) then 40 else (d0.Text.length : Int))) && decide ((bif decide (40 < (d0.Text.length : Int)) then 40 else (d0.Text.length : Int)) ≤ d0.Text.length)) <|
  ass (decide (((d1.drop (Int.toNat 0)).take (Int.toNat ((Int.tmod (IntKind.i64.wrap d0.At) (IntKind.i64.wrap ((d1.length : Int) + 1))) - 0))).length + ((d0.Text.drop (Int.toNat 0)).take (Int.toNat ((bif decide (40 < (d0.Text.length : Int)) then 40 else (d0.Text.length : Int)) - 0))).length ≤ 4611686018427387904)) <|
  ass (decide (0 ≤ (bif decide ((d1.length : Int) < (IntKind.i64.wrap ((Int.tmod (IntKind.i64.wrap d0.At) (IntKind.i64.wrap ((d1.length : Int) + 1))) + (IntKind.i64.wrap (Int.tmod d0.Less 8))))) then (d1.length : Int) else (IntKind.i64.wrap ((Int.tmod (IntKind.i64.wrap d0.At) (IntKind.i64.wrap ((d1.length : Int) + 1))) + (IntKind.i64.wrap (Int.tmod d0.Less 8)))))) && decide ((bif decide ((d1.length : Int) < (IntKind.i64.wrap ((Int.tmod (IntKind.i64.wrap d0.At) (IntKind.i64.wrap ((d1.length : Int) + 1))) + (IntKind.i64.wrap (Int.tmod d0.Less 8))))) then (d1.length : Int) else (IntKind.i64.wrap ((Int.tmod (IntKind.i64.wrap d0.At) (IntKind.i64.wrap ((d1.length : Int) + 1))) + (IntKind.i64.wrap (Int.tmod d0.Less 8))))) ≤ (d1.length : Int)) && decide ((d1.length : Int) ≤ d1.length)) <|
  ass (decide ((((d1.drop (Int.toNat 0)).take (Int.toNat ((Int.tmod (IntKind.i64.wrap d0.At) (IntKind.i64.wrap ((d1.length : Int) + 1))) - 0))) ++ ((d0.Text.drop (Int.toNat 0)).take (Int.toNat ((bif decide (40 < (d0.Text.length : Int)) then 40 else (d0.Text.length : Int)) - 0)))).length + ((d1.drop (Int.toNat (bif decide ((d1.length : Int) < (IntKind.i64.wrap ((Int.tmod (IntKind.i64.wrap d0.At) (IntKind.i64.wrap ((d1.length : Int) + 1))) + (IntKind.i64.wrap (Int.tmod d0.Less 8))))) then (d1.length : Int) else (IntKind.i64.wrap ((Int.tmod (IntKind.i64.wrap d0.At) (IntKind.i64.wrap ((d1.length : Int) + 1))) + (IntKind.i64.wrap (Int.tmod d0.Less 8))))))).take (Int.toNat ((d1.length : Int) - (bif decide ((d1.length : Int) < (IntKind.i64.wrap ((Int.tmod (IntKind.i64.wrap d0.At) (IntKind.i64.wrap ((d1.length : Int) + 1))) + (IntKind.i64.wrap (Int.tmod d0.Less 8))))) then (d1.length : Int) else (IntKind.i64.wrap ((Int.tmod (IntKind.i64.wrap d0.At) (IntKind.i64.wrap ((d1.length : Int) + 1))) + (IntKind.i64.wrap (Int.tmod d0.Less 8)))))))).length ≤ 4611686018427387904)) <|
  some ((((d1.drop (Int.toNat 0)).take (Int.toNat ((Int.tmod (IntKind.i64.wrap d0.At) (IntKind.i64.wrap ((d1.length : Int) + 1))) - 0))) ++ ((d0.Text.drop (Int.toNat 0)).take (Int.toNat ((bif decide (40 < (d0.Text.length : Int)) then 40 else (d0.Text.length : Int)) - 0)))) ++ ((d1.drop (Int.toNat (bif decide ((d1.length : Int) < (IntKind.i64.wrap ((Int.tmod (IntKind.i64.wrap d0.At) (IntKind.i64.wrap ((d1.length : Int) + 1))) + (IntKind.i64.wrap (Int.tmod d0.Less 8))))) then (d1.length : Int) else (IntKind.i64.wrap ((Int.tmod (IntKind.i64.wrap d0.At) (IntKind.i64.wrap ((d1.length : Int) + 1))) + (IntKind.i64.wrap (Int.tmod d0.Less 8))))))).take (Int.toNat ((d1.length : Int) - (bif decide ((d1.length : Int) < (IntKind.i64.wrap ((Int.tmod (IntKind.i64.wrap d0.At) (IntKind.i64.wrap ((d1.length : Int) + 1))) + (IntKind.i64.wrap (Int.tmod d0.Less 8))))) then (d1.length : Int) else (IntKind.i64.wrap ((Int.tmod (IntKind.i64.wrap d0.At) (IntKind.i64.wrap ((d1.length : Int) + 1))) + (IntKind.i64.wrap (Int.tmod d0.Less 8)))))))))
theorem F14_ok {d0 : T_croupierlaw31_Edit} {d1 : List UInt8} {r : List UInt8} (hF : F14 d0 d1 = some r) :
    CallF Tryz.prog 14 [.agg [.d (.int .u16 d0.At), .d (.int .u8 d0.Less), .d (.str d0.Text)], .d (.str d1)] (.d (.str r)) := by
  unfold F14 at hF
  refine callF_of (N := 36) (b := bodyOf Tryz.f14) Tryz.func14 (by kernel_rfl) rfl rfl ?_
  obtain ⟨hb1, hF⟩ := assd hF
  refine J_adv 13 (J_opt1 (o := chk (decide ((IntKind.i64.wrap ((d1.length : Int) + 1)) ≠ 0))) [] (by kernel_rfl) (ck hb1) ?_)
  refine J_adv 3 (J_draw (by kernel_rfl) (by kernel_rfl) ?_)
  obtain ⟨hb2, hF⟩ := assd hF
  refine JD_adv 2 (JD_opt1 (o := chk (decide (0 ≤ 0) && decide (0 ≤ (Int.tmod (IntKind.i64.wrap d0.At) (IntKind.i64.wrap ((d1.length : Int) + 1)))) && decide ((Int.tmod (IntKind.i64.wrap d0.At) (IntKind.i64.wrap ((d1.length : Int) + 1))) ≤ d1.length))) [] (by kernel_rfl) (by kernel_rfl) (ck hb2) ?_)
  obtain ⟨hb3, hF⟩ := assd hF
  refine JD_adv 6 (JD_opt1 (o := chk (decide (0 ≤ 0) && decide (0 ≤ (bif decide (40 < (d0.Text.length : Int)) then 40 else (d0.Text.length : Int))) && decide ((bif decide (40 < (d0.Text.length : Int)) then 40 else (d0.Text.length : Int)) ≤ d0.Text.length))) [] (by kernel_rfl) (by kernel_rfl) (ck hb3) ?_)
  obtain ⟨hb4, hF⟩ := assd hF
  refine JD_adv 0 (JD_opt1 (o := chk (decide (((d1.drop (Int.toNat 0)).take (Int.toNat ((Int.tmod (IntKind.i64.wrap d0.At) (IntKind.i64.wrap ((d1.length : Int) + 1))) - 0))).length + ((d0.Text.drop (Int.toNat 0)).take (Int.toNat ((bif decide (40 < (d0.Text.length : Int)) then 40 else (d0.Text.length : Int)) - 0))).length ≤ 4611686018427387904))) [] (by kernel_rfl) (by kernel_rfl) (ck hb4) ?_)
  obtain ⟨hb5, hF⟩ := assd hF
  refine JD_adv 10 (JD_opt1 (o := chk (decide (0 ≤ (bif decide ((d1.length : Int) < (IntKind.i64.wrap ((Int.tmod (IntKind.i64.wrap d0.At) (IntKind.i64.wrap ((d1.length : Int) + 1))) + (IntKind.i64.wrap (Int.tmod d0.Less 8))))) then (d1.length : Int) else (IntKind.i64.wrap ((Int.tmod (IntKind.i64.wrap d0.At) (IntKind.i64.wrap ((d1.length : Int) + 1))) + (IntKind.i64.wrap (Int.tmod d0.Less 8)))))) && decide ((bif decide ((d1.length : Int) < (IntKind.i64.wrap ((Int.tmod (IntKind.i64.wrap d0.At) (IntKind.i64.wrap ((d1.length : Int) + 1))) + (IntKind.i64.wrap (Int.tmod d0.Less 8))))) then (d1.length : Int) else (IntKind.i64.wrap ((Int.tmod (IntKind.i64.wrap d0.At) (IntKind.i64.wrap ((d1.length : Int) + 1))) + (IntKind.i64.wrap (Int.tmod d0.Less 8))))) ≤ (d1.length : Int)) && decide ((d1.length : Int) ≤ d1.length))) [] (by kernel_rfl) (by kernel_rfl) (ck hb5) ?_)
  obtain ⟨hb6, hF⟩ := assd hF
  refine JD_adv 0 (JD_opt1 (o := chk (decide ((((d1.drop (Int.toNat 0)).take (Int.toNat ((Int.tmod (IntKind.i64.wrap d0.At) (IntKind.i64.wrap ((d1.length : Int) + 1))) - 0))) ++ ((d0.Text.drop (Int.toNat 0)).take (Int.toNat ((bif decide (40 < (d0.Text.length : Int)) then 40 else (d0.Text.length : Int)) - 0)))).length + ((d1.drop (Int.toNat (bif decide ((d1.length : Int) < (IntKind.i64.wrap ((Int.tmod (IntKind.i64.wrap d0.At) (IntKind.i64.wrap ((d1.length : Int) + 1))) + (IntKind.i64.wrap (Int.tmod d0.Less 8))))) then (d1.length : Int) else (IntKind.i64.wrap ((Int.tmod (IntKind.i64.wrap d0.At) (IntKind.i64.wrap ((d1.length : Int) + 1))) + (IntKind.i64.wrap (Int.tmod d0.Less 8))))))).take (Int.toNat ((d1.length : Int) - (bif decide ((d1.length : Int) < (IntKind.i64.wrap ((Int.tmod (IntKind.i64.wrap d0.At) (IntKind.i64.wrap ((d1.length : Int) + 1))) + (IntKind.i64.wrap (Int.tmod d0.Less 8))))) then (d1.length : Int) else (IntKind.i64.wrap ((Int.tmod (IntKind.i64.wrap d0.At) (IntKind.i64.wrap ((d1.length : Int) + 1))) + (IntKind.i64.wrap (Int.tmod d0.Less 8)))))))).length ≤ 4611686018427387904))) [] (by kernel_rfl) (by kernel_rfl) (ck hb6) ?_)
  refine JD_adv 1 (JD_end (by kernel_rfl) ?_)
  have hr_ := Option.some.inj hF; subst hr_
  exact J_adv 0 (J_ret (xs := [.d (.str ((((d1.drop (Int.toNat 0)).take (Int.toNat ((Int.tmod (IntKind.i64.wrap d0.At) (IntKind.i64.wrap ((d1.length : Int) + 1))) - 0))) ++ ((d0.Text.drop (Int.toNat 0)).take (Int.toNat ((bif decide (40 < (d0.Text.length : Int)) then 40 else (d0.Text.length : Int)) - 0)))) ++ ((d1.drop (Int.toNat (bif decide ((d1.length : Int) < (IntKind.i64.wrap ((Int.tmod (IntKind.i64.wrap d0.At) (IntKind.i64.wrap ((d1.length : Int) + 1))) + (IntKind.i64.wrap (Int.tmod d0.Less 8))))) then (d1.length : Int) else (IntKind.i64.wrap ((Int.tmod (IntKind.i64.wrap d0.At) (IntKind.i64.wrap ((d1.length : Int) + 1))) + (IntKind.i64.wrap (Int.tmod d0.Less 8))))))).take (Int.toNat ((d1.length : Int) - (bif decide ((d1.length : Int) < (IntKind.i64.wrap ((Int.tmod (IntKind.i64.wrap d0.At) (IntKind.i64.wrap ((d1.length : Int) + 1))) + (IntKind.i64.wrap (Int.tmod d0.Less 8))))) then (d1.length : Int) else (IntKind.i64.wrap ((Int.tmod (IntKind.i64.wrap d0.At) (IntKind.i64.wrap ((d1.length : Int) + 1))) + (IntKind.i64.wrap (Int.tmod d0.Less 8))))))))))]) [.d (.str ((((d1.drop (Int.toNat 0)).take (Int.toNat ((Int.tmod (IntKind.i64.wrap d0.At) (IntKind.i64.wrap ((d1.length : Int) + 1))) - 0))) ++ ((d0.Text.drop (Int.toNat 0)).take (Int.toNat ((bif decide (40 < (d0.Text.length : Int)) then 40 else (d0.Text.length : Int)) - 0)))) ++ ((d1.drop (Int.toNat (bif decide ((d1.length : Int) < (IntKind.i64.wrap ((Int.tmod (IntKind.i64.wrap d0.At) (IntKind.i64.wrap ((d1.length : Int) + 1))) + (IntKind.i64.wrap (Int.tmod d0.Less 8))))) then (d1.length : Int) else (IntKind.i64.wrap ((Int.tmod (IntKind.i64.wrap d0.At) (IntKind.i64.wrap ((d1.length : Int) + 1))) + (IntKind.i64.wrap (Int.tmod d0.Less 8))))))).take (Int.toNat ((d1.length : Int) - (bif decide ((d1.length : Int) < (IntKind.i64.wrap ((Int.tmod (IntKind.i64.wrap d0.At) (IntKind.i64.wrap ((d1.length : Int) + 1))) + (IntKind.i64.wrap (Int.tmod d0.Less 8))))) then (d1.length : Int) else (IntKind.i64.wrap ((Int.tmod (IntKind.i64.wrap d0.At) (IntKind.i64.wrap ((d1.length : Int) + 1))) + (IntKind.i64.wrap (Int.tmod d0.Less 8))))))))))] rfl rfl (by kernel_rfl) (Res'.refl _) rfl)

/- croupier/croupierref31.words -/
def F80_A2 (v2 : Int) (rec_F80_L1 : (List UInt8) → Int → (List (List UInt8)) → Option (List (List UInt8))) (x5 : List UInt8) (l10 : List (List UInt8)) : Option (List (List UInt8)) :=
  rec_F80_L1 x5 (IntKind.i64.wrap (v2 + 1)) l10
def F80_L1 (d0 : List UInt8) : Nat → (List UInt8) → Int → (List (List UInt8)) → Option (List (List UInt8))
  | 0, _, _, _ => none
  | n_F80_L1 + 1, x4, v2, l8 =>
    bif decide (v2 < (d0.length : Int)) then
      (Option.bind (geti d0 v2) fun y6 =>
      bif (y6.toNat : Int) == 32 then
        (Option.bind (app l8 [x4]) fun l11 =>
        F80_A2 v2 (F80_L1 d0 n_F80_L1) [] l11)
      else
        (ass (decide (0 ≤ v2) && decide (v2 ≤ (IntKind.i64.wrap (v2 + 1))) && decide ((IntKind.i64.wrap (v2 + 1)) ≤ d0.length)) <|
        ass (decide (x4.length + ((d0.drop (Int.toNat v2)).take (Int.toNat ((IntKind.i64.wrap (v2 + 1)) - v2))).length ≤ 4611686018427387904)) <|
        F80_A2 v2 (F80_L1 d0 n_F80_L1) (x4 ++ ((d0.drop (Int.toNat v2)).take (Int.toNat ((IntKind.i64.wrap (v2 + 1)) - v2)))) l8))
    else
      (Option.bind (app l8 [x4]) fun l12 =>
      some l12)
def F80 (fuel : Nat) (d0 : List UInt8) : Option (List (List UInt8)) :=
  F80_L1 d0 fuel [] 0 []
theorem F80_ok {fuel : Nat} {d0 : List UInt8} {r : List (List UInt8)} (hF : F80 fuel d0 = some r) :
    CallF Tryz.prog 80 [.d (.str d0)] (.d (.sl 1 (r.map e_s))) := by
  unfold F80 at hF
  refine callF_of (N := 31) (b := bodyOf Tryz.f80) Tryz.func80 (by kernel_rfl) rfl rfl ?_
  have hF80_L1 : ∀ (n_F80_L1 : Nat) (x4 : List UInt8) (v2 : Int) (l8 : List (List UInt8)), F80_L1 d0 n_F80_L1 x4 v2 l8 = some r → J none Tryz.prog 31 [] (finF Tryz.prog Tryz.f80 (.d (.sl 1 (r.map e_s)))) ⟨mkT [(0, .d (.str d0)), (3, .suf 19 0 0), (4, .d (.str x4)), (5, .d (.int .i64 v2))], [(19, .buf 0 9 1 (l8.map e_s))], [.inLoop (cAt (bodyOf Tryz.f80) [1, 1, 1, 0, 1, 0, 0]), .inBlock 0, .code (cAt (bodyOf Tryz.f80) [1, 1, 1, 1])]⟩ := by
    clear hF; intro n_F80_L1
    induction n_F80_L1 with
    | zero => intro x4 v2 l8 hF; cases hF
    | succ n_F80_L1 ih_F80_L1 =>
      intro x4 v2 l8 hF
      rw [F80_L1] at hF
      refine J_adv 9 (J_bool 9 (b := decide (v2 < (d0.length : Int))) (by kernel_rfl) (fun hb15 => ?_) (fun hb15 => ?_))
      · replace hF := ift hb15 hF
        have hF80_A2 : ∀ (x5 : List UInt8) (l10 : List (List UInt8)), F80_A2 v2 (F80_L1 d0 n_F80_L1) x5 l10 = some r → J none Tryz.prog 31 [] (finF Tryz.prog Tryz.f80 (.d (.sl 1 (r.map e_s)))) ⟨mkT [(0, .d (.str d0)), (3, .suf 19 0 0), (4, .d (.str x5)), (5, .d (.int .i64 v2))], [(19, .buf 0 9 1 (l10.map e_s))], [.code (cAt (bodyOf Tryz.f80) [1, 1, 1, 0, 1, 0, 0, 1, 1]), .inLoop (cAt (bodyOf Tryz.f80) [1, 1, 1, 0, 1, 0, 0]), .inBlock 0, .code (cAt (bodyOf Tryz.f80) [1, 1, 1, 1])]⟩ := by
          intro x5 l10 hF
          unfold F80_A2 at hF
          exact J_adv 5 (J_at [0, 3, 4, 5] [19] (T0 := [.inLoop (cAt (bodyOf Tryz.f80) [1, 1, 1, 0, 1, 0, 0]), .inBlock 0, .code (cAt (bodyOf Tryz.f80) [1, 1, 1, 1])]) (by kernel_rfl) rfl (ih_F80_L1 x5 (IntKind.i64.wrap (v2 + 1)) l10 hF))
        obtain ⟨y6, e11, hF⟩ := bnd hF
        refine J_adv 8 (J_opt1 (o := (match geti d0 v2 with | some c => some [.int .u8 c.toNat] | none => none)) [.int .u8 y6.toNat] (by kernel_rfl) (by rw [e11]) ?_)
        refine J_adv 2 (J_bool 15 (b := (y6.toNat : Int) == 32) (by kernel_rfl) (fun hb19 => ?_) (fun hb19 => ?_))
        · replace hF := ift hb19 hF
          obtain ⟨l11, e12, hF⟩ := bnd hF
          refine J_adv 6 (J_opt2 (o := app2 ((l8.map e_s).drop 0) ([x4].map e_s)) (l11.map e_s) (by kernel_rfl) (am e12) ?_)
          exact J_adv 6 (J_at [0, 3, 4, 5] [19] (T0 := [.code (cAt (bodyOf Tryz.f80) [1, 1, 1, 0, 1, 0, 0, 1, 1]), .inLoop (cAt (bodyOf Tryz.f80) [1, 1, 1, 0, 1, 0, 0]), .inBlock 0, .code (cAt (bodyOf Tryz.f80) [1, 1, 1, 1])]) (by kernel_rfl) rfl (hF80_A2 [] l11 hF))
        · replace hF := iff' hb19 hF
          obtain ⟨hb20, hF⟩ := assd hF
          refine J_adv 7 (J_opt1 (o := chk (decide (0 ≤ v2) && decide (v2 ≤ (IntKind.i64.wrap (v2 + 1))) && decide ((IntKind.i64.wrap (v2 + 1)) ≤ d0.length))) [] (by kernel_rfl) (ck hb20) ?_)
          obtain ⟨hb21, hF⟩ := assd hF
          refine J_adv 0 (J_opt1 (o := chk (decide (x4.length + ((d0.drop (Int.toNat v2)).take (Int.toNat ((IntKind.i64.wrap (v2 + 1)) - v2))).length ≤ 4611686018427387904))) [] (by kernel_rfl) (ck hb21) ?_)
          exact J_adv 3 (J_at [0, 3, 4, 5] [19] (T0 := [.code (cAt (bodyOf Tryz.f80) [1, 1, 1, 0, 1, 0, 0, 1, 1]), .inLoop (cAt (bodyOf Tryz.f80) [1, 1, 1, 0, 1, 0, 0]), .inBlock 0, .code (cAt (bodyOf Tryz.f80) [1, 1, 1, 1])]) (by kernel_rfl) rfl (hF80_A2 (x4 ++ ((d0.drop (Int.toNat v2)).take (Int.toNat ((IntKind.i64.wrap (v2 + 1)) - v2)))) l8 hF))
      · replace hF := iff' hb15 hF
        obtain ⟨l12, e13, hF⟩ := bnd hF
        refine J_adv 7 (J_opt2 (o := app2 ((l8.map e_s).drop 0) ([x4].map e_s)) (l12.map e_s) (by kernel_rfl) (am e13) ?_)
        have hr_ := Option.some.inj hF; subst hr_
        exact J_adv 2 (J_ret (xs := [.d (.sl 1 (l12.map e_s))]) [.d (.sl 1 (l12.map e_s))] rfl rfl (by kernel_rfl) (Res'.refl _) rfl)
  refine J_adv 19 (J_own (n := 1) 3 19 9 1 (by kernel_rfl) (by kernel_rfl) ?_)
  exact J_adv 0 (J_at [0, 3, 4, 5] [19] (T0 := [.inLoop (cAt (bodyOf Tryz.f80) [1, 1, 1, 0, 1, 0, 0]), .inBlock 0, .code (cAt (bodyOf Tryz.f80) [1, 1, 1, 1])]) (by kernel_rfl) rfl (hF80_L1 fuel [] 0 [] hF))

/- croupier/croupierref01.Right -/
def F81_L1 (d0 : List UInt8) : Nat → Int → Option Bool
  | 0, _ => none
  | n_F81_L1 + 1, v2 =>
    bif decide (v2 < (((d0.drop (Int.toNat 1)).take (Int.toNat ((d0.length : Int) - 1))).length : Int)) then
      (Option.bind (
        Option.bind (geti ((d0.drop (Int.toNat 1)).take (Int.toNat ((d0.length : Int) - 1))) v2) fun y21 =>
        bif decide ((y21.toNat : Int) < 48) then
          (some true)
        else
          (Option.bind (geti ((d0.drop (Int.toNat 1)).take (Int.toNat ((d0.length : Int) - 1))) v2) fun y22 =>
          some (decide ((y22.toNat : Int) > 57)))) fun o5 =>
      bif o5 then
        (some false)
      else
        ((F81_L1 d0 n_F81_L1) (IntKind.i64.wrap (v2 + 1))))
    else
      (some true)
def F81_L2 (d0 : List UInt8) : Nat → Int → Option Bool
  | 0, _ => none
  | n_F81_L2 + 1, v4 =>
    bif decide (v4 < (d0.length : Int)) then
      (Option.bind (
        Option.bind (geti d0 v4) fun y42 =>
        bif decide ((y42.toNat : Int) < 48) then
          (some true)
        else
          (Option.bind (geti d0 v4) fun y43 =>
          some (decide ((y43.toNat : Int) > 57)))) fun o9 =>
      bif o9 then
        (some false)
      else
        ((F81_L2 d0 n_F81_L2) (IntKind.i64.wrap (v4 + 1))))
    else
      (some true)
def F81 (fuel : Nat) (d0 : List UInt8) : Option Bool :=
  bif d0 == [48] then
    (some true)
  else
    (Option.bind (
      bif decide ((d0.length : Int) > 0) then
        (Option.bind (geti d0 0) fun y45 =>
        some ((y45.toNat : Int) == 45))
      else
        (some false)) fun o1 =>
    bif o1 then
      (ass (decide (0 ≤ 1) && decide (1 ≤ (d0.length : Int)) && decide ((d0.length : Int) ≤ d0.length)) <|
      Option.bind (
        bif (((d0.drop (Int.toNat 1)).take (Int.toNat ((d0.length : Int) - 1))).length : Int) == 0 then
          (some true)
        else
          (Option.bind (geti ((d0.drop (Int.toNat 1)).take (Int.toNat ((d0.length : Int) - 1))) 0) fun y23 =>
          some ((y23.toNat : Int) == 48))) fun o2 =>
      bif o2 then
        (some false)
      else
        (F81_L1 d0 fuel 0))
    else
      (Option.bind (
        bif (d0.length : Int) == 0 then
          (some true)
        else
          (Option.bind (geti d0 0) fun y44 =>
          some ((y44.toNat : Int) == 48))) fun o6 =>
      bif o6 then
        (some false)
      else
        (F81_L2 d0 fuel 0)))
theorem F81_ok {fuel : Nat} {d0 : List UInt8} {r : Bool} (hF : F81 fuel d0 = some r) :
    CallF Tryz.prog 81 [.d (.str d0)] (.d (.bool r)) := by
  unfold F81 at hF
  refine callF_of (N := 42) (b := bodyOf Tryz.f81) Tryz.func81 (by kernel_rfl) rfl rfl ?_
  refine J_adv 10 (J_bool 6 (b := d0 == [48]) (by kernel_rfl) (fun hb1 => ?_) (fun hb1 => ?_))
  · replace hF := ift hb1 hF
    have hr_ := Option.some.inj hF; subst hr_
    exact J_adv 5 (J_ret (xs := [.d (.bool true)]) [.d (.bool true)] rfl rfl (by kernel_rfl) (Res'.refl _) rfl)
  · replace hF := iff' hb1 hF
    obtain ⟨o1, hO, hF⟩ := bnd hF
    have hR1 : J none Tryz.prog 42 [] (finF Tryz.prog Tryz.f81 (.d (.bool r))) ⟨mkT [(3, .d (.str d0)), (15, .d (.bool o1))], [], [.ops (opsOf (cAt (bodyOf Tryz.f81) [1, 1, 1, 0, 0])) [], .code (cAt (bodyOf Tryz.f81) [1, 1, 1, 0, 1]), .code (cAt (bodyOf Tryz.f81) [1, 1, 1, 1])]⟩ := by
      clear hO
      refine J_adv 1 (J_bool 15 (b := o1) (by kernel_rfl) (fun hb4 => ?_) (fun hb4 => ?_))
      · replace hF := ift hb4 hF
        obtain ⟨hb5, hF⟩ := assd hF
        refine J_adv 3 (J_opt1 (o := chk (decide (0 ≤ 1) && decide (1 ≤ (d0.length : Int)) && decide ((d0.length : Int) ≤ d0.length))) [] (by kernel_rfl) (ck hb5) ?_)
        obtain ⟨o2, hO, hF⟩ := bnd hF
        have hR2 : J none Tryz.prog 42 [] (finF Tryz.prog Tryz.f81 (.d (.bool r))) ⟨mkT [(3, .d (.str ((d0.drop (Int.toNat 1)).take (Int.toNat ((d0.length : Int) - 1))))), (25, .d (.bool o2))], [], [.ops (opsOf (cAt (bodyOf Tryz.f81) [1, 1, 1, 1, 0, 0])) [], .code (cAt (bodyOf Tryz.f81) [1, 1, 1, 1, 0, 1]), .code (cAt (bodyOf Tryz.f81) [1, 1, 1, 1, 1])]⟩ := by
          clear hO
          refine J_adv 1 (J_bool 25 (b := o2) (by kernel_rfl) (fun hb8 => ?_) (fun hb8 => ?_))
          · replace hF := ift hb8 hF
            have hr_ := Option.some.inj hF; subst hr_
            exact J_adv 5 (J_ret (xs := [.d (.bool false)]) [.d (.bool false)] rfl rfl (by kernel_rfl) (Res'.refl _) rfl)
          · replace hF := iff' hb8 hF
            have hF81_L1 : ∀ (n_F81_L1 : Nat) (v2 : Int), F81_L1 d0 n_F81_L1 v2 = some r → J none Tryz.prog 42 [] (finF Tryz.prog Tryz.f81 (.d (.bool r))) ⟨mkT [(3, .d (.str ((d0.drop (Int.toNat 1)).take (Int.toNat ((d0.length : Int) - 1))))), (4, .d (.int .i64 v2))], [], [.inLoop (cAt (bodyOf Tryz.f81) [1, 1, 1, 1, 1, 0, 1, 0, 0]), .inBlock 0, .code (cAt (bodyOf Tryz.f81) [1, 1, 1, 1, 1, 1])]⟩ := by
              clear hF; intro n_F81_L1
              induction n_F81_L1 with
              | zero => intro v2 hF; cases hF
              | succ n_F81_L1 ih_F81_L1 =>
                intro v2 hF
                rw [F81_L1] at hF
                refine J_adv 9 (J_bool 29 (b := decide (v2 < (((d0.drop (Int.toNat 1)).take (Int.toNat ((d0.length : Int) - 1))).length : Int))) (by kernel_rfl) (fun hb19 => ?_) (fun hb19 => ?_))
                · replace hF := ift hb19 hF
                  obtain ⟨o5, hO, hF⟩ := bnd hF
                  have hR5 : J none Tryz.prog 42 [] (finF Tryz.prog Tryz.f81 (.d (.bool r))) ⟨mkT [(3, .d (.str ((d0.drop (Int.toNat 1)).take (Int.toNat ((d0.length : Int) - 1))))), (4, .d (.int .i64 v2)), (41, .d (.bool o5))], [], [.ops (opsOf (cAt (bodyOf Tryz.f81) [1, 1, 1, 1, 1, 0, 1, 0, 0, 1, 0, 0, 0])) [], .code (cAt (bodyOf Tryz.f81) [1, 1, 1, 1, 1, 0, 1, 0, 0, 1, 0, 0, 1]), .inBlock 1, .code (cAt (bodyOf Tryz.f81) [1, 1, 1, 1, 1, 0, 1, 0, 0, 1, 1]), .inLoop (cAt (bodyOf Tryz.f81) [1, 1, 1, 1, 1, 0, 1, 0, 0]), .inBlock 0, .code (cAt (bodyOf Tryz.f81) [1, 1, 1, 1, 1, 1])]⟩ := by
                    clear hO
                    refine J_adv 1 (J_bool 41 (b := o5) (by kernel_rfl) (fun hb22 => ?_) (fun hb22 => ?_))
                    · replace hF := ift hb22 hF
                      have hr_ := Option.some.inj hF; subst hr_
                      exact J_adv 5 (J_ret (xs := [.d (.bool false)]) [.d (.bool false)] rfl rfl (by kernel_rfl) (Res'.refl _) rfl)
                    · replace hF := iff' hb22 hF
                      exact J_adv 8 (J_at [3, 4] [] (T0 := [.inLoop (cAt (bodyOf Tryz.f81) [1, 1, 1, 1, 1, 0, 1, 0, 0]), .inBlock 0, .code (cAt (bodyOf Tryz.f81) [1, 1, 1, 1, 1, 1])]) (by kernel_rfl) rfl (ih_F81_L1 (IntKind.i64.wrap (v2 + 1)) hF))
                  clear hF; rename _ = some o5 => hF
                  obtain ⟨y21, e21, hF⟩ := bnd hF
                  refine J_adv 8 (J_opt1 (o := (match geti ((d0.drop (Int.toNat 1)).take (Int.toNat ((d0.length : Int) - 1))) v2 with | some c => some [.int .u8 c.toNat] | none => none)) [.int .u8 y21.toNat] (by kernel_rfl) (by rw [e21]) ?_)
                  refine J_adv 2 (J_bool 36 (b := decide ((y21.toNat : Int) < 48)) (by kernel_rfl) (fun hb23 => ?_) (fun hb23 => ?_))
                  · replace hF := ift hb23 hF
                    have hr_ := Option.some.inj hF; subst hr_
                    exact J_adv 5 (J_at [3, 4, 41] [] (T0 := [.ops (opsOf (cAt (bodyOf Tryz.f81) [1, 1, 1, 1, 1, 0, 1, 0, 0, 1, 0, 0, 0])) [], .code (cAt (bodyOf Tryz.f81) [1, 1, 1, 1, 1, 0, 1, 0, 0, 1, 0, 0, 1]), .inBlock 1, .code (cAt (bodyOf Tryz.f81) [1, 1, 1, 1, 1, 0, 1, 0, 0, 1, 1]), .inLoop (cAt (bodyOf Tryz.f81) [1, 1, 1, 1, 1, 0, 1, 0, 0]), .inBlock 0, .code (cAt (bodyOf Tryz.f81) [1, 1, 1, 1, 1, 1])]) (by kernel_rfl) rfl hR5)
                  · replace hF := iff' hb23 hF
                    obtain ⟨y22, e22, hF⟩ := bnd hF
                    refine J_adv 2 (J_opt1 (o := (match geti ((d0.drop (Int.toNat 1)).take (Int.toNat ((d0.length : Int) - 1))) v2 with | some c => some [.int .u8 c.toNat] | none => none)) [.int .u8 y22.toNat] (by kernel_rfl) (by rw [e22]) ?_)
                    have hr_ := Option.some.inj hF; subst hr_
                    exact J_adv 2 (J_at [3, 4, 41] [] (T0 := [.ops (opsOf (cAt (bodyOf Tryz.f81) [1, 1, 1, 1, 1, 0, 1, 0, 0, 1, 0, 0, 0])) [], .code (cAt (bodyOf Tryz.f81) [1, 1, 1, 1, 1, 0, 1, 0, 0, 1, 0, 0, 1]), .inBlock 1, .code (cAt (bodyOf Tryz.f81) [1, 1, 1, 1, 1, 0, 1, 0, 0, 1, 1]), .inLoop (cAt (bodyOf Tryz.f81) [1, 1, 1, 1, 1, 0, 1, 0, 0]), .inBlock 0, .code (cAt (bodyOf Tryz.f81) [1, 1, 1, 1, 1, 1])]) (by kernel_rfl) rfl hR5)
                · replace hF := iff' hb19 hF
                  have hr_ := Option.some.inj hF; subst hr_
                  exact J_adv 6 (J_ret (xs := [.d (.bool true)]) [.d (.bool true)] rfl rfl (by kernel_rfl) (Res'.refl _) rfl)
            exact J_adv 9 (J_at [3, 4] [] (T0 := [.inLoop (cAt (bodyOf Tryz.f81) [1, 1, 1, 1, 1, 0, 1, 0, 0]), .inBlock 0, .code (cAt (bodyOf Tryz.f81) [1, 1, 1, 1, 1, 1])]) (by kernel_rfl) rfl (hF81_L1 fuel 0 hF))
        clear hF; rename _ = some o2 => hF
        refine J_adv 9 (J_bool 21 (b := (((d0.drop (Int.toNat 1)).take (Int.toNat ((d0.length : Int) - 1))).length : Int) == 0) (by kernel_rfl) (fun hb24 => ?_) (fun hb24 => ?_))
        · replace hF := ift hb24 hF
          have hr_ := Option.some.inj hF; subst hr_
          exact J_adv 4 (J_at [3, 25] [] (T0 := [.ops (opsOf (cAt (bodyOf Tryz.f81) [1, 1, 1, 1, 0, 0])) [], .code (cAt (bodyOf Tryz.f81) [1, 1, 1, 1, 0, 1]), .code (cAt (bodyOf Tryz.f81) [1, 1, 1, 1, 1])]) (by kernel_rfl) rfl hR2)
        · replace hF := iff' hb24 hF
          obtain ⟨y23, e23, hF⟩ := bnd hF
          refine J_adv 1 (J_opt1 (o := (match geti ((d0.drop (Int.toNat 1)).take (Int.toNat ((d0.length : Int) - 1))) 0 with | some c => some [.int .u8 c.toNat] | none => none)) [.int .u8 y23.toNat] (by kernel_rfl) (by rw [e23]) ?_)
          have hr_ := Option.some.inj hF; subst hr_
          exact J_adv 2 (J_at [3, 25] [] (T0 := [.ops (opsOf (cAt (bodyOf Tryz.f81) [1, 1, 1, 1, 0, 0])) [], .code (cAt (bodyOf Tryz.f81) [1, 1, 1, 1, 0, 1]), .code (cAt (bodyOf Tryz.f81) [1, 1, 1, 1, 1])]) (by kernel_rfl) rfl hR2)
      · replace hF := iff' hb4 hF
        obtain ⟨o6, hO, hF⟩ := bnd hF
        have hR6 : J none Tryz.prog 42 [] (finF Tryz.prog Tryz.f81 (.d (.bool r))) ⟨mkT [(3, .d (.str d0)), (25, .d (.bool o6))], [], [.ops (opsOf (cAt (bodyOf Tryz.f81) [1, 1, 1, 1, 0, 0])) [], .code (cAt (bodyOf Tryz.f81) [1, 1, 1, 1, 0, 1]), .code (cAt (bodyOf Tryz.f81) [1, 1, 1, 1, 1])]⟩ := by
          clear hO
          refine J_adv 1 (J_bool 25 (b := o6) (by kernel_rfl) (fun hb27 => ?_) (fun hb27 => ?_))
          · replace hF := ift hb27 hF
            have hr_ := Option.some.inj hF; subst hr_
            exact J_adv 5 (J_ret (xs := [.d (.bool false)]) [.d (.bool false)] rfl rfl (by kernel_rfl) (Res'.refl _) rfl)
          · replace hF := iff' hb27 hF
            have hF81_L2 : ∀ (n_F81_L2 : Nat) (v4 : Int), F81_L2 d0 n_F81_L2 v4 = some r → J none Tryz.prog 42 [] (finF Tryz.prog Tryz.f81 (.d (.bool r))) ⟨mkT [(3, .d (.str d0)), (4, .d (.int .i64 v4))], [], [.inLoop (cAt (bodyOf Tryz.f81) [1, 1, 1, 1, 1, 0, 1, 0, 0]), .inBlock 0, .code (cAt (bodyOf Tryz.f81) [1, 1, 1, 1, 1, 1])]⟩ := by
              clear hF; intro n_F81_L2
              induction n_F81_L2 with
              | zero => intro v4 hF; cases hF
              | succ n_F81_L2 ih_F81_L2 =>
                intro v4 hF
                rw [F81_L2] at hF
                refine J_adv 9 (J_bool 29 (b := decide (v4 < (d0.length : Int))) (by kernel_rfl) (fun hb38 => ?_) (fun hb38 => ?_))
                · replace hF := ift hb38 hF
                  obtain ⟨o9, hO, hF⟩ := bnd hF
                  have hR9 : J none Tryz.prog 42 [] (finF Tryz.prog Tryz.f81 (.d (.bool r))) ⟨mkT [(3, .d (.str d0)), (4, .d (.int .i64 v4)), (41, .d (.bool o9))], [], [.ops (opsOf (cAt (bodyOf Tryz.f81) [1, 1, 1, 1, 1, 0, 1, 0, 0, 1, 0, 0, 0])) [], .code (cAt (bodyOf Tryz.f81) [1, 1, 1, 1, 1, 0, 1, 0, 0, 1, 0, 0, 1]), .inBlock 1, .code (cAt (bodyOf Tryz.f81) [1, 1, 1, 1, 1, 0, 1, 0, 0, 1, 1]), .inLoop (cAt (bodyOf Tryz.f81) [1, 1, 1, 1, 1, 0, 1, 0, 0]), .inBlock 0, .code (cAt (bodyOf Tryz.f81) [1, 1, 1, 1, 1, 1])]⟩ := by
                    clear hO
                    refine J_adv 1 (J_bool 41 (b := o9) (by kernel_rfl) (fun hb41 => ?_) (fun hb41 => ?_))
                    · replace hF := ift hb41 hF
                      have hr_ := Option.some.inj hF; subst hr_
                      exact J_adv 5 (J_ret (xs := [.d (.bool false)]) [.d (.bool false)] rfl rfl (by kernel_rfl) (Res'.refl _) rfl)
                    · replace hF := iff' hb41 hF
                      exact J_adv 8 (J_at [3, 4] [] (T0 := [.inLoop (cAt (bodyOf Tryz.f81) [1, 1, 1, 1, 1, 0, 1, 0, 0]), .inBlock 0, .code (cAt (bodyOf Tryz.f81) [1, 1, 1, 1, 1, 1])]) (by kernel_rfl) rfl (ih_F81_L2 (IntKind.i64.wrap (v4 + 1)) hF))
                  clear hF; rename _ = some o9 => hF
                  obtain ⟨y42, e42, hF⟩ := bnd hF
                  refine J_adv 8 (J_opt1 (o := (match geti d0 v4 with | some c => some [.int .u8 c.toNat] | none => none)) [.int .u8 y42.toNat] (by kernel_rfl) (by rw [e42]) ?_)
                  refine J_adv 2 (J_bool 36 (b := decide ((y42.toNat : Int) < 48)) (by kernel_rfl) (fun hb42 => ?_) (fun hb42 => ?_))
                  · replace hF := ift hb42 hF
                    have hr_ := Option.some.inj hF; subst hr_
                    exact J_adv 5 (J_at [3, 4, 41] [] (T0 := [.ops (opsOf (cAt (bodyOf Tryz.f81) [1, 1, 1, 1, 1, 0, 1, 0, 0, 1, 0, 0, 0])) [], .code (cAt (bodyOf Tryz.f81) [1, 1, 1, 1, 1, 0, 1, 0, 0, 1, 0, 0, 1]), .inBlock 1, .code (cAt (bodyOf Tryz.f81) [1, 1, 1, 1, 1, 0, 1, 0, 0, 1, 1]), .inLoop (cAt (bodyOf Tryz.f81) [1, 1, 1, 1, 1, 0, 1, 0, 0]), .inBlock 0, .code (cAt (bodyOf Tryz.f81) [1, 1, 1, 1, 1, 1])]) (by kernel_rfl) rfl hR9)
                  · replace hF := iff' hb42 hF
                    obtain ⟨y43, e43, hF⟩ := bnd hF
                    refine J_adv 2 (J_opt1 (o := (match geti d0 v4 with | some c => some [.int .u8 c.toNat] | none => none)) [.int .u8 y43.toNat] (by kernel_rfl) (by rw [e43]) ?_)
                    have hr_ := Option.some.inj hF; subst hr_
                    exact J_adv 2 (J_at [3, 4, 41] [] (T0 := [.ops (opsOf (cAt (bodyOf Tryz.f81) [1, 1, 1, 1, 1, 0, 1, 0, 0, 1, 0, 0, 0])) [], .code (cAt (bodyOf Tryz.f81) [1, 1, 1, 1, 1, 0, 1, 0, 0, 1, 0, 0, 1]), .inBlock 1, .code (cAt (bodyOf Tryz.f81) [1, 1, 1, 1, 1, 0, 1, 0, 0, 1, 1]), .inLoop (cAt (bodyOf Tryz.f81) [1, 1, 1, 1, 1, 0, 1, 0, 0]), .inBlock 0, .code (cAt (bodyOf Tryz.f81) [1, 1, 1, 1, 1, 1])]) (by kernel_rfl) rfl hR9)
                · replace hF := iff' hb38 hF
                  have hr_ := Option.some.inj hF; subst hr_
                  exact J_adv 6 (J_ret (xs := [.d (.bool true)]) [.d (.bool true)] rfl rfl (by kernel_rfl) (Res'.refl _) rfl)
            exact J_adv 9 (J_at [3, 4] [] (T0 := [.inLoop (cAt (bodyOf Tryz.f81) [1, 1, 1, 1, 1, 0, 1, 0, 0]), .inBlock 0, .code (cAt (bodyOf Tryz.f81) [1, 1, 1, 1, 1, 1])]) (by kernel_rfl) rfl (hF81_L2 fuel 0 hF))
        clear hF; rename _ = some o6 => hF
        refine J_adv 9 (J_bool 21 (b := (d0.length : Int) == 0) (by kernel_rfl) (fun hb43 => ?_) (fun hb43 => ?_))
        · replace hF := ift hb43 hF
          have hr_ := Option.some.inj hF; subst hr_
          exact J_adv 4 (J_at [3, 25] [] (T0 := [.ops (opsOf (cAt (bodyOf Tryz.f81) [1, 1, 1, 1, 0, 0])) [], .code (cAt (bodyOf Tryz.f81) [1, 1, 1, 1, 0, 1]), .code (cAt (bodyOf Tryz.f81) [1, 1, 1, 1, 1])]) (by kernel_rfl) rfl hR6)
        · replace hF := iff' hb43 hF
          obtain ⟨y44, e44, hF⟩ := bnd hF
          refine J_adv 1 (J_opt1 (o := (match geti d0 0 with | some c => some [.int .u8 c.toNat] | none => none)) [.int .u8 y44.toNat] (by kernel_rfl) (by rw [e44]) ?_)
          have hr_ := Option.some.inj hF; subst hr_
          exact J_adv 2 (J_at [3, 25] [] (T0 := [.ops (opsOf (cAt (bodyOf Tryz.f81) [1, 1, 1, 1, 0, 0])) [], .code (cAt (bodyOf Tryz.f81) [1, 1, 1, 1, 0, 1]), .code (cAt (bodyOf Tryz.f81) [1, 1, 1, 1, 1])]) (by kernel_rfl) rfl hR6)
    clear hF; rename _ = some o1 => hF
    refine J_adv 14 (J_bool 11 (b := decide ((d0.length : Int) > 0)) (by kernel_rfl) (fun hb44 => ?_) (fun hb44 => ?_))
    · replace hF := ift hb44 hF
      obtain ⟨y45, e45, hF⟩ := bnd hF
      refine J_adv 1 (J_opt1 (o := (match geti d0 0 with | some c => some [.int .u8 c.toNat] | none => none)) [.int .u8 y45.toNat] (by kernel_rfl) (by rw [e45]) ?_)
      have hr_ := Option.some.inj hF; subst hr_
      exact J_adv 2 (J_at [3, 15] [] (T0 := [.ops (opsOf (cAt (bodyOf Tryz.f81) [1, 1, 1, 0, 0])) [], .code (cAt (bodyOf Tryz.f81) [1, 1, 1, 0, 1]), .code (cAt (bodyOf Tryz.f81) [1, 1, 1, 1])]) (by kernel_rfl) rfl hR1)
    · replace hF := iff' hb44 hF
      have hr_ := Option.some.inj hF; subst hr_
      exact J_adv 4 (J_at [3, 15] [] (T0 := [.ops (opsOf (cAt (bodyOf Tryz.f81) [1, 1, 1, 0, 0])) [], .code (cAt (bodyOf Tryz.f81) [1, 1, 1, 0, 1]), .code (cAt (bodyOf Tryz.f81) [1, 1, 1, 1])]) (by kernel_rfl) rfl hR1)

/- croupier/croupierref01.negative -/
def F100 (d0 : List UInt8) : Option Bool :=
  Option.bind (geti d0 0) fun y1 =>
  some ((y1.toNat : Int) == 45)
theorem F100_ok {d0 : List UInt8} {r : Bool} (hF : F100 d0 = some r) :
    CallF Tryz.prog 100 [.d (.str d0)] (.d (.bool r)) := by
  unfold F100 at hF
  refine callF_of (N := 6) (b := bodyOf Tryz.f100) Tryz.func100 (by kernel_rfl) rfl rfl ?_
  obtain ⟨y1, e1, hF⟩ := bnd hF
  refine J_adv 7 (J_opt1 (o := (match geti d0 0 with | some c => some [.int .u8 c.toNat] | none => none)) [.int .u8 y1.toNat] (by kernel_rfl) (by rw [e1]) ?_)
  have hr_ := Option.some.inj hF; subst hr_
  exact J_adv 3 (J_ret (xs := [.d (.bool ((y1.toNat : Int) == 45))]) [.d (.bool ((y1.toNat : Int) == 45))] rfl rfl (by kernel_rfl) (Res'.refl _) rfl)

/- croupier/croupierref01.Sign -/
def F112 (d0 : List UInt8) : Option Int :=
  bif d0 == [48] then
    (some 0)
  else
    (Option.bind (F100 d0) fun y1 =>
    bif y1 then
      (some (-1))
    else
      (some 1))
theorem F112_ok {d0 : List UInt8} {r : Int} (hF : F112 d0 = some r) :
    CallF Tryz.prog 112 [.d (.str d0)] (.d (.int .i64 r)) := by
  unfold F112 at hF
  refine callF_of (N := 7) (b := bodyOf Tryz.f112) Tryz.func112 (by kernel_rfl) rfl rfl ?_
  refine J_adv 10 (J_bool 4 (b := d0 == [48]) (by kernel_rfl) (fun hb1 => ?_) (fun hb1 => ?_))
  · replace hF := ift hb1 hF
    have hr_ := Option.some.inj hF; subst hr_
    exact J_adv 5 (J_ret (xs := [.d (.int .i64 0)]) [.d (.int .i64 0)] rfl rfl (by kernel_rfl) (Res'.refl _) rfl)
  · replace hF := iff' hb1 hF
    obtain ⟨y1, e1, hF⟩ := bnd hF
    refine J_adv 6 (J_callF (xs := [.d (.str d0)]) [.d (.str d0)] (.d (.bool y1)) (by kernel_rfl) en100 (Res'.refl _) (F100_ok e1) ?_)
    refine J_adv 1 (J_bool 6 (b := y1) (by kernel_rfl) (fun hb2 => ?_) (fun hb2 => ?_))
    · replace hF := ift hb2 hF
      have hr_ := Option.some.inj hF; subst hr_
      exact J_adv 5 (J_ret (xs := [.d (.int .i64 (-1))]) [.d (.int .i64 (-1))] rfl rfl (by kernel_rfl) (Res'.refl _) rfl)
    · replace hF := iff' hb2 hF
      have hr_ := Option.some.inj hF; subst hr_
      exact J_adv 6 (J_ret (xs := [.d (.int .i64 1)]) [.d (.int .i64 1)] rfl rfl (by kernel_rfl) (Res'.refl _) rfl)

/- croupier/croupierref01.cut -/
def F134_L1 : Nat → (List Int) → Option (List Int)
  | 0, _ => none
  | n_F134_L1 + 1, l4 =>
    Option.bind (
      bif decide (((l4.map e_i64).length : Int) > 0) then
        (Option.bind (geti l4 (IntKind.i64.wrap (((l4.map e_i64).length : Int) - 1))) fun y9 =>
        some (y9 == 0))
      else
        (some false)) fun o3 =>
    bif o3 then
      (Option.bind (slc l4 0 (IntKind.i64.wrap (((l4.map e_i64).length : Int) - 1))) fun l5 =>
      (F134_L1 n_F134_L1) l5)
    else
      (some l4)
def F134 (fuel : Nat) (d0 : List Int) : Option (List Int) :=
  F134_L1 fuel d0
theorem F134_ok {fuel : Nat} {d0 : List Int} {r : List Int} (hF : F134 fuel d0 = some r) :
    CallF Tryz.prog 134 [.d (.sl 1 (d0.map e_i64))] (.d (.sl 1 (r.map e_i64))) := by
  unfold F134 at hF
  refine callF_of (N := 21) (b := bodyOf Tryz.f134) Tryz.func134 (by kernel_rfl) rfl rfl ?_
  have hF134_L1 : ∀ (n_F134_L1 : Nat) (l4 : List Int), F134_L1 n_F134_L1 l4 = some r → J none Tryz.prog 21 [] (finF Tryz.prog Tryz.f134 (.d (.sl 1 (r.map e_i64)))) ⟨mkT [(0, .d (.sl 1 (l4.map e_i64)))], [], [.inLoop (cAt (bodyOf Tryz.f134) [1, 0, 0, 0]), .inBlock 0, .code (cAt (bodyOf Tryz.f134) [1, 1])]⟩ := by
    clear hF; intro n_F134_L1
    induction n_F134_L1 with
    | zero => intro l4 hF; cases hF
    | succ n_F134_L1 ih_F134_L1 =>
      intro l4 hF
      rw [F134_L1] at hF
      obtain ⟨o3, hO, hF⟩ := bnd hF
      have hR3 : J none Tryz.prog 21 [] (finF Tryz.prog Tryz.f134 (.d (.sl 1 (r.map e_i64)))) ⟨mkT [(0, .d (.sl 1 (l4.map e_i64))), (14, .d (.bool o3))], [], [.ops (opsOf (cAt (bodyOf Tryz.f134) [1, 0, 0, 0, 0, 0])) [], .code (cAt (bodyOf Tryz.f134) [1, 0, 0, 0, 0, 1]), .code (cAt (bodyOf Tryz.f134) [1, 0, 0, 0, 1]), .inLoop (cAt (bodyOf Tryz.f134) [1, 0, 0, 0]), .inBlock 0, .code (cAt (bodyOf Tryz.f134) [1, 1])]⟩ := by
        clear hO
        refine J_adv 1 (J_bool 14 (b := o3) (by kernel_rfl) (fun hb11 => ?_) (fun hb11 => ?_))
        · replace hF := ift hb11 hF
          obtain ⟨l5, e11, hF⟩ := bnd hF
          refine J_adv 8 (J_opt2 (o := slc (l4.map e_i64) 0 (IntKind.i64.wrap (((l4.map e_i64).length : Int) - 1))) (l5.map e_i64) (by kernel_rfl) (sm e11) ?_)
          exact J_adv 3 (J_at [0] [] (T0 := [.inLoop (cAt (bodyOf Tryz.f134) [1, 0, 0, 0]), .inBlock 0, .code (cAt (bodyOf Tryz.f134) [1, 1])]) (by kernel_rfl) rfl (ih_F134_L1 l5 hF))
        · replace hF := iff' hb11 hF
          have hr_ := Option.some.inj hF; subst hr_
          exact J_adv 7 (J_ret (xs := [.d (.sl 1 (l4.map e_i64))]) [.d (.sl 1 (l4.map e_i64))] rfl rfl (by kernel_rfl) (Res'.refl _) rfl)
      clear hF; rename _ = some o3 => hF
      refine J_adv 8 (J_bool 6 (b := decide (((l4.map e_i64).length : Int) > 0)) (by kernel_rfl) (fun hb12 => ?_) (fun hb12 => ?_))
      · replace hF := ift hb12 hF
        obtain ⟨y9, e12, hF⟩ := bnd hF
        refine J_adv 4 (J_opt1 (o := geti (l4.map e_i64) (IntKind.i64.wrap (((l4.map e_i64).length : Int) - 1))) (e_i64 y9) (by kernel_rfl) (gm e12) ?_)
        have hr_ := Option.some.inj hF; subst hr_
        exact J_adv 3 (J_at [0, 14] [] (T0 := [.ops (opsOf (cAt (bodyOf Tryz.f134) [1, 0, 0, 0, 0, 0])) [], .code (cAt (bodyOf Tryz.f134) [1, 0, 0, 0, 0, 1]), .code (cAt (bodyOf Tryz.f134) [1, 0, 0, 0, 1]), .inLoop (cAt (bodyOf Tryz.f134) [1, 0, 0, 0]), .inBlock 0, .code (cAt (bodyOf Tryz.f134) [1, 1])]) (by kernel_rfl) rfl hR3)
      · replace hF := iff' hb12 hF
        have hr_ := Option.some.inj hF; subst hr_
        exact J_adv 8 (J_at [0, 14] [] (T0 := [.ops (opsOf (cAt (bodyOf Tryz.f134) [1, 0, 0, 0, 0, 0])) [], .code (cAt (bodyOf Tryz.f134) [1, 0, 0, 0, 0, 1]), .code (cAt (bodyOf Tryz.f134) [1, 0, 0, 0, 1]), .inLoop (cAt (bodyOf Tryz.f134) [1, 0, 0, 0]), .inBlock 0, .code (cAt (bodyOf Tryz.f134) [1, 1])]) (by kernel_rfl) rfl hR3)
  exact J_adv 7 (J_at [0] [] (T0 := [.inLoop (cAt (bodyOf Tryz.f134) [1, 0, 0, 0]), .inBlock 0, .code (cAt (bodyOf Tryz.f134) [1, 1])]) (by kernel_rfl) rfl (hF134_L1 fuel d0 hF))

/- croupier/croupierref01.read -/
def F114_L2 (d0 : List UInt8) (l4 : List Int) (v10 : Int) (rec_F114_L1 : Int → (List Int) → Option (List Int)) : Nat → Int → Int → Option (List Int)
  | 0, _, _ => none
  | n_F114_L2 + 1, v13, v14 =>
    bif decide (v14 < v10) then
      (Option.bind (geti ((d0.drop (Int.toNat 1)).take (Int.toNat ((d0.length : Int) - 1))) v14) fun y10 =>
      (F114_L2 d0 l4 v10 rec_F114_L1 n_F114_L2) (IntKind.i64.wrap ((IntKind.i64.wrap (10 * v13)) + (IntKind.i64.wrap (IntKind.u8.wrap ((y10.toNat : Int) - 48))))) (IntKind.i64.wrap (v14 + 1)))
    else
      (Option.bind (app l4 [v13]) fun l5 =>
      rec_F114_L1 (IntKind.i64.wrap (v10 - 4)) l5)
def F114_L1 (fuel : Nat) (d0 : List UInt8) : Nat → Int → (List Int) → Option (List Int)
  | 0, _, _ => none
  | n_F114_L1 + 1, v10, l4 =>
    bif decide (v10 > 0) then
      (F114_L2 d0 l4 v10 (F114_L1 fuel d0 n_F114_L1) fuel 0 (bif decide ((IntKind.i64.wrap (v10 - 4)) > 0) then (IntKind.i64.wrap (v10 - 4)) else 0))
    else
      (Option.bind (F134 fuel l4) fun y11 =>
      some y11)
def F114_L4 (d0 : List UInt8) (l9 : List Int) (v24 : Int) (rec_F114_L3 : Int → (List Int) → Option (List Int)) : Nat → Int → Int → Option (List Int)
  | 0, _, _ => none
  | n_F114_L4 + 1, v27, v28 =>
    bif decide (v28 < v24) then
      (Option.bind (geti d0 v28) fun y20 =>
      (F114_L4 d0 l9 v24 rec_F114_L3 n_F114_L4) (IntKind.i64.wrap ((IntKind.i64.wrap (10 * v27)) + (IntKind.i64.wrap (IntKind.u8.wrap ((y20.toNat : Int) - 48))))) (IntKind.i64.wrap (v28 + 1)))
    else
      (Option.bind (app l9 [v27]) fun l10 =>
      rec_F114_L3 (IntKind.i64.wrap (v24 - 4)) l10)
def F114_L3 (fuel : Nat) (d0 : List UInt8) : Nat → Int → (List Int) → Option (List Int)
  | 0, _, _ => none
  | n_F114_L3 + 1, v24, l9 =>
    bif decide (v24 > 0) then
      (F114_L4 d0 l9 v24 (F114_L3 fuel d0 n_F114_L3) fuel 0 (bif decide ((IntKind.i64.wrap (v24 - 4)) > 0) then (IntKind.i64.wrap (v24 - 4)) else 0))
    else
      (Option.bind (F134 fuel l9) fun y21 =>
      some y21)
def F114 (fuel : Nat) (d0 : List UInt8) : Option (List Int) :=
  Option.bind (geti d0 0) fun y1 =>
  bif (y1.toNat : Int) == 45 then
    (ass (decide (0 ≤ 1) && decide (1 ≤ (d0.length : Int)) && decide ((d0.length : Int) ≤ d0.length)) <|
    F114_L1 fuel d0 fuel (((d0.drop (Int.toNat 1)).take (Int.toNat ((d0.length : Int) - 1))).length : Int) [])
  else
    (F114_L3 fuel d0 fuel (d0.length : Int) [])
theorem F114_ok {fuel : Nat} {d0 : List UInt8} {r : List Int} (hF : F114 fuel d0 = some r) :
    CallF Tryz.prog 114 [.d (.str d0)] (.d (.sl 1 (r.map e_i64))) := by
  unfold F114 at hF
  refine callF_of (N := 40) (b := bodyOf Tryz.f114) Tryz.func114 (by kernel_rfl) rfl rfl ?_
  obtain ⟨y1, e1, hF⟩ := bnd hF
  refine J_adv 8 (J_opt1 (o := (match geti d0 0 with | some c => some [.int .u8 c.toNat] | none => none)) [.int .u8 y1.toNat] (by kernel_rfl) (by rw [e1]) ?_)
  refine J_adv 2 (J_bool 9 (b := (y1.toNat : Int) == 45) (by kernel_rfl) (fun hb1 => ?_) (fun hb1 => ?_))
  · replace hF := ift hb1 hF
    obtain ⟨hb2, hF⟩ := assd hF
    refine J_adv 3 (J_opt1 (o := chk (decide (0 ≤ 1) && decide (1 ≤ (d0.length : Int)) && decide ((d0.length : Int) ≤ d0.length))) [] (by kernel_rfl) (ck hb2) ?_)
    have hF114_L1 : ∀ (n_F114_L1 : Nat) (v10 : Int) (l4 : List Int), F114_L1 fuel d0 n_F114_L1 v10 l4 = some r → J none Tryz.prog 40 [] (finF Tryz.prog Tryz.f114 (.d (.sl 1 (r.map e_i64)))) ⟨mkT [(0, .d (.str ((d0.drop (Int.toNat 1)).take (Int.toNat ((d0.length : Int) - 1))))), (3, .suf 37 0 0), (4, .d (.int .i64 v10))], [(37, .buf 0 3 1 (l4.map e_i64))], [.inLoop (cAt (bodyOf Tryz.f114) [1, 1, 1, 0, 1, 0, 0]), .inBlock 0, .code (cAt (bodyOf Tryz.f114) [1, 1, 1, 1])]⟩ := by
      clear hF; intro n_F114_L1
      induction n_F114_L1 with
      | zero => intro v10 l4 hF; cases hF
      | succ n_F114_L1 ih_F114_L1 =>
        intro v10 l4 hF
        rw [F114_L1] at hF
        refine J_adv 7 (J_bool 15 (b := decide (v10 > 0)) (by kernel_rfl) (fun hb11 => ?_) (fun hb11 => ?_))
        · replace hF := ift hb11 hF
          have hF114_L2 : ∀ (n_F114_L2 : Nat) (v13 : Int) (v14 : Int), F114_L2 d0 l4 v10 (F114_L1 fuel d0 n_F114_L1) n_F114_L2 v13 v14 = some r → J none Tryz.prog 40 [] (finF Tryz.prog Tryz.f114 (.d (.sl 1 (r.map e_i64)))) ⟨mkT [(0, .d (.str ((d0.drop (Int.toNat 1)).take (Int.toNat ((d0.length : Int) - 1))))), (3, .suf 37 0 0), (4, .d (.int .i64 v10)), (5, .d (.int .i64 v13)), (6, .d (.int .i64 v14))], [(37, .buf 0 3 1 (l4.map e_i64))], [.inLoop (cAt (bodyOf Tryz.f114) [1, 1, 1, 0, 1, 0, 0, 1, 0, 0, 1, 0, 1, 0, 0]), .inBlock 2, .code (cAt (bodyOf Tryz.f114) [1, 1, 1, 0, 1, 0, 0, 1, 0, 0, 1, 1]), .inBlock 1, .code (cAt (bodyOf Tryz.f114) [1, 1, 1, 0, 1, 0, 0, 1, 1]), .inLoop (cAt (bodyOf Tryz.f114) [1, 1, 1, 0, 1, 0, 0]), .inBlock 0, .code (cAt (bodyOf Tryz.f114) [1, 1, 1, 1])]⟩ := by
            clear hF; intro n_F114_L2
            induction n_F114_L2 with
            | zero => intro v13 v14 hF; cases hF
            | succ n_F114_L2 ih_F114_L2 =>
              intro v13 v14 hF
              rw [F114_L2] at hF
              refine J_adv 8 (J_bool 23 (b := decide (v14 < v10)) (by kernel_rfl) (fun hb14 => ?_) (fun hb14 => ?_))
              · replace hF := ift hb14 hF
                obtain ⟨y10, e12, hF⟩ := bnd hF
                refine J_adv 9 (J_opt1 (o := (match geti ((d0.drop (Int.toNat 1)).take (Int.toNat ((d0.length : Int) - 1))) v14 with | some c => some [.int .u8 c.toNat] | none => none)) [.int .u8 y10.toNat] (by kernel_rfl) (by rw [e12]) ?_)
                exact J_adv 11 (J_at [0, 3, 4, 5, 6] [37] (T0 := [.inLoop (cAt (bodyOf Tryz.f114) [1, 1, 1, 0, 1, 0, 0, 1, 0, 0, 1, 0, 1, 0, 0]), .inBlock 2, .code (cAt (bodyOf Tryz.f114) [1, 1, 1, 0, 1, 0, 0, 1, 0, 0, 1, 1]), .inBlock 1, .code (cAt (bodyOf Tryz.f114) [1, 1, 1, 0, 1, 0, 0, 1, 1]), .inLoop (cAt (bodyOf Tryz.f114) [1, 1, 1, 0, 1, 0, 0]), .inBlock 0, .code (cAt (bodyOf Tryz.f114) [1, 1, 1, 1])]) (by kernel_rfl) rfl (ih_F114_L2 (IntKind.i64.wrap ((IntKind.i64.wrap (10 * v13)) + (IntKind.i64.wrap (IntKind.u8.wrap ((y10.toNat : Int) - 48))))) (IntKind.i64.wrap (v14 + 1)) hF))
              · replace hF := iff' hb14 hF
                obtain ⟨l5, e13, hF⟩ := bnd hF
                refine J_adv 6 (J_opt2 (o := app2 ((l4.map e_i64).drop 0) ([v13].map e_i64)) (l5.map e_i64) (by kernel_rfl) (am e13) ?_)
                exact J_adv 8 (J_at [0, 3, 4] [37] (T0 := [.inLoop (cAt (bodyOf Tryz.f114) [1, 1, 1, 0, 1, 0, 0]), .inBlock 0, .code (cAt (bodyOf Tryz.f114) [1, 1, 1, 1])]) (by kernel_rfl) rfl (ih_F114_L1 (IntKind.i64.wrap (v10 - 4)) l5 hF))
          exact J_adv 18 (J_at [0, 3, 4, 5, 6] [37] (T0 := [.inLoop (cAt (bodyOf Tryz.f114) [1, 1, 1, 0, 1, 0, 0, 1, 0, 0, 1, 0, 1, 0, 0]), .inBlock 2, .code (cAt (bodyOf Tryz.f114) [1, 1, 1, 0, 1, 0, 0, 1, 0, 0, 1, 1]), .inBlock 1, .code (cAt (bodyOf Tryz.f114) [1, 1, 1, 0, 1, 0, 0, 1, 1]), .inLoop (cAt (bodyOf Tryz.f114) [1, 1, 1, 0, 1, 0, 0]), .inBlock 0, .code (cAt (bodyOf Tryz.f114) [1, 1, 1, 1])]) (by kernel_rfl) rfl (hF114_L2 fuel 0 (bif decide ((IntKind.i64.wrap (v10 - 4)) > 0) then (IntKind.i64.wrap (v10 - 4)) else 0) hF))
        · replace hF := iff' hb11 hF
          obtain ⟨y11, e14, hF⟩ := bnd hF
          refine J_adv 5 (J_callF (xs := [.d (.sl 1 (l4.map e_i64))]) [.d (.sl 1 (l4.map e_i64))] (.d (.sl 1 (y11.map e_i64))) (by kernel_rfl) en134 (Res'.refl _) (F134_ok e14) ?_)
          have hr_ := Option.some.inj hF; subst hr_
          exact J_adv 2 (J_ret (xs := [.d (.sl 1 (y11.map e_i64))]) [.d (.sl 1 (y11.map e_i64))] rfl rfl (by kernel_rfl) (Res'.refl _) rfl)
    refine J_adv 15 (J_own (n := 1) 3 37 3 1 (by kernel_rfl) (by kernel_rfl) ?_)
    exact J_adv 0 (J_at [0, 3, 4] [37] (T0 := [.inLoop (cAt (bodyOf Tryz.f114) [1, 1, 1, 0, 1, 0, 0]), .inBlock 0, .code (cAt (bodyOf Tryz.f114) [1, 1, 1, 1])]) (by kernel_rfl) rfl (hF114_L1 fuel (((d0.drop (Int.toNat 1)).take (Int.toNat ((d0.length : Int) - 1))).length : Int) [] hF))
  · replace hF := iff' hb1 hF
    have hF114_L3 : ∀ (n_F114_L3 : Nat) (v24 : Int) (l9 : List Int), F114_L3 fuel d0 n_F114_L3 v24 l9 = some r → J none Tryz.prog 40 [] (finF Tryz.prog Tryz.f114 (.d (.sl 1 (r.map e_i64)))) ⟨mkT [(0, .d (.str d0)), (3, .suf 37 0 0), (4, .d (.int .i64 v24))], [(37, .buf 0 3 1 (l9.map e_i64))], [.inLoop (cAt (bodyOf Tryz.f114) [1, 1, 1, 0, 1, 0, 0]), .inBlock 0, .code (cAt (bodyOf Tryz.f114) [1, 1, 1, 1])]⟩ := by
      clear hF; intro n_F114_L3
      induction n_F114_L3 with
      | zero => intro v24 l9 hF; cases hF
      | succ n_F114_L3 ih_F114_L3 =>
        intro v24 l9 hF
        rw [F114_L3] at hF
        refine J_adv 7 (J_bool 15 (b := decide (v24 > 0)) (by kernel_rfl) (fun hb23 => ?_) (fun hb23 => ?_))
        · replace hF := ift hb23 hF
          have hF114_L4 : ∀ (n_F114_L4 : Nat) (v27 : Int) (v28 : Int), F114_L4 d0 l9 v24 (F114_L3 fuel d0 n_F114_L3) n_F114_L4 v27 v28 = some r → J none Tryz.prog 40 [] (finF Tryz.prog Tryz.f114 (.d (.sl 1 (r.map e_i64)))) ⟨mkT [(0, .d (.str d0)), (3, .suf 37 0 0), (4, .d (.int .i64 v24)), (5, .d (.int .i64 v27)), (6, .d (.int .i64 v28))], [(37, .buf 0 3 1 (l9.map e_i64))], [.inLoop (cAt (bodyOf Tryz.f114) [1, 1, 1, 0, 1, 0, 0, 1, 0, 0, 1, 0, 1, 0, 0]), .inBlock 2, .code (cAt (bodyOf Tryz.f114) [1, 1, 1, 0, 1, 0, 0, 1, 0, 0, 1, 1]), .inBlock 1, .code (cAt (bodyOf Tryz.f114) [1, 1, 1, 0, 1, 0, 0, 1, 1]), .inLoop (cAt (bodyOf Tryz.f114) [1, 1, 1, 0, 1, 0, 0]), .inBlock 0, .code (cAt (bodyOf Tryz.f114) [1, 1, 1, 1])]⟩ := by
            clear hF; intro n_F114_L4
            induction n_F114_L4 with
            | zero => intro v27 v28 hF; cases hF
            | succ n_F114_L4 ih_F114_L4 =>
              intro v27 v28 hF
              rw [F114_L4] at hF
              refine J_adv 8 (J_bool 23 (b := decide (v28 < v24)) (by kernel_rfl) (fun hb26 => ?_) (fun hb26 => ?_))
              · replace hF := ift hb26 hF
                obtain ⟨y20, e25, hF⟩ := bnd hF
                refine J_adv 9 (J_opt1 (o := (match geti d0 v28 with | some c => some [.int .u8 c.toNat] | none => none)) [.int .u8 y20.toNat] (by kernel_rfl) (by rw [e25]) ?_)
                exact J_adv 11 (J_at [0, 3, 4, 5, 6] [37] (T0 := [.inLoop (cAt (bodyOf Tryz.f114) [1, 1, 1, 0, 1, 0, 0, 1, 0, 0, 1, 0, 1, 0, 0]), .inBlock 2, .code (cAt (bodyOf Tryz.f114) [1, 1, 1, 0, 1, 0, 0, 1, 0, 0, 1, 1]), .inBlock 1, .code (cAt (bodyOf Tryz.f114) [1, 1, 1, 0, 1, 0, 0, 1, 1]), .inLoop (cAt (bodyOf Tryz.f114) [1, 1, 1, 0, 1, 0, 0]), .inBlock 0, .code (cAt (bodyOf Tryz.f114) [1, 1, 1, 1])]) (by kernel_rfl) rfl (ih_F114_L4 (IntKind.i64.wrap ((IntKind.i64.wrap (10 * v27)) + (IntKind.i64.wrap (IntKind.u8.wrap ((y20.toNat : Int) - 48))))) (IntKind.i64.wrap (v28 + 1)) hF))
              · replace hF := iff' hb26 hF
                obtain ⟨l10, e26, hF⟩ := bnd hF
                refine J_adv 6 (J_opt2 (o := app2 ((l9.map e_i64).drop 0) ([v27].map e_i64)) (l10.map e_i64) (by kernel_rfl) (am e26) ?_)
                exact J_adv 8 (J_at [0, 3, 4] [37] (T0 := [.inLoop (cAt (bodyOf Tryz.f114) [1, 1, 1, 0, 1, 0, 0]), .inBlock 0, .code (cAt (bodyOf Tryz.f114) [1, 1, 1, 1])]) (by kernel_rfl) rfl (ih_F114_L3 (IntKind.i64.wrap (v24 - 4)) l10 hF))
          exact J_adv 18 (J_at [0, 3, 4, 5, 6] [37] (T0 := [.inLoop (cAt (bodyOf Tryz.f114) [1, 1, 1, 0, 1, 0, 0, 1, 0, 0, 1, 0, 1, 0, 0]), .inBlock 2, .code (cAt (bodyOf Tryz.f114) [1, 1, 1, 0, 1, 0, 0, 1, 0, 0, 1, 1]), .inBlock 1, .code (cAt (bodyOf Tryz.f114) [1, 1, 1, 0, 1, 0, 0, 1, 1]), .inLoop (cAt (bodyOf Tryz.f114) [1, 1, 1, 0, 1, 0, 0]), .inBlock 0, .code (cAt (bodyOf Tryz.f114) [1, 1, 1, 1])]) (by kernel_rfl) rfl (hF114_L4 fuel 0 (bif decide ((IntKind.i64.wrap (v24 - 4)) > 0) then (IntKind.i64.wrap (v24 - 4)) else 0) hF))
        · replace hF := iff' hb23 hF
          obtain ⟨y21, e27, hF⟩ := bnd hF
          refine J_adv 5 (J_callF (xs := [.d (.sl 1 (l9.map e_i64))]) [.d (.sl 1 (l9.map e_i64))] (.d (.sl 1 (y21.map e_i64))) (by kernel_rfl) en134 (Res'.refl _) (F134_ok e27) ?_)
          have hr_ := Option.some.inj hF; subst hr_
          exact J_adv 2 (J_ret (xs := [.d (.sl 1 (y21.map e_i64))]) [.d (.sl 1 (y21.map e_i64))] rfl rfl (by kernel_rfl) (Res'.refl _) rfl)
    refine J_adv 15 (J_own (n := 1) 3 37 3 1 (by kernel_rfl) (by kernel_rfl) ?_)
    exact J_adv 0 (J_at [0, 3, 4] [37] (T0 := [.inLoop (cAt (bodyOf Tryz.f114) [1, 1, 1, 0, 1, 0, 0]), .inBlock 0, .code (cAt (bodyOf Tryz.f114) [1, 1, 1, 1])]) (by kernel_rfl) rfl (hF114_L3 fuel (d0.length : Int) [] hF))

/- croupier/croupierref01.compare -/
def F113_L1 (d0 : List Int) (d1 : List Int) : Nat → Int → Option Int
  | 0, _ => none
  | n_F113_L1 + 1, v2 =>
    bif decide (v2 ≥ 0) then
      (Option.bind (geti d0 v2) fun y9 =>
      Option.bind (geti d1 v2) fun y10 =>
      bif y9 != y10 then
        (Option.bind (geti d0 v2) fun y11 =>
        Option.bind (geti d1 v2) fun y12 =>
        bif decide (y11 < y12) then
          (some (-1))
        else
          (some 1))
      else
        ((F113_L1 d0 d1 n_F113_L1) (IntKind.i64.wrap (v2 - 1))))
    else
      (some 0)
def F113 (fuel : Nat) (d0 : List Int) (d1 : List Int) : Option Int :=
  bif ((d0.map e_i64).length : Int) != ((d1.map e_i64).length : Int) then
    (bif decide (((d0.map e_i64).length : Int) < ((d1.map e_i64).length : Int)) then
      (some (-1))
    else
      (some 1))
  else
    (F113_L1 d0 d1 fuel (IntKind.i64.wrap (((d0.map e_i64).length : Int) - 1)))
theorem F113_ok {fuel : Nat} {d0 : List Int} {d1 : List Int} {r : Int} (hF : F113 fuel d0 d1 = some r) :
    CallF Tryz.prog 113 [.d (.sl 1 (d0.map e_i64)), .d (.sl 1 (d1.map e_i64))] (.d (.int .i64 r)) := by
  unfold F113 at hF
  refine callF_of (N := 41) (b := bodyOf Tryz.f113) Tryz.func113 (by kernel_rfl) rfl rfl ?_
  refine J_adv 13 (J_bool 10 (b := ((d0.map e_i64).length : Int) != ((d1.map e_i64).length : Int)) (by kernel_rfl) (fun hb1 => ?_) (fun hb1 => ?_))
  · replace hF := ift hb1 hF
    refine J_adv 10 (J_bool 15 (b := decide (((d0.map e_i64).length : Int) < ((d1.map e_i64).length : Int))) (by kernel_rfl) (fun hb2 => ?_) (fun hb2 => ?_))
    · replace hF := ift hb2 hF
      have hr_ := Option.some.inj hF; subst hr_
      exact J_adv 5 (J_ret (xs := [.d (.int .i64 (-1))]) [.d (.int .i64 (-1))] rfl rfl (by kernel_rfl) (Res'.refl _) rfl)
    · replace hF := iff' hb2 hF
      have hr_ := Option.some.inj hF; subst hr_
      exact J_adv 6 (J_ret (xs := [.d (.int .i64 1)]) [.d (.int .i64 1)] rfl rfl (by kernel_rfl) (Res'.refl _) rfl)
  · replace hF := iff' hb1 hF
    have hF113_L1 : ∀ (n_F113_L1 : Nat) (v2 : Int), F113_L1 d0 d1 n_F113_L1 v2 = some r → J none Tryz.prog 41 [] (finF Tryz.prog Tryz.f113 (.d (.int .i64 r))) ⟨mkT [(0, .d (.sl 1 (d0.map e_i64))), (1, .d (.sl 1 (d1.map e_i64))), (5, .d (.int .i64 v2))], [], [.inLoop (cAt (bodyOf Tryz.f113) [1, 1, 0, 1, 0, 0]), .inBlock 0, .code (cAt (bodyOf Tryz.f113) [1, 1, 1])]⟩ := by
      clear hF; intro n_F113_L1
      induction n_F113_L1 with
      | zero => intro v2 hF; cases hF
      | succ n_F113_L1 ih_F113_L1 =>
        intro v2 hF
        rw [F113_L1] at hF
        refine J_adv 7 (J_bool 20 (b := decide (v2 ≥ 0)) (by kernel_rfl) (fun hb9 => ?_) (fun hb9 => ?_))
        · replace hF := ift hb9 hF
          refine J_adv 5 (J_draw (by kernel_rfl) (by kernel_rfl) ?_)
          obtain ⟨y9, e9, hF⟩ := bnd hF
          refine JD_adv 2 (JD_opt1 (o := geti (d0.map e_i64) v2) (e_i64 y9) (by kernel_rfl) (by kernel_rfl) (gm e9) ?_)
          obtain ⟨y10, e10, hF⟩ := bnd hF
          refine JD_adv 3 (JD_opt1 (o := geti (d1.map e_i64) v2) (e_i64 y10) (by kernel_rfl) (by kernel_rfl) (gm e10) ?_)
          refine JD_adv 2 (JD_end (by kernel_rfl) ?_)
          refine J_adv 0 (J_bool 31 (b := y9 != y10) (by kernel_rfl) (fun hb10 => ?_) (fun hb10 => ?_))
          · replace hF := ift hb10 hF
            refine J_adv 3 (J_draw (by kernel_rfl) (by kernel_rfl) ?_)
            obtain ⟨y11, e11, hF⟩ := bnd hF
            refine JD_adv 2 (JD_opt1 (o := geti (d0.map e_i64) v2) (e_i64 y11) (by kernel_rfl) (by kernel_rfl) (gm e11) ?_)
            obtain ⟨y12, e12, hF⟩ := bnd hF
            refine JD_adv 3 (JD_opt1 (o := geti (d1.map e_i64) v2) (e_i64 y12) (by kernel_rfl) (by kernel_rfl) (gm e12) ?_)
            refine JD_adv 2 (JD_end (by kernel_rfl) ?_)
            refine J_adv 0 (J_bool 40 (b := decide (y11 < y12)) (by kernel_rfl) (fun hb11 => ?_) (fun hb11 => ?_))
            · replace hF := ift hb11 hF
              have hr_ := Option.some.inj hF; subst hr_
              exact J_adv 5 (J_ret (xs := [.d (.int .i64 (-1))]) [.d (.int .i64 (-1))] rfl rfl (by kernel_rfl) (Res'.refl _) rfl)
            · replace hF := iff' hb11 hF
              have hr_ := Option.some.inj hF; subst hr_
              exact J_adv 6 (J_ret (xs := [.d (.int .i64 1)]) [.d (.int .i64 1)] rfl rfl (by kernel_rfl) (Res'.refl _) rfl)
          · replace hF := iff' hb10 hF
            exact J_adv 8 (J_at [0, 1, 5] [] (T0 := [.inLoop (cAt (bodyOf Tryz.f113) [1, 1, 0, 1, 0, 0]), .inBlock 0, .code (cAt (bodyOf Tryz.f113) [1, 1, 1])]) (by kernel_rfl) rfl (ih_F113_L1 (IntKind.i64.wrap (v2 - 1)) hF))
        · replace hF := iff' hb9 hF
          have hr_ := Option.some.inj hF; subst hr_
          exact J_adv 6 (J_ret (xs := [.d (.int .i64 0)]) [.d (.int .i64 0)] rfl rfl (by kernel_rfl) (Res'.refl _) rfl)
    exact J_adv 12 (J_at [0, 1, 5] [] (T0 := [.inLoop (cAt (bodyOf Tryz.f113) [1, 1, 0, 1, 0, 0]), .inBlock 0, .code (cAt (bodyOf Tryz.f113) [1, 1, 1])]) (by kernel_rfl) rfl (hF113_L1 fuel (IntKind.i64.wrap (((d0.map e_i64).length : Int) - 1)) hF))

/- croupier/croupierref01.Cmp -/
def F99 (fuel : Nat) (d0 : List UInt8) (d1 : List UInt8) : Option Int :=
  Option.bind (F112 d0) fun y1 =>
  Option.bind (F112 d1) fun y2 =>
  bif y1 != y2 then
    (Option.bind (F112 d0) fun y3 =>
    Option.bind (F112 d1) fun y4 =>
    bif decide (y3 < y4) then
      (some (-1))
    else
      (some 1))
  else
    (Option.bind (F100 d0) fun y5 =>
    bif y5 then
      (Option.bind (F114 fuel d1) fun y6 =>
      Option.bind (F114 fuel d0) fun y7 =>
      Option.bind (F113 fuel y6 y7) fun y8 =>
      some y8)
    else
      (Option.bind (F114 fuel d0) fun y9 =>
      Option.bind (F114 fuel d1) fun y10 =>
      Option.bind (F113 fuel y9 y10) fun y11 =>
      some y11))
theorem F99_ok {fuel : Nat} {d0 : List UInt8} {d1 : List UInt8} {r : Int} (hF : F99 fuel d0 d1 = some r) :
    CallF Tryz.prog 99 [.d (.str d0), .d (.str d1)] (.d (.int .i64 r)) := by
  unfold F99 at hF
  refine callF_of (N := 27) (b := bodyOf Tryz.f99) Tryz.func99 (by kernel_rfl) rfl rfl ?_
  obtain ⟨y1, e1, hF⟩ := bnd hF
  refine J_adv 8 (J_callF (xs := [.d (.str d0)]) [.d (.str d0)] (.d (.int .i64 y1)) (by kernel_rfl) en112 (Res'.refl _) (F112_ok e1) ?_)
  obtain ⟨y2, e2, hF⟩ := bnd hF
  refine J_adv 1 (J_callF (xs := [.d (.str d1)]) [.d (.str d1)] (.d (.int .i64 y2)) (by kernel_rfl) en112 (Res'.refl _) (F112_ok e2) ?_)
  refine J_adv 2 (J_bool 9 (b := y1 != y2) (by kernel_rfl) (fun hb1 => ?_) (fun hb1 => ?_))
  · replace hF := ift hb1 hF
    obtain ⟨y3, e3, hF⟩ := bnd hF
    refine J_adv 5 (J_callF (xs := [.d (.str d0)]) [.d (.str d0)] (.d (.int .i64 y3)) (by kernel_rfl) en112 (Res'.refl _) (F112_ok e3) ?_)
    obtain ⟨y4, e4, hF⟩ := bnd hF
    refine J_adv 1 (J_callF (xs := [.d (.str d1)]) [.d (.str d1)] (.d (.int .i64 y4)) (by kernel_rfl) en112 (Res'.refl _) (F112_ok e4) ?_)
    refine J_adv 2 (J_bool 14 (b := decide (y3 < y4)) (by kernel_rfl) (fun hb2 => ?_) (fun hb2 => ?_))
    · replace hF := ift hb2 hF
      have hr_ := Option.some.inj hF; subst hr_
      exact J_adv 5 (J_ret (xs := [.d (.int .i64 (-1))]) [.d (.int .i64 (-1))] rfl rfl (by kernel_rfl) (Res'.refl _) rfl)
    · replace hF := iff' hb2 hF
      have hr_ := Option.some.inj hF; subst hr_
      exact J_adv 6 (J_ret (xs := [.d (.int .i64 1)]) [.d (.int .i64 1)] rfl rfl (by kernel_rfl) (Res'.refl _) rfl)
  · replace hF := iff' hb1 hF
    obtain ⟨y5, e5, hF⟩ := bnd hF
    refine J_adv 6 (J_callF (xs := [.d (.str d0)]) [.d (.str d0)] (.d (.bool y5)) (by kernel_rfl) en100 (Res'.refl _) (F100_ok e5) ?_)
    refine J_adv 1 (J_bool 16 (b := y5) (by kernel_rfl) (fun hb3 => ?_) (fun hb3 => ?_))
    · replace hF := ift hb3 hF
      obtain ⟨y6, e6, hF⟩ := bnd hF
      refine J_adv 4 (J_callF (xs := [.d (.str d1)]) [.d (.str d1)] (.d (.sl 1 (y6.map e_i64))) (by kernel_rfl) en114 (Res'.refl _) (F114_ok e6) ?_)
      obtain ⟨y7, e7, hF⟩ := bnd hF
      refine J_adv 1 (J_callF (xs := [.d (.str d0)]) [.d (.str d0)] (.d (.sl 1 (y7.map e_i64))) (by kernel_rfl) en114 (Res'.refl _) (F114_ok e7) ?_)
      obtain ⟨y8, e8, hF⟩ := bnd hF
      refine J_adv 0 (J_callF (xs := [.d (.sl 1 (y6.map e_i64)), .d (.sl 1 (y7.map e_i64))]) [.d (.sl 1 (y6.map e_i64)), .d (.sl 1 (y7.map e_i64))] (.d (.int .i64 y8)) (by kernel_rfl) en113 (Res'.refl _) (F113_ok e8) ?_)
      have hr_ := Option.some.inj hF; subst hr_
      exact J_adv 2 (J_ret (xs := [.d (.int .i64 y8)]) [.d (.int .i64 y8)] rfl rfl (by kernel_rfl) (Res'.refl _) rfl)
    · replace hF := iff' hb3 hF
      obtain ⟨y9, e9, hF⟩ := bnd hF
      refine J_adv 5 (J_callF (xs := [.d (.str d0)]) [.d (.str d0)] (.d (.sl 1 (y9.map e_i64))) (by kernel_rfl) en114 (Res'.refl _) (F114_ok e9) ?_)
      obtain ⟨y10, e10, hF⟩ := bnd hF
      refine J_adv 1 (J_callF (xs := [.d (.str d1)]) [.d (.str d1)] (.d (.sl 1 (y10.map e_i64))) (by kernel_rfl) en114 (Res'.refl _) (F114_ok e10) ?_)
      obtain ⟨y11, e11, hF⟩ := bnd hF
      refine J_adv 0 (J_callF (xs := [.d (.sl 1 (y9.map e_i64)), .d (.sl 1 (y10.map e_i64))]) [.d (.sl 1 (y9.map e_i64)), .d (.sl 1 (y10.map e_i64))] (.d (.int .i64 y11)) (by kernel_rfl) en113 (Res'.refl _) (F113_ok e11) ?_)
      have hr_ := Option.some.inj hF; subst hr_
      exact J_adv 2 (J_ret (xs := [.d (.int .i64 y11)]) [.d (.int .i64 y11)] rfl rfl (by kernel_rfl) (Res'.refl _) rfl)

/- croupier/croupierref01.Int -/
def F82_A2 (v6 : Int) (rec_F82_L1 : Int → Int → Option (Int × Bool)) (v7 : Int) : Option (Int × Bool) :=
  rec_F82_L1 v7 (IntKind.i64.wrap (v6 + 1))
def F82_L1 (d0 : List UInt8) : Nat → Int → Int → Option (Int × Bool)
  | 0, _, _ => none
  | n_F82_L1 + 1, v5, v6 =>
    bif decide (v6 < (d0.length : Int)) then
      (Option.bind (geti d0 v6) fun y15 =>
      bif (y15.toNat : Int) != 45 then
        (Option.bind (geti d0 v6) fun y16 =>
        F82_A2 v6 (F82_L1 d0 n_F82_L1) (IntKind.i64.wrap ((IntKind.i64.wrap (10 * v5)) - (IntKind.i64.wrap (IntKind.u8.wrap ((y16.toNat : Int) - 48))))))
      else
        (F82_A2 v6 (F82_L1 d0 n_F82_L1) v5))
    else
      (Option.bind (F100 d0) fun y17 =>
      bif !y17 then
        (some (IntKind.i64.wrap (0 - v5), true))
      else
        (some (v5, true)))
def F82 (fuel : Nat) (d0 : List UInt8) : Option (Int × Bool) :=
  Option.bind (
    Option.bind (F99 fuel d0 [45, 57, 50, 50, 51, 51, 55, 50, 48, 51, 54, 56, 53, 52, 55, 55, 53, 56, 48, 56]) fun y18 =>
    bif decide (y18 < 0) then
      (some true)
    else
      (Option.bind (F99 fuel d0 [57, 50, 50, 51, 51, 55, 50, 48, 51, 54, 56, 53, 52, 55, 55, 53, 56, 48, 55]) fun y19 =>
      some (decide (y19 > 0)))) fun o1 =>
  bif o1 then
    (some (0, false))
  else
    (F82_L1 d0 fuel 0 0)
theorem F82_ok {fuel : Nat} {d0 : List UInt8} {r : Int × Bool} (hF : F82 fuel d0 = some r) :
    CallF Tryz.prog 82 [.d (.str d0)] (.tup [.d (.int .i64 r.1), .d (.bool r.2)]) := by
  unfold F82 at hF
  refine callF_of (N := 38) (b := bodyOf Tryz.f82) Tryz.func82 (by kernel_rfl) rfl rfl ?_
  obtain ⟨o1, hO, hF⟩ := bnd hF
  have hR1 : J none Tryz.prog 38 [] (finF Tryz.prog Tryz.f82 (.tup [.d (.int .i64 r.1), .d (.bool r.2)])) ⟨mkT [(0, .d (.str d0)), (13, .d (.bool o1))], [], [.ops (opsOf (cAt (bodyOf Tryz.f82) [1, 0, 0])) [], .code (cAt (bodyOf Tryz.f82) [1, 0, 1]), .code (cAt (bodyOf Tryz.f82) [1, 1])]⟩ := by
    clear hO
    refine J_adv 1 (J_bool 13 (b := o1) (by kernel_rfl) (fun hb3 => ?_) (fun hb3 => ?_))
    · replace hF := ift hb3 hF
      have hr_ := Option.some.inj hF; subst hr_
      exact J_adv 6 (J_ret (xs := [.d (.int .i64 0), .d (.bool false)]) [.d (.int .i64 0), .d (.bool false)] rfl rfl (by kernel_rfl) (Res'.refl _) rfl)
    · replace hF := iff' hb3 hF
      have hF82_L1 : ∀ (n_F82_L1 : Nat) (v5 : Int) (v6 : Int), F82_L1 d0 n_F82_L1 v5 v6 = some r → J none Tryz.prog 38 [] (finF Tryz.prog Tryz.f82 (.tup [.d (.int .i64 r.1), .d (.bool r.2)])) ⟨mkT [(0, .d (.str d0)), (4, .d (.int .i64 v5)), (5, .d (.int .i64 v6))], [], [.inLoop (cAt (bodyOf Tryz.f82) [1, 1, 1, 0, 1, 0, 0]), .inBlock 0, .code (cAt (bodyOf Tryz.f82) [1, 1, 1, 1])]⟩ := by
        clear hF; intro n_F82_L1
        induction n_F82_L1 with
        | zero => intro v5 v6 hF; cases hF
        | succ n_F82_L1 ih_F82_L1 =>
          intro v5 v6 hF
          rw [F82_L1] at hF
          refine J_adv 9 (J_bool 17 (b := decide (v6 < (d0.length : Int))) (by kernel_rfl) (fun hb10 => ?_) (fun hb10 => ?_))
          · replace hF := ift hb10 hF
            have hF82_A2 : ∀ (v7 : Int), F82_A2 v6 (F82_L1 d0 n_F82_L1) v7 = some r → J none Tryz.prog 38 [] (finF Tryz.prog Tryz.f82 (.tup [.d (.int .i64 r.1), .d (.bool r.2)])) ⟨mkT [(0, .d (.str d0)), (4, .d (.int .i64 v7)), (5, .d (.int .i64 v6))], [], [.code (cAt (bodyOf Tryz.f82) [1, 1, 1, 0, 1, 0, 0, 1, 1]), .inLoop (cAt (bodyOf Tryz.f82) [1, 1, 1, 0, 1, 0, 0]), .inBlock 0, .code (cAt (bodyOf Tryz.f82) [1, 1, 1, 1])]⟩ := by
              intro v7 hF
              unfold F82_A2 at hF
              exact J_adv 5 (J_at [0, 4, 5] [] (T0 := [.inLoop (cAt (bodyOf Tryz.f82) [1, 1, 1, 0, 1, 0, 0]), .inBlock 0, .code (cAt (bodyOf Tryz.f82) [1, 1, 1, 1])]) (by kernel_rfl) rfl (ih_F82_L1 v7 (IntKind.i64.wrap (v6 + 1)) hF))
            obtain ⟨y15, e15, hF⟩ := bnd hF
            refine J_adv 8 (J_opt1 (o := (match geti d0 v6 with | some c => some [.int .u8 c.toNat] | none => none)) [.int .u8 y15.toNat] (by kernel_rfl) (by rw [e15]) ?_)
            refine J_adv 2 (J_bool 23 (b := (y15.toNat : Int) != 45) (by kernel_rfl) (fun hb12 => ?_) (fun hb12 => ?_))
            · replace hF := ift hb12 hF
              obtain ⟨y16, e16, hF⟩ := bnd hF
              refine J_adv 6 (J_opt1 (o := (match geti d0 v6 with | some c => some [.int .u8 c.toNat] | none => none)) [.int .u8 y16.toNat] (by kernel_rfl) (by rw [e16]) ?_)
              exact J_adv 6 (J_at [0, 4, 5] [] (T0 := [.code (cAt (bodyOf Tryz.f82) [1, 1, 1, 0, 1, 0, 0, 1, 1]), .inLoop (cAt (bodyOf Tryz.f82) [1, 1, 1, 0, 1, 0, 0]), .inBlock 0, .code (cAt (bodyOf Tryz.f82) [1, 1, 1, 1])]) (by kernel_rfl) rfl (hF82_A2 (IntKind.i64.wrap ((IntKind.i64.wrap (10 * v5)) - (IntKind.i64.wrap (IntKind.u8.wrap ((y16.toNat : Int) - 48))))) hF))
            · replace hF := iff' hb12 hF
              exact J_adv 3 (J_at [0, 4, 5] [] (T0 := [.code (cAt (bodyOf Tryz.f82) [1, 1, 1, 0, 1, 0, 0, 1, 1]), .inLoop (cAt (bodyOf Tryz.f82) [1, 1, 1, 0, 1, 0, 0]), .inBlock 0, .code (cAt (bodyOf Tryz.f82) [1, 1, 1, 1])]) (by kernel_rfl) rfl (hF82_A2 v5 hF))
          · replace hF := iff' hb10 hF
            obtain ⟨y17, e17, hF⟩ := bnd hF
            refine J_adv 6 (J_callF (xs := [.d (.str d0)]) [.d (.str d0)] (.d (.bool y17)) (by kernel_rfl) en100 (Res'.refl _) (F100_ok e17) ?_)
            refine J_adv 2 (J_bool 34 (b := !y17) (by kernel_rfl) (fun hb13 => ?_) (fun hb13 => ?_))
            · replace hF := ift hb13 hF
              have hr_ := Option.some.inj hF; subst hr_
              exact J_adv 12 (J_ret (xs := [.d (.int .i64 (IntKind.i64.wrap (0 - v5))), .d (.bool true)]) [.d (.int .i64 (IntKind.i64.wrap (0 - v5))), .d (.bool true)] rfl rfl (by kernel_rfl) (Res'.refl _) rfl)
            · replace hF := iff' hb13 hF
              have hr_ := Option.some.inj hF; subst hr_
              exact J_adv 8 (J_ret (xs := [.d (.int .i64 v5), .d (.bool true)]) [.d (.int .i64 v5), .d (.bool true)] rfl rfl (by kernel_rfl) (Res'.refl _) rfl)
      exact J_adv 13 (J_at [0, 4, 5] [] (T0 := [.inLoop (cAt (bodyOf Tryz.f82) [1, 1, 1, 0, 1, 0, 0]), .inBlock 0, .code (cAt (bodyOf Tryz.f82) [1, 1, 1, 1])]) (by kernel_rfl) rfl (hF82_L1 fuel 0 0 hF))
  clear hF; rename _ = some o1 => hF
  obtain ⟨y18, e18, hF⟩ := bnd hF
  refine J_adv 9 (J_callF (xs := [.d (.str d0), .d (.str [45, 57, 50, 50, 51, 51, 55, 50, 48, 51, 54, 56, 53, 52, 55, 55, 53, 56, 48, 56])]) [.d (.str d0), .d (.str [45, 57, 50, 50, 51, 51, 55, 50, 48, 51, 54, 56, 53, 52, 55, 55, 53, 56, 48, 56])] (.d (.int .i64 y18)) (by kernel_rfl) en99 (Res'.refl _) (F99_ok e18) ?_)
  refine J_adv 2 (J_bool 9 (b := decide (y18 < 0)) (by kernel_rfl) (fun hb14 => ?_) (fun hb14 => ?_))
  · replace hF := ift hb14 hF
    have hr_ := Option.some.inj hF; subst hr_
    exact J_adv 4 (J_at [0, 13] [] (T0 := [.ops (opsOf (cAt (bodyOf Tryz.f82) [1, 0, 0])) [], .code (cAt (bodyOf Tryz.f82) [1, 0, 1]), .code (cAt (bodyOf Tryz.f82) [1, 1])]) (by kernel_rfl) rfl hR1)
  · replace hF := iff' hb14 hF
    obtain ⟨y19, e19, hF⟩ := bnd hF
    refine J_adv 1 (J_callF (xs := [.d (.str d0), .d (.str [57, 50, 50, 51, 51, 55, 50, 48, 51, 54, 56, 53, 52, 55, 55, 53, 56, 48, 55])]) [.d (.str d0), .d (.str [57, 50, 50, 51, 51, 55, 50, 48, 51, 54, 56, 53, 52, 55, 55, 53, 56, 48, 55])] (.d (.int .i64 y19)) (by kernel_rfl) en99 (Res'.refl _) (F99_ok e19) ?_)
    have hr_ := Option.some.inj hF; subst hr_
    exact J_adv 2 (J_at [0, 13] [] (T0 := [.ops (opsOf (cAt (bodyOf Tryz.f82) [1, 0, 0])) [], .code (cAt (bodyOf Tryz.f82) [1, 0, 1]), .code (cAt (bodyOf Tryz.f82) [1, 1])]) (by kernel_rfl) rfl hR1)

/- croupier/croupierref31.guess -/
def F46_A2 (v14 : Int) (rec_F46_L1 : Int → Int → Int → Int → Int → Option T_api_Instr) (v19 : Int) (v20 : Int) (v21 : Int) (v22 : Int) : Option T_api_Instr :=
  rec_F46_L1 (IntKind.i64.wrap (v14 + 1)) v19 v20 v21 v22
def F46_L1 (fuel : Nat) (y1 : List (List UInt8)) : Nat → Int → Int → Int → Int → Int → Option T_api_Instr
  | 0, _, _, _, _, _ => none
  | n_F46_L1 + 1, v14, v15, v16, v17, v18 =>
    Option.bind (
      bif decide (v14 < ((y1.map e_s).length : Int)) then
        (some (decide (v14 < 4)))
      else
        (some false)) fun o7 =>
    bif o7 then
      (Option.bind (
        Option.bind (geti y1 v14) fun y65 =>
        Option.bind (F81 fuel y65) fun y66 =>
        bif y66 then
          (Option.bind (geti y1 v14) fun y67 =>
          some (decide ((y67.length : Int) < 9)))
        else
          (some false)) fun o9 =>
      bif o9 then
        (Option.bind (geti y1 v14) fun y63 =>
        Option.bind (F82 fuel y63) fun y64 =>
        bif decide (v14 = 0) then
          (F46_A2 v14 (F46_L1 fuel y1 n_F46_L1) y64.1 v16 v17 v18)
        else bif decide (v14 = 1) then
          (F46_A2 v14 (F46_L1 fuel y1 n_F46_L1) v15 y64.1 v17 v18)
        else bif decide (v14 = 2) then
          (F46_A2 v14 (F46_L1 fuel y1 n_F46_L1) v15 v16 y64.1 v18)
        else bif decide (v14 = 3) then
          (F46_A2 v14 (F46_L1 fuel y1 n_F46_L1) v15 v16 v17 y64.1)
        else none)
      else
        (F46_A2 v14 (F46_L1 fuel y1 n_F46_L1) v15 v16 v17 v18))
    else
      (Option.bind (geti y1 0) fun y68 =>
      bif y68 == [101, 113] then
        (some (⟨1, v16, v17, v18⟩ : T_api_Instr))
      else
        (bif y68 == [108, 101] then
          (some (⟨2, v16, v17, v18⟩ : T_api_Instr))
        else
          (bif y68 == [103, 101] then
            (some (⟨3, v16, v17, v18⟩ : T_api_Instr))
          else
            (bif y68 == [103, 111] then
              (some (⟨4, 0, 0, v16⟩ : T_api_Instr))
            else
              (some (⟨5, 0, v16, 0⟩ : T_api_Instr))))))
def F46 (fuel : Nat) (d0 : List UInt8) : Option T_api_Instr :=
  Option.bind (F80 fuel d0) fun y1 =>
  F46_L1 fuel y1 fuel 1 0 0 0 0
theorem F46_ok {fuel : Nat} {d0 : List UInt8} {r : T_api_Instr} (hF : F46 fuel d0 = some r) :
    CallF Tryz.prog 46 [.d (.str d0)] (.agg [.d (.int .i64 r.Op), .d (.int .i64 r.Var), .d (.int .i64 r.Val), .d (.int .i64 r.Go)]) := by
  unfold F46 at hF
  refine callF_of (N := 79) (b := bodyOf Tryz.f46) Tryz.func46 (by kernel_rfl) rfl rfl ?_
  obtain ⟨y1, e1, hF⟩ := bnd hF
  refine J_adv 7 (J_callF (xs := [.d (.str d0)]) [.d (.str d0)] (.d (.sl 1 (y1.map e_s))) (by kernel_rfl) en80 (Res'.refl _) (F80_ok e1) ?_)
  have hF46_L1 : ∀ (n_F46_L1 : Nat) (v14 : Int) (v15 : Int) (v16 : Int) (v17 : Int) (v18 : Int), F46_L1 fuel y1 n_F46_L1 v14 v15 v16 v17 v18 = some r → J none Tryz.prog 79 [] (finF Tryz.prog Tryz.f46 (.agg [.d (.int .i64 r.Op), .d (.int .i64 r.Var), .d (.int .i64 r.Val), .d (.int .i64 r.Go)])) ⟨mkT [(2, .ptr 2 0), (3, .d (.sl 1 (y1.map e_s))), (4, .ptr 4 0), (5, .d (.int .i64 v14))], [(2, .box 66 [.d (.int .i64 0), .d (.int .i64 0), .d (.int .i64 0), .d (.int .i64 0)]), (4, .box 139 [.d (.int .i64 v15), .d (.int .i64 v16), .d (.int .i64 v17), .d (.int .i64 v18)])], [.inLoop (cAt (bodyOf Tryz.f46) [1, 1, 1, 0, 1, 0, 0]), .inBlock 0, .code (cAt (bodyOf Tryz.f46) [1, 1, 1, 1])]⟩ := by
    clear hF; intro n_F46_L1
    induction n_F46_L1 with
    | zero => intro v14 v15 v16 v17 v18 hF; cases hF
    | succ n_F46_L1 ih_F46_L1 =>
      intro v14 v15 v16 v17 v18 hF
      rw [F46_L1] at hF
      obtain ⟨o7, hO, hF⟩ := bnd hF
      have hR7 : J none Tryz.prog 79 [] (finF Tryz.prog Tryz.f46 (.agg [.d (.int .i64 r.Op), .d (.int .i64 r.Var), .d (.int .i64 r.Val), .d (.int .i64 r.Go)])) ⟨mkT [(2, .ptr 2 0), (3, .d (.sl 1 (y1.map e_s))), (4, .ptr 4 0), (5, .d (.int .i64 v14)), (15, .d (.bool o7))], [(2, .box 66 [.d (.int .i64 0), .d (.int .i64 0), .d (.int .i64 0), .d (.int .i64 0)]), (4, .box 139 [.d (.int .i64 v15), .d (.int .i64 v16), .d (.int .i64 v17), .d (.int .i64 v18)])], [.ops (opsOf (cAt (bodyOf Tryz.f46) [1, 1, 1, 0, 1, 0, 0, 0, 0])) [], .code (cAt (bodyOf Tryz.f46) [1, 1, 1, 0, 1, 0, 0, 0, 1]), .code (cAt (bodyOf Tryz.f46) [1, 1, 1, 0, 1, 0, 0, 1]), .inLoop (cAt (bodyOf Tryz.f46) [1, 1, 1, 0, 1, 0, 0]), .inBlock 0, .code (cAt (bodyOf Tryz.f46) [1, 1, 1, 1])]⟩ := by
        clear hO
        refine J_adv 1 (J_bool 15 (b := o7) (by kernel_rfl) (fun hb43 => ?_) (fun hb43 => ?_))
        · replace hF := ift hb43 hF
          have hF46_A2 : ∀ (v19 : Int) (v20 : Int) (v21 : Int) (v22 : Int), F46_A2 v14 (F46_L1 fuel y1 n_F46_L1) v19 v20 v21 v22 = some r → J none Tryz.prog 79 [] (finF Tryz.prog Tryz.f46 (.agg [.d (.int .i64 r.Op), .d (.int .i64 r.Var), .d (.int .i64 r.Val), .d (.int .i64 r.Go)])) ⟨mkT [(2, .ptr 2 0), (3, .d (.sl 1 (y1.map e_s))), (4, .ptr 4 0), (5, .d (.int .i64 v14))], [(2, .box 66 [.d (.int .i64 0), .d (.int .i64 0), .d (.int .i64 0), .d (.int .i64 0)]), (4, .box 139 [.d (.int .i64 v19), .d (.int .i64 v20), .d (.int .i64 v21), .d (.int .i64 v22)])], [.code (cAt (bodyOf Tryz.f46) [1, 1, 1, 0, 1, 0, 0, 1, 1]), .inLoop (cAt (bodyOf Tryz.f46) [1, 1, 1, 0, 1, 0, 0]), .inBlock 0, .code (cAt (bodyOf Tryz.f46) [1, 1, 1, 1])]⟩ := by
            intro v19 v20 v21 v22 hF
            unfold F46_A2 at hF
            exact J_adv 5 (J_at [2, 3, 4, 5] [2, 4] (T0 := [.inLoop (cAt (bodyOf Tryz.f46) [1, 1, 1, 0, 1, 0, 0]), .inBlock 0, .code (cAt (bodyOf Tryz.f46) [1, 1, 1, 1])]) (by kernel_rfl) rfl (ih_F46_L1 (IntKind.i64.wrap (v14 + 1)) v19 v20 v21 v22 hF))
          obtain ⟨o9, hO, hF⟩ := bnd hF
          have hR9 : J none Tryz.prog 79 [] (finF Tryz.prog Tryz.f46 (.agg [.d (.int .i64 r.Op), .d (.int .i64 r.Var), .d (.int .i64 r.Val), .d (.int .i64 r.Go)])) ⟨mkT [(2, .ptr 2 0), (3, .d (.sl 1 (y1.map e_s))), (4, .ptr 4 0), (5, .d (.int .i64 v14)), (30, .d (.bool o9))], [(2, .box 66 [.d (.int .i64 0), .d (.int .i64 0), .d (.int .i64 0), .d (.int .i64 0)]), (4, .box 139 [.d (.int .i64 v15), .d (.int .i64 v16), .d (.int .i64 v17), .d (.int .i64 v18)])], [.ops (opsOf (cAt (bodyOf Tryz.f46) [1, 1, 1, 0, 1, 0, 0, 1, 0, 0, 0])) [], .code (cAt (bodyOf Tryz.f46) [1, 1, 1, 0, 1, 0, 0, 1, 0, 0, 1]), .inBlock 1, .code (cAt (bodyOf Tryz.f46) [1, 1, 1, 0, 1, 0, 0, 1, 1]), .inLoop (cAt (bodyOf Tryz.f46) [1, 1, 1, 0, 1, 0, 0]), .inBlock 0, .code (cAt (bodyOf Tryz.f46) [1, 1, 1, 1])]⟩ := by
            clear hO
            refine J_adv 1 (J_bool 30 (b := o9) (by kernel_rfl) (fun hb54 => ?_) (fun hb54 => ?_))
            · replace hF := ift hb54 hF
              obtain ⟨y63, e63, hF⟩ := bnd hF
              refine J_adv 5 (J_opt1 (o := geti (y1.map e_s) v14) (e_s y63) (by kernel_rfl) (gm e63) ?_)
              obtain ⟨y64, e64, hF⟩ := bnd hF
              refine J_adv 1 (J_callF (xs := [.d (.str y63)]) [.d (.str y63)] (.tup [.d (.int .i64 y64.1), .d (.bool y64.2)]) (by kernel_rfl) en82 (Res'.refl _) (F82_ok e64) ?_)
              rcases Bool.eq_false_or_eq_true (decide (v14 = 0)) with hb55 | hb55
              · replace hF := ift hb55 hF
                refine J_adv 3 (J_eqI (k := .i64) 32 (of_decide_eq_true hb55) (by kernel_rfl) ?_)
                exact J_adv 4 (J_at [2, 3, 4, 5] [2, 4] (T0 := [.code (cAt (bodyOf Tryz.f46) [1, 1, 1, 0, 1, 0, 0, 1, 1]), .inLoop (cAt (bodyOf Tryz.f46) [1, 1, 1, 0, 1, 0, 0]), .inBlock 0, .code (cAt (bodyOf Tryz.f46) [1, 1, 1, 1])]) (by kernel_rfl) rfl (hF46_A2 y64.1 v16 v17 v18 hF))
              · replace hF := iff' hb55 hF
                rcases Bool.eq_false_or_eq_true (decide (v14 = 1)) with hb56 | hb56
                · replace hF := ift hb56 hF
                  refine J_adv 3 (J_eqI (k := .i64) 32 (of_decide_eq_true hb56) (by kernel_rfl) ?_)
                  exact J_adv 4 (J_at [2, 3, 4, 5] [2, 4] (T0 := [.code (cAt (bodyOf Tryz.f46) [1, 1, 1, 0, 1, 0, 0, 1, 1]), .inLoop (cAt (bodyOf Tryz.f46) [1, 1, 1, 0, 1, 0, 0]), .inBlock 0, .code (cAt (bodyOf Tryz.f46) [1, 1, 1, 1])]) (by kernel_rfl) rfl (hF46_A2 v15 y64.1 v17 v18 hF))
                · replace hF := iff' hb56 hF
                  rcases Bool.eq_false_or_eq_true (decide (v14 = 2)) with hb57 | hb57
                  · replace hF := ift hb57 hF
                    refine J_adv 3 (J_eqI (k := .i64) 32 (of_decide_eq_true hb57) (by kernel_rfl) ?_)
                    exact J_adv 4 (J_at [2, 3, 4, 5] [2, 4] (T0 := [.code (cAt (bodyOf Tryz.f46) [1, 1, 1, 0, 1, 0, 0, 1, 1]), .inLoop (cAt (bodyOf Tryz.f46) [1, 1, 1, 0, 1, 0, 0]), .inBlock 0, .code (cAt (bodyOf Tryz.f46) [1, 1, 1, 1])]) (by kernel_rfl) rfl (hF46_A2 v15 v16 y64.1 v18 hF))
                  · replace hF := iff' hb57 hF
                    rcases Bool.eq_false_or_eq_true (decide (v14 = 3)) with hb58 | hb58
                    · replace hF := ift hb58 hF
                      refine J_adv 3 (J_eqI (k := .i64) 32 (of_decide_eq_true hb58) (by kernel_rfl) ?_)
                      exact J_adv 4 (J_at [2, 3, 4, 5] [2, 4] (T0 := [.code (cAt (bodyOf Tryz.f46) [1, 1, 1, 0, 1, 0, 0, 1, 1]), .inLoop (cAt (bodyOf Tryz.f46) [1, 1, 1, 0, 1, 0, 0]), .inBlock 0, .code (cAt (bodyOf Tryz.f46) [1, 1, 1, 1])]) (by kernel_rfl) rfl (hF46_A2 v15 v16 v17 y64.1 hF))
                    · replace hF := iff' hb58 hF
                      cases hF
            · replace hF := iff' hb54 hF
              exact J_adv 3 (J_at [2, 3, 4, 5] [2, 4] (T0 := [.code (cAt (bodyOf Tryz.f46) [1, 1, 1, 0, 1, 0, 0, 1, 1]), .inLoop (cAt (bodyOf Tryz.f46) [1, 1, 1, 0, 1, 0, 0]), .inBlock 0, .code (cAt (bodyOf Tryz.f46) [1, 1, 1, 1])]) (by kernel_rfl) rfl (hF46_A2 v15 v16 v17 v18 hF))
          clear hF; rename _ = some o9 => hF
          obtain ⟨y65, e65, hF⟩ := bnd hF
          refine J_adv 8 (J_opt1 (o := geti (y1.map e_s) v14) (e_s y65) (by kernel_rfl) (gm e65) ?_)
          obtain ⟨y66, e66, hF⟩ := bnd hF
          refine J_adv 1 (J_callF (xs := [.d (.str y65)]) [.d (.str y65)] (.d (.bool y66)) (by kernel_rfl) en81 (Res'.refl _) (F81_ok e66) ?_)
          refine J_adv 1 (J_bool 23 (b := y66) (by kernel_rfl) (fun hb59 => ?_) (fun hb59 => ?_))
          · replace hF := ift hb59 hF
            obtain ⟨y67, e67, hF⟩ := bnd hF
            refine J_adv 2 (J_opt1 (o := geti (y1.map e_s) v14) (e_s y67) (by kernel_rfl) (gm e67) ?_)
            have hr_ := Option.some.inj hF; subst hr_
            exact J_adv 4 (J_at [2, 3, 4, 5, 30] [2, 4] (T0 := [.ops (opsOf (cAt (bodyOf Tryz.f46) [1, 1, 1, 0, 1, 0, 0, 1, 0, 0, 0])) [], .code (cAt (bodyOf Tryz.f46) [1, 1, 1, 0, 1, 0, 0, 1, 0, 0, 1]), .inBlock 1, .code (cAt (bodyOf Tryz.f46) [1, 1, 1, 0, 1, 0, 0, 1, 1]), .inLoop (cAt (bodyOf Tryz.f46) [1, 1, 1, 0, 1, 0, 0]), .inBlock 0, .code (cAt (bodyOf Tryz.f46) [1, 1, 1, 1])]) (by kernel_rfl) rfl hR9)
          · replace hF := iff' hb59 hF
            have hr_ := Option.some.inj hF; subst hr_
            exact J_adv 7 (J_at [2, 3, 4, 5, 30] [2, 4] (T0 := [.ops (opsOf (cAt (bodyOf Tryz.f46) [1, 1, 1, 0, 1, 0, 0, 1, 0, 0, 0])) [], .code (cAt (bodyOf Tryz.f46) [1, 1, 1, 0, 1, 0, 0, 1, 0, 0, 1]), .inBlock 1, .code (cAt (bodyOf Tryz.f46) [1, 1, 1, 0, 1, 0, 0, 1, 1]), .inLoop (cAt (bodyOf Tryz.f46) [1, 1, 1, 0, 1, 0, 0]), .inBlock 0, .code (cAt (bodyOf Tryz.f46) [1, 1, 1, 1])]) (by kernel_rfl) rfl hR9)
        · replace hF := iff' hb43 hF
          obtain ⟨y68, e68, hF⟩ := bnd hF
          refine J_adv 6 (J_opt1 (o := geti (y1.map e_s) 0) (e_s y68) (by kernel_rfl) (gm e68) ?_)
          refine J_adv 8 (J_bool 44 (b := y68 == [101, 113]) (by kernel_rfl) (fun hb60 => ?_) (fun hb60 => ?_))
          · replace hF := ift hb60 hF
            have hr_ := Option.some.inj hF; subst hr_
            exact J_adv 12 (J_ret (xs := [.agg [.d (.int .i64 1), .d (.int .i64 v16), .d (.int .i64 v17), .d (.int .i64 v18)]]) [.agg [.d (.int .i64 1), .d (.int .i64 v16), .d (.int .i64 v17), .d (.int .i64 v18)]] rfl rfl (by kernel_rfl) (Res'.refl _) rfl)
          · replace hF := iff' hb60 hF
            refine J_adv 6 (J_bool 53 (b := y68 == [108, 101]) (by kernel_rfl) (fun hb61 => ?_) (fun hb61 => ?_))
            · replace hF := ift hb61 hF
              have hr_ := Option.some.inj hF; subst hr_
              exact J_adv 12 (J_ret (xs := [.agg [.d (.int .i64 2), .d (.int .i64 v16), .d (.int .i64 v17), .d (.int .i64 v18)]]) [.agg [.d (.int .i64 2), .d (.int .i64 v16), .d (.int .i64 v17), .d (.int .i64 v18)]] rfl rfl (by kernel_rfl) (Res'.refl _) rfl)
            · replace hF := iff' hb61 hF
              refine J_adv 6 (J_bool 62 (b := y68 == [103, 101]) (by kernel_rfl) (fun hb62 => ?_) (fun hb62 => ?_))
              · replace hF := ift hb62 hF
                have hr_ := Option.some.inj hF; subst hr_
                exact J_adv 12 (J_ret (xs := [.agg [.d (.int .i64 3), .d (.int .i64 v16), .d (.int .i64 v17), .d (.int .i64 v18)]]) [.agg [.d (.int .i64 3), .d (.int .i64 v16), .d (.int .i64 v17), .d (.int .i64 v18)]] rfl rfl (by kernel_rfl) (Res'.refl _) rfl)
              · replace hF := iff' hb62 hF
                refine J_adv 6 (J_bool 71 (b := y68 == [103, 111]) (by kernel_rfl) (fun hb63 => ?_) (fun hb63 => ?_))
                · replace hF := ift hb63 hF
                  have hr_ := Option.some.inj hF; subst hr_
                  exact J_adv 8 (J_ret (xs := [.agg [.d (.int .i64 4), .d (.int .i64 0), .d (.int .i64 0), .d (.int .i64 v16)]]) [.agg [.d (.int .i64 4), .d (.int .i64 0), .d (.int .i64 0), .d (.int .i64 v16)]] rfl rfl (by kernel_rfl) (Res'.refl _) rfl)
                · replace hF := iff' hb63 hF
                  have hr_ := Option.some.inj hF; subst hr_
                  exact J_adv 10 (J_ret (xs := [.agg [.d (.int .i64 5), .d (.int .i64 0), .d (.int .i64 v16), .d (.int .i64 0)]]) [.agg [.d (.int .i64 5), .d (.int .i64 0), .d (.int .i64 v16), .d (.int .i64 0)]] rfl rfl (by kernel_rfl) (Res'.refl _) rfl)
      clear hF; rename _ = some o7 => hF
      refine J_adv 9 (J_bool 12 (b := decide (v14 < ((y1.map e_s).length : Int))) (by kernel_rfl) (fun hb64 => ?_) (fun hb64 => ?_))
      · replace hF := ift hb64 hF
        have hr_ := Option.some.inj hF; subst hr_
        exact J_adv 3 (J_at [2, 3, 4, 5, 15] [2, 4] (T0 := [.ops (opsOf (cAt (bodyOf Tryz.f46) [1, 1, 1, 0, 1, 0, 0, 0, 0])) [], .code (cAt (bodyOf Tryz.f46) [1, 1, 1, 0, 1, 0, 0, 0, 1]), .code (cAt (bodyOf Tryz.f46) [1, 1, 1, 0, 1, 0, 0, 1]), .inLoop (cAt (bodyOf Tryz.f46) [1, 1, 1, 0, 1, 0, 0]), .inBlock 0, .code (cAt (bodyOf Tryz.f46) [1, 1, 1, 1])]) (by kernel_rfl) rfl hR7)
      · replace hF := iff' hb64 hF
        have hr_ := Option.some.inj hF; subst hr_
        exact J_adv 3 (J_at [2, 3, 4, 5, 15] [2, 4] (T0 := [.ops (opsOf (cAt (bodyOf Tryz.f46) [1, 1, 1, 0, 1, 0, 0, 0, 0])) [], .code (cAt (bodyOf Tryz.f46) [1, 1, 1, 0, 1, 0, 0, 0, 1]), .code (cAt (bodyOf Tryz.f46) [1, 1, 1, 0, 1, 0, 0, 1]), .inLoop (cAt (bodyOf Tryz.f46) [1, 1, 1, 0, 1, 0, 0]), .inBlock 0, .code (cAt (bodyOf Tryz.f46) [1, 1, 1, 1])]) (by kernel_rfl) rfl hR7)
  exact J_adv 13 (J_at [2, 3, 4, 5] [2, 4] (T0 := [.inLoop (cAt (bodyOf Tryz.f46) [1, 1, 1, 0, 1, 0, 0]), .inBlock 0, .code (cAt (bodyOf Tryz.f46) [1, 1, 1, 1])]) (by kernel_rfl) rfl (hF46_L1 fuel 1 0 0 0 0 hF))

/- croupier/croupierref31.Parse -/
def F16_A2 (v6 : Int) (rec_F16_L1 : Int → Int → (List T_api_Instr) → Option (List T_api_Instr × Int)) (v7 : Int) (l10 : List T_api_Instr) : Option (List T_api_Instr × Int) :=
  rec_F16_L1 v7 (IntKind.i64.wrap (v6 + 1)) l10
def F16_L1 (fuel : Nat) (d0 : List UInt8) : Nat → Int → Int → (List T_api_Instr) → Option (List T_api_Instr × Int)
  | 0, _, _, _ => none
  | n_F16_L1 + 1, v5, v6, l8 =>
    bif decide (v6 < (d0.length : Int)) then
      (Option.bind (geti d0 v6) fun y11 =>
      bif (y11.toNat : Int) == 10 then
        (ass (decide (0 ≤ v5) && decide (v5 ≤ v6) && decide (v6 ≤ d0.length)) <|
        Option.bind (F46 fuel ((d0.drop (Int.toNat v5)).take (Int.toNat (v6 - v5)))) fun y12 =>
        Option.bind (app l8 [y12]) fun l11 =>
        F16_A2 v6 (F16_L1 fuel d0 n_F16_L1) (IntKind.i64.wrap (v6 + 1)) l11)
      else
        (F16_A2 v6 (F16_L1 fuel d0 n_F16_L1) v5 l8))
    else
      (Option.bind (
        Option.bind (F38 fuel l8) fun y17 =>
        bif !y17 then
          (some (l8, true))
        else
          (Option.bind (F13 fuel l8) fun y18 =>
          some (l8, !(y18 == d0)))) fun o1 =>
      bif o1.2 then
        (some ([], 5))
      else
        (some (o1.1, 0)))
def F16 (fuel : Nat) (d0 : List UInt8) : Option (List T_api_Instr × Int) :=
  bif decide ((d0.length : Int) > 2000) then
    (some ([], 3))
  else
    (F16_L1 fuel d0 fuel 0 0 [])
theorem F16_ok {fuel : Nat} {d0 : List UInt8} {r : List T_api_Instr × Int} (hF : F16 fuel d0 = some r) :
    CallF Tryz.prog 16 [.d (.str d0)] (.tup [.d (.sl 4 (r.1.map e_T_api_Instr)), .d (.int .i64 r.2)]) := by
  unfold F16 at hF
  refine callF_of (N := 40) (b := bodyOf Tryz.f16) Tryz.func16 (by kernel_rfl) rfl rfl ?_
  refine J_adv 12 (J_bool 9 (b := decide ((d0.length : Int) > 2000)) (by kernel_rfl) (fun hb1 => ?_) (fun hb1 => ?_))
  · replace hF := ift hb1 hF
    have hr_ := Option.some.inj hF; subst hr_
    exact J_adv 6 (J_ret (xs := [.d (.sl 4 ([].map e_T_api_Instr)), .d (.int .i64 3)]) [.d (.sl 4 ([].map e_T_api_Instr)), .d (.int .i64 3)] rfl rfl (by kernel_rfl) (Res'.refl _) rfl)
  · replace hF := iff' hb1 hF
    have hF16_L1 : ∀ (n_F16_L1 : Nat) (v5 : Int) (v6 : Int) (l8 : List T_api_Instr), F16_L1 fuel d0 n_F16_L1 v5 v6 l8 = some r → J none Tryz.prog 40 [] (finF Tryz.prog Tryz.f16 (.tup [.d (.sl 4 (r.1.map e_T_api_Instr)), .d (.int .i64 r.2)])) ⟨mkT [(0, .d (.str d0)), (4, .suf 27 0 0), (5, .d (.int .i64 v5)), (6, .d (.int .i64 v6))], [(27, .buf 0 66 4 (l8.map e_T_api_Instr))], [.inLoop (cAt (bodyOf Tryz.f16) [1, 1, 1, 1, 0, 1, 0, 0]), .inBlock 0, .code (cAt (bodyOf Tryz.f16) [1, 1, 1, 1, 1])]⟩ := by
      clear hF; intro n_F16_L1
      induction n_F16_L1 with
      | zero => intro v5 v6 l8 hF; cases hF
      | succ n_F16_L1 ih_F16_L1 =>
        intro v5 v6 l8 hF
        rw [F16_L1] at hF
        refine J_adv 9 (J_bool 13 (b := decide (v6 < (d0.length : Int))) (by kernel_rfl) (fun hb12 => ?_) (fun hb12 => ?_))
        · replace hF := ift hb12 hF
          have hF16_A2 : ∀ (v7 : Int) (l10 : List T_api_Instr), F16_A2 v6 (F16_L1 fuel d0 n_F16_L1) v7 l10 = some r → J none Tryz.prog 40 [] (finF Tryz.prog Tryz.f16 (.tup [.d (.sl 4 (r.1.map e_T_api_Instr)), .d (.int .i64 r.2)])) ⟨mkT [(0, .d (.str d0)), (4, .suf 27 0 0), (5, .d (.int .i64 v7)), (6, .d (.int .i64 v6))], [(27, .buf 0 66 4 (l10.map e_T_api_Instr))], [.code (cAt (bodyOf Tryz.f16) [1, 1, 1, 1, 0, 1, 0, 0, 1, 1]), .inLoop (cAt (bodyOf Tryz.f16) [1, 1, 1, 1, 0, 1, 0, 0]), .inBlock 0, .code (cAt (bodyOf Tryz.f16) [1, 1, 1, 1, 1])]⟩ := by
            intro v7 l10 hF
            unfold F16_A2 at hF
            exact J_adv 5 (J_at [0, 4, 5, 6] [27] (T0 := [.inLoop (cAt (bodyOf Tryz.f16) [1, 1, 1, 1, 0, 1, 0, 0]), .inBlock 0, .code (cAt (bodyOf Tryz.f16) [1, 1, 1, 1, 1])]) (by kernel_rfl) rfl (ih_F16_L1 v7 (IntKind.i64.wrap (v6 + 1)) l10 hF))
          obtain ⟨y11, e16, hF⟩ := bnd hF
          refine J_adv 8 (J_opt1 (o := (match geti d0 v6 with | some c => some [.int .u8 c.toNat] | none => none)) [.int .u8 y11.toNat] (by kernel_rfl) (by rw [e16]) ?_)
          refine J_adv 2 (J_bool 19 (b := (y11.toNat : Int) == 10) (by kernel_rfl) (fun hb15 => ?_) (fun hb15 => ?_))
          · replace hF := ift hb15 hF
            obtain ⟨hb16, hF⟩ := assd hF
            refine J_adv 7 (J_opt1 (o := chk (decide (0 ≤ v5) && decide (v5 ≤ v6) && decide (v6 ≤ d0.length))) [] (by kernel_rfl) (ck hb16) ?_)
            obtain ⟨y12, e17, hF⟩ := bnd hF
            refine J_adv 0 (J_callF (xs := [.d (.str ((d0.drop (Int.toNat v5)).take (Int.toNat (v6 - v5))))]) [.d (.str ((d0.drop (Int.toNat v5)).take (Int.toNat (v6 - v5))))] (.agg [.d (.int .i64 y12.Op), .d (.int .i64 y12.Var), .d (.int .i64 y12.Val), .d (.int .i64 y12.Go)]) (by kernel_rfl) en46 (Res'.refl _) (F46_ok e17) ?_)
            obtain ⟨l11, e18, hF⟩ := bnd hF
            refine J_adv 1 (J_opt2 (o := app2 ((l8.map e_T_api_Instr).drop 0) ([y12].map e_T_api_Instr)) (l11.map e_T_api_Instr) (by kernel_rfl) (am e18) ?_)
            exact J_adv 8 (J_at [0, 4, 5, 6] [27] (T0 := [.code (cAt (bodyOf Tryz.f16) [1, 1, 1, 1, 0, 1, 0, 0, 1, 1]), .inLoop (cAt (bodyOf Tryz.f16) [1, 1, 1, 1, 0, 1, 0, 0]), .inBlock 0, .code (cAt (bodyOf Tryz.f16) [1, 1, 1, 1, 1])]) (by kernel_rfl) rfl (hF16_A2 (IntKind.i64.wrap (v6 + 1)) l11 hF))
          · replace hF := iff' hb15 hF
            exact J_adv 3 (J_at [0, 4, 5, 6] [27] (T0 := [.code (cAt (bodyOf Tryz.f16) [1, 1, 1, 1, 0, 1, 0, 0, 1, 1]), .inLoop (cAt (bodyOf Tryz.f16) [1, 1, 1, 1, 0, 1, 0, 0]), .inBlock 0, .code (cAt (bodyOf Tryz.f16) [1, 1, 1, 1, 1])]) (by kernel_rfl) rfl (hF16_A2 v5 l8 hF))
        · replace hF := iff' hb12 hF
          obtain ⟨o1, hO, hF⟩ := bnd hF
          have hR1 : J none Tryz.prog 40 [] (finF Tryz.prog Tryz.f16 (.tup [.d (.sl 4 (r.1.map e_T_api_Instr)), .d (.int .i64 r.2)])) ⟨mkT [(4, .d (.sl 4 (o1.1.map e_T_api_Instr))), (38, .d (.bool o1.2))], [], [.ops (opsOf (cAt (bodyOf Tryz.f16) [1, 1, 1, 1, 1, 0, 0])) [], .code (cAt (bodyOf Tryz.f16) [1, 1, 1, 1, 1, 0, 1]), .code (cAt (bodyOf Tryz.f16) [1, 1, 1, 1, 1, 1])]⟩ := by
            clear hO
            refine J_adv 1 (J_bool 38 (b := o1.2) (by kernel_rfl) (fun hb19 => ?_) (fun hb19 => ?_))
            · replace hF := ift hb19 hF
              have hr_ := Option.some.inj hF; subst hr_
              exact J_adv 6 (J_ret (xs := [.d (.sl 4 ([].map e_T_api_Instr)), .d (.int .i64 5)]) [.d (.sl 4 ([].map e_T_api_Instr)), .d (.int .i64 5)] rfl rfl (by kernel_rfl) (Res'.refl _) rfl)
            · replace hF := iff' hb19 hF
              have hr_ := Option.some.inj hF; subst hr_
              exact J_adv 8 (J_ret (xs := [.d (.sl 4 (o1.1.map e_T_api_Instr)), .d (.int .i64 0)]) [.d (.sl 4 (o1.1.map e_T_api_Instr)), .d (.int .i64 0)] rfl rfl (by kernel_rfl) (Res'.refl _) rfl)
          clear hF; rename _ = some o1 => hF
          obtain ⟨y17, e23, hF⟩ := bnd hF
          refine J_adv 6 (J_callF (xs := [.d (.sl 4 (l8.map e_T_api_Instr))]) [.d (.sl 4 (l8.map e_T_api_Instr))] (.d (.bool y17)) (by kernel_rfl) en38 (Res'.refl _) (F38_ok e23) ?_)
          refine J_adv 2 (J_bool 33 (b := !y17) (by kernel_rfl) (fun hb20 => ?_) (fun hb20 => ?_))
          · replace hF := ift hb20 hF
            have hr_ := Option.some.inj hF; subst hr_
            exact J_adv 5 (J_at [4, 38] [] (T0 := [.ops (opsOf (cAt (bodyOf Tryz.f16) [1, 1, 1, 1, 1, 0, 0])) [], .code (cAt (bodyOf Tryz.f16) [1, 1, 1, 1, 1, 0, 1]), .code (cAt (bodyOf Tryz.f16) [1, 1, 1, 1, 1, 1])]) (by kernel_rfl) rfl hR1)
          · replace hF := iff' hb20 hF
            obtain ⟨y18, e24, hF⟩ := bnd hF
            refine J_adv 1 (J_callF (xs := [.d (.sl 4 (l8.map e_T_api_Instr))]) [.d (.sl 4 (l8.map e_T_api_Instr))] (.d (.str y18)) (by kernel_rfl) en13 (Res'.refl _) (F13_ok e24) ?_)
            have hr_ := Option.some.inj hF; subst hr_
            exact J_adv 3 (J_at [4, 38] [] (T0 := [.ops (opsOf (cAt (bodyOf Tryz.f16) [1, 1, 1, 1, 1, 0, 0])) [], .code (cAt (bodyOf Tryz.f16) [1, 1, 1, 1, 1, 0, 1]), .code (cAt (bodyOf Tryz.f16) [1, 1, 1, 1, 1, 1])]) (by kernel_rfl) rfl hR1)
    refine J_adv 17 (J_own (n := 4) 4 27 66 4 (by kernel_rfl) (by kernel_rfl) ?_)
    exact J_adv 0 (J_at [0, 4, 5, 6] [27] (T0 := [.inLoop (cAt (bodyOf Tryz.f16) [1, 1, 1, 1, 0, 1, 0, 0]), .inBlock 0, .code (cAt (bodyOf Tryz.f16) [1, 1, 1, 1, 1])]) (by kernel_rfl) rfl (hF16_L1 fuel 0 0 [] hF))

/- croupier/croupierlaw31.CodeParses -/
def F4_L2 (fuel : Nat) (d1 : T_croupierlaw31_Edit) (d3 : List UInt8) (x2 : List UInt8) (y3 : List UInt8) (y4 : List UInt8) (y6 : List UInt8) : Nat → Int → Option Bool
  | 0, _ => none
  | n_F4_L2 + 1, v2 =>
    bif decide (v2 < 5) then
      (Option.bind (geti [y3, y4, y6, (d3.drop (Int.toNat 0)).take (Int.toNat ((bif decide (200 < (d3.length : Int)) then 200 else (d3.length : Int)) - 0)), (x2.drop (Int.toNat 0)).take (Int.toNat ((IntKind.i64.wrap (2000 + (IntKind.i64.wrap (Int.tmod d1.Less 2)))) - 0))] v2) fun y19 =>
      Option.bind (F15 fuel y19) fun y20 =>
      Option.bind (F16 fuel y19) fun y21 =>
      Option.bind (
        bif y20.2 != y21.2 then
          (some true)
        else
          (Option.bind (F17 fuel y20.1 y21.1) fun y24 =>
          some (!y24))) fun o3 =>
      bif o3 then
        (some false)
      else
        ((F4_L2 fuel d1 d3 x2 y3 y4 y6 n_F4_L2) (IntKind.i64.wrap (v2 + 1))))
    else
      (some true)
def F4_L1 (fuel : Nat) (d1 : T_croupierlaw31_Edit) (d2 : T_croupierlaw31_Edit) (d3 : List UInt8) (y3 : List UInt8) : Nat → (List UInt8) → Option Bool
  | 0, _ => none
  | n_F4_L1 + 1, x2 =>
    bif decide ((x2.length : Int) < 2001) then
      (ass (decide (x2.length + y3.length ≤ 4611686018427387904)) <|
      (F4_L1 fuel d1 d2 d3 y3 n_F4_L1) (x2 ++ y3))
    else
      (Option.bind (F14 d1 y3) fun y4 =>
      Option.bind (F14 d1 y3) fun y5 =>
      Option.bind (F14 d2 y5) fun y6 =>
      ass (decide (0 ≤ 0) && decide (0 ≤ (bif decide (200 < (d3.length : Int)) then 200 else (d3.length : Int))) && decide ((bif decide (200 < (d3.length : Int)) then 200 else (d3.length : Int)) ≤ d3.length)) <|
      ass (decide (0 ≤ 0) && decide (0 ≤ (IntKind.i64.wrap (2000 + (IntKind.i64.wrap (Int.tmod d1.Less 2))))) && decide ((IntKind.i64.wrap (2000 + (IntKind.i64.wrap (Int.tmod d1.Less 2)))) ≤ x2.length)) <|
      F4_L2 fuel d1 d3 x2 y3 y4 y6 fuel 0)
def F4 (fuel : Nat) (d0 : List A_a4i8) (d1 : T_croupierlaw31_Edit) (d2 : T_croupierlaw31_Edit) (d3 : List UInt8) : Option Bool :=
  Option.bind (F8 fuel) fun y1 =>
  bif !y1 then
    (some false)
  else
    (Option.bind (F9 fuel d0) fun y2 =>
    Option.bind (F13 fuel y2) fun y3 =>
    F4_L1 fuel d1 d2 d3 y3 fuel y3)
theorem F4_ok {fuel : Nat} {d0 : List A_a4i8} {d1 : T_croupierlaw31_Edit} {d2 : T_croupierlaw31_Edit} {d3 : List UInt8} {r : Bool} (hF : F4 fuel d0 d1 d2 d3 = some r) :
    CallF Tryz.prog 4 [.d (.sl 4 (d0.map e_a4i8)), .agg [.d (.int .u16 d1.At), .d (.int .u8 d1.Less), .d (.str d1.Text)], .agg [.d (.int .u16 d2.At), .d (.int .u8 d2.Less), .d (.str d2.Text)], .d (.str d3)] (.d (.bool r)) := by
  unfold F4 at hF
  refine callF_of (N := 74) (b := bodyOf Tryz.f4) Tryz.func4 (by kernel_rfl) rfl rfl ?_
  obtain ⟨y1, e1, hF⟩ := bnd hF
  refine J_adv 9 (J_callF (xs := []) [] (.d (.bool y1)) (by kernel_rfl) en8 (Res'.refl _) (F8_ok e1) ?_)
  refine J_adv 2 (J_bool 18 (b := !y1) (by kernel_rfl) (fun hb1 => ?_) (fun hb1 => ?_))
  · replace hF := ift hb1 hF
    have hr_ := Option.some.inj hF; subst hr_
    exact J_adv 5 (J_ret (xs := [.d (.bool false)]) [.d (.bool false)] rfl rfl (by kernel_rfl) (Res'.refl _) rfl)
  · replace hF := iff' hb1 hF
    obtain ⟨y2, e2, hF⟩ := bnd hF
    refine J_adv 5 (J_callF (xs := [.d (.sl 4 (d0.map e_a4i8))]) [.d (.sl 4 (d0.map e_a4i8))] (.d (.sl 4 (y2.map e_T_api_Instr))) (by kernel_rfl) en9 (Res'.refl _) (F9_ok e2) ?_)
    obtain ⟨y3, e3, hF⟩ := bnd hF
    refine J_adv 0 (J_callF (xs := [.d (.sl 4 (y2.map e_T_api_Instr))]) [.d (.sl 4 (y2.map e_T_api_Instr))] (.d (.str y3)) (by kernel_rfl) en13 (Res'.refl _) (F13_ok e3) ?_)
    have hF4_L1 : ∀ (n_F4_L1 : Nat) (x2 : List UInt8), F4_L1 fuel d1 d2 d3 y3 n_F4_L1 x2 = some r → J none Tryz.prog 74 [] (finF Tryz.prog Tryz.f4 (.d (.bool r))) ⟨mkT [(3, .d (.str d3)), (5, .ptr 5 0), (6, .ptr 6 0), (9, .d (.str y3)), (10, .d (.str x2))], [(5, .box 40 [.d (.int .u16 d1.At), .d (.int .u8 d1.Less), .d (.str d1.Text)]), (6, .box 40 [.d (.int .u16 d2.At), .d (.int .u8 d2.Less), .d (.str d2.Text)])], [.inLoop (cAt (bodyOf Tryz.f4) [1, 1, 1, 1, 0, 0, 0]), .inBlock 0, .code (cAt (bodyOf Tryz.f4) [1, 1, 1, 1, 1])]⟩ := by
      clear hF; intro n_F4_L1
      induction n_F4_L1 with
      | zero => intro x2 hF; cases hF
      | succ n_F4_L1 ih_F4_L1 =>
        intro x2 hF
        rw [F4_L1] at hF
        refine J_adv 8 (J_bool 25 (b := decide ((x2.length : Int) < 2001)) (by kernel_rfl) (fun hb6 => ?_) (fun hb6 => ?_))
        · replace hF := ift hb6 hF
          obtain ⟨hb7, hF⟩ := assd hF
          refine J_adv 6 (J_opt1 (o := chk (decide (x2.length + y3.length ≤ 4611686018427387904))) [] (by kernel_rfl) (ck hb7) ?_)
          exact J_adv 3 (J_at [3, 5, 6, 9, 10] [5, 6] (T0 := [.inLoop (cAt (bodyOf Tryz.f4) [1, 1, 1, 1, 0, 0, 0]), .inBlock 0, .code (cAt (bodyOf Tryz.f4) [1, 1, 1, 1, 1])]) (by kernel_rfl) rfl (ih_F4_L1 (x2 ++ y3) hF))
        · replace hF := iff' hb6 hF
          refine J_adv 4 (J_draw (by kernel_rfl) (by kernel_rfl) ?_)
          obtain ⟨y4, e4, hF⟩ := bnd hF
          refine JD_adv 3 (JD_callF (xs := [.agg [.d (.int .u16 d1.At), .d (.int .u8 d1.Less), .d (.str d1.Text)], .d (.str y3)]) [.agg [.d (.int .u16 d1.At), .d (.int .u8 d1.Less), .d (.str d1.Text)], .d (.str y3)] (.d (.str y4)) (by kernel_rfl) (by kernel_rfl) en14 (Res'.refl _) (F14_ok e4) ?_)
          obtain ⟨y5, e5, hF⟩ := bnd hF
          refine JD_adv 3 (JD_callF (xs := [.agg [.d (.int .u16 d1.At), .d (.int .u8 d1.Less), .d (.str d1.Text)], .d (.str y3)]) [.agg [.d (.int .u16 d1.At), .d (.int .u8 d1.Less), .d (.str d1.Text)], .d (.str y3)] (.d (.str y5)) (by kernel_rfl) (by kernel_rfl) en14 (Res'.refl _) (F14_ok e5) ?_)
          obtain ⟨y6, e6, hF⟩ := bnd hF
          refine JD_adv 0 (JD_callF (xs := [.agg [.d (.int .u16 d2.At), .d (.int .u8 d2.Less), .d (.str d2.Text)], .d (.str y5)]) [.agg [.d (.int .u16 d2.At), .d (.int .u8 d2.Less), .d (.str d2.Text)], .d (.str y5)] (.d (.str y6)) (by kernel_rfl) (by kernel_rfl) en14 (Res'.refl _) (F14_ok e6) ?_)
          obtain ⟨hb8, hF⟩ := assd hF
          refine JD_adv 4 (JD_opt1 (o := chk (decide (0 ≤ 0) && decide (0 ≤ (bif decide (200 < (d3.length : Int)) then 200 else (d3.length : Int))) && decide ((bif decide (200 < (d3.length : Int)) then 200 else (d3.length : Int)) ≤ d3.length))) [] (by kernel_rfl) (by kernel_rfl) (ck hb8) ?_)
          obtain ⟨hb9, hF⟩ := assd hF
          refine JD_adv 6 (JD_opt1 (o := chk (decide (0 ≤ 0) && decide (0 ≤ (IntKind.i64.wrap (2000 + (IntKind.i64.wrap (Int.tmod d1.Less 2))))) && decide ((IntKind.i64.wrap (2000 + (IntKind.i64.wrap (Int.tmod d1.Less 2)))) ≤ x2.length))) [] (by kernel_rfl) (by kernel_rfl) (ck hb9) ?_)
          refine JD_adv 2 (JD_end (by kernel_rfl) ?_)
          have hF4_L2 : ∀ (n_F4_L2 : Nat) (v2 : Int), F4_L2 fuel d1 d3 x2 y3 y4 y6 n_F4_L2 v2 = some r → J none Tryz.prog 74 [] (finF Tryz.prog Tryz.f4 (.d (.bool r))) ⟨mkT [(50, .agg [.d (.str y3), .d (.str y4), .d (.str y6), .d (.str ((d3.drop (Int.toNat 0)).take (Int.toNat ((bif decide (200 < (d3.length : Int)) then 200 else (d3.length : Int)) - 0)))), .d (.str ((x2.drop (Int.toNat 0)).take (Int.toNat ((IntKind.i64.wrap (2000 + (IntKind.i64.wrap (Int.tmod d1.Less 2)))) - 0))))]), (51, .d (.int .i64 v2))], [], [.inLoop (cAt (bodyOf Tryz.f4) [1, 1, 1, 1, 1, 0, 1, 0, 0]), .inBlock 2, .code (cAt (bodyOf Tryz.f4) [1, 1, 1, 1, 1, 1])]⟩ := by
            clear hF; intro n_F4_L2
            induction n_F4_L2 with
            | zero => intro v2 hF; cases hF
            | succ n_F4_L2 ih_F4_L2 =>
              intro v2 hF
              rw [F4_L2] at hF
              refine J_adv 6 (J_bool 52 (b := decide (v2 < 5)) (by kernel_rfl) (fun hb20 => ?_) (fun hb20 => ?_))
              · replace hF := ift hb20 hF
                obtain ⟨y19, e19, hF⟩ := bnd hF
                refine J_adv 6 (J_opt1 (o := geti (chunks 1 5 ([.str y3, .str y4, .str y6, .str ((d3.drop (Int.toNat 0)).take (Int.toNat ((bif decide (200 < (d3.length : Int)) then 200 else (d3.length : Int)) - 0))), .str ((x2.drop (Int.toNat 0)).take (Int.toNat ((IntKind.i64.wrap (2000 + (IntKind.i64.wrap (Int.tmod d1.Less 2)))) - 0)))] : List Dat)) v2) (e_s y19) (by kernel_rfl) (gm (f := e_s) e19) ?_)
                obtain ⟨y20, e20, hF⟩ := bnd hF
                refine J_adv 5 (J_callF (xs := [.d (.str y19)]) [.d (.str y19)] (.tup [.d (.sl 4 (y20.1.map e_T_api_Instr)), .d (.int .i64 y20.2)]) (by kernel_rfl) en15 (Res'.refl _) (F15_ok e20) ?_)
                obtain ⟨y21, e21, hF⟩ := bnd hF
                refine J_adv 9 (J_callF (xs := [.d (.str y19)]) [.d (.str y19)] (.tup [.d (.sl 4 (y21.1.map e_T_api_Instr)), .d (.int .i64 y21.2)]) (by kernel_rfl) en16 (Res'.refl _) (F16_ok e21) ?_)
                obtain ⟨o3, hO, hF⟩ := bnd hF
                have hR3 : J none Tryz.prog 74 [] (finF Tryz.prog Tryz.f4 (.d (.bool r))) ⟨mkT [(50, .agg [.d (.str y3), .d (.str y4), .d (.str y6), .d (.str ((d3.drop (Int.toNat 0)).take (Int.toNat ((bif decide (200 < (d3.length : Int)) then 200 else (d3.length : Int)) - 0)))), .d (.str ((x2.drop (Int.toNat 0)).take (Int.toNat ((IntKind.i64.wrap (2000 + (IntKind.i64.wrap (Int.tmod d1.Less 2)))) - 0))))]), (51, .d (.int .i64 v2)), (72, .d (.bool o3))], [], [.ops (opsOf (cAt (bodyOf Tryz.f4) [1, 1, 1, 1, 1, 0, 1, 0, 0, 1, 1, 0, 0, 1, 1, 1, 0])) [], .code (cAt (bodyOf Tryz.f4) [1, 1, 1, 1, 1, 0, 1, 0, 0, 1, 1, 0, 0, 1, 1, 1, 1]), .inBlock 3, .code (cAt (bodyOf Tryz.f4) [1, 1, 1, 1, 1, 0, 1, 0, 0, 1, 1, 1]), .inLoop (cAt (bodyOf Tryz.f4) [1, 1, 1, 1, 1, 0, 1, 0, 0]), .inBlock 2, .code (cAt (bodyOf Tryz.f4) [1, 1, 1, 1, 1, 1])]⟩ := by
                  clear hO
                  refine J_adv 1 (J_bool 72 (b := o3) (by kernel_rfl) (fun hb23 => ?_) (fun hb23 => ?_))
                  · replace hF := ift hb23 hF
                    have hr_ := Option.some.inj hF; subst hr_
                    exact J_adv 5 (J_ret (xs := [.d (.bool false)]) [.d (.bool false)] rfl rfl (by kernel_rfl) (Res'.refl _) rfl)
                  · replace hF := iff' hb23 hF
                    exact J_adv 7 (J_at [50, 51] [] (T0 := [.inLoop (cAt (bodyOf Tryz.f4) [1, 1, 1, 1, 1, 0, 1, 0, 0]), .inBlock 2, .code (cAt (bodyOf Tryz.f4) [1, 1, 1, 1, 1, 1])]) (by kernel_rfl) rfl (ih_F4_L2 (IntKind.i64.wrap (v2 + 1)) hF))
                clear hF; rename _ = some o3 => hF
                refine J_adv 12 (J_bool 67 (b := y20.2 != y21.2) (by kernel_rfl) (fun hb24 => ?_) (fun hb24 => ?_))
                · replace hF := ift hb24 hF
                  have hr_ := Option.some.inj hF; subst hr_
                  exact J_adv 5 (J_at [50, 51, 72] [] (T0 := [.ops (opsOf (cAt (bodyOf Tryz.f4) [1, 1, 1, 1, 1, 0, 1, 0, 0, 1, 1, 0, 0, 1, 1, 1, 0])) [], .code (cAt (bodyOf Tryz.f4) [1, 1, 1, 1, 1, 0, 1, 0, 0, 1, 1, 0, 0, 1, 1, 1, 1]), .inBlock 3, .code (cAt (bodyOf Tryz.f4) [1, 1, 1, 1, 1, 0, 1, 0, 0, 1, 1, 1]), .inLoop (cAt (bodyOf Tryz.f4) [1, 1, 1, 1, 1, 0, 1, 0, 0]), .inBlock 2, .code (cAt (bodyOf Tryz.f4) [1, 1, 1, 1, 1, 1])]) (by kernel_rfl) rfl hR3)
                · replace hF := iff' hb24 hF
                  obtain ⟨y24, e24, hF⟩ := bnd hF
                  refine J_adv 2 (J_callF (xs := [.d (.sl 4 (y20.1.map e_T_api_Instr)), .d (.sl 4 (y21.1.map e_T_api_Instr))]) [.d (.sl 4 (y20.1.map e_T_api_Instr)), .d (.sl 4 (y21.1.map e_T_api_Instr))] (.d (.bool y24)) (by kernel_rfl) en17 (Res'.refl _) (F17_ok e24) ?_)
                  have hr_ := Option.some.inj hF; subst hr_
                  exact J_adv 2 (J_at [50, 51, 72] [] (T0 := [.ops (opsOf (cAt (bodyOf Tryz.f4) [1, 1, 1, 1, 1, 0, 1, 0, 0, 1, 1, 0, 0, 1, 1, 1, 0])) [], .code (cAt (bodyOf Tryz.f4) [1, 1, 1, 1, 1, 0, 1, 0, 0, 1, 1, 0, 0, 1, 1, 1, 1]), .inBlock 3, .code (cAt (bodyOf Tryz.f4) [1, 1, 1, 1, 1, 0, 1, 0, 0, 1, 1, 1]), .inLoop (cAt (bodyOf Tryz.f4) [1, 1, 1, 1, 1, 0, 1, 0, 0]), .inBlock 2, .code (cAt (bodyOf Tryz.f4) [1, 1, 1, 1, 1, 1])]) (by kernel_rfl) rfl hR3)
              · replace hF := iff' hb20 hF
                have hr_ := Option.some.inj hF; subst hr_
                exact J_adv 6 (J_ret (xs := [.d (.bool true)]) [.d (.bool true)] rfl rfl (by kernel_rfl) (Res'.refl _) rfl)
          exact J_adv 2 (J_at [50, 51] [] (T0 := [.inLoop (cAt (bodyOf Tryz.f4) [1, 1, 1, 1, 1, 0, 1, 0, 0]), .inBlock 2, .code (cAt (bodyOf Tryz.f4) [1, 1, 1, 1, 1, 1])]) (by kernel_rfl) rfl (hF4_L2 fuel 0 hF))
    exact J_adv 10 (J_at [3, 5, 6, 9, 10] [5, 6] (T0 := [.inLoop (cAt (bodyOf Tryz.f4) [1, 1, 1, 1, 0, 0, 0]), .inBlock 0, .code (cAt (bodyOf Tryz.f4) [1, 1, 1, 1, 1])]) (by kernel_rfl) rfl (hF4_L1 fuel y3 hF))

end Go.Proofs.YtilfjfpemjfalaaGreatDoor
