import Derived.Test.YtilfjfpemjfalaaGreatDoorFSe
import Derived.KernelRfl
set_option linter.unusedVariables false
set_option maxRecDepth 100000
namespace Go.Proofs.YtilfjfpemjfalaaGreatDoor
open Go Go.RowKit Kx

theorem en9 : entersT Tryz.prog 9 := Kx.enters_of Tryz.func9 (by kernel_rfl) (by kernel_rfl)
theorem en10 : entersT Tryz.prog 10 := Kx.enters_of Tryz.func10 (by kernel_rfl) (by kernel_rfl)
theorem en70 : entersT Tryz.prog 70 := Kx.enters_of Tryz.func70 (by kernel_rfl) (by kernel_rfl)
theorem en53 : entersT Tryz.prog 53 := Kx.enters_of Tryz.func53 (by kernel_rfl) (by kernel_rfl)
theorem en71 : entersT Tryz.prog 71 := Kx.enters_of Tryz.func71 (by kernel_rfl) (by kernel_rfl)
theorem en38 : entersT Tryz.prog 38 := Kx.enters_of Tryz.func38 (by kernel_rfl) (by kernel_rfl)
theorem en72 : entersT Tryz.prog 72 := Kx.enters_of Tryz.func72 (by kernel_rfl) (by kernel_rfl)
theorem en39 : entersT Tryz.prog 39 := Kx.enters_of Tryz.func39 (by kernel_rfl) (by kernel_rfl)
theorem en40 : entersT Tryz.prog 40 := Kx.enters_of Tryz.func40 (by kernel_rfl) (by kernel_rfl)
theorem en73 : entersT Tryz.prog 73 := Kx.enters_of Tryz.func73 (by kernel_rfl) (by kernel_rfl)
theorem en41 : entersT Tryz.prog 41 := Kx.enters_of Tryz.func41 (by kernel_rfl) (by kernel_rfl)
theorem en12 : entersT Tryz.prog 12 := Kx.enters_of Tryz.func12 (by kernel_rfl) (by kernel_rfl)

structure T_croupierlaw31_Bend where
  What : Int
  At : Int
  N : Int
  deriving DecidableEq
/- croupier/croupierref31.Of -/
def F9_A2 (v2 : Int) (rec_F9_L1 : Int → (List T_api_Instr) → Option (List T_api_Instr)) (l20 : List T_api_Instr) : Option (List T_api_Instr) :=
  rec_F9_L1 (IntKind.i64.wrap (v2 + 1)) l20
def F9_L1 (d0 : List A_a4i8) : Nat → Int → (List T_api_Instr) → Option (List T_api_Instr)
  | 0, _, _ => none
  | n_F9_L1 + 1, v2, l16 =>
    bif decide (v2 < 29) then
      (Option.bind (geti d0 v2) fun y6 =>
      ass (decide ((IntKind.i64.wrap (29 - v2)) ≠ 0)) <|
      bif (Int.tmod (IntKind.u8.wrap y6.a0) 6) == 0 then
        (Option.bind (app l16 [(⟨5, 0, IntKind.i64.wrap (Int.tmod (IntKind.u8.wrap y6.a2) 4), 0⟩ : T_api_Instr)]) fun l21 =>
        F9_A2 v2 (F9_L1 d0 n_F9_L1) l21)
      else
        (bif (Int.tmod (IntKind.u8.wrap y6.a0) 6) == 1 then
          (Option.bind (app l16 [(⟨4, 0, 0, IntKind.i64.wrap ((IntKind.i64.wrap (v2 + 1)) + (Int.tmod (IntKind.i64.wrap (IntKind.u8.wrap y6.a3)) (IntKind.i64.wrap (29 - v2))))⟩ : T_api_Instr)]) fun l22 =>
          F9_A2 v2 (F9_L1 d0 n_F9_L1) l22)
        else
          (Option.bind (app l16 [(⟨IntKind.i64.wrap (1 + (IntKind.i64.wrap (Int.tmod (IntKind.u8.wrap y6.a0) 3))), IntKind.i64.wrap (Int.tmod (IntKind.u8.wrap y6.a1) 4), Int.tmod (IntKind.i64.wrap y6.a2) 100, IntKind.i64.wrap ((IntKind.i64.wrap (v2 + 1)) + (Int.tmod (IntKind.i64.wrap (IntKind.u8.wrap y6.a3)) (IntKind.i64.wrap (29 - v2))))⟩ : T_api_Instr)]) fun l23 =>
          F9_A2 v2 (F9_L1 d0 n_F9_L1) l23)))
    else
      (Option.bind (app l16 [(⟨5, 0, Int.tmod 29 4, 0⟩ : T_api_Instr)]) fun l24 =>
      some l24)
def F9_A4 (v4 : Int) (rec_F9_L3 : Int → (List T_api_Instr) → Option (List T_api_Instr)) (l44 : List T_api_Instr) : Option (List T_api_Instr) :=
  rec_F9_L3 (IntKind.i64.wrap (v4 + 1)) l44
def F9_L3 (d0 : List A_a4i8) : Nat → Int → (List T_api_Instr) → Option (List T_api_Instr)
  | 0, _, _ => none
  | n_F9_L3 + 1, v4, l40 =>
    bif decide (v4 < ((d0.map e_a4i8).length : Int)) then
      (Option.bind (geti d0 v4) fun y12 =>
      ass (decide ((IntKind.i64.wrap (((d0.map e_a4i8).length : Int) - v4)) ≠ 0)) <|
      bif (Int.tmod (IntKind.u8.wrap y12.a0) 6) == 0 then
        (Option.bind (app l40 [(⟨5, 0, IntKind.i64.wrap (Int.tmod (IntKind.u8.wrap y12.a2) 4), 0⟩ : T_api_Instr)]) fun l45 =>
        F9_A4 v4 (F9_L3 d0 n_F9_L3) l45)
      else
        (bif (Int.tmod (IntKind.u8.wrap y12.a0) 6) == 1 then
          (Option.bind (app l40 [(⟨4, 0, 0, IntKind.i64.wrap ((IntKind.i64.wrap (v4 + 1)) + (Int.tmod (IntKind.i64.wrap (IntKind.u8.wrap y12.a3)) (IntKind.i64.wrap (((d0.map e_a4i8).length : Int) - v4))))⟩ : T_api_Instr)]) fun l46 =>
          F9_A4 v4 (F9_L3 d0 n_F9_L3) l46)
        else
          (Option.bind (app l40 [(⟨IntKind.i64.wrap (1 + (IntKind.i64.wrap (Int.tmod (IntKind.u8.wrap y12.a0) 3))), IntKind.i64.wrap (Int.tmod (IntKind.u8.wrap y12.a1) 4), Int.tmod (IntKind.i64.wrap y12.a2) 100, IntKind.i64.wrap ((IntKind.i64.wrap (v4 + 1)) + (Int.tmod (IntKind.i64.wrap (IntKind.u8.wrap y12.a3)) (IntKind.i64.wrap (((d0.map e_a4i8).length : Int) - v4))))⟩ : T_api_Instr)]) fun l47 =>
          F9_A4 v4 (F9_L3 d0 n_F9_L3) l47)))
    else
      (Option.bind (app l40 [(⟨5, 0, Int.tmod ((d0.map e_a4i8).length : Int) 4, 0⟩ : T_api_Instr)]) fun l48 =>
      some l48)
def F9 (fuel : Nat) (d0 : List A_a4i8) : Option (List T_api_Instr) :=
  bif decide (((d0.map e_a4i8).length : Int) > 29) then
    (F9_L1 d0 fuel 0 [])
  else
    (F9_L3 d0 fuel 0 [])
theorem F9_ok {fuel : Nat} {d0 : List A_a4i8} {r : List T_api_Instr} (hF : F9 fuel d0 = some r) :
    CallF Tryz.prog 9 [.d (.sl 4 (d0.map e_a4i8))] (.d (.sl 4 (r.map e_T_api_Instr))) := by
  unfold F9 at hF
  refine callF_of (N := 80) (b := bodyOf Tryz.f9) Tryz.func9 (by kernel_rfl) rfl rfl ?_
  refine J_adv 16 (J_bool 11 (b := decide (((d0.map e_a4i8).length : Int) > 29)) (by kernel_rfl) (fun hb1 => ?_) (fun hb1 => ?_))
  · replace hF := ift hb1 hF
    have hF9_L1 : ∀ (n_F9_L1 : Nat) (v2 : Int) (l16 : List T_api_Instr), F9_L1 d0 n_F9_L1 v2 l16 = some r → J none Tryz.prog 80 [] (finF Tryz.prog Tryz.f9 (.d (.sl 4 (r.map e_T_api_Instr)))) ⟨mkT [(0, .d (.sl 4 (d0.map e_a4i8))), (3, .d (.int .i64 29)), (4, .suf 55 0 0), (5, .d (.int .i64 v2))], [(55, .buf 0 66 4 (l16.map e_T_api_Instr))], [.inLoop (cAt (bodyOf Tryz.f9) [1, 1, 1, 1, 0, 1, 0, 0]), .inBlock 0, .code (cAt (bodyOf Tryz.f9) [1, 1, 1, 1, 1])]⟩ := by
      clear hF; intro n_F9_L1
      induction n_F9_L1 with
      | zero => intro v2 l16 hF; cases hF
      | succ n_F9_L1 ih_F9_L1 =>
        intro v2 l16 hF
        rw [F9_L1] at hF
        refine J_adv 8 (J_bool 14 (b := decide (v2 < 29)) (by kernel_rfl) (fun hb16 => ?_) (fun hb16 => ?_))
        · replace hF := ift hb16 hF
          have hF9_A2 : ∀ (l20 : List T_api_Instr), F9_A2 v2 (F9_L1 d0 n_F9_L1) l20 = some r → J none Tryz.prog 80 [] (finF Tryz.prog Tryz.f9 (.d (.sl 4 (r.map e_T_api_Instr)))) ⟨mkT [(0, .d (.sl 4 (d0.map e_a4i8))), (3, .d (.int .i64 29)), (4, .suf 55 0 0), (5, .d (.int .i64 v2))], [(55, .buf 0 66 4 (l20.map e_T_api_Instr))], [.code (cAt (bodyOf Tryz.f9) [1, 1, 1, 1, 0, 1, 0, 0, 1, 1]), .inLoop (cAt (bodyOf Tryz.f9) [1, 1, 1, 1, 0, 1, 0, 0]), .inBlock 0, .code (cAt (bodyOf Tryz.f9) [1, 1, 1, 1, 1])]⟩ := by
            intro l20 hF
            unfold F9_A2 at hF
            exact J_adv 5 (J_at [0, 3, 4, 5] [55] (T0 := [.inLoop (cAt (bodyOf Tryz.f9) [1, 1, 1, 1, 0, 1, 0, 0]), .inBlock 0, .code (cAt (bodyOf Tryz.f9) [1, 1, 1, 1, 1])]) (by kernel_rfl) rfl (ih_F9_L1 (IntKind.i64.wrap (v2 + 1)) l20 hF))
          obtain ⟨y6, e21, hF⟩ := bnd hF
          refine J_adv 8 (J_opt1 (o := geti (d0.map e_a4i8) v2) (e_a4i8 y6) (by kernel_rfl) (gm e21) ?_)
          obtain ⟨hb20, hF⟩ := assd hF
          refine J_adv 15 (J_opt1 (o := chk (decide ((IntKind.i64.wrap (29 - v2)) ≠ 0))) [] (by kernel_rfl) (ck hb20) ?_)
          refine J_adv 16 (J_bool 56 (b := (Int.tmod (IntKind.u8.wrap y6.a0) 6) == 0) (by kernel_rfl) (fun hb21 => ?_) (fun hb21 => ?_))
          · replace hF := ift hb21 hF
            obtain ⟨l21, e22, hF⟩ := bnd hF
            refine J_adv 10 (J_opt2 (o := app2 ((l16.map e_T_api_Instr).drop 0) ([(⟨5, 0, IntKind.i64.wrap (Int.tmod (IntKind.u8.wrap y6.a2) 4), 0⟩ : T_api_Instr)].map e_T_api_Instr)) (l21.map e_T_api_Instr) (by kernel_rfl) (am e22) ?_)
            exact J_adv 4 (J_at [0, 3, 4, 5] [55] (T0 := [.code (cAt (bodyOf Tryz.f9) [1, 1, 1, 1, 0, 1, 0, 0, 1, 1]), .inLoop (cAt (bodyOf Tryz.f9) [1, 1, 1, 1, 0, 1, 0, 0]), .inBlock 0, .code (cAt (bodyOf Tryz.f9) [1, 1, 1, 1, 1])]) (by kernel_rfl) rfl (hF9_A2 l21 hF))
          · replace hF := iff' hb21 hF
            refine J_adv 6 (J_bool 67 (b := (Int.tmod (IntKind.u8.wrap y6.a0) 6) == 1) (by kernel_rfl) (fun hb22 => ?_) (fun hb22 => ?_))
            · replace hF := ift hb22 hF
              obtain ⟨l22, e23, hF⟩ := bnd hF
              refine J_adv 6 (J_opt2 (o := app2 ((l16.map e_T_api_Instr).drop 0) ([(⟨4, 0, 0, IntKind.i64.wrap ((IntKind.i64.wrap (v2 + 1)) + (Int.tmod (IntKind.i64.wrap (IntKind.u8.wrap y6.a3)) (IntKind.i64.wrap (29 - v2))))⟩ : T_api_Instr)].map e_T_api_Instr)) (l22.map e_T_api_Instr) (by kernel_rfl) (am e23) ?_)
              exact J_adv 4 (J_at [0, 3, 4, 5] [55] (T0 := [.code (cAt (bodyOf Tryz.f9) [1, 1, 1, 1, 0, 1, 0, 0, 1, 1]), .inLoop (cAt (bodyOf Tryz.f9) [1, 1, 1, 1, 0, 1, 0, 0]), .inBlock 0, .code (cAt (bodyOf Tryz.f9) [1, 1, 1, 1, 1])]) (by kernel_rfl) rfl (hF9_A2 l22 hF))
            · replace hF := iff' hb22 hF
              obtain ⟨l23, e24, hF⟩ := bnd hF
              refine J_adv 21 (J_opt2 (o := app2 ((l16.map e_T_api_Instr).drop 0) ([(⟨IntKind.i64.wrap (1 + (IntKind.i64.wrap (Int.tmod (IntKind.u8.wrap y6.a0) 3))), IntKind.i64.wrap (Int.tmod (IntKind.u8.wrap y6.a1) 4), Int.tmod (IntKind.i64.wrap y6.a2) 100, IntKind.i64.wrap ((IntKind.i64.wrap (v2 + 1)) + (Int.tmod (IntKind.i64.wrap (IntKind.u8.wrap y6.a3)) (IntKind.i64.wrap (29 - v2))))⟩ : T_api_Instr)].map e_T_api_Instr)) (l23.map e_T_api_Instr) (by kernel_rfl) (am e24) ?_)
              exact J_adv 4 (J_at [0, 3, 4, 5] [55] (T0 := [.code (cAt (bodyOf Tryz.f9) [1, 1, 1, 1, 0, 1, 0, 0, 1, 1]), .inLoop (cAt (bodyOf Tryz.f9) [1, 1, 1, 1, 0, 1, 0, 0]), .inBlock 0, .code (cAt (bodyOf Tryz.f9) [1, 1, 1, 1, 1])]) (by kernel_rfl) rfl (hF9_A2 l23 hF))
        · replace hF := iff' hb16 hF
          obtain ⟨l24, e25, hF⟩ := bnd hF
          refine J_adv 9 (J_opt2 (o := app2 ((l16.map e_T_api_Instr).drop 0) ([(⟨5, 0, Int.tmod 29 4, 0⟩ : T_api_Instr)].map e_T_api_Instr)) (l24.map e_T_api_Instr) (by kernel_rfl) (am e25) ?_)
          have hr_ := Option.some.inj hF; subst hr_
          exact J_adv 2 (J_ret (xs := [.d (.sl 4 (l24.map e_T_api_Instr))]) [.d (.sl 4 (l24.map e_T_api_Instr))] rfl rfl (by kernel_rfl) (Res'.refl _) rfl)
    refine J_adv 15 (J_own (n := 4) 4 55 66 4 (by kernel_rfl) (by kernel_rfl) ?_)
    exact J_adv 0 (J_at [0, 3, 4, 5] [55] (T0 := [.inLoop (cAt (bodyOf Tryz.f9) [1, 1, 1, 1, 0, 1, 0, 0]), .inBlock 0, .code (cAt (bodyOf Tryz.f9) [1, 1, 1, 1, 1])]) (by kernel_rfl) rfl (hF9_L1 fuel 0 [] hF))
  · replace hF := iff' hb1 hF
    have hF9_L3 : ∀ (n_F9_L3 : Nat) (v4 : Int) (l40 : List T_api_Instr), F9_L3 d0 n_F9_L3 v4 l40 = some r → J none Tryz.prog 80 [] (finF Tryz.prog Tryz.f9 (.d (.sl 4 (r.map e_T_api_Instr)))) ⟨mkT [(0, .d (.sl 4 (d0.map e_a4i8))), (3, .d (.int .i64 ((d0.map e_a4i8).length : Int))), (4, .suf 55 0 0), (5, .d (.int .i64 v4))], [(55, .buf 0 66 4 (l40.map e_T_api_Instr))], [.inLoop (cAt (bodyOf Tryz.f9) [1, 1, 1, 1, 0, 1, 0, 0]), .inBlock 0, .code (cAt (bodyOf Tryz.f9) [1, 1, 1, 1, 1])]⟩ := by
      clear hF; intro n_F9_L3
      induction n_F9_L3 with
      | zero => intro v4 l40 hF; cases hF
      | succ n_F9_L3 ih_F9_L3 =>
        intro v4 l40 hF
        rw [F9_L3] at hF
        refine J_adv 8 (J_bool 14 (b := decide (v4 < ((d0.map e_a4i8).length : Int))) (by kernel_rfl) (fun hb37 => ?_) (fun hb37 => ?_))
        · replace hF := ift hb37 hF
          have hF9_A4 : ∀ (l44 : List T_api_Instr), F9_A4 v4 (F9_L3 d0 n_F9_L3) l44 = some r → J none Tryz.prog 80 [] (finF Tryz.prog Tryz.f9 (.d (.sl 4 (r.map e_T_api_Instr)))) ⟨mkT [(0, .d (.sl 4 (d0.map e_a4i8))), (3, .d (.int .i64 ((d0.map e_a4i8).length : Int))), (4, .suf 55 0 0), (5, .d (.int .i64 v4))], [(55, .buf 0 66 4 (l44.map e_T_api_Instr))], [.code (cAt (bodyOf Tryz.f9) [1, 1, 1, 1, 0, 1, 0, 0, 1, 1]), .inLoop (cAt (bodyOf Tryz.f9) [1, 1, 1, 1, 0, 1, 0, 0]), .inBlock 0, .code (cAt (bodyOf Tryz.f9) [1, 1, 1, 1, 1])]⟩ := by
            intro l44 hF
            unfold F9_A4 at hF
            exact J_adv 5 (J_at [0, 3, 4, 5] [55] (T0 := [.inLoop (cAt (bodyOf Tryz.f9) [1, 1, 1, 1, 0, 1, 0, 0]), .inBlock 0, .code (cAt (bodyOf Tryz.f9) [1, 1, 1, 1, 1])]) (by kernel_rfl) rfl (ih_F9_L3 (IntKind.i64.wrap (v4 + 1)) l44 hF))
          obtain ⟨y12, e46, hF⟩ := bnd hF
          refine J_adv 8 (J_opt1 (o := geti (d0.map e_a4i8) v4) (e_a4i8 y12) (by kernel_rfl) (gm e46) ?_)
          obtain ⟨hb41, hF⟩ := assd hF
          refine J_adv 15 (J_opt1 (o := chk (decide ((IntKind.i64.wrap (((d0.map e_a4i8).length : Int) - v4)) ≠ 0))) [] (by kernel_rfl) (ck hb41) ?_)
          refine J_adv 16 (J_bool 56 (b := (Int.tmod (IntKind.u8.wrap y12.a0) 6) == 0) (by kernel_rfl) (fun hb42 => ?_) (fun hb42 => ?_))
          · replace hF := ift hb42 hF
            obtain ⟨l45, e47, hF⟩ := bnd hF
            refine J_adv 10 (J_opt2 (o := app2 ((l40.map e_T_api_Instr).drop 0) ([(⟨5, 0, IntKind.i64.wrap (Int.tmod (IntKind.u8.wrap y12.a2) 4), 0⟩ : T_api_Instr)].map e_T_api_Instr)) (l45.map e_T_api_Instr) (by kernel_rfl) (am e47) ?_)
            exact J_adv 4 (J_at [0, 3, 4, 5] [55] (T0 := [.code (cAt (bodyOf Tryz.f9) [1, 1, 1, 1, 0, 1, 0, 0, 1, 1]), .inLoop (cAt (bodyOf Tryz.f9) [1, 1, 1, 1, 0, 1, 0, 0]), .inBlock 0, .code (cAt (bodyOf Tryz.f9) [1, 1, 1, 1, 1])]) (by kernel_rfl) rfl (hF9_A4 l45 hF))
          · replace hF := iff' hb42 hF
            refine J_adv 6 (J_bool 67 (b := (Int.tmod (IntKind.u8.wrap y12.a0) 6) == 1) (by kernel_rfl) (fun hb43 => ?_) (fun hb43 => ?_))
            · replace hF := ift hb43 hF
              obtain ⟨l46, e48, hF⟩ := bnd hF
              refine J_adv 6 (J_opt2 (o := app2 ((l40.map e_T_api_Instr).drop 0) ([(⟨4, 0, 0, IntKind.i64.wrap ((IntKind.i64.wrap (v4 + 1)) + (Int.tmod (IntKind.i64.wrap (IntKind.u8.wrap y12.a3)) (IntKind.i64.wrap (((d0.map e_a4i8).length : Int) - v4))))⟩ : T_api_Instr)].map e_T_api_Instr)) (l46.map e_T_api_Instr) (by kernel_rfl) (am e48) ?_)
              exact J_adv 4 (J_at [0, 3, 4, 5] [55] (T0 := [.code (cAt (bodyOf Tryz.f9) [1, 1, 1, 1, 0, 1, 0, 0, 1, 1]), .inLoop (cAt (bodyOf Tryz.f9) [1, 1, 1, 1, 0, 1, 0, 0]), .inBlock 0, .code (cAt (bodyOf Tryz.f9) [1, 1, 1, 1, 1])]) (by kernel_rfl) rfl (hF9_A4 l46 hF))
            · replace hF := iff' hb43 hF
              obtain ⟨l47, e49, hF⟩ := bnd hF
              refine J_adv 21 (J_opt2 (o := app2 ((l40.map e_T_api_Instr).drop 0) ([(⟨IntKind.i64.wrap (1 + (IntKind.i64.wrap (Int.tmod (IntKind.u8.wrap y12.a0) 3))), IntKind.i64.wrap (Int.tmod (IntKind.u8.wrap y12.a1) 4), Int.tmod (IntKind.i64.wrap y12.a2) 100, IntKind.i64.wrap ((IntKind.i64.wrap (v4 + 1)) + (Int.tmod (IntKind.i64.wrap (IntKind.u8.wrap y12.a3)) (IntKind.i64.wrap (((d0.map e_a4i8).length : Int) - v4))))⟩ : T_api_Instr)].map e_T_api_Instr)) (l47.map e_T_api_Instr) (by kernel_rfl) (am e49) ?_)
              exact J_adv 4 (J_at [0, 3, 4, 5] [55] (T0 := [.code (cAt (bodyOf Tryz.f9) [1, 1, 1, 1, 0, 1, 0, 0, 1, 1]), .inLoop (cAt (bodyOf Tryz.f9) [1, 1, 1, 1, 0, 1, 0, 0]), .inBlock 0, .code (cAt (bodyOf Tryz.f9) [1, 1, 1, 1, 1])]) (by kernel_rfl) rfl (hF9_A4 l47 hF))
        · replace hF := iff' hb37 hF
          obtain ⟨l48, e50, hF⟩ := bnd hF
          refine J_adv 9 (J_opt2 (o := app2 ((l40.map e_T_api_Instr).drop 0) ([(⟨5, 0, Int.tmod ((d0.map e_a4i8).length : Int) 4, 0⟩ : T_api_Instr)].map e_T_api_Instr)) (l48.map e_T_api_Instr) (by kernel_rfl) (am e50) ?_)
          have hr_ := Option.some.inj hF; subst hr_
          exact J_adv 2 (J_ret (xs := [.d (.sl 4 (l48.map e_T_api_Instr))]) [.d (.sl 4 (l48.map e_T_api_Instr))] rfl rfl (by kernel_rfl) (Res'.refl _) rfl)
    refine J_adv 13 (J_own (n := 4) 4 55 66 4 (by kernel_rfl) (by kernel_rfl) ?_)
    exact J_adv 0 (J_at [0, 3, 4, 5] [55] (T0 := [.inLoop (cAt (bodyOf Tryz.f9) [1, 1, 1, 1, 0, 1, 0, 0]), .inBlock 0, .code (cAt (bodyOf Tryz.f9) [1, 1, 1, 1, 1])]) (by kernel_rfl) rfl (hF9_L3 fuel 0 [] hF))

/- (croupier/croupierlaw31.Bend).Of -/
def F10_L1 : Nat → (List T_api_Instr) → Option (List T_api_Instr)
  | 0, _ => none
  | n_F10_L1 + 1, l10 =>
    bif decide (((l10.map e_T_api_Instr).length : Int) < 41) then
      (Option.bind (F27 0) fun y4 =>
      Option.bind (app l10 [y4]) fun l11 =>
      (F10_L1 n_F10_L1) l11)
    else
      (some l10)
def F10 (fuel : Nat) (d0 : T_croupierlaw31_Bend) (d1 : List T_api_Instr) : Option (List T_api_Instr) :=
  Option.bind (app [] d1) fun l1 =>
  bif ((l1.map e_T_api_Instr).length : Int) == 0 then
    (some l1)
  else
    (ass (decide (((l1.map e_T_api_Instr).length : Int) ≠ 0)) <|
    Option.bind (geti l1 (Int.tmod (IntKind.i64.wrap d0.At) ((l1.map e_T_api_Instr).length : Int))) fun y1 =>
    bif (Int.tmod d0.What 7) == 0 then
      (Option.bind (some (l1.set (0 + Int.toNat (Int.tmod (IntKind.i64.wrap d0.At) ((l1.map e_T_api_Instr).length : Int))) (⟨d0.N, y1.Var, y1.Val, y1.Go⟩ : T_api_Instr))) fun l2 =>
      some l2)
    else
      (bif (Int.tmod d0.What 7) == 1 then
        (Option.bind (some (l1.set (0 + Int.toNat (Int.tmod (IntKind.i64.wrap d0.At) ((l1.map e_T_api_Instr).length : Int))) (⟨y1.Op, d0.N, y1.Val, y1.Go⟩ : T_api_Instr))) fun l3 =>
        some l3)
      else
        (bif (Int.tmod d0.What 7) == 2 then
          (Option.bind (some (l1.set (0 + Int.toNat (Int.tmod (IntKind.i64.wrap d0.At) ((l1.map e_T_api_Instr).length : Int))) (⟨y1.Op, y1.Var, d0.N, y1.Go⟩ : T_api_Instr))) fun l4 =>
          some l4)
        else
          (bif (Int.tmod d0.What 7) == 3 then
            (Option.bind (some (l1.set (0 + Int.toNat (Int.tmod (IntKind.i64.wrap d0.At) ((l1.map e_T_api_Instr).length : Int))) (⟨y1.Op, y1.Var, y1.Val, d0.N⟩ : T_api_Instr))) fun l5 =>
            some l5)
          else
            (bif (Int.tmod d0.What 7) == 4 then
              (Option.bind (slc l1 0 (IntKind.i64.wrap (((l1.map e_T_api_Instr).length : Int) - 1))) fun l6 =>
              some l6)
            else
              (bif (Int.tmod d0.What 7) == 5 then
                (F10_L1 fuel l1)
              else
                (some l1)))))))
theorem F10_ok {fuel : Nat} {d0 : T_croupierlaw31_Bend} {d1 : List T_api_Instr} {r : List T_api_Instr} (hF : F10 fuel d0 d1 = some r) :
    CallF Tryz.prog 10 [.agg [.d (.int .u8 d0.What), .d (.int .u8 d0.At), .d (.int .i64 d0.N)], .d (.sl 4 (d1.map e_T_api_Instr))] (.d (.sl 4 (r.map e_T_api_Instr))) := by
  unfold F10 at hF
  refine callF_of (N := 69) (b := bodyOf Tryz.f10) Tryz.func10 (by kernel_rfl) rfl rfl ?_
  obtain ⟨l1, e1, hF⟩ := bnd hF
  refine J_adv 9 (J_opt2 (o := app2 [] (d1.map e_T_api_Instr)) (l1.map e_T_api_Instr) (by kernel_rfl) (am e1) ?_)
  refine J_adv 9 (J_bool 11 (b := ((l1.map e_T_api_Instr).length : Int) == 0) (by kernel_rfl) (fun hb1 => ?_) (fun hb1 => ?_))
  · replace hF := ift hb1 hF
    have hr_ := Option.some.inj hF; subst hr_
    exact J_adv 6 (J_ret (xs := [.d (.sl 4 (l1.map e_T_api_Instr))]) [.d (.sl 4 (l1.map e_T_api_Instr))] rfl rfl (by kernel_rfl) (Res'.refl _) rfl)
  · replace hF := iff' hb1 hF
    obtain ⟨hb2, hF⟩ := assd hF
    refine J_adv 10 (J_opt1 (o := chk (decide (((l1.map e_T_api_Instr).length : Int) ≠ 0))) [] (by kernel_rfl) (ck hb2) ?_)
    obtain ⟨y1, e2, hF⟩ := bnd hF
    refine J_adv 0 (J_opt1 (o := geti (l1.map e_T_api_Instr) (Int.tmod (IntKind.i64.wrap d0.At) ((l1.map e_T_api_Instr).length : Int))) (e_T_api_Instr y1) (by kernel_rfl) (gm e2) ?_)
    refine J_adv 15 (J_bool 24 (b := (Int.tmod d0.What 7) == 0) (by kernel_rfl) (fun hb3 => ?_) (fun hb3 => ?_))
    · replace hF := ift hb3 hF
      obtain ⟨l2, e3, hF⟩ := bnd hF
      have hst := stm (f := e_T_api_Instr) (z := (⟨d0.N, y1.Var, y1.Val, y1.Go⟩ : T_api_Instr)) (k := 0) (xs := [.int .i64 d0.N]) (gj e2) rfl
      refine J_adv 7 (J_opt2 (o := (match (l1.map e_T_api_Instr)[0 + Int.toNat (Int.tmod (IntKind.i64.wrap d0.At) ((l1.map e_T_api_Instr).length : Int))]? with | some old => some ((l1.map e_T_api_Instr).set (0 + Int.toNat (Int.tmod (IntKind.i64.wrap d0.At) ((l1.map e_T_api_Instr).length : Int))) (setD old 0 [.int .i64 d0.N])) | none => none)) (l2.map e_T_api_Instr) (by kernel_rfl) (by cases e3; exact hst) ?_)
      have hr_ := Option.some.inj hF; subst hr_
      exact J_adv 7 (J_ret (xs := [.d (.sl 4 (l2.map e_T_api_Instr))]) [.d (.sl 4 (l2.map e_T_api_Instr))] rfl rfl (by kernel_rfl) (Res'.refl _) rfl)
    · replace hF := iff' hb3 hF
      refine J_adv 6 (J_bool 31 (b := (Int.tmod d0.What 7) == 1) (by kernel_rfl) (fun hb4 => ?_) (fun hb4 => ?_))
      · replace hF := ift hb4 hF
        obtain ⟨l3, e4, hF⟩ := bnd hF
        have hst := stm (f := e_T_api_Instr) (z := (⟨y1.Op, d0.N, y1.Val, y1.Go⟩ : T_api_Instr)) (k := 1) (xs := [.int .i64 d0.N]) (gj e2) rfl
        refine J_adv 7 (J_opt2 (o := (match (l1.map e_T_api_Instr)[0 + Int.toNat (Int.tmod (IntKind.i64.wrap d0.At) ((l1.map e_T_api_Instr).length : Int))]? with | some old => some ((l1.map e_T_api_Instr).set (0 + Int.toNat (Int.tmod (IntKind.i64.wrap d0.At) ((l1.map e_T_api_Instr).length : Int))) (setD old 1 [.int .i64 d0.N])) | none => none)) (l3.map e_T_api_Instr) (by kernel_rfl) (by cases e4; exact hst) ?_)
        have hr_ := Option.some.inj hF; subst hr_
        exact J_adv 7 (J_ret (xs := [.d (.sl 4 (l3.map e_T_api_Instr))]) [.d (.sl 4 (l3.map e_T_api_Instr))] rfl rfl (by kernel_rfl) (Res'.refl _) rfl)
      · replace hF := iff' hb4 hF
        refine J_adv 6 (J_bool 38 (b := (Int.tmod d0.What 7) == 2) (by kernel_rfl) (fun hb5 => ?_) (fun hb5 => ?_))
        · replace hF := ift hb5 hF
          obtain ⟨l4, e5, hF⟩ := bnd hF
          have hst := stm (f := e_T_api_Instr) (z := (⟨y1.Op, y1.Var, d0.N, y1.Go⟩ : T_api_Instr)) (k := 2) (xs := [.int .i64 d0.N]) (gj e2) rfl
          refine J_adv 7 (J_opt2 (o := (match (l1.map e_T_api_Instr)[0 + Int.toNat (Int.tmod (IntKind.i64.wrap d0.At) ((l1.map e_T_api_Instr).length : Int))]? with | some old => some ((l1.map e_T_api_Instr).set (0 + Int.toNat (Int.tmod (IntKind.i64.wrap d0.At) ((l1.map e_T_api_Instr).length : Int))) (setD old 2 [.int .i64 d0.N])) | none => none)) (l4.map e_T_api_Instr) (by kernel_rfl) (by cases e5; exact hst) ?_)
          have hr_ := Option.some.inj hF; subst hr_
          exact J_adv 7 (J_ret (xs := [.d (.sl 4 (l4.map e_T_api_Instr))]) [.d (.sl 4 (l4.map e_T_api_Instr))] rfl rfl (by kernel_rfl) (Res'.refl _) rfl)
        · replace hF := iff' hb5 hF
          refine J_adv 6 (J_bool 45 (b := (Int.tmod d0.What 7) == 3) (by kernel_rfl) (fun hb6 => ?_) (fun hb6 => ?_))
          · replace hF := ift hb6 hF
            obtain ⟨l5, e6, hF⟩ := bnd hF
            have hst := stm (f := e_T_api_Instr) (z := (⟨y1.Op, y1.Var, y1.Val, d0.N⟩ : T_api_Instr)) (k := 3) (xs := [.int .i64 d0.N]) (gj e2) rfl
            refine J_adv 7 (J_opt2 (o := (match (l1.map e_T_api_Instr)[0 + Int.toNat (Int.tmod (IntKind.i64.wrap d0.At) ((l1.map e_T_api_Instr).length : Int))]? with | some old => some ((l1.map e_T_api_Instr).set (0 + Int.toNat (Int.tmod (IntKind.i64.wrap d0.At) ((l1.map e_T_api_Instr).length : Int))) (setD old 3 [.int .i64 d0.N])) | none => none)) (l5.map e_T_api_Instr) (by kernel_rfl) (by cases e6; exact hst) ?_)
            have hr_ := Option.some.inj hF; subst hr_
            exact J_adv 7 (J_ret (xs := [.d (.sl 4 (l5.map e_T_api_Instr))]) [.d (.sl 4 (l5.map e_T_api_Instr))] rfl rfl (by kernel_rfl) (Res'.refl _) rfl)
          · replace hF := iff' hb6 hF
            refine J_adv 6 (J_bool 52 (b := (Int.tmod d0.What 7) == 4) (by kernel_rfl) (fun hb7 => ?_) (fun hb7 => ?_))
            · replace hF := ift hb7 hF
              refine J_adv 2 (J_frzS 1 (by kernel_rfl) (by kernel_rfl) ?_)
              obtain ⟨l6, e7, hF⟩ := bnd hF
              refine J_adv 5 (J_opt2 (o := slc (l1.map e_T_api_Instr) 0 (IntKind.i64.wrap (((l1.map e_T_api_Instr).length : Int) - 1))) (l6.map e_T_api_Instr) (by kernel_rfl) (sm e7) ?_)
              have hr_ := Option.some.inj hF; subst hr_
              exact J_adv 2 (J_ret (xs := [.d (.sl 4 (l6.map e_T_api_Instr))]) [.d (.sl 4 (l6.map e_T_api_Instr))] rfl rfl (by kernel_rfl) (Res'.refl _) rfl)
            · replace hF := iff' hb7 hF
              refine J_adv 6 (J_bool 59 (b := (Int.tmod d0.What 7) == 5) (by kernel_rfl) (fun hb8 => ?_) (fun hb8 => ?_))
              · replace hF := ift hb8 hF
                have hF10_L1 : ∀ (n_F10_L1 : Nat) (l10 : List T_api_Instr), F10_L1 n_F10_L1 l10 = some r → J none Tryz.prog 69 [] (finF Tryz.prog Tryz.f10 (.d (.sl 4 (r.map e_T_api_Instr)))) ⟨mkT [(1, .suf 8 0 0)], [(8, .buf 0 66 4 (l10.map e_T_api_Instr))], [.inLoop (cAt (bodyOf Tryz.f10) [1, 1, 1, 1, 0, 1, 0, 1, 1, 1, 1, 1, 1, 1, 1, 1, 1, 1, 0, 0, 0]), .inBlock 1, .inBlock 0, .code (cAt (bodyOf Tryz.f10) [1, 1, 1, 1, 1])]⟩ := by
                  clear hF; intro n_F10_L1
                  induction n_F10_L1 with
                  | zero => intro l10 hF; cases hF
                  | succ n_F10_L1 ih_F10_L1 =>
                    intro l10 hF
                    rw [F10_L1] at hF
                    refine J_adv 8 (J_bool 63 (b := decide (((l10.map e_T_api_Instr).length : Int) < 41)) (by kernel_rfl) (fun hb11 => ?_) (fun hb11 => ?_))
                    · replace hF := ift hb11 hF
                      obtain ⟨y4, e12, hF⟩ := bnd hF
                      refine J_adv 5 (J_callF (xs := [.d (.int .i64 0)]) [.d (.int .i64 0)] (.agg [.d (.int .i64 y4.Op), .d (.int .i64 y4.Var), .d (.int .i64 y4.Val), .d (.int .i64 y4.Go)]) (by kernel_rfl) en27 (Res'.refl _) (F27_ok e12) ?_)
                      obtain ⟨l11, e13, hF⟩ := bnd hF
                      refine J_adv 1 (J_opt2 (o := app2 ((l10.map e_T_api_Instr).drop 0) ([y4].map e_T_api_Instr)) (l11.map e_T_api_Instr) (by kernel_rfl) (am e13) ?_)
                      exact J_adv 3 (J_at [1] [8] (T0 := [.inLoop (cAt (bodyOf Tryz.f10) [1, 1, 1, 1, 0, 1, 0, 1, 1, 1, 1, 1, 1, 1, 1, 1, 1, 1, 0, 0, 0]), .inBlock 1, .inBlock 0, .code (cAt (bodyOf Tryz.f10) [1, 1, 1, 1, 1])]) (by kernel_rfl) rfl (ih_F10_L1 l11 hF))
                    · replace hF := iff' hb11 hF
                      have hr_ := Option.some.inj hF; subst hr_
                      exact J_adv 8 (J_ret (xs := [.d (.sl 4 (l10.map e_T_api_Instr))]) [.d (.sl 4 (l10.map e_T_api_Instr))] rfl rfl (by kernel_rfl) (Res'.refl _) rfl)
                exact J_adv 3 (J_at [1] [8] (T0 := [.inLoop (cAt (bodyOf Tryz.f10) [1, 1, 1, 1, 0, 1, 0, 1, 1, 1, 1, 1, 1, 1, 1, 1, 1, 1, 0, 0, 0]), .inBlock 1, .inBlock 0, .code (cAt (bodyOf Tryz.f10) [1, 1, 1, 1, 1])]) (by kernel_rfl) rfl (hF10_L1 fuel l1 hF))
              · replace hF := iff' hb8 hF
                have hr_ := Option.some.inj hF; subst hr_
                exact J_adv 8 (J_ret (xs := [.d (.sl 4 (l1.map e_T_api_Instr))]) [.d (.sl 4 (l1.map e_T_api_Instr))] rfl rfl (by kernel_rfl) (Res'.refl _) rfl)

def e_lT_api_Instr (x : List T_api_Instr) : List Dat := [.sl 4 (x.map e_T_api_Instr)]
def e_li64 (x : List Int) : List Dat := [.sl 1 (x.map e_i64)]
/- croupier/croupierref31.in -/
def F70 (d0 : Int) (d1 : Int) (d2 : Int) : Option Bool :=
  Option.bind (
    bif decide (d0 ≥ d1) then
      (some (decide (d0 ≤ d2)))
    else
      (some false)) fun o1 =>
  some o1
theorem F70_ok {d0 : Int} {d1 : Int} {d2 : Int} {r : Bool} (hF : F70 d0 d1 d2 = some r) :
    CallF Tryz.prog 70 [.d (.int .i64 d0), .d (.int .i64 d1), .d (.int .i64 d2)] (.d (.bool r)) := by
  unfold F70 at hF
  refine callF_of (N := 15) (b := bodyOf Tryz.f70) Tryz.func70 (by kernel_rfl) rfl rfl ?_
  obtain ⟨o1, hO, hF⟩ := bnd hF
  have hR1 : J none Tryz.prog 15 [] (finF Tryz.prog Tryz.f70 (.d (.bool r))) ⟨mkT [(6, .d (.bool o1))], [], [.ops (opsOf (cAt (bodyOf Tryz.f70) [1, 0])) [], .code (cAt (bodyOf Tryz.f70) [1, 1])]⟩ := by
    clear hO
    have hr_ := Option.some.inj hF; subst hr_
    exact J_adv 1 (J_ret (xs := [.d (.bool o1)]) [.d (.bool o1)] rfl rfl (by kernel_rfl) (Res'.refl _) rfl)
  clear hF; rename _ = some o1 => hF
  refine J_adv 10 (J_bool 10 (b := decide (d0 ≥ d1)) (by kernel_rfl) (fun hb3 => ?_) (fun hb3 => ?_))
  · replace hF := ift hb3 hF
    have hr_ := Option.some.inj hF; subst hr_
    exact J_adv 5 (J_at [6] [] (T0 := [.ops (opsOf (cAt (bodyOf Tryz.f70) [1, 0])) [], .code (cAt (bodyOf Tryz.f70) [1, 1])]) (by kernel_rfl) rfl hR1)
  · replace hF := iff' hb3 hF
    have hr_ := Option.some.inj hF; subst hr_
    exact J_adv 5 (J_at [6] [] (T0 := [.ops (opsOf (cAt (bodyOf Tryz.f70) [1, 0])) [], .code (cAt (bodyOf Tryz.f70) [1, 1])]) (by kernel_rfl) rfl hR1)

/- croupier/croupierref31.test -/
def F53 (d0 : T_api_Instr) : Option Bool :=
  Option.bind (F70 d0.Op 1 3) fun y1 =>
  some y1
theorem F53_ok {d0 : T_api_Instr} {r : Bool} (hF : F53 d0 = some r) :
    CallF Tryz.prog 53 [.agg [.d (.int .i64 d0.Op), .d (.int .i64 d0.Var), .d (.int .i64 d0.Val), .d (.int .i64 d0.Go)]] (.d (.bool r)) := by
  unfold F53 at hF
  refine callF_of (N := 6) (b := bodyOf Tryz.f53) Tryz.func53 (by kernel_rfl) rfl rfl ?_
  obtain ⟨y1, e1, hF⟩ := bnd hF
  refine J_adv 9 (J_callF (xs := [.d (.int .i64 d0.Op), .d (.int .i64 1), .d (.int .i64 3)]) [.d (.int .i64 d0.Op), .d (.int .i64 1), .d (.int .i64 3)] (.d (.bool y1)) (by kernel_rfl) en70 (Res'.refl _) (F70_ok e1) ?_)
  have hr_ := Option.some.inj hF; subst hr_
  exact J_adv 2 (J_ret (xs := [.d (.bool y1)]) [.d (.bool y1)] rfl rfl (by kernel_rfl) (Res'.refl _) rfl)

/- croupier/croupierref31.good -/
def F71 (d0 : T_api_Instr) (d1 : Int) (d2 : Int) : Option Bool :=
  Option.bind (F53 d0) fun y1 =>
  bif y1 then
    (Option.bind (
      Option.bind (F70 d0.Var 0 3) fun y8 =>
      bif y8 then
        (Option.bind (F70 d0.Val (-99) 99) fun y9 =>
        bif y9 then
          (Option.bind (F70 d0.Go (IntKind.i64.wrap (d1 + 1)) (IntKind.i64.wrap (d2 - 1))) fun y10 =>
          some y10)
        else
          (some false))
      else
        (some false)) fun o1 =>
    some o1)
  else
    (bif d0.Op == 4 then
      (Option.bind (
        bif d0.Var == 0 then
          (bif d0.Val == 0 then
            (Option.bind (F70 d0.Go (IntKind.i64.wrap (d1 + 1)) (IntKind.i64.wrap (d2 - 1))) fun y13 =>
            some y13)
          else
            (some false))
        else
          (some false)) fun o2 =>
      some o2)
    else
      (Option.bind (
        bif d0.Op == 5 then
          (Option.bind (F70 d0.Val 0 3) fun y16 =>
          bif y16 then
            (bif d0.Var == 0 then
              (some (d0.Go == 0))
            else
              (some false))
          else
            (some false))
        else
          (some false)) fun o3 =>
      some o3))
theorem F71_ok {d0 : T_api_Instr} {d1 : Int} {d2 : Int} {r : Bool} (hF : F71 d0 d1 d2 = some r) :
    CallF Tryz.prog 71 [.agg [.d (.int .i64 d0.Op), .d (.int .i64 d0.Var), .d (.int .i64 d0.Val), .d (.int .i64 d0.Go)], .d (.int .i64 d1), .d (.int .i64 d2)] (.d (.bool r)) := by
  unfold F71 at hF
  refine callF_of (N := 64) (b := bodyOf Tryz.f71) Tryz.func71 (by kernel_rfl) rfl rfl ?_
  obtain ⟨y1, e1, hF⟩ := bnd hF
  refine J_adv 9 (J_callF (xs := [.agg [.d (.int .i64 d0.Op), .d (.int .i64 d0.Var), .d (.int .i64 d0.Val), .d (.int .i64 d0.Go)]]) [.agg [.d (.int .i64 d0.Op), .d (.int .i64 d0.Var), .d (.int .i64 d0.Val), .d (.int .i64 d0.Go)]] (.d (.bool y1)) (by kernel_rfl) en53 (Res'.refl _) (F53_ok e1) ?_)
  refine J_adv 1 (J_bool 8 (b := y1) (by kernel_rfl) (fun hb1 => ?_) (fun hb1 => ?_))
  · replace hF := ift hb1 hF
    obtain ⟨o1, hO, hF⟩ := bnd hF
    have hR1 : J none Tryz.prog 64 [] (finF Tryz.prog Tryz.f71 (.d (.bool r))) ⟨mkT [(6, .d (.bool o1))], [], [.ops (opsOf (cAt (bodyOf Tryz.f71) [1, 0, 1, 0, 0])) [], .code (cAt (bodyOf Tryz.f71) [1, 0, 1, 0, 1]), .code (cAt (bodyOf Tryz.f71) [1, 1])]⟩ := by
      clear hO
      have hr_ := Option.some.inj hF; subst hr_
      exact J_adv 1 (J_ret (xs := [.d (.bool o1)]) [.d (.bool o1)] rfl rfl (by kernel_rfl) (Res'.refl _) rfl)
    clear hF; rename _ = some o1 => hF
    obtain ⟨y8, e8, hF⟩ := bnd hF
    refine J_adv 5 (J_callF (xs := [.d (.int .i64 d0.Var), .d (.int .i64 0), .d (.int .i64 3)]) [.d (.int .i64 d0.Var), .d (.int .i64 0), .d (.int .i64 3)] (.d (.bool y8)) (by kernel_rfl) en70 (Res'.refl _) (F70_ok e8) ?_)
    refine J_adv 1 (J_bool 12 (b := y8) (by kernel_rfl) (fun hb6 => ?_) (fun hb6 => ?_))
    · replace hF := ift hb6 hF
      obtain ⟨y9, e9, hF⟩ := bnd hF
      refine J_adv 2 (J_callF (xs := [.d (.int .i64 d0.Val), .d (.int .i64 (-99)), .d (.int .i64 99)]) [.d (.int .i64 d0.Val), .d (.int .i64 (-99)), .d (.int .i64 99)] (.d (.bool y9)) (by kernel_rfl) en70 (Res'.refl _) (F70_ok e9) ?_)
      refine J_adv 2 (J_bool 17 (b := y9) (by kernel_rfl) (fun hb7 => ?_) (fun hb7 => ?_))
      · replace hF := ift hb7 hF
        obtain ⟨y10, e10, hF⟩ := bnd hF
        refine J_adv 6 (J_callF (xs := [.d (.int .i64 d0.Go), .d (.int .i64 (IntKind.i64.wrap (d1 + 1))), .d (.int .i64 (IntKind.i64.wrap (d2 - 1)))]) [.d (.int .i64 d0.Go), .d (.int .i64 (IntKind.i64.wrap (d1 + 1))), .d (.int .i64 (IntKind.i64.wrap (d2 - 1)))] (.d (.bool y10)) (by kernel_rfl) en70 (Res'.refl _) (F70_ok e10) ?_)
        have hr_ := Option.some.inj hF; subst hr_
        exact J_adv 2 (J_at [6] [] (T0 := [.ops (opsOf (cAt (bodyOf Tryz.f71) [1, 0, 1, 0, 0])) [], .code (cAt (bodyOf Tryz.f71) [1, 0, 1, 0, 1]), .code (cAt (bodyOf Tryz.f71) [1, 1])]) (by kernel_rfl) rfl hR1)
      · replace hF := iff' hb7 hF
        have hr_ := Option.some.inj hF; subst hr_
        exact J_adv 9 (J_at [6] [] (T0 := [.ops (opsOf (cAt (bodyOf Tryz.f71) [1, 0, 1, 0, 0])) [], .code (cAt (bodyOf Tryz.f71) [1, 0, 1, 0, 1]), .code (cAt (bodyOf Tryz.f71) [1, 1])]) (by kernel_rfl) rfl hR1)
    · replace hF := iff' hb6 hF
      have hr_ := Option.some.inj hF; subst hr_
      exact J_adv 14 (J_at [6] [] (T0 := [.ops (opsOf (cAt (bodyOf Tryz.f71) [1, 0, 1, 0, 0])) [], .code (cAt (bodyOf Tryz.f71) [1, 0, 1, 0, 1]), .code (cAt (bodyOf Tryz.f71) [1, 1])]) (by kernel_rfl) rfl hR1)
  · replace hF := iff' hb1 hF
    refine J_adv 9 (J_bool 28 (b := d0.Op == 4) (by kernel_rfl) (fun hb8 => ?_) (fun hb8 => ?_))
    · replace hF := ift hb8 hF
      obtain ⟨o2, hO, hF⟩ := bnd hF
      have hR2 : J none Tryz.prog 64 [] (finF Tryz.prog Tryz.f71 (.d (.bool r))) ⟨mkT [(6, .d (.bool o2))], [], [.ops (opsOf (cAt (bodyOf Tryz.f71) [1, 1, 0, 1, 0, 0])) [], .code (cAt (bodyOf Tryz.f71) [1, 1, 0, 1, 0, 1]), .code (cAt (bodyOf Tryz.f71) [1, 1, 1])]⟩ := by
        clear hO
        have hr_ := Option.some.inj hF; subst hr_
        exact J_adv 1 (J_ret (xs := [.d (.bool o2)]) [.d (.bool o2)] rfl rfl (by kernel_rfl) (Res'.refl _) rfl)
      clear hF; rename _ = some o2 => hF
      refine J_adv 7 (J_bool 32 (b := d0.Var == 0) (by kernel_rfl) (fun hb13 => ?_) (fun hb13 => ?_))
      · replace hF := ift hb13 hF
        refine J_adv 5 (J_bool 37 (b := d0.Val == 0) (by kernel_rfl) (fun hb14 => ?_) (fun hb14 => ?_))
        · replace hF := ift hb14 hF
          obtain ⟨y13, e13, hF⟩ := bnd hF
          refine J_adv 6 (J_callF (xs := [.d (.int .i64 d0.Go), .d (.int .i64 (IntKind.i64.wrap (d1 + 1))), .d (.int .i64 (IntKind.i64.wrap (d2 - 1)))]) [.d (.int .i64 d0.Go), .d (.int .i64 (IntKind.i64.wrap (d1 + 1))), .d (.int .i64 (IntKind.i64.wrap (d2 - 1)))] (.d (.bool y13)) (by kernel_rfl) en70 (Res'.refl _) (F70_ok e13) ?_)
          have hr_ := Option.some.inj hF; subst hr_
          exact J_adv 2 (J_at [6] [] (T0 := [.ops (opsOf (cAt (bodyOf Tryz.f71) [1, 1, 0, 1, 0, 0])) [], .code (cAt (bodyOf Tryz.f71) [1, 1, 0, 1, 0, 1]), .code (cAt (bodyOf Tryz.f71) [1, 1, 1])]) (by kernel_rfl) rfl hR2)
        · replace hF := iff' hb14 hF
          have hr_ := Option.some.inj hF; subst hr_
          exact J_adv 9 (J_at [6] [] (T0 := [.ops (opsOf (cAt (bodyOf Tryz.f71) [1, 1, 0, 1, 0, 0])) [], .code (cAt (bodyOf Tryz.f71) [1, 1, 0, 1, 0, 1]), .code (cAt (bodyOf Tryz.f71) [1, 1, 1])]) (by kernel_rfl) rfl hR2)
      · replace hF := iff' hb13 hF
        have hr_ := Option.some.inj hF; subst hr_
        exact J_adv 14 (J_at [6] [] (T0 := [.ops (opsOf (cAt (bodyOf Tryz.f71) [1, 1, 0, 1, 0, 0])) [], .code (cAt (bodyOf Tryz.f71) [1, 1, 0, 1, 0, 1]), .code (cAt (bodyOf Tryz.f71) [1, 1, 1])]) (by kernel_rfl) rfl hR2)
    · replace hF := iff' hb8 hF
      obtain ⟨o3, hO, hF⟩ := bnd hF
      have hR3 : J none Tryz.prog 64 [] (finF Tryz.prog Tryz.f71 (.d (.bool r))) ⟨mkT [(6, .d (.bool o3))], [], [.ops (opsOf (cAt (bodyOf Tryz.f71) [1, 1, 1, 0])) [], .code (cAt (bodyOf Tryz.f71) [1, 1, 1, 1])]⟩ := by
        clear hO
        have hr_ := Option.some.inj hF; subst hr_
        exact J_adv 1 (J_ret (xs := [.d (.bool o3)]) [.d (.bool o3)] rfl rfl (by kernel_rfl) (Res'.refl _) rfl)
      clear hF; rename _ = some o3 => hF
      refine J_adv 8 (J_bool 49 (b := d0.Op == 5) (by kernel_rfl) (fun hb21 => ?_) (fun hb21 => ?_))
      · replace hF := ift hb21 hF
        obtain ⟨y16, e16, hF⟩ := bnd hF
        refine J_adv 2 (J_callF (xs := [.d (.int .i64 d0.Val), .d (.int .i64 0), .d (.int .i64 3)]) [.d (.int .i64 d0.Val), .d (.int .i64 0), .d (.int .i64 3)] (.d (.bool y16)) (by kernel_rfl) en70 (Res'.refl _) (F70_ok e16) ?_)
        refine J_adv 2 (J_bool 54 (b := y16) (by kernel_rfl) (fun hb22 => ?_) (fun hb22 => ?_))
        · replace hF := ift hb22 hF
          refine J_adv 5 (J_bool 59 (b := d0.Var == 0) (by kernel_rfl) (fun hb23 => ?_) (fun hb23 => ?_))
          · replace hF := ift hb23 hF
            have hr_ := Option.some.inj hF; subst hr_
            exact J_adv 5 (J_at [6] [] (T0 := [.ops (opsOf (cAt (bodyOf Tryz.f71) [1, 1, 1, 0])) [], .code (cAt (bodyOf Tryz.f71) [1, 1, 1, 1])]) (by kernel_rfl) rfl hR3)
          · replace hF := iff' hb23 hF
            have hr_ := Option.some.inj hF; subst hr_
            exact J_adv 5 (J_at [6] [] (T0 := [.ops (opsOf (cAt (bodyOf Tryz.f71) [1, 1, 1, 0])) [], .code (cAt (bodyOf Tryz.f71) [1, 1, 1, 1])]) (by kernel_rfl) rfl hR3)
        · replace hF := iff' hb22 hF
          have hr_ := Option.some.inj hF; subst hr_
          exact J_adv 10 (J_at [6] [] (T0 := [.ops (opsOf (cAt (bodyOf Tryz.f71) [1, 1, 1, 0])) [], .code (cAt (bodyOf Tryz.f71) [1, 1, 1, 1])]) (by kernel_rfl) rfl hR3)
      · replace hF := iff' hb21 hF
        have hr_ := Option.some.inj hF; subst hr_
        exact J_adv 15 (J_at [6] [] (T0 := [.ops (opsOf (cAt (bodyOf Tryz.f71) [1, 1, 1, 0])) [], .code (cAt (bodyOf Tryz.f71) [1, 1, 1, 1])]) (by kernel_rfl) rfl hR3)

/- croupier/croupierref31.Good -/
def F38_L1 (d0 : List T_api_Instr) : Nat → Int → Option Bool
  | 0, _ => none
  | n_F38_L1 + 1, v2 =>
    bif decide (v2 < ((d0.map e_T_api_Instr).length : Int)) then
      (Option.bind (geti d0 v2) fun y6 =>
      Option.bind (F71 y6 v2 ((d0.map e_T_api_Instr).length : Int)) fun y7 =>
      bif !y7 then
        (some false)
      else
        ((F38_L1 d0 n_F38_L1) (IntKind.i64.wrap (v2 + 1))))
    else
      (some true)
def F38 (fuel : Nat) (d0 : List T_api_Instr) : Option Bool :=
  Option.bind (F70 ((d0.map e_T_api_Instr).length : Int) 1 40) fun y1 =>
  bif !y1 then
    (some false)
  else
    (F38_L1 d0 fuel 0)
theorem F38_ok {fuel : Nat} {d0 : List T_api_Instr} {r : Bool} (hF : F38 fuel d0 = some r) :
    CallF Tryz.prog 38 [.d (.sl 4 (d0.map e_T_api_Instr))] (.d (.bool r)) := by
  unfold F38 at hF
  refine callF_of (N := 23) (b := bodyOf Tryz.f38) Tryz.func38 (by kernel_rfl) rfl rfl ?_
  obtain ⟨y1, e1, hF⟩ := bnd hF
  refine J_adv 9 (J_callF (xs := [.d (.int .i64 ((d0.map e_T_api_Instr).length : Int)), .d (.int .i64 1), .d (.int .i64 40)]) [.d (.int .i64 ((d0.map e_T_api_Instr).length : Int)), .d (.int .i64 1), .d (.int .i64 40)] (.d (.bool y1)) (by kernel_rfl) en70 (Res'.refl _) (F70_ok e1) ?_)
  refine J_adv 2 (J_bool 7 (b := !y1) (by kernel_rfl) (fun hb1 => ?_) (fun hb1 => ?_))
  · replace hF := ift hb1 hF
    have hr_ := Option.some.inj hF; subst hr_
    exact J_adv 5 (J_ret (xs := [.d (.bool false)]) [.d (.bool false)] rfl rfl (by kernel_rfl) (Res'.refl _) rfl)
  · replace hF := iff' hb1 hF
    have hF38_L1 : ∀ (n_F38_L1 : Nat) (v2 : Int), F38_L1 d0 n_F38_L1 v2 = some r → J none Tryz.prog 23 [] (finF Tryz.prog Tryz.f38 (.d (.bool r))) ⟨mkT [(0, .d (.sl 4 (d0.map e_T_api_Instr))), (3, .d (.int .i64 v2))], [], [.inLoop (cAt (bodyOf Tryz.f38) [1, 1, 0, 1, 0, 0]), .inBlock 0, .code (cAt (bodyOf Tryz.f38) [1, 1, 1])]⟩ := by
      clear hF; intro n_F38_L1
      induction n_F38_L1 with
      | zero => intro v2 hF; cases hF
      | succ n_F38_L1 ih_F38_L1 =>
        intro v2 hF
        rw [F38_L1] at hF
        refine J_adv 9 (J_bool 11 (b := decide (v2 < ((d0.map e_T_api_Instr).length : Int))) (by kernel_rfl) (fun hb6 => ?_) (fun hb6 => ?_))
        · replace hF := ift hb6 hF
          obtain ⟨y6, e6, hF⟩ := bnd hF
          refine J_adv 8 (J_opt1 (o := geti (d0.map e_T_api_Instr) v2) (e_T_api_Instr y6) (by kernel_rfl) (gm e6) ?_)
          obtain ⟨y7, e7, hF⟩ := bnd hF
          refine J_adv 4 (J_callF (xs := [.agg [.d (.int .i64 y6.Op), .d (.int .i64 y6.Var), .d (.int .i64 y6.Val), .d (.int .i64 y6.Go)], .d (.int .i64 v2), .d (.int .i64 ((d0.map e_T_api_Instr).length : Int))]) [.agg [.d (.int .i64 y6.Op), .d (.int .i64 y6.Var), .d (.int .i64 y6.Val), .d (.int .i64 y6.Go)], .d (.int .i64 v2), .d (.int .i64 ((d0.map e_T_api_Instr).length : Int))] (.d (.bool y7)) (by kernel_rfl) en71 (Res'.refl _) (F71_ok e7) ?_)
          refine J_adv 2 (J_bool 22 (b := !y7) (by kernel_rfl) (fun hb7 => ?_) (fun hb7 => ?_))
          · replace hF := ift hb7 hF
            have hr_ := Option.some.inj hF; subst hr_
            exact J_adv 5 (J_ret (xs := [.d (.bool false)]) [.d (.bool false)] rfl rfl (by kernel_rfl) (Res'.refl _) rfl)
          · replace hF := iff' hb7 hF
            exact J_adv 8 (J_at [0, 3] [] (T0 := [.inLoop (cAt (bodyOf Tryz.f38) [1, 1, 0, 1, 0, 0]), .inBlock 0, .code (cAt (bodyOf Tryz.f38) [1, 1, 1])]) (by kernel_rfl) rfl (ih_F38_L1 (IntKind.i64.wrap (v2 + 1)) hF))
        · replace hF := iff' hb6 hF
          have hr_ := Option.some.inj hF; subst hr_
          exact J_adv 6 (J_ret (xs := [.d (.bool true)]) [.d (.bool true)] rfl rfl (by kernel_rfl) (Res'.refl _) rfl)
    exact J_adv 9 (J_at [0, 3] [] (T0 := [.inLoop (cAt (bodyOf Tryz.f38) [1, 1, 0, 1, 0, 0]), .inBlock 0, .code (cAt (bodyOf Tryz.f38) [1, 1, 1])]) (by kernel_rfl) rfl (hF38_L1 fuel 0 hF))

/- croupier/croupierref30.in -/
def F72 (d0 : Int) (d1 : Int) (d2 : Int) : Option Bool :=
  Option.bind (
    bif decide (d0 ≥ d1) then
      (some (decide (d0 ≤ d2)))
    else
      (some false)) fun o1 =>
  some o1
theorem F72_ok {d0 : Int} {d1 : Int} {d2 : Int} {r : Bool} (hF : F72 d0 d1 d2 = some r) :
    CallF Tryz.prog 72 [.d (.int .i64 d0), .d (.int .i64 d1), .d (.int .i64 d2)] (.d (.bool r)) := by
  unfold F72 at hF
  refine callF_of (N := 15) (b := bodyOf Tryz.f72) Tryz.func72 (by kernel_rfl) rfl rfl ?_
  obtain ⟨o1, hO, hF⟩ := bnd hF
  have hR1 : J none Tryz.prog 15 [] (finF Tryz.prog Tryz.f72 (.d (.bool r))) ⟨mkT [(6, .d (.bool o1))], [], [.ops (opsOf (cAt (bodyOf Tryz.f72) [1, 0])) [], .code (cAt (bodyOf Tryz.f72) [1, 1])]⟩ := by
    clear hO
    have hr_ := Option.some.inj hF; subst hr_
    exact J_adv 1 (J_ret (xs := [.d (.bool o1)]) [.d (.bool o1)] rfl rfl (by kernel_rfl) (Res'.refl _) rfl)
  clear hF; rename _ = some o1 => hF
  refine J_adv 10 (J_bool 10 (b := decide (d0 ≥ d1)) (by kernel_rfl) (fun hb3 => ?_) (fun hb3 => ?_))
  · replace hF := ift hb3 hF
    have hr_ := Option.some.inj hF; subst hr_
    exact J_adv 5 (J_at [6] [] (T0 := [.ops (opsOf (cAt (bodyOf Tryz.f72) [1, 0])) [], .code (cAt (bodyOf Tryz.f72) [1, 1])]) (by kernel_rfl) rfl hR1)
  · replace hF := iff' hb3 hF
    have hr_ := Option.some.inj hF; subst hr_
    exact J_adv 5 (J_at [6] [] (T0 := [.ops (opsOf (cAt (bodyOf Tryz.f72) [1, 0])) [], .code (cAt (bodyOf Tryz.f72) [1, 1])]) (by kernel_rfl) rfl hR1)

/- croupier/croupierref30.Row -/
def F39_L1 (d0 : List Int) : Nat → Int → Option Bool
  | 0, _ => none
  | n_F39_L1 + 1, v2 =>
    bif decide (v2 < ((d0.map e_i64).length : Int)) then
      (Option.bind (geti d0 v2) fun y5 =>
      Option.bind (F72 y5 (-99) 99) fun y6 =>
      bif !y6 then
        (some false)
      else
        ((F39_L1 d0 n_F39_L1) (IntKind.i64.wrap (v2 + 1))))
    else
      (Option.bind (F72 ((d0.map e_i64).length : Int) 1 4) fun y7 =>
      some y7)
def F39 (fuel : Nat) (d0 : List Int) : Option Bool :=
  F39_L1 d0 fuel 0
theorem F39_ok {fuel : Nat} {d0 : List Int} {r : Bool} (hF : F39 fuel d0 = some r) :
    CallF Tryz.prog 39 [.d (.sl 1 (d0.map e_i64))] (.d (.bool r)) := by
  unfold F39 at hF
  refine callF_of (N := 19) (b := bodyOf Tryz.f39) Tryz.func39 (by kernel_rfl) rfl rfl ?_
  have hF39_L1 : ∀ (n_F39_L1 : Nat) (v2 : Int), F39_L1 d0 n_F39_L1 v2 = some r → J none Tryz.prog 19 [] (finF Tryz.prog Tryz.f39 (.d (.bool r))) ⟨mkT [(0, .d (.sl 1 (d0.map e_i64))), (3, .d (.int .i64 v2))], [], [.inLoop (cAt (bodyOf Tryz.f39) [1, 0, 1, 0, 0]), .inBlock 0, .code (cAt (bodyOf Tryz.f39) [1, 1])]⟩ := by
    clear hF; intro n_F39_L1
    induction n_F39_L1 with
    | zero => intro v2 hF; cases hF
    | succ n_F39_L1 ih_F39_L1 =>
      intro v2 hF
      rw [F39_L1] at hF
      refine J_adv 9 (J_bool 7 (b := decide (v2 < ((d0.map e_i64).length : Int))) (by kernel_rfl) (fun hb5 => ?_) (fun hb5 => ?_))
      · replace hF := ift hb5 hF
        obtain ⟨y5, e5, hF⟩ := bnd hF
        refine J_adv 8 (J_opt1 (o := geti (d0.map e_i64) v2) (e_i64 y5) (by kernel_rfl) (gm e5) ?_)
        obtain ⟨y6, e6, hF⟩ := bnd hF
        refine J_adv 1 (J_callF (xs := [.d (.int .i64 y5), .d (.int .i64 (-99)), .d (.int .i64 99)]) [.d (.int .i64 y5), .d (.int .i64 (-99)), .d (.int .i64 99)] (.d (.bool y6)) (by kernel_rfl) en72 (Res'.refl _) (F72_ok e6) ?_)
        refine J_adv 2 (J_bool 15 (b := !y6) (by kernel_rfl) (fun hb6 => ?_) (fun hb6 => ?_))
        · replace hF := ift hb6 hF
          have hr_ := Option.some.inj hF; subst hr_
          exact J_adv 5 (J_ret (xs := [.d (.bool false)]) [.d (.bool false)] rfl rfl (by kernel_rfl) (Res'.refl _) rfl)
        · replace hF := iff' hb6 hF
          exact J_adv 8 (J_at [0, 3] [] (T0 := [.inLoop (cAt (bodyOf Tryz.f39) [1, 0, 1, 0, 0]), .inBlock 0, .code (cAt (bodyOf Tryz.f39) [1, 1])]) (by kernel_rfl) rfl (ih_F39_L1 (IntKind.i64.wrap (v2 + 1)) hF))
      · replace hF := iff' hb5 hF
        obtain ⟨y7, e7, hF⟩ := bnd hF
        refine J_adv 6 (J_callF (xs := [.d (.int .i64 ((d0.map e_i64).length : Int)), .d (.int .i64 1), .d (.int .i64 4)]) [.d (.int .i64 ((d0.map e_i64).length : Int)), .d (.int .i64 1), .d (.int .i64 4)] (.d (.bool y7)) (by kernel_rfl) en72 (Res'.refl _) (F72_ok e7) ?_)
        have hr_ := Option.some.inj hF; subst hr_
        exact J_adv 2 (J_ret (xs := [.d (.bool y7)]) [.d (.bool y7)] rfl rfl (by kernel_rfl) (Res'.refl _) rfl)
  exact J_adv 11 (J_at [0, 3] [] (T0 := [.inLoop (cAt (bodyOf Tryz.f39) [1, 0, 1, 0, 0]), .inBlock 0, .code (cAt (bodyOf Tryz.f39) [1, 1])]) (by kernel_rfl) rfl (hF39_L1 fuel 0 hF))

/- croupier/croupierref31.Fits -/
def F40_L1 (d0 : List T_api_Instr) (d1 : Int) : Nat → Int → Option Bool
  | 0, _ => none
  | n_F40_L1 + 1, v2 =>
    bif decide (v2 < ((d0.map e_T_api_Instr).length : Int)) then
      (Option.bind (
        Option.bind (geti d0 v2) fun y25 =>
        Option.bind (F53 y25) fun y26 =>
        bif y26 then
          (Option.bind (geti d0 v2) fun y27 =>
          some (decide (y27.Var ≥ d1)))
        else
          (some false)) fun o3 =>
      bif o3 then
        (some false)
      else
        ((F40_L1 d0 d1 n_F40_L1) (IntKind.i64.wrap (v2 + 1))))
    else
      (some true)
def F40 (fuel : Nat) (d0 : List T_api_Instr) (d1 : Int) : Option Bool :=
  F40_L1 d0 d1 fuel 0
theorem F40_ok {fuel : Nat} {d0 : List T_api_Instr} {d1 : Int} {r : Bool} (hF : F40 fuel d0 d1 = some r) :
    CallF Tryz.prog 40 [.d (.sl 4 (d0.map e_T_api_Instr)), .d (.int .i64 d1)] (.d (.bool r)) := by
  unfold F40 at hF
  refine callF_of (N := 26) (b := bodyOf Tryz.f40) Tryz.func40 (by kernel_rfl) rfl rfl ?_
  have hF40_L1 : ∀ (n_F40_L1 : Nat) (v2 : Int), F40_L1 d0 d1 n_F40_L1 v2 = some r → J none Tryz.prog 26 [] (finF Tryz.prog Tryz.f40 (.d (.bool r))) ⟨mkT [(0, .d (.sl 4 (d0.map e_T_api_Instr))), (1, .d (.int .i64 d1)), (5, .d (.int .i64 v2))], [], [.inLoop (cAt (bodyOf Tryz.f40) [1, 0, 1, 0, 0]), .inBlock 0, .code (cAt (bodyOf Tryz.f40) [1, 1])]⟩ := by
    clear hF; intro n_F40_L1
    induction n_F40_L1 with
    | zero => intro v2 hF; cases hF
    | succ n_F40_L1 ih_F40_L1 =>
      intro v2 hF
      rw [F40_L1] at hF
      refine J_adv 9 (J_bool 9 (b := decide (v2 < ((d0.map e_T_api_Instr).length : Int))) (by kernel_rfl) (fun hb11 => ?_) (fun hb11 => ?_))
      · replace hF := ift hb11 hF
        obtain ⟨o3, hO, hF⟩ := bnd hF
        have hR3 : J none Tryz.prog 26 [] (finF Tryz.prog Tryz.f40 (.d (.bool r))) ⟨mkT [(0, .d (.sl 4 (d0.map e_T_api_Instr))), (1, .d (.int .i64 d1)), (5, .d (.int .i64 v2)), (25, .d (.bool o3))], [], [.ops (opsOf (cAt (bodyOf Tryz.f40) [1, 0, 1, 0, 0, 1, 0, 0, 0])) [], .code (cAt (bodyOf Tryz.f40) [1, 0, 1, 0, 0, 1, 0, 0, 1]), .inBlock 1, .code (cAt (bodyOf Tryz.f40) [1, 0, 1, 0, 0, 1, 1]), .inLoop (cAt (bodyOf Tryz.f40) [1, 0, 1, 0, 0]), .inBlock 0, .code (cAt (bodyOf Tryz.f40) [1, 1])]⟩ := by
          clear hO
          refine J_adv 1 (J_bool 25 (b := o3) (by kernel_rfl) (fun hb14 => ?_) (fun hb14 => ?_))
          · replace hF := ift hb14 hF
            have hr_ := Option.some.inj hF; subst hr_
            exact J_adv 5 (J_ret (xs := [.d (.bool false)]) [.d (.bool false)] rfl rfl (by kernel_rfl) (Res'.refl _) rfl)
          · replace hF := iff' hb14 hF
            exact J_adv 8 (J_at [0, 1, 5] [] (T0 := [.inLoop (cAt (bodyOf Tryz.f40) [1, 0, 1, 0, 0]), .inBlock 0, .code (cAt (bodyOf Tryz.f40) [1, 1])]) (by kernel_rfl) rfl (ih_F40_L1 (IntKind.i64.wrap (v2 + 1)) hF))
        clear hF; rename _ = some o3 => hF
        obtain ⟨y25, e25, hF⟩ := bnd hF
        refine J_adv 8 (J_opt1 (o := geti (d0.map e_T_api_Instr) v2) (e_T_api_Instr y25) (by kernel_rfl) (gm e25) ?_)
        obtain ⟨y26, e26, hF⟩ := bnd hF
        refine J_adv 1 (J_callF (xs := [.agg [.d (.int .i64 y25.Op), .d (.int .i64 y25.Var), .d (.int .i64 y25.Val), .d (.int .i64 y25.Go)]]) [.agg [.d (.int .i64 y25.Op), .d (.int .i64 y25.Var), .d (.int .i64 y25.Val), .d (.int .i64 y25.Go)]] (.d (.bool y26)) (by kernel_rfl) en53 (Res'.refl _) (F53_ok e26) ?_)
        refine J_adv 1 (J_bool 17 (b := y26) (by kernel_rfl) (fun hb15 => ?_) (fun hb15 => ?_))
        · replace hF := ift hb15 hF
          obtain ⟨y27, e27, hF⟩ := bnd hF
          refine J_adv 2 (J_opt1 (o := geti (d0.map e_T_api_Instr) v2) (e_T_api_Instr y27) (by kernel_rfl) (gm e27) ?_)
          have hr_ := Option.some.inj hF; subst hr_
          exact J_adv 5 (J_at [0, 1, 5, 25] [] (T0 := [.ops (opsOf (cAt (bodyOf Tryz.f40) [1, 0, 1, 0, 0, 1, 0, 0, 0])) [], .code (cAt (bodyOf Tryz.f40) [1, 0, 1, 0, 0, 1, 0, 0, 1]), .inBlock 1, .code (cAt (bodyOf Tryz.f40) [1, 0, 1, 0, 0, 1, 1]), .inLoop (cAt (bodyOf Tryz.f40) [1, 0, 1, 0, 0]), .inBlock 0, .code (cAt (bodyOf Tryz.f40) [1, 1])]) (by kernel_rfl) rfl hR3)
        · replace hF := iff' hb15 hF
          have hr_ := Option.some.inj hF; subst hr_
          exact J_adv 8 (J_at [0, 1, 5, 25] [] (T0 := [.ops (opsOf (cAt (bodyOf Tryz.f40) [1, 0, 1, 0, 0, 1, 0, 0, 0])) [], .code (cAt (bodyOf Tryz.f40) [1, 0, 1, 0, 0, 1, 0, 0, 1]), .inBlock 1, .code (cAt (bodyOf Tryz.f40) [1, 0, 1, 0, 0, 1, 1]), .inLoop (cAt (bodyOf Tryz.f40) [1, 0, 1, 0, 0]), .inBlock 0, .code (cAt (bodyOf Tryz.f40) [1, 1])]) (by kernel_rfl) rfl hR3)
      · replace hF := iff' hb11 hF
        have hr_ := Option.some.inj hF; subst hr_
        exact J_adv 6 (J_ret (xs := [.d (.bool true)]) [.d (.bool true)] rfl rfl (by kernel_rfl) (Res'.refl _) rfl)
  exact J_adv 11 (J_at [0, 1, 5] [] (T0 := [.inLoop (cAt (bodyOf Tryz.f40) [1, 0, 1, 0, 0]), .inBlock 0, .code (cAt (bodyOf Tryz.f40) [1, 1])]) (by kernel_rfl) rfl (hF40_L1 fuel 0 hF))

/- croupier/croupierref31.jumps -/
def F73 (d0 : T_api_Instr) (d1 : List Int) : Option Bool :=
  Option.bind (geti d1 d0.Var) fun y1 =>
  Option.bind (
    bif d0.Op == 1 then
      (bif y1 == d0.Val then
        (some true)
      else
        (bif d0.Op == 2 then
          (bif decide (y1 ≤ d0.Val) then
            (some true)
          else
            (bif d0.Op == 3 then
              (some (decide (y1 ≥ d0.Val)))
            else
              (some false)))
        else
          (bif d0.Op == 3 then
            (some (decide (y1 ≥ d0.Val)))
          else
            (some false))))
    else
      (bif d0.Op == 2 then
        (bif decide (y1 ≤ d0.Val) then
          (some true)
        else
          (bif d0.Op == 3 then
            (some (decide (y1 ≥ d0.Val)))
          else
            (some false)))
      else
        (bif d0.Op == 3 then
          (some (decide (y1 ≥ d0.Val)))
        else
          (some false)))) fun o1 =>
  some o1
theorem F73_ok {d0 : T_api_Instr} {d1 : List Int} {r : Bool} (hF : F73 d0 d1 = some r) :
    CallF Tryz.prog 73 [.agg [.d (.int .i64 d0.Op), .d (.int .i64 d0.Var), .d (.int .i64 d0.Val), .d (.int .i64 d0.Go)], .d (.sl 1 (d1.map e_i64))] (.d (.bool r)) := by
  unfold F73 at hF
  refine callF_of (N := 42) (b := bodyOf Tryz.f73) Tryz.func73 (by kernel_rfl) rfl rfl ?_
  obtain ⟨y1, e1, hF⟩ := bnd hF
  refine J_adv 10 (J_opt1 (o := geti (d1.map e_i64) d0.Var) (e_i64 y1) (by kernel_rfl) (gm e1) ?_)
  obtain ⟨o1, hO, hF⟩ := bnd hF
  have hR1 : J none Tryz.prog 42 [] (finF Tryz.prog Tryz.f73 (.d (.bool r))) ⟨mkT [(4, .d (.bool o1))], [], [.ops (opsOf (cAt (bodyOf Tryz.f73) [1, 1, 0])) [], .code (cAt (bodyOf Tryz.f73) [1, 1, 1])]⟩ := by
    clear hO
    have hr_ := Option.some.inj hF; subst hr_
    exact J_adv 1 (J_ret (xs := [.d (.bool o1)]) [.d (.bool o1)] rfl rfl (by kernel_rfl) (Res'.refl _) rfl)
  clear hF; rename _ = some o1 => hF
  refine J_adv 9 (J_bool 14 (b := d0.Op == 1) (by kernel_rfl) (fun hb21 => ?_) (fun hb21 => ?_))
  · replace hF := ift hb21 hF
    refine J_adv 6 (J_bool 20 (b := y1 == d0.Val) (by kernel_rfl) (fun hb22 => ?_) (fun hb22 => ?_))
    · replace hF := ift hb22 hF
      have hr_ := Option.some.inj hF; subst hr_
      exact J_adv 22 (J_at [4] [] (T0 := [.ops (opsOf (cAt (bodyOf Tryz.f73) [1, 1, 0])) [], .code (cAt (bodyOf Tryz.f73) [1, 1, 1])]) (by kernel_rfl) rfl hR1)
    · replace hF := iff' hb22 hF
      refine J_adv 4 (J_bool 24 (b := d0.Op == 2) (by kernel_rfl) (fun hb23 => ?_) (fun hb23 => ?_))
      · replace hF := ift hb23 hF
        refine J_adv 7 (J_bool 31 (b := decide (y1 ≤ d0.Val)) (by kernel_rfl) (fun hb24 => ?_) (fun hb24 => ?_))
        · replace hF := ift hb24 hF
          have hr_ := Option.some.inj hF; subst hr_
          exact J_adv 11 (J_at [4] [] (T0 := [.ops (opsOf (cAt (bodyOf Tryz.f73) [1, 1, 0])) [], .code (cAt (bodyOf Tryz.f73) [1, 1, 1])]) (by kernel_rfl) rfl hR1)
        · replace hF := iff' hb24 hF
          refine J_adv 4 (J_bool 35 (b := d0.Op == 3) (by kernel_rfl) (fun hb25 => ?_) (fun hb25 => ?_))
          · replace hF := ift hb25 hF
            have hr_ := Option.some.inj hF; subst hr_
            exact J_adv 7 (J_at [4] [] (T0 := [.ops (opsOf (cAt (bodyOf Tryz.f73) [1, 1, 0])) [], .code (cAt (bodyOf Tryz.f73) [1, 1, 1])]) (by kernel_rfl) rfl hR1)
          · replace hF := iff' hb25 hF
            have hr_ := Option.some.inj hF; subst hr_
            exact J_adv 7 (J_at [4] [] (T0 := [.ops (opsOf (cAt (bodyOf Tryz.f73) [1, 1, 0])) [], .code (cAt (bodyOf Tryz.f73) [1, 1, 1])]) (by kernel_rfl) rfl hR1)
      · replace hF := iff' hb23 hF
        refine J_adv 11 (J_bool 35 (b := d0.Op == 3) (by kernel_rfl) (fun hb26 => ?_) (fun hb26 => ?_))
        · replace hF := ift hb26 hF
          have hr_ := Option.some.inj hF; subst hr_
          exact J_adv 7 (J_at [4] [] (T0 := [.ops (opsOf (cAt (bodyOf Tryz.f73) [1, 1, 0])) [], .code (cAt (bodyOf Tryz.f73) [1, 1, 1])]) (by kernel_rfl) rfl hR1)
        · replace hF := iff' hb26 hF
          have hr_ := Option.some.inj hF; subst hr_
          exact J_adv 7 (J_at [4] [] (T0 := [.ops (opsOf (cAt (bodyOf Tryz.f73) [1, 1, 0])) [], .code (cAt (bodyOf Tryz.f73) [1, 1, 1])]) (by kernel_rfl) rfl hR1)
  · replace hF := iff' hb21 hF
    refine J_adv 10 (J_bool 24 (b := d0.Op == 2) (by kernel_rfl) (fun hb27 => ?_) (fun hb27 => ?_))
    · replace hF := ift hb27 hF
      refine J_adv 7 (J_bool 31 (b := decide (y1 ≤ d0.Val)) (by kernel_rfl) (fun hb28 => ?_) (fun hb28 => ?_))
      · replace hF := ift hb28 hF
        have hr_ := Option.some.inj hF; subst hr_
        exact J_adv 11 (J_at [4] [] (T0 := [.ops (opsOf (cAt (bodyOf Tryz.f73) [1, 1, 0])) [], .code (cAt (bodyOf Tryz.f73) [1, 1, 1])]) (by kernel_rfl) rfl hR1)
      · replace hF := iff' hb28 hF
        refine J_adv 4 (J_bool 35 (b := d0.Op == 3) (by kernel_rfl) (fun hb29 => ?_) (fun hb29 => ?_))
        · replace hF := ift hb29 hF
          have hr_ := Option.some.inj hF; subst hr_
          exact J_adv 7 (J_at [4] [] (T0 := [.ops (opsOf (cAt (bodyOf Tryz.f73) [1, 1, 0])) [], .code (cAt (bodyOf Tryz.f73) [1, 1, 1])]) (by kernel_rfl) rfl hR1)
        · replace hF := iff' hb29 hF
          have hr_ := Option.some.inj hF; subst hr_
          exact J_adv 7 (J_at [4] [] (T0 := [.ops (opsOf (cAt (bodyOf Tryz.f73) [1, 1, 0])) [], .code (cAt (bodyOf Tryz.f73) [1, 1, 1])]) (by kernel_rfl) rfl hR1)
    · replace hF := iff' hb27 hF
      refine J_adv 11 (J_bool 35 (b := d0.Op == 3) (by kernel_rfl) (fun hb30 => ?_) (fun hb30 => ?_))
      · replace hF := ift hb30 hF
        have hr_ := Option.some.inj hF; subst hr_
        exact J_adv 7 (J_at [4] [] (T0 := [.ops (opsOf (cAt (bodyOf Tryz.f73) [1, 1, 0])) [], .code (cAt (bodyOf Tryz.f73) [1, 1, 1])]) (by kernel_rfl) rfl hR1)
      · replace hF := iff' hb30 hF
        have hr_ := Option.some.inj hF; subst hr_
        exact J_adv 7 (J_at [4] [] (T0 := [.ops (opsOf (cAt (bodyOf Tryz.f73) [1, 1, 0])) [], .code (cAt (bodyOf Tryz.f73) [1, 1, 1])]) (by kernel_rfl) rfl hR1)

/- croupier/croupierref31.Ran -/
def F41_L1 (d0 : List T_api_Instr) (d1 : List Int) : Nat → Int → Int → Option (Int × Int)
  | 0, _, _ => none
  | n_F41_L1 + 1, v3, v4 =>
    Option.bind (geti d0 v3) fun y11 =>
    bif y11.Op != 5 then
      (Option.bind (geti d0 v3) fun y12 =>
      Option.bind (
        bif y12.Op == 4 then
          (some true)
        else
          (Option.bind (F73 y12 d1) fun y15 =>
          some y15)) fun o3 =>
      bif o3 then
        ((F41_L1 d0 d1 n_F41_L1) y12.Go (IntKind.i64.wrap (v4 + 1)))
      else
        ((F41_L1 d0 d1 n_F41_L1) (IntKind.i64.wrap (v3 + 1)) (IntKind.i64.wrap (v4 + 1))))
    else
      (Option.bind (geti d0 v3) fun y16 =>
      some (y16.Val, v4))
def F41 (fuel : Nat) (d0 : List T_api_Instr) (d1 : List Int) : Option (Int × Int) :=
  F41_L1 d0 d1 fuel 0 1
theorem F41_ok {fuel : Nat} {d0 : List T_api_Instr} {d1 : List Int} {r : Int × Int} (hF : F41 fuel d0 d1 = some r) :
    CallF Tryz.prog 41 [.d (.sl 4 (d0.map e_T_api_Instr)), .d (.sl 1 (d1.map e_i64))] (.tup [.d (.int .i64 r.1), .d (.int .i64 r.2)]) := by
  unfold F41 at hF
  refine callF_of (N := 39) (b := bodyOf Tryz.f41) Tryz.func41 (by kernel_rfl) rfl rfl ?_
  have hF41_L1 : ∀ (n_F41_L1 : Nat) (v3 : Int) (v4 : Int), F41_L1 d0 d1 n_F41_L1 v3 v4 = some r → J none Tryz.prog 39 [] (finF Tryz.prog Tryz.f41 (.tup [.d (.int .i64 r.1), .d (.int .i64 r.2)])) ⟨mkT [(0, .d (.sl 4 (d0.map e_T_api_Instr))), (1, .d (.sl 1 (d1.map e_i64))), (6, .d (.int .i64 v3)), (7, .d (.int .i64 v4))], [], [.inLoop (cAt (bodyOf Tryz.f41) [1, 1, 0, 0, 0]), .inBlock 0, .code (cAt (bodyOf Tryz.f41) [1, 1, 1])]⟩ := by
    clear hF; intro n_F41_L1
    induction n_F41_L1 with
    | zero => intro v3 v4 hF; cases hF
    | succ n_F41_L1 ih_F41_L1 =>
      intro v3 v4 hF
      rw [F41_L1] at hF
      obtain ⟨y11, e11, hF⟩ := bnd hF
      refine J_adv 6 (J_opt1 (o := geti (d0.map e_T_api_Instr) v3) (e_T_api_Instr y11) (by kernel_rfl) (gm e11) ?_)
      refine J_adv 4 (J_bool 14 (b := y11.Op != 5) (by kernel_rfl) (fun hb11 => ?_) (fun hb11 => ?_))
      · replace hF := ift hb11 hF
        obtain ⟨y12, e12, hF⟩ := bnd hF
        refine J_adv 7 (J_opt1 (o := geti (d0.map e_T_api_Instr) v3) (e_T_api_Instr y12) (by kernel_rfl) (gm e12) ?_)
        obtain ⟨o3, hO, hF⟩ := bnd hF
        have hR3 : J none Tryz.prog 39 [] (finF Tryz.prog Tryz.f41 (.tup [.d (.int .i64 r.1), .d (.int .i64 r.2)])) ⟨mkT [(0, .d (.sl 4 (d0.map e_T_api_Instr))), (1, .d (.sl 1 (d1.map e_i64))), (6, .d (.int .i64 v3)), (7, .d (.int .i64 v4)), (8, .ptr 8 0), (26, .d (.bool o3))], [(8, .box 66 [.d (.int .i64 y12.Op), .d (.int .i64 y12.Var), .d (.int .i64 y12.Val), .d (.int .i64 y12.Go)])], [.ops (opsOf (cAt (bodyOf Tryz.f41) [1, 1, 0, 0, 0, 1, 0, 1, 0, 0])) [], .code (cAt (bodyOf Tryz.f41) [1, 1, 0, 0, 0, 1, 0, 1, 0, 1]), .code (cAt (bodyOf Tryz.f41) [1, 1, 0, 0, 0, 1, 0, 1, 1]), .inBlock 1, .inLoop (cAt (bodyOf Tryz.f41) [1, 1, 0, 0, 0]), .inBlock 0, .code (cAt (bodyOf Tryz.f41) [1, 1, 1])]⟩ := by
          clear hO
          refine J_adv 1 (J_bool 26 (b := o3) (by kernel_rfl) (fun hb14 => ?_) (fun hb14 => ?_))
          · replace hF := ift hb14 hF
            exact J_adv 12 (J_at [0, 1, 6, 7] [] (T0 := [.inLoop (cAt (bodyOf Tryz.f41) [1, 1, 0, 0, 0]), .inBlock 0, .code (cAt (bodyOf Tryz.f41) [1, 1, 1])]) (by kernel_rfl) rfl (ih_F41_L1 y12.Go (IntKind.i64.wrap (v4 + 1)) hF))
          · replace hF := iff' hb14 hF
            exact J_adv 12 (J_at [0, 1, 6, 7] [] (T0 := [.inLoop (cAt (bodyOf Tryz.f41) [1, 1, 0, 0, 0]), .inBlock 0, .code (cAt (bodyOf Tryz.f41) [1, 1, 1])]) (by kernel_rfl) rfl (ih_F41_L1 (IntKind.i64.wrap (v3 + 1)) (IntKind.i64.wrap (v4 + 1)) hF))
        clear hF; rename _ = some o3 => hF
        refine J_adv 11 (J_bool 22 (b := y12.Op == 4) (by kernel_rfl) (fun hb15 => ?_) (fun hb15 => ?_))
        · replace hF := ift hb15 hF
          have hr_ := Option.some.inj hF; subst hr_
          exact J_adv 4 (J_at [0, 1, 6, 7, 8, 26] [8] (T0 := [.ops (opsOf (cAt (bodyOf Tryz.f41) [1, 1, 0, 0, 0, 1, 0, 1, 0, 0])) [], .code (cAt (bodyOf Tryz.f41) [1, 1, 0, 0, 0, 1, 0, 1, 0, 1]), .code (cAt (bodyOf Tryz.f41) [1, 1, 0, 0, 0, 1, 0, 1, 1]), .inBlock 1, .inLoop (cAt (bodyOf Tryz.f41) [1, 1, 0, 0, 0]), .inBlock 0, .code (cAt (bodyOf Tryz.f41) [1, 1, 1])]) (by kernel_rfl) rfl hR3)
        · replace hF := iff' hb15 hF
          obtain ⟨y15, e15, hF⟩ := bnd hF
          refine J_adv 2 (J_callF (xs := [.agg [.d (.int .i64 y12.Op), .d (.int .i64 y12.Var), .d (.int .i64 y12.Val), .d (.int .i64 y12.Go)], .d (.sl 1 (d1.map e_i64))]) [.agg [.d (.int .i64 y12.Op), .d (.int .i64 y12.Var), .d (.int .i64 y12.Val), .d (.int .i64 y12.Go)], .d (.sl 1 (d1.map e_i64))] (.d (.bool y15)) (by kernel_rfl) en73 (Res'.refl _) (F73_ok e15) ?_)
          have hr_ := Option.some.inj hF; subst hr_
          exact J_adv 1 (J_at [0, 1, 6, 7, 8, 26] [8] (T0 := [.ops (opsOf (cAt (bodyOf Tryz.f41) [1, 1, 0, 0, 0, 1, 0, 1, 0, 0])) [], .code (cAt (bodyOf Tryz.f41) [1, 1, 0, 0, 0, 1, 0, 1, 0, 1]), .code (cAt (bodyOf Tryz.f41) [1, 1, 0, 0, 0, 1, 0, 1, 1]), .inBlock 1, .inLoop (cAt (bodyOf Tryz.f41) [1, 1, 0, 0, 0]), .inBlock 0, .code (cAt (bodyOf Tryz.f41) [1, 1, 1])]) (by kernel_rfl) rfl hR3)
      · replace hF := iff' hb11 hF
        obtain ⟨y16, e16, hF⟩ := bnd hF
        refine J_adv 6 (J_opt1 (o := geti (d0.map e_T_api_Instr) v3) (e_T_api_Instr y16) (by kernel_rfl) (gm e16) ?_)
        have hr_ := Option.some.inj hF; subst hr_
        exact J_adv 6 (J_ret (xs := [.d (.int .i64 y16.Val), .d (.int .i64 v4)]) [.d (.int .i64 y16.Val), .d (.int .i64 v4)] rfl rfl (by kernel_rfl) (Res'.refl _) rfl)
  exact J_adv 13 (J_at [0, 1, 6, 7] [] (T0 := [.inLoop (cAt (bodyOf Tryz.f41) [1, 1, 0, 0, 0]), .inBlock 0, .code (cAt (bodyOf Tryz.f41) [1, 1, 1])]) (by kernel_rfl) rfl (hF41_L1 fuel 0 1 hF))

/- croupier/croupierref31.Run -/
def F12 (fuel : Nat) (d0 : List T_api_Instr) (d1 : List Int) : Option (Int × Int × Int) :=
  Option.bind (F38 fuel d0) fun y1 =>
  bif !y1 then
    (some (0, 0, 310))
  else
    (Option.bind (
      Option.bind (F39 fuel d1) fun y7 =>
      bif !y7 then
        (some true)
      else
        (Option.bind (F40 fuel d0 ((d1.map e_i64).length : Int)) fun y8 =>
        some (!y8))) fun o1 =>
    bif o1 then
      (some (0, 0, 2))
    else
      (Option.bind (F41 fuel d0 d1) fun y6 =>
      some (y6.1, y6.2, 0)))
theorem F12_ok {fuel : Nat} {d0 : List T_api_Instr} {d1 : List Int} {r : Int × Int × Int} (hF : F12 fuel d0 d1 = some r) :
    CallF Tryz.prog 12 [.d (.sl 4 (d0.map e_T_api_Instr)), .d (.sl 1 (d1.map e_i64))] (.tup [.d (.int .i64 r.1), .d (.int .i64 r.2.1), .d (.int .i64 r.2.2)]) := by
  unfold F12 at hF
  refine callF_of (N := 30) (b := bodyOf Tryz.f12) Tryz.func12 (by kernel_rfl) rfl rfl ?_
  obtain ⟨y1, e1, hF⟩ := bnd hF
  refine J_adv 10 (J_callF (xs := [.d (.sl 4 (d0.map e_T_api_Instr))]) [.d (.sl 4 (d0.map e_T_api_Instr))] (.d (.bool y1)) (by kernel_rfl) en38 (Res'.refl _) (F38_ok e1) ?_)
  refine J_adv 2 (J_bool 11 (b := !y1) (by kernel_rfl) (fun hb1 => ?_) (fun hb1 => ?_))
  · replace hF := ift hb1 hF
    have hr_ := Option.some.inj hF; subst hr_
    exact J_adv 7 (J_ret (xs := [.d (.int .i64 0), .d (.int .i64 0), .d (.int .i64 310)]) [.d (.int .i64 0), .d (.int .i64 0), .d (.int .i64 310)] rfl rfl (by kernel_rfl) (Res'.refl _) rfl)
  · replace hF := iff' hb1 hF
    obtain ⟨o1, hO, hF⟩ := bnd hF
    have hR1 : J none Tryz.prog 30 [] (finF Tryz.prog Tryz.f12 (.tup [.d (.int .i64 r.1), .d (.int .i64 r.2.1), .d (.int .i64 r.2.2)])) ⟨mkT [(0, .d (.sl 4 (d0.map e_T_api_Instr))), (1, .d (.sl 1 (d1.map e_i64))), (21, .d (.bool o1))], [], [.ops (opsOf (cAt (bodyOf Tryz.f12) [1, 1, 0, 0])) [], .code (cAt (bodyOf Tryz.f12) [1, 1, 0, 1]), .code (cAt (bodyOf Tryz.f12) [1, 1, 1])]⟩ := by
      clear hO
      refine J_adv 1 (J_bool 21 (b := o1) (by kernel_rfl) (fun hb4 => ?_) (fun hb4 => ?_))
      · replace hF := ift hb4 hF
        have hr_ := Option.some.inj hF; subst hr_
        exact J_adv 7 (J_ret (xs := [.d (.int .i64 0), .d (.int .i64 0), .d (.int .i64 2)]) [.d (.int .i64 0), .d (.int .i64 0), .d (.int .i64 2)] rfl rfl (by kernel_rfl) (Res'.refl _) rfl)
      · replace hF := iff' hb4 hF
        obtain ⟨y6, e6, hF⟩ := bnd hF
        refine J_adv 6 (J_callF (xs := [.d (.sl 4 (d0.map e_T_api_Instr)), .d (.sl 1 (d1.map e_i64))]) [.d (.sl 4 (d0.map e_T_api_Instr)), .d (.sl 1 (d1.map e_i64))] (.tup [.d (.int .i64 y6.1), .d (.int .i64 y6.2)]) (by kernel_rfl) en41 (Res'.refl _) (F41_ok e6) ?_)
        have hr_ := Option.some.inj hF; subst hr_
        exact J_adv 14 (J_ret (xs := [.d (.int .i64 y6.1), .d (.int .i64 y6.2), .d (.int .i64 0)]) [.d (.int .i64 y6.1), .d (.int .i64 y6.2), .d (.int .i64 0)] rfl rfl (by kernel_rfl) (Res'.refl _) rfl)
    clear hF; rename _ = some o1 => hF
    obtain ⟨y7, e7, hF⟩ := bnd hF
    refine J_adv 6 (J_callF (xs := [.d (.sl 1 (d1.map e_i64))]) [.d (.sl 1 (d1.map e_i64))] (.d (.bool y7)) (by kernel_rfl) en39 (Res'.refl _) (F39_ok e7) ?_)
    refine J_adv 2 (J_bool 15 (b := !y7) (by kernel_rfl) (fun hb5 => ?_) (fun hb5 => ?_))
    · replace hF := ift hb5 hF
      have hr_ := Option.some.inj hF; subst hr_
      exact J_adv 6 (J_at [0, 1, 21] [] (T0 := [.ops (opsOf (cAt (bodyOf Tryz.f12) [1, 1, 0, 0])) [], .code (cAt (bodyOf Tryz.f12) [1, 1, 0, 1]), .code (cAt (bodyOf Tryz.f12) [1, 1, 1])]) (by kernel_rfl) rfl hR1)
    · replace hF := iff' hb5 hF
      obtain ⟨y8, e8, hF⟩ := bnd hF
      refine J_adv 3 (J_callF (xs := [.d (.sl 4 (d0.map e_T_api_Instr)), .d (.int .i64 ((d1.map e_i64).length : Int))]) [.d (.sl 4 (d0.map e_T_api_Instr)), .d (.int .i64 ((d1.map e_i64).length : Int))] (.d (.bool y8)) (by kernel_rfl) en40 (Res'.refl _) (F40_ok e8) ?_)
      have hr_ := Option.some.inj hF; subst hr_
      exact J_adv 2 (J_at [0, 1, 21] [] (T0 := [.ops (opsOf (cAt (bodyOf Tryz.f12) [1, 1, 0, 0])) [], .code (cAt (bodyOf Tryz.f12) [1, 1, 0, 1]), .code (cAt (bodyOf Tryz.f12) [1, 1, 1])]) (by kernel_rfl) rfl hR1)

/- croupier/croupierlaw31.CodeRuns -/
def F3_L3 (fuel : Nat) (l13 : List Int) (l14 : List Int) (v8 : Int) (y27 : List T_api_Instr) (rec_F3_L2 : (List Int) → Int → Option Bool) : Nat → Int → Option Bool
  | 0, _ => none
  | n_F3_L3 + 1, v10 =>
    bif decide (v10 < 2) then
      (Option.bind (geti [l13, l14] v10) fun y34 =>
      Option.bind (F11 fuel y27 y34) fun y35 =>
      Option.bind (F12 fuel y27 y34) fun y36 =>
      Option.bind (
        bif y35.1 != y36.1 then
          (some true)
        else
          (bif y35.2.1 != y36.2.1 then
            (some true)
          else
            (some (y35.2.2 != y36.2.2)))) fun o9 =>
      bif o9 then
        (some false)
      else
        ((F3_L3 fuel l13 l14 v8 y27 rec_F3_L2 n_F3_L3) (IntKind.i64.wrap (v10 + 1))))
    else
      (rec_F3_L2 l13 (IntKind.i64.wrap (v8 + 1)))
def F3_L2 (fuel : Nat) (d2 : List Int) (y2 : List T_api_Instr) (y6 : List T_api_Instr) : Nat → (List Int) → Int → Option Bool
  | 0, _, _ => none
  | n_F3_L2 + 1, l13, v8 =>
    bif decide (v8 < 2) then
      (Option.bind (geti [y2, y6] v8) fun y27 =>
      Option.bind (slc d2 0 (bif decide (6 < ((d2.map e_i64).length : Int)) then 6 else ((d2.map e_i64).length : Int))) fun l14 =>
      F3_L3 fuel l13 l14 v8 y27 (F3_L2 fuel d2 y2 y6 n_F3_L2) fuel 0)
    else
      (some true)
def F3_L1 (fuel : Nat) (d1 : T_croupierlaw31_Bend) (d2 : List Int) (d3 : A_a4i8) (d4 : Int) (y2 : List T_api_Instr) : Nat → Int → (List Int) → Option Bool
  | 0, _, _ => none
  | n_F3_L1 + 1, v2, l4 =>
    bif decide (v2 < (IntKind.i64.wrap (1 + (IntKind.i64.wrap (Int.tmod d4 4))))) then
      (Option.bind (geti [d3.a0, d3.a1, d3.a2, d3.a3] v2) fun y5 =>
      Option.bind (app l4 [Int.tmod (IntKind.i64.wrap y5) 100]) fun l5 =>
      (F3_L1 fuel d1 d2 d3 d4 y2 n_F3_L1) (IntKind.i64.wrap (v2 + 1)) l5)
    else
      (Option.bind (F10 fuel d1 y2) fun y6 =>
      F3_L2 fuel d2 y2 y6 fuel l4 0)
def F3 (fuel : Nat) (d0 : List A_a4i8) (d1 : T_croupierlaw31_Bend) (d2 : List Int) (d3 : A_a4i8) (d4 : Int) : Option Bool :=
  Option.bind (F8 fuel) fun y1 =>
  bif !y1 then
    (some false)
  else
    (Option.bind (F9 fuel d0) fun y2 =>
    F3_L1 fuel d1 d2 d3 d4 y2 fuel 0 [])
theorem F3_ok {fuel : Nat} {d0 : List A_a4i8} {d1 : T_croupierlaw31_Bend} {d2 : List Int} {d3 : A_a4i8} {d4 : Int} {r : Bool} (hF : F3 fuel d0 d1 d2 d3 d4 = some r) :
    CallF Tryz.prog 3 [.d (.sl 4 (d0.map e_a4i8)), .agg [.d (.int .u8 d1.What), .d (.int .u8 d1.At), .d (.int .i64 d1.N)], .d (.sl 1 (d2.map e_i64)), .agg [.d (.int .i8 d3.a0), .d (.int .i8 d3.a1), .d (.int .i8 d3.a2), .d (.int .i8 d3.a3)], .d (.int .u8 d4)] (.d (.bool r)) := by
  unfold F3 at hF
  refine callF_of (N := 91) (b := bodyOf Tryz.f3) Tryz.func3 (by kernel_rfl) rfl rfl ?_
  obtain ⟨y1, e1, hF⟩ := bnd hF
  refine J_adv 9 (J_callF (xs := []) [] (.d (.bool y1)) (by kernel_rfl) en8 (Res'.refl _) (F8_ok e1) ?_)
  refine J_adv 2 (J_bool 25 (b := !y1) (by kernel_rfl) (fun hb1 => ?_) (fun hb1 => ?_))
  · replace hF := ift hb1 hF
    have hr_ := Option.some.inj hF; subst hr_
    exact J_adv 5 (J_ret (xs := [.d (.bool false)]) [.d (.bool false)] rfl rfl (by kernel_rfl) (Res'.refl _) rfl)
  · replace hF := iff' hb1 hF
    obtain ⟨y2, e2, hF⟩ := bnd hF
    refine J_adv 5 (J_callF (xs := [.d (.sl 4 (d0.map e_a4i8))]) [.d (.sl 4 (d0.map e_a4i8))] (.d (.sl 4 (y2.map e_T_api_Instr))) (by kernel_rfl) en9 (Res'.refl _) (F9_ok e2) ?_)
    have hF3_L1 : ∀ (n_F3_L1 : Nat) (v2 : Int) (l4 : List Int), F3_L1 fuel d1 d2 d3 d4 y2 n_F3_L1 v2 l4 = some r → J none Tryz.prog 91 [] (finF Tryz.prog Tryz.f3 (.d (.bool r))) ⟨mkT [(2, .d (.sl 1 (d2.map e_i64))), (6, .ptr 6 0), (8, .ptr 8 0), (11, .d (.sl 4 (y2.map e_T_api_Instr))), (12, .suf 42 0 0), (31, .d (.int .i64 (IntKind.i64.wrap (1 + (IntKind.i64.wrap (Int.tmod d4 4)))))), (32, .d (.int .i64 v2))], [(6, .box 24 [.d (.int .u8 d1.What), .d (.int .u8 d1.At), .d (.int .i64 d1.N)]), (8, .fzb [.d (.int .i8 d3.a0), .d (.int .i8 d3.a1), .d (.int .i8 d3.a2), .d (.int .i8 d3.a3)]), (42, .buf 0 3 1 (l4.map e_i64))], [.inLoop (cAt (bodyOf Tryz.f3) [1, 1, 1, 1, 0, 1, 0, 0]), .inBlock 0, .code (cAt (bodyOf Tryz.f3) [1, 1, 1, 1, 1])]⟩ := by
      clear hF; intro n_F3_L1
      induction n_F3_L1 with
      | zero => intro v2 l4 hF; cases hF
      | succ n_F3_L1 ih_F3_L1 =>
        intro v2 l4 hF
        rw [F3_L1] at hF
        refine J_adv 6 (J_bool 33 (b := decide (v2 < (IntKind.i64.wrap (1 + (IntKind.i64.wrap (Int.tmod d4 4)))))) (by kernel_rfl) (fun hb4 => ?_) (fun hb4 => ?_))
        · replace hF := ift hb4 hF
          obtain ⟨y5, e7, hF⟩ := bnd hF
          refine J_adv 12 (J_opt1 (o := geti (chunks 1 4 (([.int .i8 d3.a0, .int .i8 d3.a1, .int .i8 d3.a2, .int .i8 d3.a3] : List Dat).drop 0)) v2) (e_i8 y5) (by kernel_rfl) (gm (f := e_i8) e7) ?_)
          obtain ⟨l5, e8, hF⟩ := bnd hF
          refine J_adv 4 (J_opt2 (o := app2 ((l4.map e_i64).drop 0) ([Int.tmod (IntKind.i64.wrap y5) 100].map e_i64)) (l5.map e_i64) (by kernel_rfl) (am e8) ?_)
          exact J_adv 7 (J_at [2, 6, 8, 11, 12, 31, 32] [6, 8, 42] (T0 := [.inLoop (cAt (bodyOf Tryz.f3) [1, 1, 1, 1, 0, 1, 0, 0]), .inBlock 0, .code (cAt (bodyOf Tryz.f3) [1, 1, 1, 1, 1])]) (by kernel_rfl) rfl (ih_F3_L1 (IntKind.i64.wrap (v2 + 1)) l5 hF))
        · replace hF := iff' hb4 hF
          obtain ⟨y6, e9, hF⟩ := bnd hF
          refine J_adv 8 (J_callF (xs := [.agg [.d (.int .u8 d1.What), .d (.int .u8 d1.At), .d (.int .i64 d1.N)], .d (.sl 4 (y2.map e_T_api_Instr))]) [.agg [.d (.int .u8 d1.What), .d (.int .u8 d1.At), .d (.int .i64 d1.N)], .d (.sl 4 (y2.map e_T_api_Instr))] (.d (.sl 4 (y6.map e_T_api_Instr))) (by kernel_rfl) en10 (Res'.refl _) (F10_ok e9) ?_)
          have hF3_L2 : ∀ (n_F3_L2 : Nat) (l13 : List Int) (v8 : Int), F3_L2 fuel d2 y2 y6 n_F3_L2 l13 v8 = some r → J none Tryz.prog 91 [] (finF Tryz.prog Tryz.f3 (.d (.bool r))) ⟨mkT [(2, .d (.sl 1 (d2.map e_i64))), (12, .d (.sl 1 (l13.map e_i64))), (48, .agg [.d (.sl 4 (y2.map e_T_api_Instr)), .d (.sl 4 (y6.map e_T_api_Instr))]), (49, .d (.int .i64 v8))], [], [.inLoop (cAt (bodyOf Tryz.f3) [1, 1, 1, 1, 1, 0, 1, 0, 0]), .inBlock 2, .code (cAt (bodyOf Tryz.f3) [1, 1, 1, 1, 1, 1])]⟩ := by
            clear hF; intro n_F3_L2
            induction n_F3_L2 with
            | zero => intro l13 v8 hF; cases hF
            | succ n_F3_L2 ih_F3_L2 =>
              intro l13 v8 hF
              rw [F3_L2] at hF
              refine J_adv 6 (J_bool 50 (b := decide (v8 < 2)) (by kernel_rfl) (fun hb54 => ?_) (fun hb54 => ?_))
              · replace hF := ift hb54 hF
                obtain ⟨y27, e32, hF⟩ := bnd hF
                refine J_adv 6 (J_opt1 (o := geti (chunks 1 2 ([.sl 4 (y2.map e_T_api_Instr), .sl 4 (y6.map e_T_api_Instr)] : List Dat)) v8) (e_lT_api_Instr y27) (by kernel_rfl) (gm (f := e_lT_api_Instr) e32) ?_)
                obtain ⟨l14, e33, hF⟩ := bnd hF
                refine J_adv 9 (J_opt2 (o := slc (d2.map e_i64) 0 (bif decide (6 < ((d2.map e_i64).length : Int)) then 6 else ((d2.map e_i64).length : Int))) (l14.map e_i64) (by kernel_rfl) (sm e33) ?_)
                have hF3_L3 : ∀ (n_F3_L3 : Nat) (v10 : Int), F3_L3 fuel l13 l14 v8 y27 (F3_L2 fuel d2 y2 y6 n_F3_L2) n_F3_L3 v10 = some r → J none Tryz.prog 91 [] (finF Tryz.prog Tryz.f3 (.d (.bool r))) ⟨mkT [(2, .d (.sl 1 (d2.map e_i64))), (12, .d (.sl 1 (l13.map e_i64))), (15, .d (.sl 4 (y27.map e_T_api_Instr))), (48, .agg [.d (.sl 4 (y2.map e_T_api_Instr)), .d (.sl 4 (y6.map e_T_api_Instr))]), (49, .d (.int .i64 v8)), (58, .agg [.d (.sl 1 (l13.map e_i64)), .d (.sl 1 (l14.map e_i64))]), (59, .d (.int .i64 v10))], [], [.inLoop (cAt (bodyOf Tryz.f3) [1, 1, 1, 1, 1, 0, 1, 0, 0, 1, 1, 0, 0, 1, 1, 0, 0]), .inBlock 4, .inBlock 3, .code (cAt (bodyOf Tryz.f3) [1, 1, 1, 1, 1, 0, 1, 0, 0, 1, 1, 1]), .inLoop (cAt (bodyOf Tryz.f3) [1, 1, 1, 1, 1, 0, 1, 0, 0]), .inBlock 2, .code (cAt (bodyOf Tryz.f3) [1, 1, 1, 1, 1, 1])]⟩ := by
                  clear hF; intro n_F3_L3
                  induction n_F3_L3 with
                  | zero => intro v10 hF; cases hF
                  | succ n_F3_L3 ih_F3_L3 =>
                    intro v10 hF
                    rw [F3_L3] at hF
                    refine J_adv 6 (J_bool 60 (b := decide (v10 < 2)) (by kernel_rfl) (fun hb71 => ?_) (fun hb71 => ?_))
                    · replace hF := ift hb71 hF
                      obtain ⟨y34, e40, hF⟩ := bnd hF
                      refine J_adv 6 (J_opt1 (o := geti (chunks 1 2 ([.sl 1 (l13.map e_i64), .sl 1 (l14.map e_i64)] : List Dat)) v10) (e_li64 y34) (by kernel_rfl) (gm (f := e_li64) e40) ?_)
                      obtain ⟨y35, e41, hF⟩ := bnd hF
                      refine J_adv 6 (J_callF (xs := [.d (.sl 4 (y27.map e_T_api_Instr)), .d (.sl 1 (y34.map e_i64))]) [.d (.sl 4 (y27.map e_T_api_Instr)), .d (.sl 1 (y34.map e_i64))] (.tup [.d (.int .i64 y35.1), .d (.int .i64 y35.2.1), .d (.int .i64 y35.2.2)]) (by kernel_rfl) en11 (Res'.refl _) (F11_ok e41) ?_)
                      obtain ⟨y36, e42, hF⟩ := bnd hF
                      refine J_adv 12 (J_callF (xs := [.d (.sl 4 (y27.map e_T_api_Instr)), .d (.sl 1 (y34.map e_i64))]) [.d (.sl 4 (y27.map e_T_api_Instr)), .d (.sl 1 (y34.map e_i64))] (.tup [.d (.int .i64 y36.1), .d (.int .i64 y36.2.1), .d (.int .i64 y36.2.2)]) (by kernel_rfl) en12 (Res'.refl _) (F12_ok e42) ?_)
                      obtain ⟨o9, hO, hF⟩ := bnd hF
                      have hR9 : J none Tryz.prog 91 [] (finF Tryz.prog Tryz.f3 (.d (.bool r))) ⟨mkT [(2, .d (.sl 1 (d2.map e_i64))), (12, .d (.sl 1 (l13.map e_i64))), (15, .d (.sl 4 (y27.map e_T_api_Instr))), (48, .agg [.d (.sl 4 (y2.map e_T_api_Instr)), .d (.sl 4 (y6.map e_T_api_Instr))]), (49, .d (.int .i64 v8)), (58, .agg [.d (.sl 1 (l13.map e_i64)), .d (.sl 1 (l14.map e_i64))]), (59, .d (.int .i64 v10)), (88, .d (.bool o9))], [], [.ops (opsOf (cAt (bodyOf Tryz.f3) [1, 1, 1, 1, 1, 0, 1, 0, 0, 1, 1, 0, 0, 1, 1, 0, 0, 1, 1, 0, 0, 1, 1, 1, 0])) [], .code (cAt (bodyOf Tryz.f3) [1, 1, 1, 1, 1, 0, 1, 0, 0, 1, 1, 0, 0, 1, 1, 0, 0, 1, 1, 0, 0, 1, 1, 1, 1]), .inBlock 5, .code (cAt (bodyOf Tryz.f3) [1, 1, 1, 1, 1, 0, 1, 0, 0, 1, 1, 0, 0, 1, 1, 0, 0, 1, 1, 1]), .inLoop (cAt (bodyOf Tryz.f3) [1, 1, 1, 1, 1, 0, 1, 0, 0, 1, 1, 0, 0, 1, 1, 0, 0]), .inBlock 4, .inBlock 3, .code (cAt (bodyOf Tryz.f3) [1, 1, 1, 1, 1, 0, 1, 0, 0, 1, 1, 1]), .inLoop (cAt (bodyOf Tryz.f3) [1, 1, 1, 1, 1, 0, 1, 0, 0]), .inBlock 2, .code (cAt (bodyOf Tryz.f3) [1, 1, 1, 1, 1, 1])]⟩ := by
                        clear hO
                        refine J_adv 1 (J_bool 88 (b := o9) (by kernel_rfl) (fun hb76 => ?_) (fun hb76 => ?_))
                        · replace hF := ift hb76 hF
                          have hr_ := Option.some.inj hF; subst hr_
                          exact J_adv 5 (J_ret (xs := [.d (.bool false)]) [.d (.bool false)] rfl rfl (by kernel_rfl) (Res'.refl _) rfl)
                        · replace hF := iff' hb76 hF
                          exact J_adv 7 (J_at [2, 12, 15, 48, 49, 58, 59] [] (T0 := [.inLoop (cAt (bodyOf Tryz.f3) [1, 1, 1, 1, 1, 0, 1, 0, 0, 1, 1, 0, 0, 1, 1, 0, 0]), .inBlock 4, .inBlock 3, .code (cAt (bodyOf Tryz.f3) [1, 1, 1, 1, 1, 0, 1, 0, 0, 1, 1, 1]), .inLoop (cAt (bodyOf Tryz.f3) [1, 1, 1, 1, 1, 0, 1, 0, 0]), .inBlock 2, .code (cAt (bodyOf Tryz.f3) [1, 1, 1, 1, 1, 1])]) (by kernel_rfl) rfl (ih_F3_L3 (IntKind.i64.wrap (v10 + 1)) hF))
                      clear hF; rename _ = some o9 => hF
                      refine J_adv 14 (J_bool 79 (b := y35.1 != y36.1) (by kernel_rfl) (fun hb77 => ?_) (fun hb77 => ?_))
                      · replace hF := ift hb77 hF
                        have hr_ := Option.some.inj hF; subst hr_
                        exact J_adv 9 (J_at [2, 12, 15, 48, 49, 58, 59, 88] [] (T0 := [.ops (opsOf (cAt (bodyOf Tryz.f3) [1, 1, 1, 1, 1, 0, 1, 0, 0, 1, 1, 0, 0, 1, 1, 0, 0, 1, 1, 0, 0, 1, 1, 1, 0])) [], .code (cAt (bodyOf Tryz.f3) [1, 1, 1, 1, 1, 0, 1, 0, 0, 1, 1, 0, 0, 1, 1, 0, 0, 1, 1, 0, 0, 1, 1, 1, 1]), .inBlock 5, .code (cAt (bodyOf Tryz.f3) [1, 1, 1, 1, 1, 0, 1, 0, 0, 1, 1, 0, 0, 1, 1, 0, 0, 1, 1, 1]), .inLoop (cAt (bodyOf Tryz.f3) [1, 1, 1, 1, 1, 0, 1, 0, 0, 1, 1, 0, 0, 1, 1, 0, 0]), .inBlock 4, .inBlock 3, .code (cAt (bodyOf Tryz.f3) [1, 1, 1, 1, 1, 0, 1, 0, 0, 1, 1, 1]), .inLoop (cAt (bodyOf Tryz.f3) [1, 1, 1, 1, 1, 0, 1, 0, 0]), .inBlock 2, .code (cAt (bodyOf Tryz.f3) [1, 1, 1, 1, 1, 1])]) (by kernel_rfl) rfl hR9)
                      · replace hF := iff' hb77 hF
                        refine J_adv 5 (J_bool 84 (b := y35.2.1 != y36.2.1) (by kernel_rfl) (fun hb78 => ?_) (fun hb78 => ?_))
                        · replace hF := ift hb78 hF
                          have hr_ := Option.some.inj hF; subst hr_
                          exact J_adv 4 (J_at [2, 12, 15, 48, 49, 58, 59, 88] [] (T0 := [.ops (opsOf (cAt (bodyOf Tryz.f3) [1, 1, 1, 1, 1, 0, 1, 0, 0, 1, 1, 0, 0, 1, 1, 0, 0, 1, 1, 0, 0, 1, 1, 1, 0])) [], .code (cAt (bodyOf Tryz.f3) [1, 1, 1, 1, 1, 0, 1, 0, 0, 1, 1, 0, 0, 1, 1, 0, 0, 1, 1, 0, 0, 1, 1, 1, 1]), .inBlock 5, .code (cAt (bodyOf Tryz.f3) [1, 1, 1, 1, 1, 0, 1, 0, 0, 1, 1, 0, 0, 1, 1, 0, 0, 1, 1, 1]), .inLoop (cAt (bodyOf Tryz.f3) [1, 1, 1, 1, 1, 0, 1, 0, 0, 1, 1, 0, 0, 1, 1, 0, 0]), .inBlock 4, .inBlock 3, .code (cAt (bodyOf Tryz.f3) [1, 1, 1, 1, 1, 0, 1, 0, 0, 1, 1, 1]), .inLoop (cAt (bodyOf Tryz.f3) [1, 1, 1, 1, 1, 0, 1, 0, 0]), .inBlock 2, .code (cAt (bodyOf Tryz.f3) [1, 1, 1, 1, 1, 1])]) (by kernel_rfl) rfl hR9)
                        · replace hF := iff' hb78 hF
                          have hr_ := Option.some.inj hF; subst hr_
                          exact J_adv 4 (J_at [2, 12, 15, 48, 49, 58, 59, 88] [] (T0 := [.ops (opsOf (cAt (bodyOf Tryz.f3) [1, 1, 1, 1, 1, 0, 1, 0, 0, 1, 1, 0, 0, 1, 1, 0, 0, 1, 1, 0, 0, 1, 1, 1, 0])) [], .code (cAt (bodyOf Tryz.f3) [1, 1, 1, 1, 1, 0, 1, 0, 0, 1, 1, 0, 0, 1, 1, 0, 0, 1, 1, 0, 0, 1, 1, 1, 1]), .inBlock 5, .code (cAt (bodyOf Tryz.f3) [1, 1, 1, 1, 1, 0, 1, 0, 0, 1, 1, 0, 0, 1, 1, 0, 0, 1, 1, 1]), .inLoop (cAt (bodyOf Tryz.f3) [1, 1, 1, 1, 1, 0, 1, 0, 0, 1, 1, 0, 0, 1, 1, 0, 0]), .inBlock 4, .inBlock 3, .code (cAt (bodyOf Tryz.f3) [1, 1, 1, 1, 1, 0, 1, 0, 0, 1, 1, 1]), .inLoop (cAt (bodyOf Tryz.f3) [1, 1, 1, 1, 1, 0, 1, 0, 0]), .inBlock 2, .code (cAt (bodyOf Tryz.f3) [1, 1, 1, 1, 1, 1])]) (by kernel_rfl) rfl hR9)
                    · replace hF := iff' hb71 hF
                      exact J_adv 7 (J_at [2, 12, 48, 49] [] (T0 := [.inLoop (cAt (bodyOf Tryz.f3) [1, 1, 1, 1, 1, 0, 1, 0, 0]), .inBlock 2, .code (cAt (bodyOf Tryz.f3) [1, 1, 1, 1, 1, 1])]) (by kernel_rfl) rfl (ih_F3_L2 l13 (IntKind.i64.wrap (v8 + 1)) hF))
                exact J_adv 5 (J_at [2, 12, 15, 48, 49, 58, 59] [] (T0 := [.inLoop (cAt (bodyOf Tryz.f3) [1, 1, 1, 1, 1, 0, 1, 0, 0, 1, 1, 0, 0, 1, 1, 0, 0]), .inBlock 4, .inBlock 3, .code (cAt (bodyOf Tryz.f3) [1, 1, 1, 1, 1, 0, 1, 0, 0, 1, 1, 1]), .inLoop (cAt (bodyOf Tryz.f3) [1, 1, 1, 1, 1, 0, 1, 0, 0]), .inBlock 2, .code (cAt (bodyOf Tryz.f3) [1, 1, 1, 1, 1, 1])]) (by kernel_rfl) rfl (hF3_L3 fuel 0 hF))
              · replace hF := iff' hb54 hF
                have hr_ := Option.some.inj hF; subst hr_
                exact J_adv 6 (J_ret (xs := [.d (.bool true)]) [.d (.bool true)] rfl rfl (by kernel_rfl) (Res'.refl _) rfl)
          refine J_adv 5 (J_frzS 12 (by kernel_rfl) (by kernel_rfl) ?_)
          exact J_adv 0 (J_at [2, 12, 48, 49] [] (T0 := [.inLoop (cAt (bodyOf Tryz.f3) [1, 1, 1, 1, 1, 0, 1, 0, 0]), .inBlock 2, .code (cAt (bodyOf Tryz.f3) [1, 1, 1, 1, 1, 1])]) (by kernel_rfl) rfl (hF3_L2 fuel l4 0 hF))
    refine J_adv 17 (J_frz (te := 27) 8 [.d (.int .i8 d3.a0), .d (.int .i8 d3.a1), .d (.int .i8 d3.a2), .d (.int .i8 d3.a3)] (by kernel_rfl) (by kernel_rfl) ?_)
    refine J_adv 0 (J_own (n := 1) 12 42 3 1 (by kernel_rfl) (by kernel_rfl) ?_)
    exact J_adv 0 (J_at [2, 6, 8, 11, 12, 31, 32] [6, 8, 42] (T0 := [.inLoop (cAt (bodyOf Tryz.f3) [1, 1, 1, 1, 0, 1, 0, 0]), .inBlock 0, .code (cAt (bodyOf Tryz.f3) [1, 1, 1, 1, 1])]) (by kernel_rfl) rfl (hF3_L1 fuel 0 [] hF))

end Go.Proofs.YtilfjfpemjfalaaGreatDoor
