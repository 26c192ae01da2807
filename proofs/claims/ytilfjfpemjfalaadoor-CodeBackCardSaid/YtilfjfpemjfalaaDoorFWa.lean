import Derived.Test.YtilfjfpemjfalaaDoorFCo
import Derived.KernelRfl
set_option linter.unusedVariables false
set_option maxRecDepth 100000
namespace Go.Proofs.YtilfjfpemjfalaaDoor
open Go Go.RowKit Kx

theorem en12 : entersT Tryd.prog 12 := Kx.enters_of Tryd.func12 (by kernel_rfl) (by kernel_rfl)

/- croupier/croupierref31.Of -/
def F12_A2 (v2 : Int) (rec_F12_L1 : Int → (List T_api_Instr) → Option (List T_api_Instr)) (l20 : List T_api_Instr) : Option (List T_api_Instr) :=
  rec_F12_L1 (IntKind.i64.wrap (v2 + 1)) l20
def F12_L1 (d0 : List A_a4i8) : Nat → Int → (List T_api_Instr) → Option (List T_api_Instr)
  | 0, _, _ => none
  | n_F12_L1 + 1, v2, l16 =>
    bif decide (v2 < 29) then
      (Option.bind (geti d0 v2) fun y6 =>
      ass (decide ((IntKind.i64.wrap (29 - v2)) ≠ 0)) <|
      bif (Int.tmod (IntKind.u8.wrap y6.a0) 6) == 0 then
        (Option.bind (app l16 [(⟨5, 0, IntKind.i64.wrap (Int.tmod (IntKind.u8.wrap y6.a2) 4), 0⟩ : T_api_Instr)]) fun l21 =>
        F12_A2 v2 (F12_L1 d0 n_F12_L1) l21)
      else
        (bif (Int.tmod (IntKind.u8.wrap y6.a0) 6) == 1 then
          (Option.bind (app l16 [(⟨4, 0, 0, IntKind.i64.wrap ((IntKind.i64.wrap (v2 + 1)) + (Int.tmod (IntKind.i64.wrap (IntKind.u8.wrap y6.a3)) (IntKind.i64.wrap (29 - v2))))⟩ : T_api_Instr)]) fun l22 =>
          F12_A2 v2 (F12_L1 d0 n_F12_L1) l22)
        else
          (Option.bind (app l16 [(⟨IntKind.i64.wrap (1 + (IntKind.i64.wrap (Int.tmod (IntKind.u8.wrap y6.a0) 3))), IntKind.i64.wrap (Int.tmod (IntKind.u8.wrap y6.a1) 4), Int.tmod (IntKind.i64.wrap y6.a2) 100, IntKind.i64.wrap ((IntKind.i64.wrap (v2 + 1)) + (Int.tmod (IntKind.i64.wrap (IntKind.u8.wrap y6.a3)) (IntKind.i64.wrap (29 - v2))))⟩ : T_api_Instr)]) fun l23 =>
          F12_A2 v2 (F12_L1 d0 n_F12_L1) l23)))
    else
      (Option.bind (app l16 [(⟨5, 0, Int.tmod 29 4, 0⟩ : T_api_Instr)]) fun l24 =>
      some l24)
def F12_A4 (v4 : Int) (rec_F12_L3 : Int → (List T_api_Instr) → Option (List T_api_Instr)) (l44 : List T_api_Instr) : Option (List T_api_Instr) :=
  rec_F12_L3 (IntKind.i64.wrap (v4 + 1)) l44
def F12_L3 (d0 : List A_a4i8) : Nat → Int → (List T_api_Instr) → Option (List T_api_Instr)
  | 0, _, _ => none
  | n_F12_L3 + 1, v4, l40 =>
    bif decide (v4 < ((d0.map e_a4i8).length : Int)) then
      (Option.bind (geti d0 v4) fun y12 =>
      ass (decide ((IntKind.i64.wrap (((d0.map e_a4i8).length : Int) - v4)) ≠ 0)) <|
      bif (Int.tmod (IntKind.u8.wrap y12.a0) 6) == 0 then
        (Option.bind (app l40 [(⟨5, 0, IntKind.i64.wrap (Int.tmod (IntKind.u8.wrap y12.a2) 4), 0⟩ : T_api_Instr)]) fun l45 =>
        F12_A4 v4 (F12_L3 d0 n_F12_L3) l45)
      else
        (bif (Int.tmod (IntKind.u8.wrap y12.a0) 6) == 1 then
          (Option.bind (app l40 [(⟨4, 0, 0, IntKind.i64.wrap ((IntKind.i64.wrap (v4 + 1)) + (Int.tmod (IntKind.i64.wrap (IntKind.u8.wrap y12.a3)) (IntKind.i64.wrap (((d0.map e_a4i8).length : Int) - v4))))⟩ : T_api_Instr)]) fun l46 =>
          F12_A4 v4 (F12_L3 d0 n_F12_L3) l46)
        else
          (Option.bind (app l40 [(⟨IntKind.i64.wrap (1 + (IntKind.i64.wrap (Int.tmod (IntKind.u8.wrap y12.a0) 3))), IntKind.i64.wrap (Int.tmod (IntKind.u8.wrap y12.a1) 4), Int.tmod (IntKind.i64.wrap y12.a2) 100, IntKind.i64.wrap ((IntKind.i64.wrap (v4 + 1)) + (Int.tmod (IntKind.i64.wrap (IntKind.u8.wrap y12.a3)) (IntKind.i64.wrap (((d0.map e_a4i8).length : Int) - v4))))⟩ : T_api_Instr)]) fun l47 =>
          F12_A4 v4 (F12_L3 d0 n_F12_L3) l47)))
    else
      (Option.bind (app l40 [(⟨5, 0, Int.tmod ((d0.map e_a4i8).length : Int) 4, 0⟩ : T_api_Instr)]) fun l48 =>
      some l48)
def F12 (fuel : Nat) (d0 : List A_a4i8) : Option (List T_api_Instr) :=
  bif decide (((d0.map e_a4i8).length : Int) > 29) then
    (F12_L1 d0 fuel 0 [])
  else
    (F12_L3 d0 fuel 0 [])
theorem F12_ok {fuel : Nat} {d0 : List A_a4i8} {r : List T_api_Instr} (hF : F12 fuel d0 = some r) :
    CallF Tryd.prog 12 [.d (.sl 4 (d0.map e_a4i8))] (.d (.sl 4 (r.map e_T_api_Instr))) := by
  unfold F12 at hF
  refine callF_of (N := 80) (b := bodyOf Tryd.f12) Tryd.func12 (by kernel_rfl) rfl rfl ?_
  refine J_adv 16 (J_bool 11 (b := decide (((d0.map e_a4i8).length : Int) > 29)) (by kernel_rfl) (fun hb1 => ?_) (fun hb1 => ?_))
  · replace hF := ift hb1 hF
    have hF12_L1 : ∀ (n_F12_L1 : Nat) (v2 : Int) (l16 : List T_api_Instr), F12_L1 d0 n_F12_L1 v2 l16 = some r → J none Tryd.prog 80 [] (finF Tryd.prog Tryd.f12 (.d (.sl 4 (r.map e_T_api_Instr)))) ⟨mkT [(0, .d (.sl 4 (d0.map e_a4i8))), (3, .d (.int .i64 29)), (4, .suf 55 0 0), (5, .d (.int .i64 v2))], [(55, .buf 0 49 4 (l16.map e_T_api_Instr))], [.inLoop (cAt (bodyOf Tryd.f12) [1, 1, 1, 1, 0, 1, 0, 0]), .inBlock 0, .code (cAt (bodyOf Tryd.f12) [1, 1, 1, 1, 1])]⟩ := by
      clear hF; intro n_F12_L1
      induction n_F12_L1 with
      | zero => intro v2 l16 hF; cases hF
      | succ n_F12_L1 ih_F12_L1 =>
        intro v2 l16 hF
        rw [F12_L1] at hF
        refine J_adv 8 (J_bool 14 (b := decide (v2 < 29)) (by kernel_rfl) (fun hb16 => ?_) (fun hb16 => ?_))
        · replace hF := ift hb16 hF
          have hF12_A2 : ∀ (l20 : List T_api_Instr), F12_A2 v2 (F12_L1 d0 n_F12_L1) l20 = some r → J none Tryd.prog 80 [] (finF Tryd.prog Tryd.f12 (.d (.sl 4 (r.map e_T_api_Instr)))) ⟨mkT [(0, .d (.sl 4 (d0.map e_a4i8))), (3, .d (.int .i64 29)), (4, .suf 55 0 0), (5, .d (.int .i64 v2))], [(55, .buf 0 49 4 (l20.map e_T_api_Instr))], [.code (cAt (bodyOf Tryd.f12) [1, 1, 1, 1, 0, 1, 0, 0, 1, 1]), .inLoop (cAt (bodyOf Tryd.f12) [1, 1, 1, 1, 0, 1, 0, 0]), .inBlock 0, .code (cAt (bodyOf Tryd.f12) [1, 1, 1, 1, 1])]⟩ := by
            intro l20 hF
            unfold F12_A2 at hF
            exact J_adv 5 (J_at [0, 3, 4, 5] [55] (T0 := [.inLoop (cAt (bodyOf Tryd.f12) [1, 1, 1, 1, 0, 1, 0, 0]), .inBlock 0, .code (cAt (bodyOf Tryd.f12) [1, 1, 1, 1, 1])]) (by kernel_rfl) rfl (ih_F12_L1 (IntKind.i64.wrap (v2 + 1)) l20 hF))
          obtain ⟨y6, e21, hF⟩ := bnd hF
          refine J_adv 8 (J_opt1 (o := geti (d0.map e_a4i8) v2) (e_a4i8 y6) (by kernel_rfl) (gm e21) ?_)
          obtain ⟨hb20, hF⟩ := assd hF
          refine J_adv 15 (J_opt1 (o := chk (decide ((IntKind.i64.wrap (29 - v2)) ≠ 0))) [] (by kernel_rfl) (ck hb20) ?_)
          refine J_adv 16 (J_bool 56 (b := (Int.tmod (IntKind.u8.wrap y6.a0) 6) == 0) (by kernel_rfl) (fun hb21 => ?_) (fun hb21 => ?_))
          · replace hF := ift hb21 hF
            obtain ⟨l21, e22, hF⟩ := bnd hF
            refine J_adv 10 (J_opt2 (o := app2 ((l16.map e_T_api_Instr).drop 0) ([(⟨5, 0, IntKind.i64.wrap (Int.tmod (IntKind.u8.wrap y6.a2) 4), 0⟩ : T_api_Instr)].map e_T_api_Instr)) (l21.map e_T_api_Instr) (by kernel_rfl) (am e22) ?_)
            exact J_adv 4 (J_at [0, 3, 4, 5] [55] (T0 := [.code (cAt (bodyOf Tryd.f12) [1, 1, 1, 1, 0, 1, 0, 0, 1, 1]), .inLoop (cAt (bodyOf Tryd.f12) [1, 1, 1, 1, 0, 1, 0, 0]), .inBlock 0, .code (cAt (bodyOf Tryd.f12) [1, 1, 1, 1, 1])]) (by kernel_rfl) rfl (hF12_A2 l21 hF))
          · replace hF := iff' hb21 hF
            refine J_adv 6 (J_bool 67 (b := (Int.tmod (IntKind.u8.wrap y6.a0) 6) == 1) (by kernel_rfl) (fun hb22 => ?_) (fun hb22 => ?_))
            · replace hF := ift hb22 hF
              obtain ⟨l22, e23, hF⟩ := bnd hF
              refine J_adv 6 (J_opt2 (o := app2 ((l16.map e_T_api_Instr).drop 0) ([(⟨4, 0, 0, IntKind.i64.wrap ((IntKind.i64.wrap (v2 + 1)) + (Int.tmod (IntKind.i64.wrap (IntKind.u8.wrap y6.a3)) (IntKind.i64.wrap (29 - v2))))⟩ : T_api_Instr)].map e_T_api_Instr)) (l22.map e_T_api_Instr) (by kernel_rfl) (am e23) ?_)
              exact J_adv 4 (J_at [0, 3, 4, 5] [55] (T0 := [.code (cAt (bodyOf Tryd.f12) [1, 1, 1, 1, 0, 1, 0, 0, 1, 1]), .inLoop (cAt (bodyOf Tryd.f12) [1, 1, 1, 1, 0, 1, 0, 0]), .inBlock 0, .code (cAt (bodyOf Tryd.f12) [1, 1, 1, 1, 1])]) (by kernel_rfl) rfl (hF12_A2 l22 hF))
            · replace hF := iff' hb22 hF
              obtain ⟨l23, e24, hF⟩ := bnd hF
              refine J_adv 21 (J_opt2 (o := app2 ((l16.map e_T_api_Instr).drop 0) ([(⟨IntKind.i64.wrap (1 + (IntKind.i64.wrap (Int.tmod (IntKind.u8.wrap y6.a0) 3))), IntKind.i64.wrap (Int.tmod (IntKind.u8.wrap y6.a1) 4), Int.tmod (IntKind.i64.wrap y6.a2) 100, IntKind.i64.wrap ((IntKind.i64.wrap (v2 + 1)) + (Int.tmod (IntKind.i64.wrap (IntKind.u8.wrap y6.a3)) (IntKind.i64.wrap (29 - v2))))⟩ : T_api_Instr)].map e_T_api_Instr)) (l23.map e_T_api_Instr) (by kernel_rfl) (am e24) ?_)
              exact J_adv 4 (J_at [0, 3, 4, 5] [55] (T0 := [.code (cAt (bodyOf Tryd.f12) [1, 1, 1, 1, 0, 1, 0, 0, 1, 1]), .inLoop (cAt (bodyOf Tryd.f12) [1, 1, 1, 1, 0, 1, 0, 0]), .inBlock 0, .code (cAt (bodyOf Tryd.f12) [1, 1, 1, 1, 1])]) (by kernel_rfl) rfl (hF12_A2 l23 hF))
        · replace hF := iff' hb16 hF
          obtain ⟨l24, e25, hF⟩ := bnd hF
          refine J_adv 9 (J_opt2 (o := app2 ((l16.map e_T_api_Instr).drop 0) ([(⟨5, 0, Int.tmod 29 4, 0⟩ : T_api_Instr)].map e_T_api_Instr)) (l24.map e_T_api_Instr) (by kernel_rfl) (am e25) ?_)
          have hr_ := Option.some.inj hF; subst hr_
          exact J_adv 2 (J_ret (xs := [.d (.sl 4 (l24.map e_T_api_Instr))]) [.d (.sl 4 (l24.map e_T_api_Instr))] rfl rfl (by kernel_rfl) (Res'.refl _) rfl)
    refine J_adv 15 (J_own (n := 4) 4 55 49 4 (by kernel_rfl) (by kernel_rfl) ?_)
    exact J_adv 0 (J_at [0, 3, 4, 5] [55] (T0 := [.inLoop (cAt (bodyOf Tryd.f12) [1, 1, 1, 1, 0, 1, 0, 0]), .inBlock 0, .code (cAt (bodyOf Tryd.f12) [1, 1, 1, 1, 1])]) (by kernel_rfl) rfl (hF12_L1 fuel 0 [] hF))
  · replace hF := iff' hb1 hF
    have hF12_L3 : ∀ (n_F12_L3 : Nat) (v4 : Int) (l40 : List T_api_Instr), F12_L3 d0 n_F12_L3 v4 l40 = some r → J none Tryd.prog 80 [] (finF Tryd.prog Tryd.f12 (.d (.sl 4 (r.map e_T_api_Instr)))) ⟨mkT [(0, .d (.sl 4 (d0.map e_a4i8))), (3, .d (.int .i64 ((d0.map e_a4i8).length : Int))), (4, .suf 55 0 0), (5, .d (.int .i64 v4))], [(55, .buf 0 49 4 (l40.map e_T_api_Instr))], [.inLoop (cAt (bodyOf Tryd.f12) [1, 1, 1, 1, 0, 1, 0, 0]), .inBlock 0, .code (cAt (bodyOf Tryd.f12) [1, 1, 1, 1, 1])]⟩ := by
      clear hF; intro n_F12_L3
      induction n_F12_L3 with
      | zero => intro v4 l40 hF; cases hF
      | succ n_F12_L3 ih_F12_L3 =>
        intro v4 l40 hF
        rw [F12_L3] at hF
        refine J_adv 8 (J_bool 14 (b := decide (v4 < ((d0.map e_a4i8).length : Int))) (by kernel_rfl) (fun hb37 => ?_) (fun hb37 => ?_))
        · replace hF := ift hb37 hF
          have hF12_A4 : ∀ (l44 : List T_api_Instr), F12_A4 v4 (F12_L3 d0 n_F12_L3) l44 = some r → J none Tryd.prog 80 [] (finF Tryd.prog Tryd.f12 (.d (.sl 4 (r.map e_T_api_Instr)))) ⟨mkT [(0, .d (.sl 4 (d0.map e_a4i8))), (3, .d (.int .i64 ((d0.map e_a4i8).length : Int))), (4, .suf 55 0 0), (5, .d (.int .i64 v4))], [(55, .buf 0 49 4 (l44.map e_T_api_Instr))], [.code (cAt (bodyOf Tryd.f12) [1, 1, 1, 1, 0, 1, 0, 0, 1, 1]), .inLoop (cAt (bodyOf Tryd.f12) [1, 1, 1, 1, 0, 1, 0, 0]), .inBlock 0, .code (cAt (bodyOf Tryd.f12) [1, 1, 1, 1, 1])]⟩ := by
            intro l44 hF
            unfold F12_A4 at hF
            exact J_adv 5 (J_at [0, 3, 4, 5] [55] (T0 := [.inLoop (cAt (bodyOf Tryd.f12) [1, 1, 1, 1, 0, 1, 0, 0]), .inBlock 0, .code (cAt (bodyOf Tryd.f12) [1, 1, 1, 1, 1])]) (by kernel_rfl) rfl (ih_F12_L3 (IntKind.i64.wrap (v4 + 1)) l44 hF))
          obtain ⟨y12, e46, hF⟩ := bnd hF
          refine J_adv 8 (J_opt1 (o := geti (d0.map e_a4i8) v4) (e_a4i8 y12) (by kernel_rfl) (gm e46) ?_)
          obtain ⟨hb41, hF⟩ := assd hF
          refine J_adv 15 (J_opt1 (o := chk (decide ((IntKind.i64.wrap (((d0.map e_a4i8).length : Int) - v4)) ≠ 0))) [] (by kernel_rfl) (ck hb41) ?_)
          refine J_adv 16 (J_bool 56 (b := (Int.tmod (IntKind.u8.wrap y12.a0) 6) == 0) (by kernel_rfl) (fun hb42 => ?_) (fun hb42 => ?_))
          · replace hF := ift hb42 hF
            obtain ⟨l45, e47, hF⟩ := bnd hF
            refine J_adv 10 (J_opt2 (o := app2 ((l40.map e_T_api_Instr).drop 0) ([(⟨5, 0, IntKind.i64.wrap (Int.tmod (IntKind.u8.wrap y12.a2) 4), 0⟩ : T_api_Instr)].map e_T_api_Instr)) (l45.map e_T_api_Instr) (by kernel_rfl) (am e47) ?_)
            exact J_adv 4 (J_at [0, 3, 4, 5] [55] (T0 := [.code (cAt (bodyOf Tryd.f12) [1, 1, 1, 1, 0, 1, 0, 0, 1, 1]), .inLoop (cAt (bodyOf Tryd.f12) [1, 1, 1, 1, 0, 1, 0, 0]), .inBlock 0, .code (cAt (bodyOf Tryd.f12) [1, 1, 1, 1, 1])]) (by kernel_rfl) rfl (hF12_A4 l45 hF))
          · replace hF := iff' hb42 hF
            refine J_adv 6 (J_bool 67 (b := (Int.tmod (IntKind.u8.wrap y12.a0) 6) == 1) (by kernel_rfl) (fun hb43 => ?_) (fun hb43 => ?_))
            · replace hF := ift hb43 hF
              obtain ⟨l46, e48, hF⟩ := bnd hF
              refine J_adv 6 (J_opt2 (o := app2 ((l40.map e_T_api_Instr).drop 0) ([(⟨4, 0, 0, IntKind.i64.wrap ((IntKind.i64.wrap (v4 + 1)) + (Int.tmod (IntKind.i64.wrap (IntKind.u8.wrap y12.a3)) (IntKind.i64.wrap (((d0.map e_a4i8).length : Int) - v4))))⟩ : T_api_Instr)].map e_T_api_Instr)) (l46.map e_T_api_Instr) (by kernel_rfl) (am e48) ?_)
              exact J_adv 4 (J_at [0, 3, 4, 5] [55] (T0 := [.code (cAt (bodyOf Tryd.f12) [1, 1, 1, 1, 0, 1, 0, 0, 1, 1]), .inLoop (cAt (bodyOf Tryd.f12) [1, 1, 1, 1, 0, 1, 0, 0]), .inBlock 0, .code (cAt (bodyOf Tryd.f12) [1, 1, 1, 1, 1])]) (by kernel_rfl) rfl (hF12_A4 l46 hF))
            · replace hF := iff' hb43 hF
              obtain ⟨l47, e49, hF⟩ := bnd hF
              refine J_adv 21 (J_opt2 (o := app2 ((l40.map e_T_api_Instr).drop 0) ([(⟨IntKind.i64.wrap (1 + (IntKind.i64.wrap (Int.tmod (IntKind.u8.wrap y12.a0) 3))), IntKind.i64.wrap (Int.tmod (IntKind.u8.wrap y12.a1) 4), Int.tmod (IntKind.i64.wrap y12.a2) 100, IntKind.i64.wrap ((IntKind.i64.wrap (v4 + 1)) + (Int.tmod (IntKind.i64.wrap (IntKind.u8.wrap y12.a3)) (IntKind.i64.wrap (((d0.map e_a4i8).length : Int) - v4))))⟩ : T_api_Instr)].map e_T_api_Instr)) (l47.map e_T_api_Instr) (by kernel_rfl) (am e49) ?_)
              exact J_adv 4 (J_at [0, 3, 4, 5] [55] (T0 := [.code (cAt (bodyOf Tryd.f12) [1, 1, 1, 1, 0, 1, 0, 0, 1, 1]), .inLoop (cAt (bodyOf Tryd.f12) [1, 1, 1, 1, 0, 1, 0, 0]), .inBlock 0, .code (cAt (bodyOf Tryd.f12) [1, 1, 1, 1, 1])]) (by kernel_rfl) rfl (hF12_A4 l47 hF))
        · replace hF := iff' hb37 hF
          obtain ⟨l48, e50, hF⟩ := bnd hF
          refine J_adv 9 (J_opt2 (o := app2 ((l40.map e_T_api_Instr).drop 0) ([(⟨5, 0, Int.tmod ((d0.map e_a4i8).length : Int) 4, 0⟩ : T_api_Instr)].map e_T_api_Instr)) (l48.map e_T_api_Instr) (by kernel_rfl) (am e50) ?_)
          have hr_ := Option.some.inj hF; subst hr_
          exact J_adv 2 (J_ret (xs := [.d (.sl 4 (l48.map e_T_api_Instr))]) [.d (.sl 4 (l48.map e_T_api_Instr))] rfl rfl (by kernel_rfl) (Res'.refl _) rfl)
    refine J_adv 13 (J_own (n := 4) 4 55 49 4 (by kernel_rfl) (by kernel_rfl) ?_)
    exact J_adv 0 (J_at [0, 3, 4, 5] [55] (T0 := [.inLoop (cAt (bodyOf Tryd.f12) [1, 1, 1, 1, 0, 1, 0, 0]), .inBlock 0, .code (cAt (bodyOf Tryd.f12) [1, 1, 1, 1, 1])]) (by kernel_rfl) rfl (hF12_L3 fuel 0 [] hF))

/- croupier/croupierlaw31.CodeWay -/
def F5_A2 (l3 : List Int) (v6 : Int) (rec_F5_L1 : (List Int) → Int → Int → Option Bool) (v7 : Int) : Option Bool :=
  rec_F5_L1 l3 v7 (IntKind.i64.wrap (v6 + 1))
def F5_L1 (y2 : List T_api_Instr) (y3 : Int × Int × Int) : Nat → (List Int) → Int → Int → Option Bool
  | 0, _, _, _ => none
  | n_F5_L1 + 1, l3, v5, v6 =>
    bif decide (v6 < y3.2.1) then
      (bif decide (v5 ≥ ((y2.map e_T_api_Instr).length : Int)) then
        (some false)
      else
        (Option.bind (geti y2 v5) fun y24 =>
        bif y24.Op == 1 then
          (Option.bind (geti l3 y24.Var) fun y25 =>
          bif y25 == y24.Val then
            (F5_A2 l3 v6 (F5_L1 y2 y3 n_F5_L1) y24.Go)
          else
            (F5_A2 l3 v6 (F5_L1 y2 y3 n_F5_L1) (IntKind.i64.wrap (v5 + 1))))
        else
          (bif y24.Op == 2 then
            (Option.bind (geti l3 y24.Var) fun y26 =>
            bif decide (y26 ≤ y24.Val) then
              (F5_A2 l3 v6 (F5_L1 y2 y3 n_F5_L1) y24.Go)
            else
              (F5_A2 l3 v6 (F5_L1 y2 y3 n_F5_L1) (IntKind.i64.wrap (v5 + 1))))
          else
            (bif y24.Op == 3 then
              (Option.bind (geti l3 y24.Var) fun y27 =>
              bif decide (y27 ≥ y24.Val) then
                (F5_A2 l3 v6 (F5_L1 y2 y3 n_F5_L1) y24.Go)
              else
                (F5_A2 l3 v6 (F5_L1 y2 y3 n_F5_L1) (IntKind.i64.wrap (v5 + 1))))
            else
              (bif y24.Op == 4 then
                (F5_A2 l3 v6 (F5_L1 y2 y3 n_F5_L1) y24.Go)
              else
                (some false))))))
    else
      (Option.bind (
        bif y3.2.2 == 0 then
          (bif decide (y3.2.1 ≤ ((y2.map e_T_api_Instr).length : Int)) then
            (bif decide (v5 < ((y2.map e_T_api_Instr).length : Int)) then
              (Option.bind (geti y2 v5) fun y32 =>
              Option.bind (F16 y3.1) fun y33 =>
              some ((y32.Op == y33.Op) && ((y32.Var == y33.Var) && ((y32.Val == y33.Val) && ((y32.Go == y33.Go) && true)))))
            else
              (some false))
          else
            (some false))
        else
          (some false)) fun o1 =>
      some o1)
def F5 (fuel : Nat) (d0 : List A_a4i8) (d1 : A_a4i8) : Option Bool :=
  Option.bind (F7 fuel) fun y1 =>
  bif !y1 then
    (some false)
  else
    (Option.bind (F12 fuel d0) fun y2 =>
    Option.bind (F15 fuel y2 [Int.tmod (IntKind.i64.wrap d1.a0) 100, Int.tmod (IntKind.i64.wrap d1.a1) 100, Int.tmod (IntKind.i64.wrap d1.a2) 100, Int.tmod (IntKind.i64.wrap d1.a3) 100]) fun y3 =>
    F5_L1 y2 y3 fuel [Int.tmod (IntKind.i64.wrap d1.a0) 100, Int.tmod (IntKind.i64.wrap d1.a1) 100, Int.tmod (IntKind.i64.wrap d1.a2) 100, Int.tmod (IntKind.i64.wrap d1.a3) 100] 0 1)
theorem F5_ok {fuel : Nat} {d0 : List A_a4i8} {d1 : A_a4i8} {r : Bool} (hF : F5 fuel d0 d1 = some r) :
    CallF Tryd.prog 5 [.d (.sl 4 (d0.map e_a4i8)), .agg [.d (.int .i8 d1.a0), .d (.int .i8 d1.a1), .d (.int .i8 d1.a2), .d (.int .i8 d1.a3)]] (.d (.bool r)) := by
  unfold F5 at hF
  refine callF_of (N := 117) (b := bodyOf Tryd.f5) Tryd.func5 (by kernel_rfl) rfl rfl ?_
  obtain ⟨y1, e1, hF⟩ := bnd hF
  refine J_adv 8 (J_callF (xs := []) [] (.d (.bool y1)) (by kernel_rfl) en7 (Res'.refl _) (F7_ok e1) ?_)
  refine J_adv 2 (J_bool 15 (b := !y1) (by kernel_rfl) (fun hb1 => ?_) (fun hb1 => ?_))
  · replace hF := ift hb1 hF
    have hr_ := Option.some.inj hF; subst hr_
    exact J_adv 5 (J_ret (xs := [.d (.bool false)]) [.d (.bool false)] rfl rfl (by kernel_rfl) (Res'.refl _) rfl)
  · replace hF := iff' hb1 hF
    obtain ⟨y2, e2, hF⟩ := bnd hF
    refine J_adv 5 (J_callF (xs := [.d (.sl 4 (d0.map e_a4i8))]) [.d (.sl 4 (d0.map e_a4i8))] (.d (.sl 4 (y2.map e_T_api_Instr))) (by kernel_rfl) en12 (Res'.refl _) (F12_ok e2) ?_)
    obtain ⟨y3, e3, hF⟩ := bnd hF
    refine J_adv 27 (J_callF (xs := [.d (.sl 4 (y2.map e_T_api_Instr)), .d (.sl 1 ([Int.tmod (IntKind.i64.wrap d1.a0) 100, Int.tmod (IntKind.i64.wrap d1.a1) 100, Int.tmod (IntKind.i64.wrap d1.a2) 100, Int.tmod (IntKind.i64.wrap d1.a3) 100].map e_i64))]) [.d (.sl 4 (y2.map e_T_api_Instr)), .d (.sl 1 ([Int.tmod (IntKind.i64.wrap d1.a0) 100, Int.tmod (IntKind.i64.wrap d1.a1) 100, Int.tmod (IntKind.i64.wrap d1.a2) 100, Int.tmod (IntKind.i64.wrap d1.a3) 100].map e_i64))] (.tup [.d (.int .i64 y3.1), .d (.int .i64 y3.2.1), .d (.int .i64 y3.2.2)]) (by kernel_rfl) en15 (Res'.refl _) (F15_ok e3) ?_)
    have hF5_L1 : ∀ (n_F5_L1 : Nat) (l3 : List Int) (v5 : Int) (v6 : Int), F5_L1 y2 y3 n_F5_L1 l3 v5 v6 = some r → J none Tryd.prog 117 [] (finF Tryd.prog Tryd.f5 (.d (.bool r))) ⟨mkT [(5, .d (.sl 4 (y2.map e_T_api_Instr))), (6, .d (.sl 1 (l3.map e_i64))), (7, .d (.int .i64 y3.1)), (8, .d (.int .i64 y3.2.1)), (9, .d (.int .i64 y3.2.2)), (10, .d (.int .i64 v5)), (11, .d (.int .i64 v6))], [], [.inLoop (cAt (bodyOf Tryd.f5) [1, 1, 1, 1, 1, 1, 0, 1, 0, 0]), .inBlock 0, .code (cAt (bodyOf Tryd.f5) [1, 1, 1, 1, 1, 1, 1])]⟩ := by
      clear hF; intro n_F5_L1
      induction n_F5_L1 with
      | zero => intro l3 v5 v6 hF; cases hF
      | succ n_F5_L1 ih_F5_L1 =>
        intro l3 v5 v6 hF
        rw [F5_L1] at hF
        refine J_adv 8 (J_bool 44 (b := decide (v6 < y3.2.1)) (by kernel_rfl) (fun hb36 => ?_) (fun hb36 => ?_))
        · replace hF := ift hb36 hF
          have hF5_A2 : ∀ (v7 : Int), F5_A2 l3 v6 (F5_L1 y2 y3 n_F5_L1) v7 = some r → J none Tryd.prog 117 [] (finF Tryd.prog Tryd.f5 (.d (.bool r))) ⟨mkT [(5, .d (.sl 4 (y2.map e_T_api_Instr))), (6, .d (.sl 1 (l3.map e_i64))), (7, .d (.int .i64 y3.1)), (8, .d (.int .i64 y3.2.1)), (9, .d (.int .i64 y3.2.2)), (10, .d (.int .i64 v7)), (11, .d (.int .i64 v6))], [], [.code (cAt (bodyOf Tryd.f5) [1, 1, 1, 1, 1, 1, 0, 1, 0, 0, 1, 1]), .inLoop (cAt (bodyOf Tryd.f5) [1, 1, 1, 1, 1, 1, 0, 1, 0, 0]), .inBlock 0, .code (cAt (bodyOf Tryd.f5) [1, 1, 1, 1, 1, 1, 1])]⟩ := by
            intro v7 hF
            unfold F5_A2 at hF
            exact J_adv 5 (J_at [5, 6, 7, 8, 9, 10, 11] [] (T0 := [.inLoop (cAt (bodyOf Tryd.f5) [1, 1, 1, 1, 1, 1, 0, 1, 0, 0]), .inBlock 0, .code (cAt (bodyOf Tryd.f5) [1, 1, 1, 1, 1, 1, 1])]) (by kernel_rfl) rfl (ih_F5_L1 l3 v7 (IntKind.i64.wrap (v6 + 1)) hF))
          refine J_adv 12 (J_bool 50 (b := decide (v5 ≥ ((y2.map e_T_api_Instr).length : Int))) (by kernel_rfl) (fun hb45 => ?_) (fun hb45 => ?_))
          · replace hF := ift hb45 hF
            have hr_ := Option.some.inj hF; subst hr_
            exact J_adv 5 (J_ret (xs := [.d (.bool false)]) [.d (.bool false)] rfl rfl (by kernel_rfl) (Res'.refl _) rfl)
          · replace hF := iff' hb45 hF
            obtain ⟨y24, e24, hF⟩ := bnd hF
            refine J_adv 6 (J_opt1 (o := geti (y2.map e_T_api_Instr) v5) (e_T_api_Instr y24) (by kernel_rfl) (gm e24) ?_)
            refine J_adv 20 (J_bool 57 (b := y24.Op == 1) (by kernel_rfl) (fun hb46 => ?_) (fun hb46 => ?_))
            · replace hF := ift hb46 hF
              refine J_adv 1 (J_draw (by kernel_rfl) (by kernel_rfl) ?_)
              obtain ⟨y25, e25, hF⟩ := bnd hF
              refine JD_adv 3 (JD_opt1 (o := geti (l3.map e_i64) y24.Var) (e_i64 y25) (by kernel_rfl) (by kernel_rfl) (gm e25) ?_)
              refine JD_adv 5 (JD_end (by kernel_rfl) ?_)
              refine J_adv 11 (J_bool 91 (b := y25 == y24.Val) (by kernel_rfl) (fun hb47 => ?_) (fun hb47 => ?_))
              · replace hF := ift hb47 hF
                exact J_adv 7 (J_at [5, 6, 7, 8, 9, 10, 11] [] (T0 := [.code (cAt (bodyOf Tryd.f5) [1, 1, 1, 1, 1, 1, 0, 1, 0, 0, 1, 1]), .inLoop (cAt (bodyOf Tryd.f5) [1, 1, 1, 1, 1, 1, 0, 1, 0, 0]), .inBlock 0, .code (cAt (bodyOf Tryd.f5) [1, 1, 1, 1, 1, 1, 1])]) (by kernel_rfl) rfl (hF5_A2 y24.Go hF))
              · replace hF := iff' hb47 hF
                exact J_adv 3 (J_at [5, 6, 7, 8, 9, 10, 11] [] (T0 := [.code (cAt (bodyOf Tryd.f5) [1, 1, 1, 1, 1, 1, 0, 1, 0, 0, 1, 1]), .inLoop (cAt (bodyOf Tryd.f5) [1, 1, 1, 1, 1, 1, 0, 1, 0, 0]), .inBlock 0, .code (cAt (bodyOf Tryd.f5) [1, 1, 1, 1, 1, 1, 1])]) (by kernel_rfl) rfl (hF5_A2 (IntKind.i64.wrap (v5 + 1)) hF))
            · replace hF := iff' hb46 hF
              refine J_adv 6 (J_bool 67 (b := y24.Op == 2) (by kernel_rfl) (fun hb48 => ?_) (fun hb48 => ?_))
              · replace hF := ift hb48 hF
                refine J_adv 1 (J_draw (by kernel_rfl) (by kernel_rfl) ?_)
                obtain ⟨y26, e26, hF⟩ := bnd hF
                refine JD_adv 3 (JD_opt1 (o := geti (l3.map e_i64) y24.Var) (e_i64 y26) (by kernel_rfl) (by kernel_rfl) (gm e26) ?_)
                refine JD_adv 5 (JD_end (by kernel_rfl) ?_)
                refine J_adv 11 (J_bool 91 (b := decide (y26 ≤ y24.Val)) (by kernel_rfl) (fun hb49 => ?_) (fun hb49 => ?_))
                · replace hF := ift hb49 hF
                  exact J_adv 7 (J_at [5, 6, 7, 8, 9, 10, 11] [] (T0 := [.code (cAt (bodyOf Tryd.f5) [1, 1, 1, 1, 1, 1, 0, 1, 0, 0, 1, 1]), .inLoop (cAt (bodyOf Tryd.f5) [1, 1, 1, 1, 1, 1, 0, 1, 0, 0]), .inBlock 0, .code (cAt (bodyOf Tryd.f5) [1, 1, 1, 1, 1, 1, 1])]) (by kernel_rfl) rfl (hF5_A2 y24.Go hF))
                · replace hF := iff' hb49 hF
                  exact J_adv 3 (J_at [5, 6, 7, 8, 9, 10, 11] [] (T0 := [.code (cAt (bodyOf Tryd.f5) [1, 1, 1, 1, 1, 1, 0, 1, 0, 0, 1, 1]), .inLoop (cAt (bodyOf Tryd.f5) [1, 1, 1, 1, 1, 1, 0, 1, 0, 0]), .inBlock 0, .code (cAt (bodyOf Tryd.f5) [1, 1, 1, 1, 1, 1, 1])]) (by kernel_rfl) rfl (hF5_A2 (IntKind.i64.wrap (v5 + 1)) hF))
              · replace hF := iff' hb48 hF
                refine J_adv 6 (J_bool 77 (b := y24.Op == 3) (by kernel_rfl) (fun hb50 => ?_) (fun hb50 => ?_))
                · replace hF := ift hb50 hF
                  refine J_adv 1 (J_draw (by kernel_rfl) (by kernel_rfl) ?_)
                  obtain ⟨y27, e27, hF⟩ := bnd hF
                  refine JD_adv 3 (JD_opt1 (o := geti (l3.map e_i64) y24.Var) (e_i64 y27) (by kernel_rfl) (by kernel_rfl) (gm e27) ?_)
                  refine JD_adv 5 (JD_end (by kernel_rfl) ?_)
                  refine J_adv 11 (J_bool 91 (b := decide (y27 ≥ y24.Val)) (by kernel_rfl) (fun hb51 => ?_) (fun hb51 => ?_))
                  · replace hF := ift hb51 hF
                    exact J_adv 7 (J_at [5, 6, 7, 8, 9, 10, 11] [] (T0 := [.code (cAt (bodyOf Tryd.f5) [1, 1, 1, 1, 1, 1, 0, 1, 0, 0, 1, 1]), .inLoop (cAt (bodyOf Tryd.f5) [1, 1, 1, 1, 1, 1, 0, 1, 0, 0]), .inBlock 0, .code (cAt (bodyOf Tryd.f5) [1, 1, 1, 1, 1, 1, 1])]) (by kernel_rfl) rfl (hF5_A2 y24.Go hF))
                  · replace hF := iff' hb51 hF
                    exact J_adv 3 (J_at [5, 6, 7, 8, 9, 10, 11] [] (T0 := [.code (cAt (bodyOf Tryd.f5) [1, 1, 1, 1, 1, 1, 0, 1, 0, 0, 1, 1]), .inLoop (cAt (bodyOf Tryd.f5) [1, 1, 1, 1, 1, 1, 0, 1, 0, 0]), .inBlock 0, .code (cAt (bodyOf Tryd.f5) [1, 1, 1, 1, 1, 1, 1])]) (by kernel_rfl) rfl (hF5_A2 (IntKind.i64.wrap (v5 + 1)) hF))
                · replace hF := iff' hb50 hF
                  refine J_adv 6 (J_bool 87 (b := y24.Op == 4) (by kernel_rfl) (fun hb52 => ?_) (fun hb52 => ?_))
                  · replace hF := ift hb52 hF
                    exact J_adv 22 (J_at [5, 6, 7, 8, 9, 10, 11] [] (T0 := [.code (cAt (bodyOf Tryd.f5) [1, 1, 1, 1, 1, 1, 0, 1, 0, 0, 1, 1]), .inLoop (cAt (bodyOf Tryd.f5) [1, 1, 1, 1, 1, 1, 0, 1, 0, 0]), .inBlock 0, .code (cAt (bodyOf Tryd.f5) [1, 1, 1, 1, 1, 1, 1])]) (by kernel_rfl) rfl (hF5_A2 y24.Go hF))
                  · replace hF := iff' hb52 hF
                    have hr_ := Option.some.inj hF; subst hr_
                    exact J_adv 5 (J_ret (xs := [.d (.bool false)]) [.d (.bool false)] rfl rfl (by kernel_rfl) (Res'.refl _) rfl)
        · replace hF := iff' hb36 hF
          obtain ⟨o1, hO, hF⟩ := bnd hF
          have hR1 : J none Tryd.prog 117 [] (finF Tryd.prog Tryd.f5 (.d (.bool r))) ⟨mkT [(4, .d (.bool o1))], [], [.code (cAt (bodyOf Tryd.f5) [1, 1, 1, 1, 1, 1, 1, 1])]⟩ := by
            clear hO
            have hr_ := Option.some.inj hF; subst hr_
            exact J_adv 0 (J_ret (xs := [.d (.bool o1)]) [.d (.bool o1)] rfl rfl (by kernel_rfl) (Res'.refl _) rfl)
          clear hF; rename _ = some o1 => hF
          refine J_adv 3 (J_draw (by kernel_rfl) (by kernel_rfl) ?_)
          refine JD_adv 3 (JD_bool 96 (b := y3.2.2 == 0) (by kernel_rfl) (fun hb59 => ?_) (fun hb59 => ?_))
          · replace hF := ift hb59 hF
            refine JD_adv 6 (JD_bool 102 (b := decide (y3.2.1 ≤ ((y2.map e_T_api_Instr).length : Int))) (by kernel_rfl) (fun hb60 => ?_) (fun hb60 => ?_))
            · replace hF := ift hb60 hF
              refine JD_adv 6 (JD_bool 108 (b := decide (v5 < ((y2.map e_T_api_Instr).length : Int))) (by kernel_rfl) (fun hb61 => ?_) (fun hb61 => ?_))
              · replace hF := ift hb61 hF
                obtain ⟨y32, e32, hF⟩ := bnd hF
                refine JD_adv 2 (JD_opt1 (o := geti (y2.map e_T_api_Instr) v5) (e_T_api_Instr y32) (by kernel_rfl) (by kernel_rfl) (gm e32) ?_)
                obtain ⟨y33, e33, hF⟩ := bnd hF
                refine JD_adv 2 (JD_callF (xs := [.d (.int .i64 y3.1)]) [.d (.int .i64 y3.1)] (.agg [.d (.int .i64 y33.Op), .d (.int .i64 y33.Var), .d (.int .i64 y33.Val), .d (.int .i64 y33.Go)]) (by kernel_rfl) (by kernel_rfl) en16 (Res'.refl _) (F16_ok e33) ?_)
                refine JD_adv 3 (JD_end (by kernel_rfl) ?_)
                have hr_ := Option.some.inj hF; subst hr_
                exact J_adv 0 (J_at [4] [] (T0 := [.code (cAt (bodyOf Tryd.f5) [1, 1, 1, 1, 1, 1, 1, 1])]) (by kernel_rfl) rfl hR1)
              · replace hF := iff' hb61 hF
                refine JD_adv 9 (JD_end (by kernel_rfl) ?_)
                have hr_ := Option.some.inj hF; subst hr_
                exact J_adv 0 (J_at [4] [] (T0 := [.code (cAt (bodyOf Tryd.f5) [1, 1, 1, 1, 1, 1, 1, 1])]) (by kernel_rfl) rfl hR1)
            · replace hF := iff' hb60 hF
              refine JD_adv 15 (JD_end (by kernel_rfl) ?_)
              have hr_ := Option.some.inj hF; subst hr_
              exact J_adv 0 (J_at [4] [] (T0 := [.code (cAt (bodyOf Tryd.f5) [1, 1, 1, 1, 1, 1, 1, 1])]) (by kernel_rfl) rfl hR1)
          · replace hF := iff' hb59 hF
            refine JD_adv 21 (JD_end (by kernel_rfl) ?_)
            have hr_ := Option.some.inj hF; subst hr_
            exact J_adv 0 (J_at [4] [] (T0 := [.code (cAt (bodyOf Tryd.f5) [1, 1, 1, 1, 1, 1, 1, 1])]) (by kernel_rfl) rfl hR1)
    exact J_adv 19 (J_at [5, 6, 7, 8, 9, 10, 11] [] (T0 := [.inLoop (cAt (bodyOf Tryd.f5) [1, 1, 1, 1, 1, 1, 0, 1, 0, 0]), .inBlock 0, .code (cAt (bodyOf Tryd.f5) [1, 1, 1, 1, 1, 1, 1])]) (by kernel_rfl) rfl (hF5_L1 fuel [Int.tmod (IntKind.i64.wrap d1.a0) 100, Int.tmod (IntKind.i64.wrap d1.a1) 100, Int.tmod (IntKind.i64.wrap d1.a2) 100, Int.tmod (IntKind.i64.wrap d1.a3) 100] 0 1 hF))

end Go.Proofs.YtilfjfpemjfalaaDoor
