import Derived.Test.YtljkgnjmigmcgaaFSho
import Derived.KernelRfl
set_option linter.unusedVariables false
set_option maxRecDepth 100000
namespace Go.Proofs.Ytljkgnjmigmcgaa
open Go Go.RowKit Kx

theorem en15 : entersT Try.prog 15 := enters_of Try.func15 (by kernel_rfl) (by kernel_rfl)
theorem en18 : entersT Try.prog 18 := enters_of Try.func18 (by kernel_rfl) (by kernel_rfl)

structure T_croupierlaw30_Bend where
  What : Int
  At : Int
  N : Int
  deriving DecidableEq
/- (croupier/croupierlaw30.Bend).Of -/
def F15_L1 (d1 : T_api_Rules) (y1 : T_api_Rule) : Nat → (List T_api_Rule) → Option T_api_Rules
  | 0, _ => none
  | n_F15_L1 + 1, l11 =>
    bif decide (((l11.map e_T_api_Rule).length : Int) < 13) then
      (Option.bind (app l11 [y1]) fun l12 =>
      (F15_L1 d1 y1 n_F15_L1) l12)
    else
      (some (⟨l11, d1.Else⟩ : T_api_Rules))
def F15 (fuel : Nat) (d0 : T_croupierlaw30_Bend) (d1 : T_api_Rules) : Option T_api_Rules :=
  Option.bind (app [] d1.List) fun l1 =>
  Option.bind (
    bif (Int.tmod d0.What 6) == 0 then
      (some true)
    else
      (some (((l1.map e_T_api_Rule).length : Int) == 0))) fun o1 =>
  bif o1 then
    (some (⟨l1, d0.N⟩ : T_api_Rules))
  else
    (ass (decide (((l1.map e_T_api_Rule).length : Int) ≠ 0)) <|
    Option.bind (geti l1 (Int.tmod (IntKind.i64.wrap d0.At) ((l1.map e_T_api_Rule).length : Int))) fun y1 =>
    bif (Int.tmod d0.What 6) == 1 then
      (Option.bind (some (l1.set (0 + Int.toNat (Int.tmod (IntKind.i64.wrap d0.At) ((l1.map e_T_api_Rule).length : Int))) (⟨d0.N, y1.Test, y1.Val, y1.Then⟩ : T_api_Rule))) fun l2 =>
      some (⟨l2, d1.Else⟩ : T_api_Rules))
    else
      (bif (Int.tmod d0.What 6) == 2 then
        (Option.bind (some (l1.set (0 + Int.toNat (Int.tmod (IntKind.i64.wrap d0.At) ((l1.map e_T_api_Rule).length : Int))) (⟨y1.Var, d0.N, y1.Val, y1.Then⟩ : T_api_Rule))) fun l3 =>
        some (⟨l3, d1.Else⟩ : T_api_Rules))
      else
        (bif (Int.tmod d0.What 6) == 3 then
          (Option.bind (some (l1.set (0 + Int.toNat (Int.tmod (IntKind.i64.wrap d0.At) ((l1.map e_T_api_Rule).length : Int))) (⟨y1.Var, y1.Test, d0.N, y1.Then⟩ : T_api_Rule))) fun l4 =>
          some (⟨l4, d1.Else⟩ : T_api_Rules))
        else
          (bif (Int.tmod d0.What 6) == 4 then
            (Option.bind (some (l1.set (0 + Int.toNat (Int.tmod (IntKind.i64.wrap d0.At) ((l1.map e_T_api_Rule).length : Int))) (⟨y1.Var, y1.Test, y1.Val, d0.N⟩ : T_api_Rule))) fun l5 =>
            some (⟨l5, d1.Else⟩ : T_api_Rules))
          else
            (F15_L1 d1 y1 fuel l1)))))
theorem F15_ok {fuel : Nat} {d0 : T_croupierlaw30_Bend} {d1 : T_api_Rules} {r : T_api_Rules} (hF : F15 fuel d0 d1 = some r) :
    CallF Try.prog 15 [.agg [.d (.int .u8 d0.What), .d (.int .u8 d0.At), .d (.int .i64 d0.N)], .agg [.d (.sl 4 (d1.List.map e_T_api_Rule)), .d (.int .i64 d1.Else)]] (.agg [.d (.sl 4 (r.List.map e_T_api_Rule)), .d (.int .i64 r.Else)]) := by
  unfold F15 at hF
  refine callF_of (N := 79) (b := bodyOf Try.f15) Try.func15 (by kernel_rfl) rfl rfl ?_
  obtain ⟨l1, e1, hF⟩ := bnd hF
  refine J_adv 11 (J_opt2 (o := app2 [] (d1.List.map e_T_api_Rule)) (l1.map e_T_api_Rule) (by kernel_rfl) (am e1) ?_)
  obtain ⟨o1, hO, hF⟩ := bnd hF
  have hR1 : J none Try.prog 79 [] (finF Try.prog Try.f15 (.agg [.d (.sl 4 (r.List.map e_T_api_Rule)), .d (.int .i64 r.Else)])) ⟨mkT [(2, .ptr 2 0), (3, .ptr 3 0), (4, .ptr 4 0), (20, .d (.bool o1))], [(2, .box [.d (.int .u8 d0.What), .d (.int .u8 d0.At), .d (.int .i64 d0.N)]), (3, .box [.suf 9 0 0, .d (.int .i64 d1.Else)]), (4, .box [.esl 4, .d (.int .i64 0)]), (9, .buf 0 66 4 (l1.map e_T_api_Rule))], [.ops (opsOf (cAt (bodyOf Try.f15) [1, 1, 0, 0])) [], .code (cAt (bodyOf Try.f15) [1, 1, 0, 1]), .code (cAt (bodyOf Try.f15) [1, 1, 1])]⟩ := by
    clear hO
    refine J_adv 1 (J_bool 20 (b := o1) (by kernel_rfl) (fun hb3 => ?_) (fun hb3 => ?_))
    · replace hF := ift hb3 hF
      have hr_ := Option.some.inj hF; subst hr_
      exact J_adv 13 (J_ret (xs := [.agg [.d (.sl 4 (l1.map e_T_api_Rule)), .d (.int .i64 d0.N)]]) [.agg [.d (.sl 4 (l1.map e_T_api_Rule)), .d (.int .i64 d0.N)]] rfl rfl (by kernel_rfl) (Res'.refl _) rfl)
    · replace hF := iff' hb3 hF
      refine J_adv 3 (J_draw (by kernel_rfl) (by kernel_rfl) ?_)
      obtain ⟨hb4, hF⟩ := assd hF
      refine JD_adv 8 (JD_opt1 (o := chk (decide (((l1.map e_T_api_Rule).length : Int) ≠ 0))) [] (by kernel_rfl) (by kernel_rfl) (ck hb4) ?_)
      obtain ⟨y1, e2, hF⟩ := bnd hF
      refine JD_adv 0 (JD_opt1 (o := geti (l1.map e_T_api_Rule) (Int.tmod (IntKind.i64.wrap d0.At) ((l1.map e_T_api_Rule).length : Int))) (e_T_api_Rule y1) (by kernel_rfl) (by kernel_rfl) (gm e2) ?_)
      refine JD_adv 1 (JD_end (by kernel_rfl) ?_)
      refine J_adv 13 (J_bool 50 (b := (Int.tmod d0.What 6) == 1) (by kernel_rfl) (fun hb5 => ?_) (fun hb5 => ?_))
      · replace hF := ift hb5 hF
        obtain ⟨l2, e3, hF⟩ := bnd hF
        have hst := stm (f := e_T_api_Rule) (z := (⟨d0.N, y1.Test, y1.Val, y1.Then⟩ : T_api_Rule)) (k := 0) (xs := [.int .i64 d0.N]) (gj e2) rfl
        refine J_adv 7 (J_opt2 (o := (match (l1.map e_T_api_Rule)[0 + Int.toNat (Int.tmod (IntKind.i64.wrap d0.At) ((l1.map e_T_api_Rule).length : Int))]? with | some old => some ((l1.map e_T_api_Rule).set (0 + Int.toNat (Int.tmod (IntKind.i64.wrap d0.At) ((l1.map e_T_api_Rule).length : Int))) (setD old 0 [.int .i64 d0.N])) | none => none)) (l2.map e_T_api_Rule) (by kernel_rfl) (by cases e3; exact hst) ?_)
        have hr_ := Option.some.inj hF; subst hr_
        exact J_adv 7 (J_ret (xs := [.agg [.d (.sl 4 (l2.map e_T_api_Rule)), .d (.int .i64 d1.Else)]]) [.agg [.d (.sl 4 (l2.map e_T_api_Rule)), .d (.int .i64 d1.Else)]] rfl rfl (by kernel_rfl) (Res'.refl _) rfl)
      · replace hF := iff' hb5 hF
        refine J_adv 6 (J_bool 57 (b := (Int.tmod d0.What 6) == 2) (by kernel_rfl) (fun hb6 => ?_) (fun hb6 => ?_))
        · replace hF := ift hb6 hF
          obtain ⟨l3, e4, hF⟩ := bnd hF
          have hst := stm (f := e_T_api_Rule) (z := (⟨y1.Var, d0.N, y1.Val, y1.Then⟩ : T_api_Rule)) (k := 1) (xs := [.int .i64 d0.N]) (gj e2) rfl
          refine J_adv 7 (J_opt2 (o := (match (l1.map e_T_api_Rule)[0 + Int.toNat (Int.tmod (IntKind.i64.wrap d0.At) ((l1.map e_T_api_Rule).length : Int))]? with | some old => some ((l1.map e_T_api_Rule).set (0 + Int.toNat (Int.tmod (IntKind.i64.wrap d0.At) ((l1.map e_T_api_Rule).length : Int))) (setD old 1 [.int .i64 d0.N])) | none => none)) (l3.map e_T_api_Rule) (by kernel_rfl) (by cases e4; exact hst) ?_)
          have hr_ := Option.some.inj hF; subst hr_
          exact J_adv 7 (J_ret (xs := [.agg [.d (.sl 4 (l3.map e_T_api_Rule)), .d (.int .i64 d1.Else)]]) [.agg [.d (.sl 4 (l3.map e_T_api_Rule)), .d (.int .i64 d1.Else)]] rfl rfl (by kernel_rfl) (Res'.refl _) rfl)
        · replace hF := iff' hb6 hF
          refine J_adv 6 (J_bool 64 (b := (Int.tmod d0.What 6) == 3) (by kernel_rfl) (fun hb7 => ?_) (fun hb7 => ?_))
          · replace hF := ift hb7 hF
            obtain ⟨l4, e5, hF⟩ := bnd hF
            have hst := stm (f := e_T_api_Rule) (z := (⟨y1.Var, y1.Test, d0.N, y1.Then⟩ : T_api_Rule)) (k := 2) (xs := [.int .i64 d0.N]) (gj e2) rfl
            refine J_adv 7 (J_opt2 (o := (match (l1.map e_T_api_Rule)[0 + Int.toNat (Int.tmod (IntKind.i64.wrap d0.At) ((l1.map e_T_api_Rule).length : Int))]? with | some old => some ((l1.map e_T_api_Rule).set (0 + Int.toNat (Int.tmod (IntKind.i64.wrap d0.At) ((l1.map e_T_api_Rule).length : Int))) (setD old 2 [.int .i64 d0.N])) | none => none)) (l4.map e_T_api_Rule) (by kernel_rfl) (by cases e5; exact hst) ?_)
            have hr_ := Option.some.inj hF; subst hr_
            exact J_adv 7 (J_ret (xs := [.agg [.d (.sl 4 (l4.map e_T_api_Rule)), .d (.int .i64 d1.Else)]]) [.agg [.d (.sl 4 (l4.map e_T_api_Rule)), .d (.int .i64 d1.Else)]] rfl rfl (by kernel_rfl) (Res'.refl _) rfl)
          · replace hF := iff' hb7 hF
            refine J_adv 6 (J_bool 71 (b := (Int.tmod d0.What 6) == 4) (by kernel_rfl) (fun hb8 => ?_) (fun hb8 => ?_))
            · replace hF := ift hb8 hF
              obtain ⟨l5, e6, hF⟩ := bnd hF
              have hst := stm (f := e_T_api_Rule) (z := (⟨y1.Var, y1.Test, y1.Val, d0.N⟩ : T_api_Rule)) (k := 3) (xs := [.int .i64 d0.N]) (gj e2) rfl
              refine J_adv 7 (J_opt2 (o := (match (l1.map e_T_api_Rule)[0 + Int.toNat (Int.tmod (IntKind.i64.wrap d0.At) ((l1.map e_T_api_Rule).length : Int))]? with | some old => some ((l1.map e_T_api_Rule).set (0 + Int.toNat (Int.tmod (IntKind.i64.wrap d0.At) ((l1.map e_T_api_Rule).length : Int))) (setD old 3 [.int .i64 d0.N])) | none => none)) (l5.map e_T_api_Rule) (by kernel_rfl) (by cases e6; exact hst) ?_)
              have hr_ := Option.some.inj hF; subst hr_
              exact J_adv 7 (J_ret (xs := [.agg [.d (.sl 4 (l5.map e_T_api_Rule)), .d (.int .i64 d1.Else)]]) [.agg [.d (.sl 4 (l5.map e_T_api_Rule)), .d (.int .i64 d1.Else)]] rfl rfl (by kernel_rfl) (Res'.refl _) rfl)
            · replace hF := iff' hb8 hF
              refine J_adv 2 (J_pin 9 0 5 (0 + Int.toNat (Int.tmod (IntKind.i64.wrap d0.At) ((l1.map e_T_api_Rule).length : Int))) 0 66 4 (l1.map e_T_api_Rule) (e_T_api_Rule y1) (by kernel_rfl) (by kernel_rfl) (by kernel_rfl) (gjm (gj e2)) ?_)
              refine J_adv 0 (J_at (S0 := [(3, .ptr 3 0), (4, .ptr 4 0), (5, .rp (e_T_api_Rule y1) 0)]) (O0 := [(3, .box [.suf 9 1000000 0, .d (.int .i64 d1.Else)]), (4, .box [.esl 4, .d (.int .i64 0)]), (9, .buf 1000000 66 4 (l1.map e_T_api_Rule))]) (T0 := [.code (cAt (bodyOf Try.f15) [1, 1, 1, 1, 0, 1, 0, 1, 1, 1, 1, 1, 1, 1, 1, 0]), .inBlock 1, .inBlock 0, .code (cAt (bodyOf Try.f15) [1, 1, 1, 1, 1])]) [3, 4, 5] [3, 4, 9] (by kernel_rfl) rfl ?_)
              have hF15_L1 : ∀ (n_F15_L1 : Nat) (l11 : List T_api_Rule), F15_L1 d1 y1 n_F15_L1 l11 = some r → J none Try.prog 79 [] (finF Try.prog Try.f15 (.agg [.d (.sl 4 (r.List.map e_T_api_Rule)), .d (.int .i64 r.Else)])) ⟨mkT [(3, .ptr 3 0), (4, .ptr 4 0), (5, .rp (e_T_api_Rule y1) 0)], [(3, .box [.suf 9 1000000 0, .d (.int .i64 d1.Else)]), (4, .box [.esl 4, .d (.int .i64 0)]), (9, .buf 1000000 66 4 (l11.map e_T_api_Rule))], [.inLoop (cAt (bodyOf Try.f15) [1, 1, 1, 1, 0, 1, 0, 1, 1, 1, 1, 1, 1, 1, 1, 0, 0]), .inBlock 1, .inBlock 0, .code (cAt (bodyOf Try.f15) [1, 1, 1, 1, 1])]⟩ := by
                clear hF; intro n_F15_L1
                induction n_F15_L1 with
                | zero => intro l11 hF; cases hF
                | succ n_F15_L1 ih_F15_L1 =>
                  intro l11 hF
                  rw [F15_L1] at hF
                  refine J_adv 9 (J_bool 41 (b := decide (((l11.map e_T_api_Rule).length : Int) < 13)) (by kernel_rfl) (fun hb13 => ?_) (fun hb13 => ?_))
                  · replace hF := ift hb13 hF
                    refine J_adv 3 (J_draw (by kernel_rfl) (by kernel_rfl) ?_)
                    obtain ⟨l12, e10, hF⟩ := bnd hF
                    refine JD_adv 6 (JD_opt2 (o := app2 ((l11.map e_T_api_Rule).drop 0) ([y1].map e_T_api_Rule)) (l12.map e_T_api_Rule) (by kernel_rfl) (by kernel_rfl) (am e10) ?_)
                    refine JD_adv 2 (JD_end (by kernel_rfl) ?_)
                    exact J_adv 1 (J_at [3, 4, 5] [3, 4, 9] (T0 := [.inLoop (cAt (bodyOf Try.f15) [1, 1, 1, 1, 0, 1, 0, 1, 1, 1, 1, 1, 1, 1, 1, 0, 0]), .inBlock 1, .inBlock 0, .code (cAt (bodyOf Try.f15) [1, 1, 1, 1, 1])]) (by kernel_rfl) rfl (ih_F15_L1 l12 hF))
                  · replace hF := iff' hb13 hF
                    have hr_ := Option.some.inj hF; subst hr_
                    exact J_adv 8 (J_ret (xs := [.agg [.d (.sl 4 (l11.map e_T_api_Rule)), .d (.int .i64 d1.Else)]]) [.agg [.d (.sl 4 (l11.map e_T_api_Rule)), .d (.int .i64 d1.Else)]] rfl rfl (by kernel_rfl) (Res'.refl _) rfl)
              exact J_adv 1 (J_at [3, 4, 5] [3, 4, 9] (T0 := [.inLoop (cAt (bodyOf Try.f15) [1, 1, 1, 1, 0, 1, 0, 1, 1, 1, 1, 1, 1, 1, 1, 0, 0]), .inBlock 1, .inBlock 0, .code (cAt (bodyOf Try.f15) [1, 1, 1, 1, 1])]) (by kernel_rfl) rfl (hF15_L1 fuel l1 hF))
  clear hF; rename _ = some o1 => hF
  refine J_adv 11 (J_bool 15 (b := (Int.tmod d0.What 6) == 0) (by kernel_rfl) (fun hb14 => ?_) (fun hb14 => ?_))
  · replace hF := ift hb14 hF
    have hr_ := Option.some.inj hF; subst hr_
    exact J_adv 5 (J_at [2, 3, 4, 20] [2, 3, 4, 9] (T0 := [.ops (opsOf (cAt (bodyOf Try.f15) [1, 1, 0, 0])) [], .code (cAt (bodyOf Try.f15) [1, 1, 0, 1]), .code (cAt (bodyOf Try.f15) [1, 1, 1])]) (by kernel_rfl) rfl hR1)
  · replace hF := iff' hb14 hF
    have hr_ := Option.some.inj hF; subst hr_
    exact J_adv 5 (J_at [2, 3, 4, 20] [2, 3, 4, 9] (T0 := [.ops (opsOf (cAt (bodyOf Try.f15) [1, 1, 0, 0])) [], .code (cAt (bodyOf Try.f15) [1, 1, 0, 1]), .code (cAt (bodyOf Try.f15) [1, 1, 1])]) (by kernel_rfl) rfl hR1)

def e_T_api_Rules (x : T_api_Rules) : List Dat := [.sl 4 (x.List.map e_T_api_Rule), .int .i64 x.Else]
def e_lli64 (x : List (List Int)) : List Dat := [.sl 1 (x.map e_li64)]
/- croupier/croupierref30.Right -/
def F18 (fuel : Nat) (d0 : T_api_Rules) (d1 : List (List Int)) (d2 : List Int) : Option (Bool × Int) :=
  Option.bind (F21 fuel d0) fun y1 =>
  bif !y1 then
    (some (false, 300))
  else
    (Option.bind (F23 fuel d1 d2) fun y2 =>
    bif !y2 then
      (some (false, 2))
    else
      (Option.bind (F22 fuel d0 d1 d2) fun y3 =>
      some (y3, 0)))
theorem F18_ok {fuel : Nat} {d0 : T_api_Rules} {d1 : List (List Int)} {d2 : List Int} {r : Bool × Int} (hF : F18 fuel d0 d1 d2 = some r) :
    CallF Try.prog 18 [.agg [.d (.sl 4 (d0.List.map e_T_api_Rule)), .d (.int .i64 d0.Else)], .d (.sl 1 (d1.map e_li64)), .d (.sl 1 (d2.map e_i64))] (.tup [.d (.bool r.1), .d (.int .i64 r.2)]) := by
  unfold F18 at hF
  refine callF_of (N := 19) (b := bodyOf Try.f18) Try.func18 (by kernel_rfl) rfl rfl ?_
  obtain ⟨y1, e1, hF⟩ := bnd hF
  refine J_adv 10 (J_callF (xs := [.agg [.d (.sl 4 (d0.List.map e_T_api_Rule)), .d (.int .i64 d0.Else)]]) [.agg [.d (.sl 4 (d0.List.map e_T_api_Rule)), .d (.int .i64 d0.Else)]] (.d (.bool y1)) (by kernel_rfl) en21 (Res'.refl _) (F21_ok e1) ?_)
  refine J_adv 2 (J_bool 10 (b := !y1) (by kernel_rfl) (fun hb1 => ?_) (fun hb1 => ?_))
  · replace hF := ift hb1 hF
    have hr_ := Option.some.inj hF; subst hr_
    exact J_adv 6 (J_ret (xs := [.d (.bool false), .d (.int .i64 300)]) [.d (.bool false), .d (.int .i64 300)] rfl rfl (by kernel_rfl) (Res'.refl _) rfl)
  · replace hF := iff' hb1 hF
    obtain ⟨y2, e2, hF⟩ := bnd hF
    refine J_adv 7 (J_callF (xs := [.d (.sl 1 (d1.map e_li64)), .d (.sl 1 (d2.map e_i64))]) [.d (.sl 1 (d1.map e_li64)), .d (.sl 1 (d2.map e_i64))] (.d (.bool y2)) (by kernel_rfl) en23 (Res'.refl _) (F23_ok e2) ?_)
    refine J_adv 2 (J_bool 14 (b := !y2) (by kernel_rfl) (fun hb2 => ?_) (fun hb2 => ?_))
    · replace hF := ift hb2 hF
      have hr_ := Option.some.inj hF; subst hr_
      exact J_adv 6 (J_ret (xs := [.d (.bool false), .d (.int .i64 2)]) [.d (.bool false), .d (.int .i64 2)] rfl rfl (by kernel_rfl) (Res'.refl _) rfl)
    · replace hF := iff' hb2 hF
      obtain ⟨y3, e3, hF⟩ := bnd hF
      refine J_adv 7 (J_callF (xs := [.agg [.d (.sl 4 (d0.List.map e_T_api_Rule)), .d (.int .i64 d0.Else)], .d (.sl 1 (d1.map e_li64)), .d (.sl 1 (d2.map e_i64))]) [.agg [.d (.sl 4 (d0.List.map e_T_api_Rule)), .d (.int .i64 d0.Else)], .d (.sl 1 (d1.map e_li64)), .d (.sl 1 (d2.map e_i64))] (.d (.bool y3)) (by kernel_rfl) en22 (Res'.refl _) (F22_ok e3) ?_)
      have hr_ := Option.some.inj hF; subst hr_
      exact J_adv 3 (J_ret (xs := [.d (.bool y3), .d (.int .i64 0)]) [.d (.bool y3), .d (.int .i64 0)] rfl rfl (by kernel_rfl) (Res'.refl _) rfl)

/- croupier/croupierlaw30.RulesRights -/
def F3_L4 (fuel : Nat) (v26 : Int) (y2 : List (List Int) × List Int) (y81 : T_api_Rules) (y104 : List Int) (y105 : List (List Int)) (rec_F3_L3 : Int → Option Bool) : Nat → Int → Option Bool
  | 0, _ => none
  | n_F3_L4 + 1, v28 =>
    bif decide (v28 < 2) then
      (Option.bind (geti [y2.1, y105] v28) fun y112 =>
      Option.bind (F17 fuel y81 y112 y104) fun y113 =>
      Option.bind (F18 fuel y81 y112 y104) fun y114 =>
      Option.bind (
        bif !(y113.1 == y114.1) then
          (some true)
        else
          (some (y113.2 != y114.2))) fun o27 =>
      bif o27 then
        (some false)
      else
        ((F3_L4 fuel v26 y2 y81 y104 y105 rec_F3_L3 n_F3_L4) (IntKind.i64.wrap (v28 + 1))))
    else
      (rec_F3_L3 (IntKind.i64.wrap (v26 + 1)))
def F3_L3 (fuel : Nat) (d3 : List (List Int)) (d4 : List Int) (l13 : List Int) (l14 : List Int) (v20 : Int) (y2 : List (List Int) × List Int) (y81 : T_api_Rules) (rec_F3_L2 : (List Int) → Int → Option Bool) : Nat → Int → Option Bool
  | 0, _ => none
  | n_F3_L3 + 1, v26 =>
    bif decide (v26 < 4) then
      (Option.bind (geti [y2.2, l13, d4, l14] v26) fun y104 =>
      Option.bind (F16 fuel d3) fun y105 =>
      F3_L4 fuel v26 y2 y81 y104 y105 (F3_L3 fuel d3 d4 l13 l14 v20 y2 y81 rec_F3_L2 n_F3_L3) fuel 0)
    else
      (rec_F3_L2 l13 (IntKind.i64.wrap (v20 + 1)))
def F3_L2 (fuel : Nat) (d3 : List (List Int)) (d4 : List Int) (y2 : List (List Int) × List Int) (y4 : T_api_Rules) (y11 : T_api_Rules) (y12 : T_api_Rules) : Nat → (List Int) → Int → Option Bool
  | 0, _, _ => none
  | n_F3_L2 + 1, l13, v20 =>
    bif decide (v20 < 3) then
      (Option.bind (geti [y4, y11, y12] v20) fun y81 =>
      Option.bind (slc y2.2 1 (y2.2.length : Int)) fun l14 =>
      F3_L3 fuel d3 d4 l13 l14 v20 y2 y81 (F3_L2 fuel d3 d4 y2 y4 y11 y12 n_F3_L2) fuel 0)
    else
      (some true)
def F3_L1 (fuel : Nat) (d0 : T_croupierref30_Wish) (d1 : T_croupierlaw30_Bend) (d3 : List (List Int)) (d4 : List Int) (y2 : List (List Int) × List Int) (y4 : T_api_Rules) : Nat → Int → (List Int) → Option Bool
  | 0, _, _ => none
  | n_F3_L1 + 1, v2, l4 =>
    bif decide (v2 < ((y2.1.map e_li64).length : Int)) then
      (Option.bind (geti y2.1 v2) fun y9 =>
      Option.bind (F14 fuel y4 y9) fun y10 =>
      Option.bind (app l4 [y10]) fun l5 =>
      (F3_L1 fuel d0 d1 d3 d4 y2 y4 n_F3_L1) (IntKind.i64.wrap (v2 + 1)) l5)
    else
      (Option.bind (F15 fuel d1 y4) fun y11 =>
      Option.bind (F13 fuel d0 4) fun y12 =>
      F3_L2 fuel d3 d4 y2 y4 y11 y12 fuel l4 0)
def F3 (fuel : Nat) (d0 : T_croupierref30_Wish) (d1 : T_croupierlaw30_Bend) (d2 : T_croupierref30_Draft) (d3 : List (List Int)) (d4 : List Int) : Option Bool :=
  Option.bind (F11 fuel) fun y1 =>
  bif !y1 then
    (some false)
  else
    (Option.bind (F12 fuel d2) fun y2 =>
    Option.bind (geti y2.1 0) fun y3 =>
    Option.bind (F13 fuel d0 ((y3.map e_i64).length : Int)) fun y4 =>
    F3_L1 fuel d0 d1 d3 d4 y2 y4 fuel 0 [])
theorem F3_ok {fuel : Nat} {d0 : T_croupierref30_Wish} {d1 : T_croupierlaw30_Bend} {d2 : T_croupierref30_Draft} {d3 : List (List Int)} {d4 : List Int} {r : Bool} (hF : F3 fuel d0 d1 d2 d3 d4 = some r) :
    CallF Try.prog 3 [.agg [.d (.sl 4 (d0.L.map e_a4i8)), .d (.int .u8 d0.Else)], .agg [.d (.int .u8 d1.What), .d (.int .u8 d1.At), .d (.int .i64 d1.N)], .agg [.d (.int .u8 d2.Wide), .d (.sl 4 (d2.Rows.map e_a4i8)), .d (.sl 1 (d2.C.map e_u8)), .d (.bool d2.Few)], .d (.sl 1 (d3.map e_li64)), .d (.sl 1 (d4.map e_i64))] (.d (.bool r)) := by
  unfold F3 at hF
  refine callF_of (N := 104) (b := bodyOf Try.f3) Try.func3 (by kernel_rfl) rfl rfl ?_
  obtain ⟨y1, e1, hF⟩ := bnd hF
  refine J_adv 10 (J_callF (xs := []) [] (.d (.bool y1)) (by kernel_rfl) en11 (Res'.refl _) (F11_ok e1) ?_)
  refine J_adv 2 (J_bool 28 (b := !y1) (by kernel_rfl) (fun hb1 => ?_) (fun hb1 => ?_))
  · replace hF := ift hb1 hF
    have hr_ := Option.some.inj hF; subst hr_
    exact J_adv 5 (J_ret (xs := [.d (.bool false)]) [.d (.bool false)] rfl rfl (by kernel_rfl) (Res'.refl _) rfl)
  · replace hF := iff' hb1 hF
    obtain ⟨y2, e2, hF⟩ := bnd hF
    refine J_adv 5 (J_callF (xs := [.agg [.d (.int .u8 d2.Wide), .d (.sl 4 (d2.Rows.map e_a4i8)), .d (.sl 1 (d2.C.map e_u8)), .d (.bool d2.Few)]]) [.agg [.d (.int .u8 d2.Wide), .d (.sl 4 (d2.Rows.map e_a4i8)), .d (.sl 1 (d2.C.map e_u8)), .d (.bool d2.Few)]] (.tup [.d (.sl 1 (y2.1.map e_li64)), .d (.sl 1 (y2.2.map e_i64))]) (by kernel_rfl) en12 (Res'.refl _) (F12_ok e2) ?_)
    refine J_adv 7 (J_draw (by kernel_rfl) (by kernel_rfl) ?_)
    obtain ⟨y3, e3, hF⟩ := bnd hF
    refine JD_adv 2 (JD_opt1 (o := geti (y2.1.map e_li64) 0) (e_li64 y3) (by kernel_rfl) (by kernel_rfl) (gm e3) ?_)
    obtain ⟨y4, e4, hF⟩ := bnd hF
    refine JD_adv 2 (JD_callF (xs := [.agg [.d (.sl 4 (d0.L.map e_a4i8)), .d (.int .u8 d0.Else)], .d (.int .i64 ((y3.map e_i64).length : Int))]) [.agg [.d (.sl 4 (d0.L.map e_a4i8)), .d (.int .u8 d0.Else)], .d (.int .i64 ((y3.map e_i64).length : Int))] (.agg [.d (.sl 4 (y4.List.map e_T_api_Rule)), .d (.int .i64 y4.Else)]) (by kernel_rfl) (by kernel_rfl) en13 (Res'.refl _) (F13_ok e4) ?_)
    refine JD_adv 2 (JD_end (by kernel_rfl) ?_)
    have hF3_L1 : ∀ (n_F3_L1 : Nat) (v2 : Int) (l4 : List Int), F3_L1 fuel d0 d1 d3 d4 y2 y4 n_F3_L1 v2 l4 = some r → J none Try.prog 104 [] (finF Try.prog Try.f3 (.d (.bool r))) ⟨mkT [(3, .d (.sl 1 (d3.map e_li64))), (4, .d (.sl 1 (d4.map e_i64))), (5, .ptr 5 0), (6, .ptr 6 0), (11, .d (.sl 1 (y2.1.map e_li64))), (12, .d (.sl 1 (y2.2.map e_i64))), (13, .ptr 13 0), (14, .suf 51 0 0), (40, .d (.sl 1 (y2.1.map e_li64))), (41, .d (.int .i64 ((y2.1.map e_li64).length : Int))), (42, .d (.int .i64 v2))], [(5, .box [.d (.sl 4 (d0.L.map e_a4i8)), .d (.int .u8 d0.Else)]), (6, .box [.d (.int .u8 d1.What), .d (.int .u8 d1.At), .d (.int .i64 d1.N)]), (13, .box [.d (.sl 4 (y4.List.map e_T_api_Rule)), .d (.int .i64 y4.Else)]), (51, .buf 0 3 1 (l4.map e_i64))], [.inLoop (cAt (bodyOf Try.f3) [1, 1, 1, 1, 1, 0, 1, 0, 0]), .inBlock 0, .code (cAt (bodyOf Try.f3) [1, 1, 1, 1, 1, 1])]⟩ := by
      clear hF; intro n_F3_L1
      induction n_F3_L1 with
      | zero => intro v2 l4 hF; cases hF
      | succ n_F3_L1 ih_F3_L1 =>
        intro v2 l4 hF
        rw [F3_L1] at hF
        refine J_adv 6 (J_bool 43 (b := decide (v2 < ((y2.1.map e_li64).length : Int))) (by kernel_rfl) (fun hb4 => ?_) (fun hb4 => ?_))
        · replace hF := ift hb4 hF
          obtain ⟨y9, e11, hF⟩ := bnd hF
          refine J_adv 6 (J_opt1 (o := geti (y2.1.map e_li64) v2) (e_li64 y9) (by kernel_rfl) (gm e11) ?_)
          obtain ⟨y10, e12, hF⟩ := bnd hF
          refine J_adv 7 (J_callF (xs := [.agg [.d (.sl 4 (y4.List.map e_T_api_Rule)), .d (.int .i64 y4.Else)], .d (.sl 1 (y9.map e_i64))]) [.agg [.d (.sl 4 (y4.List.map e_T_api_Rule)), .d (.int .i64 y4.Else)], .d (.sl 1 (y9.map e_i64))] (.d (.int .i64 y10)) (by kernel_rfl) en14 (Res'.refl _) (F14_ok e12) ?_)
          obtain ⟨l5, e13, hF⟩ := bnd hF
          refine J_adv 1 (J_opt2 (o := app2 ((l4.map e_i64).drop 0) ([y10].map e_i64)) (l5.map e_i64) (by kernel_rfl) (am e13) ?_)
          exact J_adv 7 (J_at [3, 4, 5, 6, 11, 12, 13, 14, 40, 41, 42] [5, 6, 13, 51] (T0 := [.inLoop (cAt (bodyOf Try.f3) [1, 1, 1, 1, 1, 0, 1, 0, 0]), .inBlock 0, .code (cAt (bodyOf Try.f3) [1, 1, 1, 1, 1, 1])]) (by kernel_rfl) rfl (ih_F3_L1 (IntKind.i64.wrap (v2 + 1)) l5 hF))
        · replace hF := iff' hb4 hF
          refine J_adv 4 (J_draw (by kernel_rfl) (by kernel_rfl) ?_)
          obtain ⟨y11, e14, hF⟩ := bnd hF
          refine JD_adv 3 (JD_callF (xs := [.agg [.d (.int .u8 d1.What), .d (.int .u8 d1.At), .d (.int .i64 d1.N)], .agg [.d (.sl 4 (y4.List.map e_T_api_Rule)), .d (.int .i64 y4.Else)]]) [.agg [.d (.int .u8 d1.What), .d (.int .u8 d1.At), .d (.int .i64 d1.N)], .agg [.d (.sl 4 (y4.List.map e_T_api_Rule)), .d (.int .i64 y4.Else)]] (.agg [.d (.sl 4 (y11.List.map e_T_api_Rule)), .d (.int .i64 y11.Else)]) (by kernel_rfl) (by kernel_rfl) en15 (Res'.refl _) (F15_ok e14) ?_)
          obtain ⟨y12, e15, hF⟩ := bnd hF
          refine JD_adv 1 (JD_callF (xs := [.agg [.d (.sl 4 (d0.L.map e_a4i8)), .d (.int .u8 d0.Else)], .d (.int .i64 4)]) [.agg [.d (.sl 4 (d0.L.map e_a4i8)), .d (.int .u8 d0.Else)], .d (.int .i64 4)] (.agg [.d (.sl 4 (y12.List.map e_T_api_Rule)), .d (.int .i64 y12.Else)]) (by kernel_rfl) (by kernel_rfl) en13 (Res'.refl _) (F13_ok e15) ?_)
          refine JD_adv 2 (JD_end (by kernel_rfl) ?_)
          have hF3_L2 : ∀ (n_F3_L2 : Nat) (l13 : List Int) (v20 : Int), F3_L2 fuel d3 d4 y2 y4 y11 y12 n_F3_L2 l13 v20 = some r → J none Try.prog 104 [] (finF Try.prog Try.f3 (.d (.bool r))) ⟨mkT [(3, .d (.sl 1 (d3.map e_li64))), (4, .d (.sl 1 (d4.map e_i64))), (11, .d (.sl 1 (y2.1.map e_li64))), (12, .d (.sl 1 (y2.2.map e_i64))), (14, .d (.sl 1 (l13.map e_i64))), (59, .agg [.d (.sl 4 (y4.List.map e_T_api_Rule)), .d (.int .i64 y4.Else), .d (.sl 4 (y11.List.map e_T_api_Rule)), .d (.int .i64 y11.Else), .d (.sl 4 (y12.List.map e_T_api_Rule)), .d (.int .i64 y12.Else)]), (60, .d (.int .i64 v20))], [], [.inLoop (cAt (bodyOf Try.f3) [1, 1, 1, 1, 1, 1, 0, 1, 0, 0]), .inBlock 2, .code (cAt (bodyOf Try.f3) [1, 1, 1, 1, 1, 1, 1])]⟩ := by
            clear hF; intro n_F3_L2
            induction n_F3_L2 with
            | zero => intro l13 v20 hF; cases hF
            | succ n_F3_L2 ih_F3_L2 =>
              intro l13 v20 hF
              rw [F3_L2] at hF
              refine J_adv 6 (J_bool 61 (b := decide (v20 < 3)) (by kernel_rfl) (fun hb103 => ?_) (fun hb103 => ?_))
              · replace hF := ift hb103 hF
                obtain ⟨y81, e86, hF⟩ := bnd hF
                refine J_adv 6 (J_opt1 (o := geti (chunks 2 3 ([.sl 4 (y4.List.map e_T_api_Rule), .int .i64 y4.Else, .sl 4 (y11.List.map e_T_api_Rule), .int .i64 y11.Else, .sl 4 (y12.List.map e_T_api_Rule), .int .i64 y12.Else] : List Dat)) v20) (e_T_api_Rules y81) (by kernel_rfl) (gm (f := e_T_api_Rules) e86) ?_)
                obtain ⟨l14, e87, hF⟩ := bnd hF
                refine J_adv 9 (J_opt2 (o := slc (y2.2.map e_i64) 1 ((y2.2.map e_i64).length : Int)) (l14.map e_i64) (by kernel_rfl) (smh e87) ?_)
                have hF3_L3 : ∀ (n_F3_L3 : Nat) (v26 : Int), F3_L3 fuel d3 d4 l13 l14 v20 y2 y81 (F3_L2 fuel d3 d4 y2 y4 y11 y12 n_F3_L2) n_F3_L3 v26 = some r → J none Try.prog 104 [] (finF Try.prog Try.f3 (.d (.bool r))) ⟨mkT [(3, .d (.sl 1 (d3.map e_li64))), (4, .d (.sl 1 (d4.map e_i64))), (11, .d (.sl 1 (y2.1.map e_li64))), (12, .d (.sl 1 (y2.2.map e_i64))), (14, .d (.sl 1 (l13.map e_i64))), (18, .ptr 18 0), (59, .agg [.d (.sl 4 (y4.List.map e_T_api_Rule)), .d (.int .i64 y4.Else), .d (.sl 4 (y11.List.map e_T_api_Rule)), .d (.int .i64 y11.Else), .d (.sl 4 (y12.List.map e_T_api_Rule)), .d (.int .i64 y12.Else)]), (60, .d (.int .i64 v20)), (68, .agg [.d (.sl 1 (y2.2.map e_i64)), .d (.sl 1 (l13.map e_i64)), .d (.sl 1 (d4.map e_i64)), .d (.sl 1 (l14.map e_i64))]), (69, .d (.int .i64 v26))], [(18, .box [.d (.sl 4 (y81.List.map e_T_api_Rule)), .d (.int .i64 y81.Else)])], [.inLoop (cAt (bodyOf Try.f3) [1, 1, 1, 1, 1, 1, 0, 1, 0, 0, 1, 1, 0, 0, 1, 1, 0, 0]), .inBlock 4, .inBlock 3, .code (cAt (bodyOf Try.f3) [1, 1, 1, 1, 1, 1, 0, 1, 0, 0, 1, 1, 1]), .inLoop (cAt (bodyOf Try.f3) [1, 1, 1, 1, 1, 1, 0, 1, 0, 0]), .inBlock 2, .code (cAt (bodyOf Try.f3) [1, 1, 1, 1, 1, 1, 1])]⟩ := by
                  clear hF; intro n_F3_L3
                  induction n_F3_L3 with
                  | zero => intro v26 hF; cases hF
                  | succ n_F3_L3 ih_F3_L3 =>
                    intro v26 hF
                    rw [F3_L3] at hF
                    refine J_adv 6 (J_bool 70 (b := decide (v26 < 4)) (by kernel_rfl) (fun hb136 => ?_) (fun hb136 => ?_))
                    · replace hF := ift hb136 hF
                      obtain ⟨y104, e110, hF⟩ := bnd hF
                      refine J_adv 6 (J_opt1 (o := geti (chunks 1 4 ([.sl 1 (y2.2.map e_i64), .sl 1 (l13.map e_i64), .sl 1 (d4.map e_i64), .sl 1 (l14.map e_i64)] : List Dat)) v26) (e_li64 y104) (by kernel_rfl) (gm (f := e_li64) e110) ?_)
                      obtain ⟨y105, e111, hF⟩ := bnd hF
                      refine J_adv 6 (J_callF (xs := [.d (.sl 1 (d3.map e_li64))]) [.d (.sl 1 (d3.map e_li64))] (.d (.sl 1 (y105.map e_li64))) (by kernel_rfl) en16 (Res'.refl _) (F16_ok e111) ?_)
                      have hF3_L4 : ∀ (n_F3_L4 : Nat) (v28 : Int), F3_L4 fuel v26 y2 y81 y104 y105 (F3_L3 fuel d3 d4 l13 l14 v20 y2 y81 (F3_L2 fuel d3 d4 y2 y4 y11 y12 n_F3_L2) n_F3_L3) n_F3_L4 v28 = some r → J none Try.prog 104 [] (finF Try.prog Try.f3 (.d (.bool r))) ⟨mkT [(3, .d (.sl 1 (d3.map e_li64))), (4, .d (.sl 1 (d4.map e_i64))), (11, .d (.sl 1 (y2.1.map e_li64))), (12, .d (.sl 1 (y2.2.map e_i64))), (14, .d (.sl 1 (l13.map e_i64))), (18, .ptr 18 0), (20, .d (.sl 1 (y104.map e_i64))), (59, .agg [.d (.sl 4 (y4.List.map e_T_api_Rule)), .d (.int .i64 y4.Else), .d (.sl 4 (y11.List.map e_T_api_Rule)), .d (.int .i64 y11.Else), .d (.sl 4 (y12.List.map e_T_api_Rule)), .d (.int .i64 y12.Else)]), (60, .d (.int .i64 v20)), (68, .agg [.d (.sl 1 (y2.2.map e_i64)), .d (.sl 1 (l13.map e_i64)), .d (.sl 1 (d4.map e_i64)), .d (.sl 1 (l14.map e_i64))]), (69, .d (.int .i64 v26)), (75, .agg [.d (.sl 1 (y2.1.map e_li64)), .d (.sl 1 (y105.map e_li64))]), (76, .d (.int .i64 v28))], [(18, .box [.d (.sl 4 (y81.List.map e_T_api_Rule)), .d (.int .i64 y81.Else)])], [.inLoop (cAt (bodyOf Try.f3) [1, 1, 1, 1, 1, 1, 0, 1, 0, 0, 1, 1, 0, 0, 1, 1, 0, 0, 1, 1, 0, 0, 1, 1, 0, 0]), .inBlock 6, .inBlock 5, .code (cAt (bodyOf Try.f3) [1, 1, 1, 1, 1, 1, 0, 1, 0, 0, 1, 1, 0, 0, 1, 1, 0, 0, 1, 1, 1]), .inLoop (cAt (bodyOf Try.f3) [1, 1, 1, 1, 1, 1, 0, 1, 0, 0, 1, 1, 0, 0, 1, 1, 0, 0]), .inBlock 4, .inBlock 3, .code (cAt (bodyOf Try.f3) [1, 1, 1, 1, 1, 1, 0, 1, 0, 0, 1, 1, 1]), .inLoop (cAt (bodyOf Try.f3) [1, 1, 1, 1, 1, 1, 0, 1, 0, 0]), .inBlock 2, .code (cAt (bodyOf Try.f3) [1, 1, 1, 1, 1, 1, 1])]⟩ := by
                        clear hF; intro n_F3_L4
                        induction n_F3_L4 with
                        | zero => intro v28 hF; cases hF
                        | succ n_F3_L4 ih_F3_L4 =>
                          intro v28 hF
                          rw [F3_L4] at hF
                          refine J_adv 6 (J_bool 77 (b := decide (v28 < 2)) (by kernel_rfl) (fun hb147 => ?_) (fun hb147 => ?_))
                          · replace hF := ift hb147 hF
                            obtain ⟨y112, e118, hF⟩ := bnd hF
                            refine J_adv 6 (J_opt1 (o := geti (chunks 1 2 ([.sl 1 (y2.1.map e_li64), .sl 1 (y105.map e_li64)] : List Dat)) v28) (e_lli64 y112) (by kernel_rfl) (gm (f := e_lli64) e118) ?_)
                            obtain ⟨y113, e119, hF⟩ := bnd hF
                            refine J_adv 7 (J_callF (xs := [.agg [.d (.sl 4 (y81.List.map e_T_api_Rule)), .d (.int .i64 y81.Else)], .d (.sl 1 (y112.map e_li64)), .d (.sl 1 (y104.map e_i64))]) [.agg [.d (.sl 4 (y81.List.map e_T_api_Rule)), .d (.int .i64 y81.Else)], .d (.sl 1 (y112.map e_li64)), .d (.sl 1 (y104.map e_i64))] (.tup [.d (.bool y113.1), .d (.int .i64 y113.2)]) (by kernel_rfl) en17 (Res'.refl _) (F17_ok e119) ?_)
                            obtain ⟨y114, e120, hF⟩ := bnd hF
                            refine J_adv 11 (J_callF (xs := [.agg [.d (.sl 4 (y81.List.map e_T_api_Rule)), .d (.int .i64 y81.Else)], .d (.sl 1 (y112.map e_li64)), .d (.sl 1 (y104.map e_i64))]) [.agg [.d (.sl 4 (y81.List.map e_T_api_Rule)), .d (.int .i64 y81.Else)], .d (.sl 1 (y112.map e_li64)), .d (.sl 1 (y104.map e_i64))] (.tup [.d (.bool y114.1), .d (.int .i64 y114.2)]) (by kernel_rfl) en18 (Res'.refl _) (F18_ok e120) ?_)
                            obtain ⟨o27, hO, hF⟩ := bnd hF
                            have hR27 : J none Try.prog 104 [] (finF Try.prog Try.f3 (.d (.bool r))) ⟨mkT [(3, .d (.sl 1 (d3.map e_li64))), (4, .d (.sl 1 (d4.map e_i64))), (11, .d (.sl 1 (y2.1.map e_li64))), (12, .d (.sl 1 (y2.2.map e_i64))), (14, .d (.sl 1 (l13.map e_i64))), (18, .ptr 18 0), (20, .d (.sl 1 (y104.map e_i64))), (59, .agg [.d (.sl 4 (y4.List.map e_T_api_Rule)), .d (.int .i64 y4.Else), .d (.sl 4 (y11.List.map e_T_api_Rule)), .d (.int .i64 y11.Else), .d (.sl 4 (y12.List.map e_T_api_Rule)), .d (.int .i64 y12.Else)]), (60, .d (.int .i64 v20)), (68, .agg [.d (.sl 1 (y2.2.map e_i64)), .d (.sl 1 (l13.map e_i64)), .d (.sl 1 (d4.map e_i64)), .d (.sl 1 (l14.map e_i64))]), (69, .d (.int .i64 v26)), (75, .agg [.d (.sl 1 (y2.1.map e_li64)), .d (.sl 1 (y105.map e_li64))]), (76, .d (.int .i64 v28)), (100, .d (.bool o27))], [(18, .box [.d (.sl 4 (y81.List.map e_T_api_Rule)), .d (.int .i64 y81.Else)])], [.ops (opsOf (cAt (bodyOf Try.f3) [1, 1, 1, 1, 1, 1, 0, 1, 0, 0, 1, 1, 0, 0, 1, 1, 0, 0, 1, 1, 0, 0, 1, 1, 0, 0, 1, 1, 0, 0, 1, 1, 1, 0])) [], .code (cAt (bodyOf Try.f3) [1, 1, 1, 1, 1, 1, 0, 1, 0, 0, 1, 1, 0, 0, 1, 1, 0, 0, 1, 1, 0, 0, 1, 1, 0, 0, 1, 1, 0, 0, 1, 1, 1, 1]), .inBlock 7, .code (cAt (bodyOf Try.f3) [1, 1, 1, 1, 1, 1, 0, 1, 0, 0, 1, 1, 0, 0, 1, 1, 0, 0, 1, 1, 0, 0, 1, 1, 0, 0, 1, 1, 1]), .inLoop (cAt (bodyOf Try.f3) [1, 1, 1, 1, 1, 1, 0, 1, 0, 0, 1, 1, 0, 0, 1, 1, 0, 0, 1, 1, 0, 0, 1, 1, 0, 0]), .inBlock 6, .inBlock 5, .code (cAt (bodyOf Try.f3) [1, 1, 1, 1, 1, 1, 0, 1, 0, 0, 1, 1, 0, 0, 1, 1, 0, 0, 1, 1, 1]), .inLoop (cAt (bodyOf Try.f3) [1, 1, 1, 1, 1, 1, 0, 1, 0, 0, 1, 1, 0, 0, 1, 1, 0, 0]), .inBlock 4, .inBlock 3, .code (cAt (bodyOf Try.f3) [1, 1, 1, 1, 1, 1, 0, 1, 0, 0, 1, 1, 1]), .inLoop (cAt (bodyOf Try.f3) [1, 1, 1, 1, 1, 1, 0, 1, 0, 0]), .inBlock 2, .code (cAt (bodyOf Try.f3) [1, 1, 1, 1, 1, 1, 1])]⟩ := by
                              clear hO
                              refine J_adv 1 (J_bool 100 (b := o27) (by kernel_rfl) (fun hb150 => ?_) (fun hb150 => ?_))
                              · replace hF := ift hb150 hF
                                have hr_ := Option.some.inj hF; subst hr_
                                exact J_adv 5 (J_ret (xs := [.d (.bool false)]) [.d (.bool false)] rfl rfl (by kernel_rfl) (Res'.refl _) rfl)
                              · replace hF := iff' hb150 hF
                                exact J_adv 7 (J_at [3, 4, 11, 12, 14, 18, 20, 59, 60, 68, 69, 75, 76] [18] (T0 := [.inLoop (cAt (bodyOf Try.f3) [1, 1, 1, 1, 1, 1, 0, 1, 0, 0, 1, 1, 0, 0, 1, 1, 0, 0, 1, 1, 0, 0, 1, 1, 0, 0]), .inBlock 6, .inBlock 5, .code (cAt (bodyOf Try.f3) [1, 1, 1, 1, 1, 1, 0, 1, 0, 0, 1, 1, 0, 0, 1, 1, 0, 0, 1, 1, 1]), .inLoop (cAt (bodyOf Try.f3) [1, 1, 1, 1, 1, 1, 0, 1, 0, 0, 1, 1, 0, 0, 1, 1, 0, 0]), .inBlock 4, .inBlock 3, .code (cAt (bodyOf Try.f3) [1, 1, 1, 1, 1, 1, 0, 1, 0, 0, 1, 1, 1]), .inLoop (cAt (bodyOf Try.f3) [1, 1, 1, 1, 1, 1, 0, 1, 0, 0]), .inBlock 2, .code (cAt (bodyOf Try.f3) [1, 1, 1, 1, 1, 1, 1])]) (by kernel_rfl) rfl (ih_F3_L4 (IntKind.i64.wrap (v28 + 1)) hF))
                            clear hF; rename _ = some o27 => hF
                            refine J_adv 12 (J_bool 96 (b := !(y113.1 == y114.1)) (by kernel_rfl) (fun hb151 => ?_) (fun hb151 => ?_))
                            · replace hF := ift hb151 hF
                              have hr_ := Option.some.inj hF; subst hr_
                              exact J_adv 4 (J_at [3, 4, 11, 12, 14, 18, 20, 59, 60, 68, 69, 75, 76, 100] [18] (T0 := [.ops (opsOf (cAt (bodyOf Try.f3) [1, 1, 1, 1, 1, 1, 0, 1, 0, 0, 1, 1, 0, 0, 1, 1, 0, 0, 1, 1, 0, 0, 1, 1, 0, 0, 1, 1, 0, 0, 1, 1, 1, 0])) [], .code (cAt (bodyOf Try.f3) [1, 1, 1, 1, 1, 1, 0, 1, 0, 0, 1, 1, 0, 0, 1, 1, 0, 0, 1, 1, 0, 0, 1, 1, 0, 0, 1, 1, 0, 0, 1, 1, 1, 1]), .inBlock 7, .code (cAt (bodyOf Try.f3) [1, 1, 1, 1, 1, 1, 0, 1, 0, 0, 1, 1, 0, 0, 1, 1, 0, 0, 1, 1, 0, 0, 1, 1, 0, 0, 1, 1, 1]), .inLoop (cAt (bodyOf Try.f3) [1, 1, 1, 1, 1, 1, 0, 1, 0, 0, 1, 1, 0, 0, 1, 1, 0, 0, 1, 1, 0, 0, 1, 1, 0, 0]), .inBlock 6, .inBlock 5, .code (cAt (bodyOf Try.f3) [1, 1, 1, 1, 1, 1, 0, 1, 0, 0, 1, 1, 0, 0, 1, 1, 0, 0, 1, 1, 1]), .inLoop (cAt (bodyOf Try.f3) [1, 1, 1, 1, 1, 1, 0, 1, 0, 0, 1, 1, 0, 0, 1, 1, 0, 0]), .inBlock 4, .inBlock 3, .code (cAt (bodyOf Try.f3) [1, 1, 1, 1, 1, 1, 0, 1, 0, 0, 1, 1, 1]), .inLoop (cAt (bodyOf Try.f3) [1, 1, 1, 1, 1, 1, 0, 1, 0, 0]), .inBlock 2, .code (cAt (bodyOf Try.f3) [1, 1, 1, 1, 1, 1, 1])]) (by kernel_rfl) rfl hR27)
                            · replace hF := iff' hb151 hF
                              have hr_ := Option.some.inj hF; subst hr_
                              exact J_adv 4 (J_at [3, 4, 11, 12, 14, 18, 20, 59, 60, 68, 69, 75, 76, 100] [18] (T0 := [.ops (opsOf (cAt (bodyOf Try.f3) [1, 1, 1, 1, 1, 1, 0, 1, 0, 0, 1, 1, 0, 0, 1, 1, 0, 0, 1, 1, 0, 0, 1, 1, 0, 0, 1, 1, 0, 0, 1, 1, 1, 0])) [], .code (cAt (bodyOf Try.f3) [1, 1, 1, 1, 1, 1, 0, 1, 0, 0, 1, 1, 0, 0, 1, 1, 0, 0, 1, 1, 0, 0, 1, 1, 0, 0, 1, 1, 0, 0, 1, 1, 1, 1]), .inBlock 7, .code (cAt (bodyOf Try.f3) [1, 1, 1, 1, 1, 1, 0, 1, 0, 0, 1, 1, 0, 0, 1, 1, 0, 0, 1, 1, 0, 0, 1, 1, 0, 0, 1, 1, 1]), .inLoop (cAt (bodyOf Try.f3) [1, 1, 1, 1, 1, 1, 0, 1, 0, 0, 1, 1, 0, 0, 1, 1, 0, 0, 1, 1, 0, 0, 1, 1, 0, 0]), .inBlock 6, .inBlock 5, .code (cAt (bodyOf Try.f3) [1, 1, 1, 1, 1, 1, 0, 1, 0, 0, 1, 1, 0, 0, 1, 1, 0, 0, 1, 1, 1]), .inLoop (cAt (bodyOf Try.f3) [1, 1, 1, 1, 1, 1, 0, 1, 0, 0, 1, 1, 0, 0, 1, 1, 0, 0]), .inBlock 4, .inBlock 3, .code (cAt (bodyOf Try.f3) [1, 1, 1, 1, 1, 1, 0, 1, 0, 0, 1, 1, 1]), .inLoop (cAt (bodyOf Try.f3) [1, 1, 1, 1, 1, 1, 0, 1, 0, 0]), .inBlock 2, .code (cAt (bodyOf Try.f3) [1, 1, 1, 1, 1, 1, 1])]) (by kernel_rfl) rfl hR27)
                          · replace hF := iff' hb147 hF
                            exact J_adv 7 (J_at [3, 4, 11, 12, 14, 18, 59, 60, 68, 69] [18] (T0 := [.inLoop (cAt (bodyOf Try.f3) [1, 1, 1, 1, 1, 1, 0, 1, 0, 0, 1, 1, 0, 0, 1, 1, 0, 0]), .inBlock 4, .inBlock 3, .code (cAt (bodyOf Try.f3) [1, 1, 1, 1, 1, 1, 0, 1, 0, 0, 1, 1, 1]), .inLoop (cAt (bodyOf Try.f3) [1, 1, 1, 1, 1, 1, 0, 1, 0, 0]), .inBlock 2, .code (cAt (bodyOf Try.f3) [1, 1, 1, 1, 1, 1, 1])]) (by kernel_rfl) rfl (ih_F3_L3 (IntKind.i64.wrap (v26 + 1)) hF))
                      exact J_adv 5 (J_at [3, 4, 11, 12, 14, 18, 20, 59, 60, 68, 69, 75, 76] [18] (T0 := [.inLoop (cAt (bodyOf Try.f3) [1, 1, 1, 1, 1, 1, 0, 1, 0, 0, 1, 1, 0, 0, 1, 1, 0, 0, 1, 1, 0, 0, 1, 1, 0, 0]), .inBlock 6, .inBlock 5, .code (cAt (bodyOf Try.f3) [1, 1, 1, 1, 1, 1, 0, 1, 0, 0, 1, 1, 0, 0, 1, 1, 0, 0, 1, 1, 1]), .inLoop (cAt (bodyOf Try.f3) [1, 1, 1, 1, 1, 1, 0, 1, 0, 0, 1, 1, 0, 0, 1, 1, 0, 0]), .inBlock 4, .inBlock 3, .code (cAt (bodyOf Try.f3) [1, 1, 1, 1, 1, 1, 0, 1, 0, 0, 1, 1, 1]), .inLoop (cAt (bodyOf Try.f3) [1, 1, 1, 1, 1, 1, 0, 1, 0, 0]), .inBlock 2, .code (cAt (bodyOf Try.f3) [1, 1, 1, 1, 1, 1, 1])]) (by kernel_rfl) rfl (hF3_L4 fuel 0 hF))
                    · replace hF := iff' hb136 hF
                      exact J_adv 7 (J_at [3, 4, 11, 12, 14, 59, 60] [] (T0 := [.inLoop (cAt (bodyOf Try.f3) [1, 1, 1, 1, 1, 1, 0, 1, 0, 0]), .inBlock 2, .code (cAt (bodyOf Try.f3) [1, 1, 1, 1, 1, 1, 1])]) (by kernel_rfl) rfl (ih_F3_L2 l13 (IntKind.i64.wrap (v20 + 1)) hF))
                exact J_adv 5 (J_at [3, 4, 11, 12, 14, 18, 59, 60, 68, 69] [18] (T0 := [.inLoop (cAt (bodyOf Try.f3) [1, 1, 1, 1, 1, 1, 0, 1, 0, 0, 1, 1, 0, 0, 1, 1, 0, 0]), .inBlock 4, .inBlock 3, .code (cAt (bodyOf Try.f3) [1, 1, 1, 1, 1, 1, 0, 1, 0, 0, 1, 1, 1]), .inLoop (cAt (bodyOf Try.f3) [1, 1, 1, 1, 1, 1, 0, 1, 0, 0]), .inBlock 2, .code (cAt (bodyOf Try.f3) [1, 1, 1, 1, 1, 1, 1])]) (by kernel_rfl) rfl (hF3_L3 fuel 0 hF))
              · replace hF := iff' hb103 hF
                have hr_ := Option.some.inj hF; subst hr_
                exact J_adv 6 (J_ret (xs := [.d (.bool true)]) [.d (.bool true)] rfl rfl (by kernel_rfl) (Res'.refl _) rfl)
          refine J_adv 2 (J_frzS 14 (by kernel_rfl) (by kernel_rfl) ?_)
          exact J_adv 0 (J_at [3, 4, 11, 12, 14, 59, 60] [] (T0 := [.inLoop (cAt (bodyOf Try.f3) [1, 1, 1, 1, 1, 1, 0, 1, 0, 0]), .inBlock 2, .code (cAt (bodyOf Try.f3) [1, 1, 1, 1, 1, 1, 1])]) (by kernel_rfl) rfl (hF3_L2 fuel l4 0 hF))
    refine J_adv 13 (J_own (n := 1) 14 51 3 1 (by kernel_rfl) (by kernel_rfl) ?_)
    exact J_adv 0 (J_at [3, 4, 5, 6, 11, 12, 13, 14, 40, 41, 42] [5, 6, 13, 51] (T0 := [.inLoop (cAt (bodyOf Try.f3) [1, 1, 1, 1, 1, 0, 1, 0, 0]), .inBlock 0, .code (cAt (bodyOf Try.f3) [1, 1, 1, 1, 1, 1])]) (by kernel_rfl) rfl (hF3_L1 fuel 0 [] hF))

end Go.Proofs.Ytljkgnjmigmcgaa
