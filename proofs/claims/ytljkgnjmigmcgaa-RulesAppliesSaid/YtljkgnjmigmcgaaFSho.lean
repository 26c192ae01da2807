import Derived.Test.YtljkgnjmigmcgaaFMin
import Derived.KernelRfl
set_option linter.unusedVariables false
set_option maxRecDepth 100000
namespace Go.Proofs.Ytljkgnjmigmcgaa
open Go Go.RowKit Kx

theorem en54 : entersT Try.prog 54 := enters_of Try.func54 (by kernel_rfl) (by kernel_rfl)
theorem en53 : entersT Try.prog 53 := enters_of Try.func53 (by kernel_rfl) (by kernel_rfl)
theorem en40 : entersT Try.prog 40 := enters_of Try.func40 (by kernel_rfl) (by kernel_rfl)
theorem en41 : entersT Try.prog 41 := enters_of Try.func41 (by kernel_rfl) (by kernel_rfl)
theorem en20 : entersT Try.prog 20 := enters_of Try.func20 (by kernel_rfl) (by kernel_rfl)
theorem en16 : entersT Try.prog 16 := enters_of Try.func16 (by kernel_rfl) (by kernel_rfl)
theorem en44 : entersT Try.prog 44 := enters_of Try.func44 (by kernel_rfl) (by kernel_rfl)
theorem en23 : entersT Try.prog 23 := enters_of Try.func23 (by kernel_rfl) (by kernel_rfl)

/- croupier/croupierref30.equal -/
def F54_A2 (v6 : Int) (rec_F54_L1 : Int → Int → Option Bool) (v7 : Int) : Option Bool :=
  rec_F54_L1 v7 (IntKind.i64.wrap (v6 + 1))
def F54_L1 (d0 : List Int) (d1 : Int) : Nat → Int → Int → Option Bool
  | 0, _, _ => none
  | n_F54_L1 + 1, v5, v6 =>
    bif decide (v6 < ((d0.map e_i64).length : Int)) then
      (ass (decide (0 ≤ v6)) <|
      bif (Int.tmod (Int.fdiv d1 (2 ^ (min (Int.toNat v6) IntKind.i64.bits))) 2) == 1 then
        (Option.bind (
          bif decide (v5 ≥ 0) then
            (Option.bind (geti d0 v6) fun y24 =>
            some (y24 != v5))
          else
            (some false)) fun o6 =>
        bif o6 then
          (some false)
        else
          (Option.bind (geti d0 v6) fun y23 =>
          F54_A2 v6 (F54_L1 d0 d1 n_F54_L1) y23))
      else
        (F54_A2 v6 (F54_L1 d0 d1 n_F54_L1) v5))
    else
      (some true)
def F54 (fuel : Nat) (d0 : List Int) (d1 : Int) : Option Bool :=
  F54_L1 d0 d1 fuel (-1) 0
theorem F54_ok {fuel : Nat} {d0 : List Int} {d1 : Int} {r : Bool} (hF : F54 fuel d0 d1 = some r) :
    CallF Try.prog 54 [.d (.sl 1 (d0.map e_i64)), .d (.int .i64 d1)] (.d (.bool r)) := by
  unfold F54 at hF
  refine callF_of (N := 32) (b := bodyOf Try.f54) Try.func54 (by kernel_rfl) rfl rfl ?_
  have hF54_L1 : ∀ (n_F54_L1 : Nat) (v5 : Int) (v6 : Int), F54_L1 d0 d1 n_F54_L1 v5 v6 = some r → J none Try.prog 32 [] (finF Try.prog Try.f54 (.d (.bool r))) ⟨mkT [(0, .d (.sl 1 (d0.map e_i64))), (1, .d (.int .i64 d1)), (5, .d (.int .i64 v5)), (6, .d (.int .i64 v6))], [], [.inLoop (cAt (bodyOf Try.f54) [1, 1, 0, 1, 0, 0]), .inBlock 0, .code (cAt (bodyOf Try.f54) [1, 1, 1])]⟩ := by
    clear hF; intro n_F54_L1
    induction n_F54_L1 with
    | zero => intro v5 v6 hF; cases hF
    | succ n_F54_L1 ih_F54_L1 =>
      intro v5 v6 hF
      rw [F54_L1] at hF
      refine J_adv 9 (J_bool 10 (b := decide (v6 < ((d0.map e_i64).length : Int))) (by kernel_rfl) (fun hb27 => ?_) (fun hb27 => ?_))
      · replace hF := ift hb27 hF
        have hF54_A2 : ∀ (v7 : Int), F54_A2 v6 (F54_L1 d0 d1 n_F54_L1) v7 = some r → J none Try.prog 32 [] (finF Try.prog Try.f54 (.d (.bool r))) ⟨mkT [(0, .d (.sl 1 (d0.map e_i64))), (1, .d (.int .i64 d1)), (5, .d (.int .i64 v7)), (6, .d (.int .i64 v6))], [], [.code (cAt (bodyOf Try.f54) [1, 1, 0, 1, 0, 0, 1, 1]), .inLoop (cAt (bodyOf Try.f54) [1, 1, 0, 1, 0, 0]), .inBlock 0, .code (cAt (bodyOf Try.f54) [1, 1, 1])]⟩ := by
          intro v7 hF
          unfold F54_A2 at hF
          exact J_adv 5 (J_at [0, 1, 5, 6] [] (T0 := [.inLoop (cAt (bodyOf Try.f54) [1, 1, 0, 1, 0, 0]), .inBlock 0, .code (cAt (bodyOf Try.f54) [1, 1, 1])]) (by kernel_rfl) rfl (ih_F54_L1 v7 (IntKind.i64.wrap (v6 + 1)) hF))
        obtain ⟨hb34, hF⟩ := assd hF
        refine J_adv 8 (J_opt1 (o := chk (decide (0 ≤ v6))) [] (by kernel_rfl) (ck hb34) ?_)
        refine J_adv 3 (J_bool 17 (b := (Int.tmod (Int.fdiv d1 (2 ^ (min (Int.toNat v6) IntKind.i64.bits))) 2) == 1) (by kernel_rfl) (fun hb35 => ?_) (fun hb35 => ?_))
        · replace hF := ift hb35 hF
          obtain ⟨o6, hO, hF⟩ := bnd hF
          have hR6 : J none Try.prog 32 [] (finF Try.prog Try.f54 (.d (.bool r))) ⟨mkT [(0, .d (.sl 1 (d0.map e_i64))), (1, .d (.int .i64 d1)), (6, .d (.int .i64 v6)), (27, .d (.bool o6))], [], [.ops (opsOf (cAt (bodyOf Try.f54) [1, 1, 0, 1, 0, 0, 1, 0, 0, 1, 0, 0, 0])) [], .code (cAt (bodyOf Try.f54) [1, 1, 0, 1, 0, 0, 1, 0, 0, 1, 0, 0, 1]), .code (cAt (bodyOf Try.f54) [1, 1, 0, 1, 0, 0, 1, 0, 0, 1, 0, 1]), .inBlock 1, .code (cAt (bodyOf Try.f54) [1, 1, 0, 1, 0, 0, 1, 1]), .inLoop (cAt (bodyOf Try.f54) [1, 1, 0, 1, 0, 0]), .inBlock 0, .code (cAt (bodyOf Try.f54) [1, 1, 1])]⟩ := by
            clear hO
            refine J_adv 1 (J_bool 27 (b := o6) (by kernel_rfl) (fun hb38 => ?_) (fun hb38 => ?_))
            · replace hF := ift hb38 hF
              have hr_ := Option.some.inj hF; subst hr_
              exact J_adv 5 (J_ret (xs := [.d (.bool false)]) [.d (.bool false)] rfl rfl (by kernel_rfl) (Res'.refl _) rfl)
            · replace hF := iff' hb38 hF
              obtain ⟨y23, e23, hF⟩ := bnd hF
              refine J_adv 5 (J_opt1 (o := geti (d0.map e_i64) v6) (e_i64 y23) (by kernel_rfl) (gm e23) ?_)
              exact J_adv 4 (J_at [0, 1, 5, 6] [] (T0 := [.code (cAt (bodyOf Try.f54) [1, 1, 0, 1, 0, 0, 1, 1]), .inLoop (cAt (bodyOf Try.f54) [1, 1, 0, 1, 0, 0]), .inBlock 0, .code (cAt (bodyOf Try.f54) [1, 1, 1])]) (by kernel_rfl) rfl (hF54_A2 y23 hF))
          clear hF; rename _ = some o6 => hF
          refine J_adv 7 (J_bool 20 (b := decide (v5 ≥ 0)) (by kernel_rfl) (fun hb39 => ?_) (fun hb39 => ?_))
          · replace hF := ift hb39 hF
            obtain ⟨y24, e24, hF⟩ := bnd hF
            refine J_adv 2 (J_opt1 (o := geti (d0.map e_i64) v6) (e_i64 y24) (by kernel_rfl) (gm e24) ?_)
            have hr_ := Option.some.inj hF; subst hr_
            exact J_adv 4 (J_at [0, 1, 6, 27] [] (T0 := [.ops (opsOf (cAt (bodyOf Try.f54) [1, 1, 0, 1, 0, 0, 1, 0, 0, 1, 0, 0, 0])) [], .code (cAt (bodyOf Try.f54) [1, 1, 0, 1, 0, 0, 1, 0, 0, 1, 0, 0, 1]), .code (cAt (bodyOf Try.f54) [1, 1, 0, 1, 0, 0, 1, 0, 0, 1, 0, 1]), .inBlock 1, .code (cAt (bodyOf Try.f54) [1, 1, 0, 1, 0, 0, 1, 1]), .inLoop (cAt (bodyOf Try.f54) [1, 1, 0, 1, 0, 0]), .inBlock 0, .code (cAt (bodyOf Try.f54) [1, 1, 1])]) (by kernel_rfl) rfl hR6)
          · replace hF := iff' hb39 hF
            have hr_ := Option.some.inj hF; subst hr_
            exact J_adv 7 (J_at [0, 1, 6, 27] [] (T0 := [.ops (opsOf (cAt (bodyOf Try.f54) [1, 1, 0, 1, 0, 0, 1, 0, 0, 1, 0, 0, 0])) [], .code (cAt (bodyOf Try.f54) [1, 1, 0, 1, 0, 0, 1, 0, 0, 1, 0, 0, 1]), .code (cAt (bodyOf Try.f54) [1, 1, 0, 1, 0, 0, 1, 0, 0, 1, 0, 1]), .inBlock 1, .code (cAt (bodyOf Try.f54) [1, 1, 0, 1, 0, 0, 1, 1]), .inLoop (cAt (bodyOf Try.f54) [1, 1, 0, 1, 0, 0]), .inBlock 0, .code (cAt (bodyOf Try.f54) [1, 1, 1])]) (by kernel_rfl) rfl hR6)
        · replace hF := iff' hb35 hF
          exact J_adv 3 (J_at [0, 1, 5, 6] [] (T0 := [.code (cAt (bodyOf Try.f54) [1, 1, 0, 1, 0, 0, 1, 1]), .inLoop (cAt (bodyOf Try.f54) [1, 1, 0, 1, 0, 0]), .inBlock 0, .code (cAt (bodyOf Try.f54) [1, 1, 1])]) (by kernel_rfl) rfl (hF54_A2 v5 hF))
      · replace hF := iff' hb27 hF
        have hr_ := Option.some.inj hF; subst hr_
        exact J_adv 6 (J_ret (xs := [.d (.bool true)]) [.d (.bool true)] rfl rfl (by kernel_rfl) (Res'.refl _) rfl)
  exact J_adv 15 (J_at [0, 1, 5, 6] [] (T0 := [.inLoop (cAt (bodyOf Try.f54) [1, 1, 0, 1, 0, 0]), .inBlock 0, .code (cAt (bodyOf Try.f54) [1, 1, 1])]) (by kernel_rfl) rfl (hF54_L1 fuel (-1) 0 hF))

/- croupier/croupierref30.firsts -/
def F53_A6 (v509 : Int) (rec_F53_L5 : Int → Int → Option (List Int)) (v510 : Int) : Option (List Int) :=
  rec_F53_L5 v510 (IntKind.i64.wrap (v509 + 1))
def F53_A4 (v494 : Int) (rec_F53_L3 : Int → (List Int) → Option (List Int)) (l106 : List Int) : Option (List Int) :=
  rec_F53_L3 (IntKind.i64.wrap (v494 + 1)) l106
def F53_L7 (l104 : List Int) (v494 : Int) (v508 : Int) (rec_F53_L3 : Int → (List Int) → Option (List Int)) : Nat → Bool → Int → Option (List Int)
  | 0, _, _ => none
  | n_F53_L7 + 1, t641, v512 =>
    bif decide (v512 < ((l104.map e_i64).length : Int)) then
      (Option.bind (
        bif t641 then
          (some true)
        else
          (Option.bind (geti l104 v512) fun y4520 =>
          some (y4520 == v508))) fun o534 =>
      (F53_L7 l104 v494 v508 rec_F53_L3 n_F53_L7) o534 (IntKind.i64.wrap (v512 + 1)))
    else
      (bif !t641 then
        (Option.bind (app l104 [v508]) fun l107 =>
        F53_A4 v494 rec_F53_L3 l107)
      else
        (F53_A4 v494 rec_F53_L3 l104))
def F53_L5 (fuel : Nat) (d0 : List (List Int)) (d1 : List Int) (d2 : Int) (l104 : List Int) (v342 : Int) (v456 : Int) (v494 : Int) (rec_F53_L3 : Int → (List Int) → Option (List Int)) : Nat → Int → Int → Option (List Int)
  | 0, _, _ => none
  | n_F53_L5 + 1, v508, v509 =>
    bif decide (v509 < ((d0.map e_li64).length : Int)) then
      (Option.bind (
        ass (decide (0 ≤ v509)) <|
        bif (Int.tmod (Int.fdiv d2 (2 ^ (min (Int.toNat v509) IntKind.i64.bits))) 2) == 1 then
          (Option.bind (geti d0 v456) fun y4506 =>
          Option.bind (geti y4506 v342) fun y4507 =>
          Option.bind (geti d0 v509) fun y4508 =>
          Option.bind (F31 (⟨v342, v494, y4507, 0⟩ : T_api_Rule) y4508) fun y4509 =>
          some y4509)
        else
          (some false)) fun o530 =>
      bif o530 then
        (ass (decide (0 ≤ v509)) <|
        F53_A6 v509 (F53_L5 fuel d0 d1 d2 l104 v342 v456 v494 rec_F53_L3 n_F53_L5) (IntKind.i64.wrap (v508 + (IntKind.i64.wrap (1 * 2 ^ (min (Int.toNat v509) IntKind.i64.bits))))))
      else
        (F53_A6 v509 (F53_L5 fuel d0 d1 d2 l104 v342 v456 v494 rec_F53_L3 n_F53_L5) v508))
    else
      (Option.bind (
        bif v508 == 0 then
          (some true)
        else
          (Option.bind (F54 fuel d1 v508) fun y4521 =>
          some (!y4521))) fun o531 =>
      F53_L7 l104 v494 v508 rec_F53_L3 fuel o531 0)
def F53_L3 (fuel : Nat) (d0 : List (List Int)) (d1 : List Int) (d2 : Int) (v342 : Int) (v456 : Int) (rec_F53_L2 : Int → (List Int) → Option (List Int)) : Nat → Int → (List Int) → Option (List Int)
  | 0, _, _ => none
  | n_F53_L3 + 1, v494, l104 =>
    bif decide (v494 ≤ 3) then
      (F53_L5 fuel d0 d1 d2 l104 v342 v456 v494 (F53_L3 fuel d0 d1 d2 v342 v456 rec_F53_L2 n_F53_L3) fuel 0 0)
    else
      (rec_F53_L2 (IntKind.i64.wrap (v456 + 1)) l104)
def F53_L2 (fuel : Nat) (d0 : List (List Int)) (d1 : List Int) (d2 : Int) (v342 : Int) (rec_F53_L1 : Int → (List Int) → Option (List Int)) : Nat → Int → (List Int) → Option (List Int)
  | 0, _, _ => none
  | n_F53_L2 + 1, v456, l96 =>
    bif decide (v456 < ((d0.map e_li64).length : Int)) then
      (F53_L3 fuel d0 d1 d2 v342 v456 (F53_L2 fuel d0 d1 d2 v342 rec_F53_L1 n_F53_L2) fuel 1 l96)
    else
      (rec_F53_L1 (IntKind.i64.wrap (v342 + 1)) l96)
def F53_L1 (fuel : Nat) (d0 : List (List Int)) (d1 : List Int) (d2 : Int) : Nat → Int → (List Int) → Option (List Int)
  | 0, _, _ => none
  | n_F53_L1 + 1, v342, l72 =>
    Option.bind (geti d0 0) fun y3009 =>
    bif decide (v342 < ((y3009.map e_i64).length : Int)) then
      (F53_L2 fuel d0 d1 d2 v342 (F53_L1 fuel d0 d1 d2 n_F53_L1) fuel 0 l72)
    else
      (some l72)
def F53 (fuel : Nat) (d0 : List (List Int)) (d1 : List Int) (d2 : Int) : Option (List Int) :=
  F53_L1 fuel d0 d1 d2 fuel 0 []
theorem F53_ok {fuel : Nat} {d0 : List (List Int)} {d1 : List Int} {d2 : Int} {r : List Int} (hF : F53 fuel d0 d1 d2 = some r) :
    CallF Try.prog 53 [.d (.sl 1 (d0.map e_li64)), .d (.sl 1 (d1.map e_i64)), .d (.int .i64 d2)] (.d (.sl 1 (r.map e_i64))) := by
  unfold F53 at hF
  refine callF_of (N := 95) (b := bodyOf Try.f53) Try.func53 (by kernel_rfl) rfl rfl ?_
  have hF53_L1 : ∀ (n_F53_L1 : Nat) (v342 : Int) (l72 : List Int), F53_L1 fuel d0 d1 d2 n_F53_L1 v342 l72 = some r → J none Try.prog 95 [] (finF Try.prog Try.f53 (.d (.sl 1 (r.map e_i64)))) ⟨mkT [(0, .d (.sl 1 (d0.map e_li64))), (1, .d (.sl 1 (d1.map e_i64))), (2, .d (.int .i64 d2)), (7, .suf 93 0 0), (8, .d (.int .i64 v342))], [(93, .buf 0 3 1 (l72.map e_i64))], [.inLoop (cAt (bodyOf Try.f53) [1, 1, 0, 1, 0, 0]), .inBlock 0, .code (cAt (bodyOf Try.f53) [1, 1, 1])]⟩ := by
    clear hF; intro n_F53_L1
    induction n_F53_L1 with
    | zero => intro v342 l72 hF; cases hF
    | succ n_F53_L1 ih_F53_L1 =>
      intro v342 l72 hF
      rw [F53_L1] at hF
      obtain ⟨y3009, e3045, hF⟩ := bnd hF
      refine J_adv 6 (J_opt1 (o := geti (d0.map e_li64) 0) (e_li64 y3009) (by kernel_rfl) (gm e3045) ?_)
      refine J_adv 4 (J_bool 20 (b := decide (v342 < ((y3009.map e_i64).length : Int))) (by kernel_rfl) (fun hb2421 => ?_) (fun hb2421 => ?_))
      · replace hF := ift hb2421 hF
        have hF53_L2 : ∀ (n_F53_L2 : Nat) (v456 : Int) (l96 : List Int), F53_L2 fuel d0 d1 d2 v342 (F53_L1 fuel d0 d1 d2 n_F53_L1) n_F53_L2 v456 l96 = some r → J none Try.prog 95 [] (finF Try.prog Try.f53 (.d (.sl 1 (r.map e_i64)))) ⟨mkT [(0, .d (.sl 1 (d0.map e_li64))), (1, .d (.sl 1 (d1.map e_i64))), (2, .d (.int .i64 d2)), (7, .suf 93 0 0), (8, .d (.int .i64 v342)), (9, .d (.int .i64 v456))], [(93, .buf 0 3 1 (l96.map e_i64))], [.inLoop (cAt (bodyOf Try.f53) [1, 1, 0, 1, 0, 0, 1, 0, 0, 1, 0, 0]), .inBlock 2, .inBlock 1, .code (cAt (bodyOf Try.f53) [1, 1, 0, 1, 0, 0, 1, 1]), .inLoop (cAt (bodyOf Try.f53) [1, 1, 0, 1, 0, 0]), .inBlock 0, .code (cAt (bodyOf Try.f53) [1, 1, 1])]⟩ := by
          clear hF; intro n_F53_L2
          induction n_F53_L2 with
          | zero => intro v456 l96 hF; cases hF
          | succ n_F53_L2 ih_F53_L2 =>
            intro v456 l96 hF
            rw [F53_L2] at hF
            refine J_adv 9 (J_bool 26 (b := decide (v456 < ((d0.map e_li64).length : Int))) (by kernel_rfl) (fun hb3228 => ?_) (fun hb3228 => ?_))
            · replace hF := ift hb3228 hF
              have hF53_L3 : ∀ (n_F53_L3 : Nat) (v494 : Int) (l104 : List Int), F53_L3 fuel d0 d1 d2 v342 v456 (F53_L2 fuel d0 d1 d2 v342 (F53_L1 fuel d0 d1 d2 n_F53_L1) n_F53_L2) n_F53_L3 v494 l104 = some r → J none Try.prog 95 [] (finF Try.prog Try.f53 (.d (.sl 1 (r.map e_i64)))) ⟨mkT [(0, .d (.sl 1 (d0.map e_li64))), (1, .d (.sl 1 (d1.map e_i64))), (2, .d (.int .i64 d2)), (7, .suf 93 0 0), (8, .d (.int .i64 v342)), (9, .d (.int .i64 v456)), (10, .d (.int .i64 v494))], [(93, .buf 0 3 1 (l104.map e_i64))], [.inLoop (cAt (bodyOf Try.f53) [1, 1, 0, 1, 0, 0, 1, 0, 0, 1, 0, 0, 1, 0, 0, 1, 0, 0]), .inBlock 4, .inBlock 3, .code (cAt (bodyOf Try.f53) [1, 1, 0, 1, 0, 0, 1, 0, 0, 1, 0, 0, 1, 1]), .inLoop (cAt (bodyOf Try.f53) [1, 1, 0, 1, 0, 0, 1, 0, 0, 1, 0, 0]), .inBlock 2, .inBlock 1, .code (cAt (bodyOf Try.f53) [1, 1, 0, 1, 0, 0, 1, 1]), .inLoop (cAt (bodyOf Try.f53) [1, 1, 0, 1, 0, 0]), .inBlock 0, .code (cAt (bodyOf Try.f53) [1, 1, 1])]⟩ := by
                clear hF; intro n_F53_L3
                induction n_F53_L3 with
                | zero => intro v494 l104 hF; cases hF
                | succ n_F53_L3 ih_F53_L3 =>
                  intro v494 l104 hF
                  rw [F53_L3] at hF
                  refine J_adv 7 (J_bool 30 (b := decide (v494 ≤ 3)) (by kernel_rfl) (fun hb3499 => ?_) (fun hb3499 => ?_))
                  · replace hF := ift hb3499 hF
                    have hF53_A4 : ∀ (l106 : List Int), F53_A4 v494 (F53_L3 fuel d0 d1 d2 v342 v456 (F53_L2 fuel d0 d1 d2 v342 (F53_L1 fuel d0 d1 d2 n_F53_L1) n_F53_L2) n_F53_L3) l106 = some r → J none Try.prog 95 [] (finF Try.prog Try.f53 (.d (.sl 1 (r.map e_i64)))) ⟨mkT [(0, .d (.sl 1 (d0.map e_li64))), (1, .d (.sl 1 (d1.map e_i64))), (2, .d (.int .i64 d2)), (7, .suf 93 0 0), (8, .d (.int .i64 v342)), (9, .d (.int .i64 v456)), (10, .d (.int .i64 v494))], [(93, .buf 0 3 1 (l106.map e_i64))], [.code (cAt (bodyOf Try.f53) [1, 1, 0, 1, 0, 0, 1, 0, 0, 1, 0, 0, 1, 0, 0, 1, 0, 0, 1, 1]), .inLoop (cAt (bodyOf Try.f53) [1, 1, 0, 1, 0, 0, 1, 0, 0, 1, 0, 0, 1, 0, 0, 1, 0, 0]), .inBlock 4, .inBlock 3, .code (cAt (bodyOf Try.f53) [1, 1, 0, 1, 0, 0, 1, 0, 0, 1, 0, 0, 1, 1]), .inLoop (cAt (bodyOf Try.f53) [1, 1, 0, 1, 0, 0, 1, 0, 0, 1, 0, 0]), .inBlock 2, .inBlock 1, .code (cAt (bodyOf Try.f53) [1, 1, 0, 1, 0, 0, 1, 1]), .inLoop (cAt (bodyOf Try.f53) [1, 1, 0, 1, 0, 0]), .inBlock 0, .code (cAt (bodyOf Try.f53) [1, 1, 1])]⟩ := by
                      intro l106 hF
                      unfold F53_A4 at hF
                      exact J_adv 5 (J_at [0, 1, 2, 7, 8, 9, 10] [93] (T0 := [.inLoop (cAt (bodyOf Try.f53) [1, 1, 0, 1, 0, 0, 1, 0, 0, 1, 0, 0, 1, 0, 0, 1, 0, 0]), .inBlock 4, .inBlock 3, .code (cAt (bodyOf Try.f53) [1, 1, 0, 1, 0, 0, 1, 0, 0, 1, 0, 0, 1, 1]), .inLoop (cAt (bodyOf Try.f53) [1, 1, 0, 1, 0, 0, 1, 0, 0, 1, 0, 0]), .inBlock 2, .inBlock 1, .code (cAt (bodyOf Try.f53) [1, 1, 0, 1, 0, 0, 1, 1]), .inLoop (cAt (bodyOf Try.f53) [1, 1, 0, 1, 0, 0]), .inBlock 0, .code (cAt (bodyOf Try.f53) [1, 1, 1])]) (by kernel_rfl) rfl (ih_F53_L3 (IntKind.i64.wrap (v494 + 1)) l106 hF))
                    have hF53_L5 : ∀ (n_F53_L5 : Nat) (v508 : Int) (v509 : Int), F53_L5 fuel d0 d1 d2 l104 v342 v456 v494 (F53_L3 fuel d0 d1 d2 v342 v456 (F53_L2 fuel d0 d1 d2 v342 (F53_L1 fuel d0 d1 d2 n_F53_L1) n_F53_L2) n_F53_L3) n_F53_L5 v508 v509 = some r → J none Try.prog 95 [] (finF Try.prog Try.f53 (.d (.sl 1 (r.map e_i64)))) ⟨mkT [(0, .d (.sl 1 (d0.map e_li64))), (1, .d (.sl 1 (d1.map e_i64))), (2, .d (.int .i64 d2)), (7, .suf 93 0 0), (8, .d (.int .i64 v342)), (9, .d (.int .i64 v456)), (10, .d (.int .i64 v494)), (11, .d (.int .i64 v508)), (12, .d (.int .i64 v509))], [(93, .buf 0 3 1 (l104.map e_i64))], [.inLoop (cAt (bodyOf Try.f53) [1, 1, 0, 1, 0, 0, 1, 0, 0, 1, 0, 0, 1, 0, 0, 1, 0, 0, 1, 0, 0, 1, 0, 1, 0, 0]), .inBlock 6, .code (cAt (bodyOf Try.f53) [1, 1, 0, 1, 0, 0, 1, 0, 0, 1, 0, 0, 1, 0, 0, 1, 0, 0, 1, 0, 0, 1, 1]), .inBlock 5, .code (cAt (bodyOf Try.f53) [1, 1, 0, 1, 0, 0, 1, 0, 0, 1, 0, 0, 1, 0, 0, 1, 0, 0, 1, 1]), .inLoop (cAt (bodyOf Try.f53) [1, 1, 0, 1, 0, 0, 1, 0, 0, 1, 0, 0, 1, 0, 0, 1, 0, 0]), .inBlock 4, .inBlock 3, .code (cAt (bodyOf Try.f53) [1, 1, 0, 1, 0, 0, 1, 0, 0, 1, 0, 0, 1, 1]), .inLoop (cAt (bodyOf Try.f53) [1, 1, 0, 1, 0, 0, 1, 0, 0, 1, 0, 0]), .inBlock 2, .inBlock 1, .code (cAt (bodyOf Try.f53) [1, 1, 0, 1, 0, 0, 1, 1]), .inLoop (cAt (bodyOf Try.f53) [1, 1, 0, 1, 0, 0]), .inBlock 0, .code (cAt (bodyOf Try.f53) [1, 1, 1])]⟩ := by
                      clear hF; intro n_F53_L5
                      induction n_F53_L5 with
                      | zero => intro v508 v509 hF; cases hF
                      | succ n_F53_L5 ih_F53_L5 =>
                        intro v508 v509 hF
                        rw [F53_L5] at hF
                        refine J_adv 9 (J_bool 36 (b := decide (v509 < ((d0.map e_li64).length : Int))) (by kernel_rfl) (fun hb3601 => ?_) (fun hb3601 => ?_))
                        · replace hF := ift hb3601 hF
                          have hF53_A6 : ∀ (v510 : Int), F53_A6 v509 (F53_L5 fuel d0 d1 d2 l104 v342 v456 v494 (F53_L3 fuel d0 d1 d2 v342 v456 (F53_L2 fuel d0 d1 d2 v342 (F53_L1 fuel d0 d1 d2 n_F53_L1) n_F53_L2) n_F53_L3) n_F53_L5) v510 = some r → J none Try.prog 95 [] (finF Try.prog Try.f53 (.d (.sl 1 (r.map e_i64)))) ⟨mkT [(0, .d (.sl 1 (d0.map e_li64))), (1, .d (.sl 1 (d1.map e_i64))), (2, .d (.int .i64 d2)), (7, .suf 93 0 0), (8, .d (.int .i64 v342)), (9, .d (.int .i64 v456)), (10, .d (.int .i64 v494)), (11, .d (.int .i64 v510)), (12, .d (.int .i64 v509))], [(93, .buf 0 3 1 (l104.map e_i64))], [.code (cAt (bodyOf Try.f53) [1, 1, 0, 1, 0, 0, 1, 0, 0, 1, 0, 0, 1, 0, 0, 1, 0, 0, 1, 0, 0, 1, 0, 1, 0, 0, 1, 1]), .inLoop (cAt (bodyOf Try.f53) [1, 1, 0, 1, 0, 0, 1, 0, 0, 1, 0, 0, 1, 0, 0, 1, 0, 0, 1, 0, 0, 1, 0, 1, 0, 0]), .inBlock 6, .code (cAt (bodyOf Try.f53) [1, 1, 0, 1, 0, 0, 1, 0, 0, 1, 0, 0, 1, 0, 0, 1, 0, 0, 1, 0, 0, 1, 1]), .inBlock 5, .code (cAt (bodyOf Try.f53) [1, 1, 0, 1, 0, 0, 1, 0, 0, 1, 0, 0, 1, 0, 0, 1, 0, 0, 1, 1]), .inLoop (cAt (bodyOf Try.f53) [1, 1, 0, 1, 0, 0, 1, 0, 0, 1, 0, 0, 1, 0, 0, 1, 0, 0]), .inBlock 4, .inBlock 3, .code (cAt (bodyOf Try.f53) [1, 1, 0, 1, 0, 0, 1, 0, 0, 1, 0, 0, 1, 1]), .inLoop (cAt (bodyOf Try.f53) [1, 1, 0, 1, 0, 0, 1, 0, 0, 1, 0, 0]), .inBlock 2, .inBlock 1, .code (cAt (bodyOf Try.f53) [1, 1, 0, 1, 0, 0, 1, 1]), .inLoop (cAt (bodyOf Try.f53) [1, 1, 0, 1, 0, 0]), .inBlock 0, .code (cAt (bodyOf Try.f53) [1, 1, 1])]⟩ := by
                            intro v510 hF
                            unfold F53_A6 at hF
                            exact J_adv 5 (J_at [0, 1, 2, 7, 8, 9, 10, 11, 12] [93] (T0 := [.inLoop (cAt (bodyOf Try.f53) [1, 1, 0, 1, 0, 0, 1, 0, 0, 1, 0, 0, 1, 0, 0, 1, 0, 0, 1, 0, 0, 1, 0, 1, 0, 0]), .inBlock 6, .code (cAt (bodyOf Try.f53) [1, 1, 0, 1, 0, 0, 1, 0, 0, 1, 0, 0, 1, 0, 0, 1, 0, 0, 1, 0, 0, 1, 1]), .inBlock 5, .code (cAt (bodyOf Try.f53) [1, 1, 0, 1, 0, 0, 1, 0, 0, 1, 0, 0, 1, 0, 0, 1, 0, 0, 1, 1]), .inLoop (cAt (bodyOf Try.f53) [1, 1, 0, 1, 0, 0, 1, 0, 0, 1, 0, 0, 1, 0, 0, 1, 0, 0]), .inBlock 4, .inBlock 3, .code (cAt (bodyOf Try.f53) [1, 1, 0, 1, 0, 0, 1, 0, 0, 1, 0, 0, 1, 1]), .inLoop (cAt (bodyOf Try.f53) [1, 1, 0, 1, 0, 0, 1, 0, 0, 1, 0, 0]), .inBlock 2, .inBlock 1, .code (cAt (bodyOf Try.f53) [1, 1, 0, 1, 0, 0, 1, 1]), .inLoop (cAt (bodyOf Try.f53) [1, 1, 0, 1, 0, 0]), .inBlock 0, .code (cAt (bodyOf Try.f53) [1, 1, 1])]) (by kernel_rfl) rfl (ih_F53_L5 v510 (IntKind.i64.wrap (v509 + 1)) hF))
                          obtain ⟨o530, hO, hF⟩ := bnd hF
                          have hR530 : J none Try.prog 95 [] (finF Try.prog Try.f53 (.d (.sl 1 (r.map e_i64)))) ⟨mkT [(0, .d (.sl 1 (d0.map e_li64))), (1, .d (.sl 1 (d1.map e_i64))), (2, .d (.int .i64 d2)), (7, .suf 93 0 0), (8, .d (.int .i64 v342)), (9, .d (.int .i64 v456)), (10, .d (.int .i64 v494)), (11, .d (.int .i64 v508)), (12, .d (.int .i64 v509)), (60, .d (.bool o530))], [(93, .buf 0 3 1 (l104.map e_i64))], [.code (cAt (bodyOf Try.f53) [1, 1, 0, 1, 0, 0, 1, 0, 0, 1, 0, 0, 1, 0, 0, 1, 0, 0, 1, 0, 0, 1, 0, 1, 0, 0, 1, 0, 0, 1]), .inBlock 7, .code (cAt (bodyOf Try.f53) [1, 1, 0, 1, 0, 0, 1, 0, 0, 1, 0, 0, 1, 0, 0, 1, 0, 0, 1, 0, 0, 1, 0, 1, 0, 0, 1, 1]), .inLoop (cAt (bodyOf Try.f53) [1, 1, 0, 1, 0, 0, 1, 0, 0, 1, 0, 0, 1, 0, 0, 1, 0, 0, 1, 0, 0, 1, 0, 1, 0, 0]), .inBlock 6, .code (cAt (bodyOf Try.f53) [1, 1, 0, 1, 0, 0, 1, 0, 0, 1, 0, 0, 1, 0, 0, 1, 0, 0, 1, 0, 0, 1, 1]), .inBlock 5, .code (cAt (bodyOf Try.f53) [1, 1, 0, 1, 0, 0, 1, 0, 0, 1, 0, 0, 1, 0, 0, 1, 0, 0, 1, 1]), .inLoop (cAt (bodyOf Try.f53) [1, 1, 0, 1, 0, 0, 1, 0, 0, 1, 0, 0, 1, 0, 0, 1, 0, 0]), .inBlock 4, .inBlock 3, .code (cAt (bodyOf Try.f53) [1, 1, 0, 1, 0, 0, 1, 0, 0, 1, 0, 0, 1, 1]), .inLoop (cAt (bodyOf Try.f53) [1, 1, 0, 1, 0, 0, 1, 0, 0, 1, 0, 0]), .inBlock 2, .inBlock 1, .code (cAt (bodyOf Try.f53) [1, 1, 0, 1, 0, 0, 1, 1]), .inLoop (cAt (bodyOf Try.f53) [1, 1, 0, 1, 0, 0]), .inBlock 0, .code (cAt (bodyOf Try.f53) [1, 1, 1])]⟩ := by
                            clear hO
                            refine J_adv 0 (J_bool 60 (b := o530) (by kernel_rfl) (fun hb3614 => ?_) (fun hb3614 => ?_))
                            · replace hF := ift hb3614 hF
                              obtain ⟨hb3615, hF⟩ := assd hF
                              refine J_adv 4 (J_opt1 (o := chk (decide (0 ≤ v509))) [] (by kernel_rfl) (ck hb3615) ?_)
                              exact J_adv 4 (J_at [0, 1, 2, 7, 8, 9, 10, 11, 12] [93] (T0 := [.code (cAt (bodyOf Try.f53) [1, 1, 0, 1, 0, 0, 1, 0, 0, 1, 0, 0, 1, 0, 0, 1, 0, 0, 1, 0, 0, 1, 0, 1, 0, 0, 1, 1]), .inLoop (cAt (bodyOf Try.f53) [1, 1, 0, 1, 0, 0, 1, 0, 0, 1, 0, 0, 1, 0, 0, 1, 0, 0, 1, 0, 0, 1, 0, 1, 0, 0]), .inBlock 6, .code (cAt (bodyOf Try.f53) [1, 1, 0, 1, 0, 0, 1, 0, 0, 1, 0, 0, 1, 0, 0, 1, 0, 0, 1, 0, 0, 1, 1]), .inBlock 5, .code (cAt (bodyOf Try.f53) [1, 1, 0, 1, 0, 0, 1, 0, 0, 1, 0, 0, 1, 0, 0, 1, 0, 0, 1, 1]), .inLoop (cAt (bodyOf Try.f53) [1, 1, 0, 1, 0, 0, 1, 0, 0, 1, 0, 0, 1, 0, 0, 1, 0, 0]), .inBlock 4, .inBlock 3, .code (cAt (bodyOf Try.f53) [1, 1, 0, 1, 0, 0, 1, 0, 0, 1, 0, 0, 1, 1]), .inLoop (cAt (bodyOf Try.f53) [1, 1, 0, 1, 0, 0, 1, 0, 0, 1, 0, 0]), .inBlock 2, .inBlock 1, .code (cAt (bodyOf Try.f53) [1, 1, 0, 1, 0, 0, 1, 1]), .inLoop (cAt (bodyOf Try.f53) [1, 1, 0, 1, 0, 0]), .inBlock 0, .code (cAt (bodyOf Try.f53) [1, 1, 1])]) (by kernel_rfl) rfl (hF53_A6 (IntKind.i64.wrap (v508 + (IntKind.i64.wrap (1 * 2 ^ (min (Int.toNat v509) IntKind.i64.bits))))) hF))
                            · replace hF := iff' hb3614 hF
                              exact J_adv 3 (J_at [0, 1, 2, 7, 8, 9, 10, 11, 12] [93] (T0 := [.code (cAt (bodyOf Try.f53) [1, 1, 0, 1, 0, 0, 1, 0, 0, 1, 0, 0, 1, 0, 0, 1, 0, 0, 1, 0, 0, 1, 0, 1, 0, 0, 1, 1]), .inLoop (cAt (bodyOf Try.f53) [1, 1, 0, 1, 0, 0, 1, 0, 0, 1, 0, 0, 1, 0, 0, 1, 0, 0, 1, 0, 0, 1, 0, 1, 0, 0]), .inBlock 6, .code (cAt (bodyOf Try.f53) [1, 1, 0, 1, 0, 0, 1, 0, 0, 1, 0, 0, 1, 0, 0, 1, 0, 0, 1, 0, 0, 1, 1]), .inBlock 5, .code (cAt (bodyOf Try.f53) [1, 1, 0, 1, 0, 0, 1, 0, 0, 1, 0, 0, 1, 0, 0, 1, 0, 0, 1, 1]), .inLoop (cAt (bodyOf Try.f53) [1, 1, 0, 1, 0, 0, 1, 0, 0, 1, 0, 0, 1, 0, 0, 1, 0, 0]), .inBlock 4, .inBlock 3, .code (cAt (bodyOf Try.f53) [1, 1, 0, 1, 0, 0, 1, 0, 0, 1, 0, 0, 1, 1]), .inLoop (cAt (bodyOf Try.f53) [1, 1, 0, 1, 0, 0, 1, 0, 0, 1, 0, 0]), .inBlock 2, .inBlock 1, .code (cAt (bodyOf Try.f53) [1, 1, 0, 1, 0, 0, 1, 1]), .inLoop (cAt (bodyOf Try.f53) [1, 1, 0, 1, 0, 0]), .inBlock 0, .code (cAt (bodyOf Try.f53) [1, 1, 1])]) (by kernel_rfl) rfl (hF53_A6 v508 hF))
                          clear hF; rename _ = some o530 => hF
                          refine J_adv 5 (J_draw (by kernel_rfl) (by kernel_rfl) ?_)
                          obtain ⟨hb3616, hF⟩ := assd hF
                          refine JD_adv 2 (JD_opt1 (o := chk (decide (0 ≤ v509))) [] (by kernel_rfl) (by kernel_rfl) (ck hb3616) ?_)
                          refine JD_adv 3 (JD_bool 44 (b := (Int.tmod (Int.fdiv d2 (2 ^ (min (Int.toNat v509) IntKind.i64.bits))) 2) == 1) (by kernel_rfl) (fun hb3617 => ?_) (fun hb3617 => ?_))
                          · replace hF := ift hb3617 hF
                            obtain ⟨y4506, e4559, hF⟩ := bnd hF
                            refine JD_adv 4 (JD_opt1 (o := geti (d0.map e_li64) v456) (e_li64 y4506) (by kernel_rfl) (by kernel_rfl) (gm e4559) ?_)
                            obtain ⟨y4507, e4560, hF⟩ := bnd hF
                            refine JD_adv 2 (JD_opt1 (o := geti (y4506.map e_i64) v342) (e_i64 y4507) (by kernel_rfl) (by kernel_rfl) (gm e4560) ?_)
                            obtain ⟨y4508, e4561, hF⟩ := bnd hF
                            refine JD_adv 4 (JD_opt1 (o := geti (d0.map e_li64) v509) (e_li64 y4508) (by kernel_rfl) (by kernel_rfl) (gm e4561) ?_)
                            obtain ⟨y4509, e4562, hF⟩ := bnd hF
                            refine JD_adv 1 (JD_callF (xs := [.agg [.d (.int .i64 v342), .d (.int .i64 v494), .d (.int .i64 y4507), .d (.int .i64 0)], .d (.sl 1 (y4508.map e_i64))]) [.agg [.d (.int .i64 v342), .d (.int .i64 v494), .d (.int .i64 y4507), .d (.int .i64 0)], .d (.sl 1 (y4508.map e_i64))] (.d (.bool y4509)) (by kernel_rfl) (by kernel_rfl) en31 (Res'.refl _) (F31_ok e4562) ?_)
                            refine JD_adv 1 (JD_end (by kernel_rfl) ?_)
                            have hr_ := Option.some.inj hF; subst hr_
                            exact J_adv 0 (J_at [0, 1, 2, 7, 8, 9, 10, 11, 12, 60] [93] (T0 := [.code (cAt (bodyOf Try.f53) [1, 1, 0, 1, 0, 0, 1, 0, 0, 1, 0, 0, 1, 0, 0, 1, 0, 0, 1, 0, 0, 1, 0, 1, 0, 0, 1, 0, 0, 1]), .inBlock 7, .code (cAt (bodyOf Try.f53) [1, 1, 0, 1, 0, 0, 1, 0, 0, 1, 0, 0, 1, 0, 0, 1, 0, 0, 1, 0, 0, 1, 0, 1, 0, 0, 1, 1]), .inLoop (cAt (bodyOf Try.f53) [1, 1, 0, 1, 0, 0, 1, 0, 0, 1, 0, 0, 1, 0, 0, 1, 0, 0, 1, 0, 0, 1, 0, 1, 0, 0]), .inBlock 6, .code (cAt (bodyOf Try.f53) [1, 1, 0, 1, 0, 0, 1, 0, 0, 1, 0, 0, 1, 0, 0, 1, 0, 0, 1, 0, 0, 1, 1]), .inBlock 5, .code (cAt (bodyOf Try.f53) [1, 1, 0, 1, 0, 0, 1, 0, 0, 1, 0, 0, 1, 0, 0, 1, 0, 0, 1, 1]), .inLoop (cAt (bodyOf Try.f53) [1, 1, 0, 1, 0, 0, 1, 0, 0, 1, 0, 0, 1, 0, 0, 1, 0, 0]), .inBlock 4, .inBlock 3, .code (cAt (bodyOf Try.f53) [1, 1, 0, 1, 0, 0, 1, 0, 0, 1, 0, 0, 1, 1]), .inLoop (cAt (bodyOf Try.f53) [1, 1, 0, 1, 0, 0, 1, 0, 0, 1, 0, 0]), .inBlock 2, .inBlock 1, .code (cAt (bodyOf Try.f53) [1, 1, 0, 1, 0, 0, 1, 1]), .inLoop (cAt (bodyOf Try.f53) [1, 1, 0, 1, 0, 0]), .inBlock 0, .code (cAt (bodyOf Try.f53) [1, 1, 1])]) (by kernel_rfl) rfl hR530)
                          · replace hF := iff' hb3617 hF
                            refine JD_adv 16 (JD_end (by kernel_rfl) ?_)
                            have hr_ := Option.some.inj hF; subst hr_
                            exact J_adv 0 (J_at [0, 1, 2, 7, 8, 9, 10, 11, 12, 60] [93] (T0 := [.code (cAt (bodyOf Try.f53) [1, 1, 0, 1, 0, 0, 1, 0, 0, 1, 0, 0, 1, 0, 0, 1, 0, 0, 1, 0, 0, 1, 0, 1, 0, 0, 1, 0, 0, 1]), .inBlock 7, .code (cAt (bodyOf Try.f53) [1, 1, 0, 1, 0, 0, 1, 0, 0, 1, 0, 0, 1, 0, 0, 1, 0, 0, 1, 0, 0, 1, 0, 1, 0, 0, 1, 1]), .inLoop (cAt (bodyOf Try.f53) [1, 1, 0, 1, 0, 0, 1, 0, 0, 1, 0, 0, 1, 0, 0, 1, 0, 0, 1, 0, 0, 1, 0, 1, 0, 0]), .inBlock 6, .code (cAt (bodyOf Try.f53) [1, 1, 0, 1, 0, 0, 1, 0, 0, 1, 0, 0, 1, 0, 0, 1, 0, 0, 1, 0, 0, 1, 1]), .inBlock 5, .code (cAt (bodyOf Try.f53) [1, 1, 0, 1, 0, 0, 1, 0, 0, 1, 0, 0, 1, 0, 0, 1, 0, 0, 1, 1]), .inLoop (cAt (bodyOf Try.f53) [1, 1, 0, 1, 0, 0, 1, 0, 0, 1, 0, 0, 1, 0, 0, 1, 0, 0]), .inBlock 4, .inBlock 3, .code (cAt (bodyOf Try.f53) [1, 1, 0, 1, 0, 0, 1, 0, 0, 1, 0, 0, 1, 1]), .inLoop (cAt (bodyOf Try.f53) [1, 1, 0, 1, 0, 0, 1, 0, 0, 1, 0, 0]), .inBlock 2, .inBlock 1, .code (cAt (bodyOf Try.f53) [1, 1, 0, 1, 0, 0, 1, 1]), .inLoop (cAt (bodyOf Try.f53) [1, 1, 0, 1, 0, 0]), .inBlock 0, .code (cAt (bodyOf Try.f53) [1, 1, 1])]) (by kernel_rfl) rfl hR530)
                        · replace hF := iff' hb3601 hF
                          obtain ⟨o531, hO, hF⟩ := bnd hF
                          have hR531 : J none Try.prog 95 [] (finF Try.prog Try.f53 (.d (.sl 1 (r.map e_i64)))) ⟨mkT [(0, .d (.sl 1 (d0.map e_li64))), (1, .d (.sl 1 (d1.map e_i64))), (2, .d (.int .i64 d2)), (7, .suf 93 0 0), (8, .d (.int .i64 v342)), (9, .d (.int .i64 v456)), (10, .d (.int .i64 v494)), (11, .d (.int .i64 v508)), (13, .d (.bool o531))], [(93, .buf 0 3 1 (l104.map e_i64))], [.ops (opsOf (cAt (bodyOf Try.f53) [1, 1, 0, 1, 0, 0, 1, 0, 0, 1, 0, 0, 1, 0, 0, 1, 0, 0, 1, 0, 0, 1, 1, 0])) [], .code (cAt (bodyOf Try.f53) [1, 1, 0, 1, 0, 0, 1, 0, 0, 1, 0, 0, 1, 0, 0, 1, 0, 0, 1, 0, 0, 1, 1, 1]), .inBlock 5, .code (cAt (bodyOf Try.f53) [1, 1, 0, 1, 0, 0, 1, 0, 0, 1, 0, 0, 1, 0, 0, 1, 0, 0, 1, 1]), .inLoop (cAt (bodyOf Try.f53) [1, 1, 0, 1, 0, 0, 1, 0, 0, 1, 0, 0, 1, 0, 0, 1, 0, 0]), .inBlock 4, .inBlock 3, .code (cAt (bodyOf Try.f53) [1, 1, 0, 1, 0, 0, 1, 0, 0, 1, 0, 0, 1, 1]), .inLoop (cAt (bodyOf Try.f53) [1, 1, 0, 1, 0, 0, 1, 0, 0, 1, 0, 0]), .inBlock 2, .inBlock 1, .code (cAt (bodyOf Try.f53) [1, 1, 0, 1, 0, 0, 1, 1]), .inLoop (cAt (bodyOf Try.f53) [1, 1, 0, 1, 0, 0]), .inBlock 0, .code (cAt (bodyOf Try.f53) [1, 1, 1])]⟩ := by
                            clear hO
                            have hF53_L7 : ∀ (n_F53_L7 : Nat) (t641 : Bool) (v512 : Int), F53_L7 l104 v494 v508 (F53_L3 fuel d0 d1 d2 v342 v456 (F53_L2 fuel d0 d1 d2 v342 (F53_L1 fuel d0 d1 d2 n_F53_L1) n_F53_L2) n_F53_L3) n_F53_L7 t641 v512 = some r → J none Try.prog 95 [] (finF Try.prog Try.f53 (.d (.sl 1 (r.map e_i64)))) ⟨mkT [(0, .d (.sl 1 (d0.map e_li64))), (1, .d (.sl 1 (d1.map e_i64))), (2, .d (.int .i64 d2)), (7, .suf 93 0 0), (8, .d (.int .i64 v342)), (9, .d (.int .i64 v456)), (10, .d (.int .i64 v494)), (11, .d (.int .i64 v508)), (13, .d (.bool t641)), (14, .d (.int .i64 v512))], [(93, .buf 0 3 1 (l104.map e_i64))], [.inLoop (cAt (bodyOf Try.f53) [1, 1, 0, 1, 0, 0, 1, 0, 0, 1, 0, 0, 1, 0, 0, 1, 0, 0, 1, 0, 0, 1, 1, 1, 0, 1, 0, 0]), .inBlock 8, .code (cAt (bodyOf Try.f53) [1, 1, 0, 1, 0, 0, 1, 0, 0, 1, 0, 0, 1, 0, 0, 1, 0, 0, 1, 0, 0, 1, 1, 1, 1]), .inBlock 5, .code (cAt (bodyOf Try.f53) [1, 1, 0, 1, 0, 0, 1, 0, 0, 1, 0, 0, 1, 0, 0, 1, 0, 0, 1, 1]), .inLoop (cAt (bodyOf Try.f53) [1, 1, 0, 1, 0, 0, 1, 0, 0, 1, 0, 0, 1, 0, 0, 1, 0, 0]), .inBlock 4, .inBlock 3, .code (cAt (bodyOf Try.f53) [1, 1, 0, 1, 0, 0, 1, 0, 0, 1, 0, 0, 1, 1]), .inLoop (cAt (bodyOf Try.f53) [1, 1, 0, 1, 0, 0, 1, 0, 0, 1, 0, 0]), .inBlock 2, .inBlock 1, .code (cAt (bodyOf Try.f53) [1, 1, 0, 1, 0, 0, 1, 1]), .inLoop (cAt (bodyOf Try.f53) [1, 1, 0, 1, 0, 0]), .inBlock 0, .code (cAt (bodyOf Try.f53) [1, 1, 1])]⟩ := by
                              clear hF; intro n_F53_L7
                              induction n_F53_L7 with
                              | zero => intro t641 v512 hF; cases hF
                              | succ n_F53_L7 ih_F53_L7 =>
                                intro t641 v512 hF
                                rw [F53_L7] at hF
                                refine J_adv 9 (J_bool 76 (b := decide (v512 < ((l104.map e_i64).length : Int))) (by kernel_rfl) (fun hb3628 => ?_) (fun hb3628 => ?_))
                                · replace hF := ift hb3628 hF
                                  obtain ⟨o534, hO, hF⟩ := bnd hF
                                  have hR534 : J none Try.prog 95 [] (finF Try.prog Try.f53 (.d (.sl 1 (r.map e_i64)))) ⟨mkT [(0, .d (.sl 1 (d0.map e_li64))), (1, .d (.sl 1 (d1.map e_i64))), (2, .d (.int .i64 d2)), (7, .suf 93 0 0), (8, .d (.int .i64 v342)), (9, .d (.int .i64 v456)), (10, .d (.int .i64 v494)), (11, .d (.int .i64 v508)), (13, .d (.bool o534)), (14, .d (.int .i64 v512))], [(93, .buf 0 3 1 (l104.map e_i64))], [.ops (opsOf (cAt (bodyOf Try.f53) [1, 1, 0, 1, 0, 0, 1, 0, 0, 1, 0, 0, 1, 0, 0, 1, 0, 0, 1, 0, 0, 1, 1, 1, 0, 1, 0, 0, 1, 0, 0])) [], .inBlock 9, .code (cAt (bodyOf Try.f53) [1, 1, 0, 1, 0, 0, 1, 0, 0, 1, 0, 0, 1, 0, 0, 1, 0, 0, 1, 0, 0, 1, 1, 1, 0, 1, 0, 0, 1, 1]), .inLoop (cAt (bodyOf Try.f53) [1, 1, 0, 1, 0, 0, 1, 0, 0, 1, 0, 0, 1, 0, 0, 1, 0, 0, 1, 0, 0, 1, 1, 1, 0, 1, 0, 0]), .inBlock 8, .code (cAt (bodyOf Try.f53) [1, 1, 0, 1, 0, 0, 1, 0, 0, 1, 0, 0, 1, 0, 0, 1, 0, 0, 1, 0, 0, 1, 1, 1, 1]), .inBlock 5, .code (cAt (bodyOf Try.f53) [1, 1, 0, 1, 0, 0, 1, 0, 0, 1, 0, 0, 1, 0, 0, 1, 0, 0, 1, 1]), .inLoop (cAt (bodyOf Try.f53) [1, 1, 0, 1, 0, 0, 1, 0, 0, 1, 0, 0, 1, 0, 0, 1, 0, 0]), .inBlock 4, .inBlock 3, .code (cAt (bodyOf Try.f53) [1, 1, 0, 1, 0, 0, 1, 0, 0, 1, 0, 0, 1, 1]), .inLoop (cAt (bodyOf Try.f53) [1, 1, 0, 1, 0, 0, 1, 0, 0, 1, 0, 0]), .inBlock 2, .inBlock 1, .code (cAt (bodyOf Try.f53) [1, 1, 0, 1, 0, 0, 1, 1]), .inLoop (cAt (bodyOf Try.f53) [1, 1, 0, 1, 0, 0]), .inBlock 0, .code (cAt (bodyOf Try.f53) [1, 1, 1])]⟩ := by
                                    clear hO
                                    exact J_adv 7 (J_at [0, 1, 2, 7, 8, 9, 10, 11, 13, 14] [93] (T0 := [.inLoop (cAt (bodyOf Try.f53) [1, 1, 0, 1, 0, 0, 1, 0, 0, 1, 0, 0, 1, 0, 0, 1, 0, 0, 1, 0, 0, 1, 1, 1, 0, 1, 0, 0]), .inBlock 8, .code (cAt (bodyOf Try.f53) [1, 1, 0, 1, 0, 0, 1, 0, 0, 1, 0, 0, 1, 0, 0, 1, 0, 0, 1, 0, 0, 1, 1, 1, 1]), .inBlock 5, .code (cAt (bodyOf Try.f53) [1, 1, 0, 1, 0, 0, 1, 0, 0, 1, 0, 0, 1, 0, 0, 1, 0, 0, 1, 1]), .inLoop (cAt (bodyOf Try.f53) [1, 1, 0, 1, 0, 0, 1, 0, 0, 1, 0, 0, 1, 0, 0, 1, 0, 0]), .inBlock 4, .inBlock 3, .code (cAt (bodyOf Try.f53) [1, 1, 0, 1, 0, 0, 1, 0, 0, 1, 0, 0, 1, 1]), .inLoop (cAt (bodyOf Try.f53) [1, 1, 0, 1, 0, 0, 1, 0, 0, 1, 0, 0]), .inBlock 2, .inBlock 1, .code (cAt (bodyOf Try.f53) [1, 1, 0, 1, 0, 0, 1, 1]), .inLoop (cAt (bodyOf Try.f53) [1, 1, 0, 1, 0, 0]), .inBlock 0, .code (cAt (bodyOf Try.f53) [1, 1, 1])]) (by kernel_rfl) rfl (ih_F53_L7 o534 (IntKind.i64.wrap (v512 + 1)) hF))
                                  clear hF; rename _ = some o534 => hF
                                  refine J_adv 7 (J_bool 80 (b := t641) (by kernel_rfl) (fun hb3631 => ?_) (fun hb3631 => ?_))
                                  · replace hF := ift hb3631 hF
                                    have hr_ := Option.some.inj hF; subst hr_
                                    exact J_adv 8 (J_at [0, 1, 2, 7, 8, 9, 10, 11, 13, 14] [93] (T0 := [.ops (opsOf (cAt (bodyOf Try.f53) [1, 1, 0, 1, 0, 0, 1, 0, 0, 1, 0, 0, 1, 0, 0, 1, 0, 0, 1, 0, 0, 1, 1, 1, 0, 1, 0, 0, 1, 0, 0])) [], .inBlock 9, .code (cAt (bodyOf Try.f53) [1, 1, 0, 1, 0, 0, 1, 0, 0, 1, 0, 0, 1, 0, 0, 1, 0, 0, 1, 0, 0, 1, 1, 1, 0, 1, 0, 0, 1, 1]), .inLoop (cAt (bodyOf Try.f53) [1, 1, 0, 1, 0, 0, 1, 0, 0, 1, 0, 0, 1, 0, 0, 1, 0, 0, 1, 0, 0, 1, 1, 1, 0, 1, 0, 0]), .inBlock 8, .code (cAt (bodyOf Try.f53) [1, 1, 0, 1, 0, 0, 1, 0, 0, 1, 0, 0, 1, 0, 0, 1, 0, 0, 1, 0, 0, 1, 1, 1, 1]), .inBlock 5, .code (cAt (bodyOf Try.f53) [1, 1, 0, 1, 0, 0, 1, 0, 0, 1, 0, 0, 1, 0, 0, 1, 0, 0, 1, 1]), .inLoop (cAt (bodyOf Try.f53) [1, 1, 0, 1, 0, 0, 1, 0, 0, 1, 0, 0, 1, 0, 0, 1, 0, 0]), .inBlock 4, .inBlock 3, .code (cAt (bodyOf Try.f53) [1, 1, 0, 1, 0, 0, 1, 0, 0, 1, 0, 0, 1, 1]), .inLoop (cAt (bodyOf Try.f53) [1, 1, 0, 1, 0, 0, 1, 0, 0, 1, 0, 0]), .inBlock 2, .inBlock 1, .code (cAt (bodyOf Try.f53) [1, 1, 0, 1, 0, 0, 1, 1]), .inLoop (cAt (bodyOf Try.f53) [1, 1, 0, 1, 0, 0]), .inBlock 0, .code (cAt (bodyOf Try.f53) [1, 1, 1])]) (by kernel_rfl) rfl hR534)
                                  · replace hF := iff' hb3631 hF
                                    obtain ⟨y4520, e4573, hF⟩ := bnd hF
                                    refine J_adv 2 (J_opt1 (o := geti (l104.map e_i64) v512) (e_i64 y4520) (by kernel_rfl) (gm e4573) ?_)
                                    refine J_adv 0 (J_opt1 (o := (l104.map e_i64)[0 + Int.toNat v512]?) (e_i64 y4520) (by kernel_rfl) (gjm (gj e4573)) ?_)
                                    have hr_ := Option.some.inj hF; subst hr_
                                    exact J_adv 4 (J_at [0, 1, 2, 7, 8, 9, 10, 11, 13, 14] [93] (T0 := [.ops (opsOf (cAt (bodyOf Try.f53) [1, 1, 0, 1, 0, 0, 1, 0, 0, 1, 0, 0, 1, 0, 0, 1, 0, 0, 1, 0, 0, 1, 1, 1, 0, 1, 0, 0, 1, 0, 0])) [], .inBlock 9, .code (cAt (bodyOf Try.f53) [1, 1, 0, 1, 0, 0, 1, 0, 0, 1, 0, 0, 1, 0, 0, 1, 0, 0, 1, 0, 0, 1, 1, 1, 0, 1, 0, 0, 1, 1]), .inLoop (cAt (bodyOf Try.f53) [1, 1, 0, 1, 0, 0, 1, 0, 0, 1, 0, 0, 1, 0, 0, 1, 0, 0, 1, 0, 0, 1, 1, 1, 0, 1, 0, 0]), .inBlock 8, .code (cAt (bodyOf Try.f53) [1, 1, 0, 1, 0, 0, 1, 0, 0, 1, 0, 0, 1, 0, 0, 1, 0, 0, 1, 0, 0, 1, 1, 1, 1]), .inBlock 5, .code (cAt (bodyOf Try.f53) [1, 1, 0, 1, 0, 0, 1, 0, 0, 1, 0, 0, 1, 0, 0, 1, 0, 0, 1, 1]), .inLoop (cAt (bodyOf Try.f53) [1, 1, 0, 1, 0, 0, 1, 0, 0, 1, 0, 0, 1, 0, 0, 1, 0, 0]), .inBlock 4, .inBlock 3, .code (cAt (bodyOf Try.f53) [1, 1, 0, 1, 0, 0, 1, 0, 0, 1, 0, 0, 1, 1]), .inLoop (cAt (bodyOf Try.f53) [1, 1, 0, 1, 0, 0, 1, 0, 0, 1, 0, 0]), .inBlock 2, .inBlock 1, .code (cAt (bodyOf Try.f53) [1, 1, 0, 1, 0, 0, 1, 1]), .inLoop (cAt (bodyOf Try.f53) [1, 1, 0, 1, 0, 0]), .inBlock 0, .code (cAt (bodyOf Try.f53) [1, 1, 1])]) (by kernel_rfl) rfl hR534)
                                · replace hF := iff' hb3628 hF
                                  refine J_adv 7 (J_bool 89 (b := !t641) (by kernel_rfl) (fun hb3632 => ?_) (fun hb3632 => ?_))
                                  · replace hF := ift hb3632 hF
                                    obtain ⟨l107, e4574, hF⟩ := bnd hF
                                    refine J_adv 5 (J_opt2 (o := app2 ((l104.map e_i64).drop 0) ([v508].map e_i64)) (l107.map e_i64) (by kernel_rfl) (am e4574) ?_)
                                    exact J_adv 3 (J_at [0, 1, 2, 7, 8, 9, 10] [93] (T0 := [.code (cAt (bodyOf Try.f53) [1, 1, 0, 1, 0, 0, 1, 0, 0, 1, 0, 0, 1, 0, 0, 1, 0, 0, 1, 1]), .inLoop (cAt (bodyOf Try.f53) [1, 1, 0, 1, 0, 0, 1, 0, 0, 1, 0, 0, 1, 0, 0, 1, 0, 0]), .inBlock 4, .inBlock 3, .code (cAt (bodyOf Try.f53) [1, 1, 0, 1, 0, 0, 1, 0, 0, 1, 0, 0, 1, 1]), .inLoop (cAt (bodyOf Try.f53) [1, 1, 0, 1, 0, 0, 1, 0, 0, 1, 0, 0]), .inBlock 2, .inBlock 1, .code (cAt (bodyOf Try.f53) [1, 1, 0, 1, 0, 0, 1, 1]), .inLoop (cAt (bodyOf Try.f53) [1, 1, 0, 1, 0, 0]), .inBlock 0, .code (cAt (bodyOf Try.f53) [1, 1, 1])]) (by kernel_rfl) rfl (hF53_A4 l107 hF))
                                  · replace hF := iff' hb3632 hF
                                    exact J_adv 3 (J_at [0, 1, 2, 7, 8, 9, 10] [93] (T0 := [.code (cAt (bodyOf Try.f53) [1, 1, 0, 1, 0, 0, 1, 0, 0, 1, 0, 0, 1, 0, 0, 1, 0, 0, 1, 1]), .inLoop (cAt (bodyOf Try.f53) [1, 1, 0, 1, 0, 0, 1, 0, 0, 1, 0, 0, 1, 0, 0, 1, 0, 0]), .inBlock 4, .inBlock 3, .code (cAt (bodyOf Try.f53) [1, 1, 0, 1, 0, 0, 1, 0, 0, 1, 0, 0, 1, 1]), .inLoop (cAt (bodyOf Try.f53) [1, 1, 0, 1, 0, 0, 1, 0, 0, 1, 0, 0]), .inBlock 2, .inBlock 1, .code (cAt (bodyOf Try.f53) [1, 1, 0, 1, 0, 0, 1, 1]), .inLoop (cAt (bodyOf Try.f53) [1, 1, 0, 1, 0, 0]), .inBlock 0, .code (cAt (bodyOf Try.f53) [1, 1, 1])]) (by kernel_rfl) rfl (hF53_A4 l104 hF))
                            exact J_adv 8 (J_at [0, 1, 2, 7, 8, 9, 10, 11, 13, 14] [93] (T0 := [.inLoop (cAt (bodyOf Try.f53) [1, 1, 0, 1, 0, 0, 1, 0, 0, 1, 0, 0, 1, 0, 0, 1, 0, 0, 1, 0, 0, 1, 1, 1, 0, 1, 0, 0]), .inBlock 8, .code (cAt (bodyOf Try.f53) [1, 1, 0, 1, 0, 0, 1, 0, 0, 1, 0, 0, 1, 0, 0, 1, 0, 0, 1, 0, 0, 1, 1, 1, 1]), .inBlock 5, .code (cAt (bodyOf Try.f53) [1, 1, 0, 1, 0, 0, 1, 0, 0, 1, 0, 0, 1, 0, 0, 1, 0, 0, 1, 1]), .inLoop (cAt (bodyOf Try.f53) [1, 1, 0, 1, 0, 0, 1, 0, 0, 1, 0, 0, 1, 0, 0, 1, 0, 0]), .inBlock 4, .inBlock 3, .code (cAt (bodyOf Try.f53) [1, 1, 0, 1, 0, 0, 1, 0, 0, 1, 0, 0, 1, 1]), .inLoop (cAt (bodyOf Try.f53) [1, 1, 0, 1, 0, 0, 1, 0, 0, 1, 0, 0]), .inBlock 2, .inBlock 1, .code (cAt (bodyOf Try.f53) [1, 1, 0, 1, 0, 0, 1, 1]), .inLoop (cAt (bodyOf Try.f53) [1, 1, 0, 1, 0, 0]), .inBlock 0, .code (cAt (bodyOf Try.f53) [1, 1, 1])]) (by kernel_rfl) rfl (hF53_L7 fuel o531 0 hF))
                          clear hF; rename _ = some o531 => hF
                          refine J_adv 7 (J_bool 67 (b := v508 == 0) (by kernel_rfl) (fun hb3633 => ?_) (fun hb3633 => ?_))
                          · replace hF := ift hb3633 hF
                            have hr_ := Option.some.inj hF; subst hr_
                            exact J_adv 6 (J_at [0, 1, 2, 7, 8, 9, 10, 11, 13] [93] (T0 := [.ops (opsOf (cAt (bodyOf Try.f53) [1, 1, 0, 1, 0, 0, 1, 0, 0, 1, 0, 0, 1, 0, 0, 1, 0, 0, 1, 0, 0, 1, 1, 0])) [], .code (cAt (bodyOf Try.f53) [1, 1, 0, 1, 0, 0, 1, 0, 0, 1, 0, 0, 1, 0, 0, 1, 0, 0, 1, 0, 0, 1, 1, 1]), .inBlock 5, .code (cAt (bodyOf Try.f53) [1, 1, 0, 1, 0, 0, 1, 0, 0, 1, 0, 0, 1, 0, 0, 1, 0, 0, 1, 1]), .inLoop (cAt (bodyOf Try.f53) [1, 1, 0, 1, 0, 0, 1, 0, 0, 1, 0, 0, 1, 0, 0, 1, 0, 0]), .inBlock 4, .inBlock 3, .code (cAt (bodyOf Try.f53) [1, 1, 0, 1, 0, 0, 1, 0, 0, 1, 0, 0, 1, 1]), .inLoop (cAt (bodyOf Try.f53) [1, 1, 0, 1, 0, 0, 1, 0, 0, 1, 0, 0]), .inBlock 2, .inBlock 1, .code (cAt (bodyOf Try.f53) [1, 1, 0, 1, 0, 0, 1, 1]), .inLoop (cAt (bodyOf Try.f53) [1, 1, 0, 1, 0, 0]), .inBlock 0, .code (cAt (bodyOf Try.f53) [1, 1, 1])]) (by kernel_rfl) rfl hR531)
                          · replace hF := iff' hb3633 hF
                            obtain ⟨y4521, e4575, hF⟩ := bnd hF
                            refine J_adv 2 (J_callF (xs := [.d (.sl 1 (d1.map e_i64)), .d (.int .i64 v508)]) [.d (.sl 1 (d1.map e_i64)), .d (.int .i64 v508)] (.d (.bool y4521)) (by kernel_rfl) en54 (Res'.refl _) (F54_ok e4575) ?_)
                            have hr_ := Option.some.inj hF; subst hr_
                            exact J_adv 3 (J_at [0, 1, 2, 7, 8, 9, 10, 11, 13] [93] (T0 := [.ops (opsOf (cAt (bodyOf Try.f53) [1, 1, 0, 1, 0, 0, 1, 0, 0, 1, 0, 0, 1, 0, 0, 1, 0, 0, 1, 0, 0, 1, 1, 0])) [], .code (cAt (bodyOf Try.f53) [1, 1, 0, 1, 0, 0, 1, 0, 0, 1, 0, 0, 1, 0, 0, 1, 0, 0, 1, 0, 0, 1, 1, 1]), .inBlock 5, .code (cAt (bodyOf Try.f53) [1, 1, 0, 1, 0, 0, 1, 0, 0, 1, 0, 0, 1, 0, 0, 1, 0, 0, 1, 1]), .inLoop (cAt (bodyOf Try.f53) [1, 1, 0, 1, 0, 0, 1, 0, 0, 1, 0, 0, 1, 0, 0, 1, 0, 0]), .inBlock 4, .inBlock 3, .code (cAt (bodyOf Try.f53) [1, 1, 0, 1, 0, 0, 1, 0, 0, 1, 0, 0, 1, 1]), .inLoop (cAt (bodyOf Try.f53) [1, 1, 0, 1, 0, 0, 1, 0, 0, 1, 0, 0]), .inBlock 2, .inBlock 1, .code (cAt (bodyOf Try.f53) [1, 1, 0, 1, 0, 0, 1, 1]), .inLoop (cAt (bodyOf Try.f53) [1, 1, 0, 1, 0, 0]), .inBlock 0, .code (cAt (bodyOf Try.f53) [1, 1, 1])]) (by kernel_rfl) rfl hR531)
                    exact J_adv 15 (J_at [0, 1, 2, 7, 8, 9, 10, 11, 12] [93] (T0 := [.inLoop (cAt (bodyOf Try.f53) [1, 1, 0, 1, 0, 0, 1, 0, 0, 1, 0, 0, 1, 0, 0, 1, 0, 0, 1, 0, 0, 1, 0, 1, 0, 0]), .inBlock 6, .code (cAt (bodyOf Try.f53) [1, 1, 0, 1, 0, 0, 1, 0, 0, 1, 0, 0, 1, 0, 0, 1, 0, 0, 1, 0, 0, 1, 1]), .inBlock 5, .code (cAt (bodyOf Try.f53) [1, 1, 0, 1, 0, 0, 1, 0, 0, 1, 0, 0, 1, 0, 0, 1, 0, 0, 1, 1]), .inLoop (cAt (bodyOf Try.f53) [1, 1, 0, 1, 0, 0, 1, 0, 0, 1, 0, 0, 1, 0, 0, 1, 0, 0]), .inBlock 4, .inBlock 3, .code (cAt (bodyOf Try.f53) [1, 1, 0, 1, 0, 0, 1, 0, 0, 1, 0, 0, 1, 1]), .inLoop (cAt (bodyOf Try.f53) [1, 1, 0, 1, 0, 0, 1, 0, 0, 1, 0, 0]), .inBlock 2, .inBlock 1, .code (cAt (bodyOf Try.f53) [1, 1, 0, 1, 0, 0, 1, 1]), .inLoop (cAt (bodyOf Try.f53) [1, 1, 0, 1, 0, 0]), .inBlock 0, .code (cAt (bodyOf Try.f53) [1, 1, 1])]) (by kernel_rfl) rfl (hF53_L5 fuel 0 0 hF))
                  · replace hF := iff' hb3499 hF
                    exact J_adv 8 (J_at [0, 1, 2, 7, 8, 9] [93] (T0 := [.inLoop (cAt (bodyOf Try.f53) [1, 1, 0, 1, 0, 0, 1, 0, 0, 1, 0, 0]), .inBlock 2, .inBlock 1, .code (cAt (bodyOf Try.f53) [1, 1, 0, 1, 0, 0, 1, 1]), .inLoop (cAt (bodyOf Try.f53) [1, 1, 0, 1, 0, 0]), .inBlock 0, .code (cAt (bodyOf Try.f53) [1, 1, 1])]) (by kernel_rfl) rfl (ih_F53_L2 (IntKind.i64.wrap (v456 + 1)) l104 hF))
              exact J_adv 10 (J_at [0, 1, 2, 7, 8, 9, 10] [93] (T0 := [.inLoop (cAt (bodyOf Try.f53) [1, 1, 0, 1, 0, 0, 1, 0, 0, 1, 0, 0, 1, 0, 0, 1, 0, 0]), .inBlock 4, .inBlock 3, .code (cAt (bodyOf Try.f53) [1, 1, 0, 1, 0, 0, 1, 0, 0, 1, 0, 0, 1, 1]), .inLoop (cAt (bodyOf Try.f53) [1, 1, 0, 1, 0, 0, 1, 0, 0, 1, 0, 0]), .inBlock 2, .inBlock 1, .code (cAt (bodyOf Try.f53) [1, 1, 0, 1, 0, 0, 1, 1]), .inLoop (cAt (bodyOf Try.f53) [1, 1, 0, 1, 0, 0]), .inBlock 0, .code (cAt (bodyOf Try.f53) [1, 1, 1])]) (by kernel_rfl) rfl (hF53_L3 fuel 1 l96 hF))
            · replace hF := iff' hb3228 hF
              exact J_adv 8 (J_at [0, 1, 2, 7, 8] [93] (T0 := [.inLoop (cAt (bodyOf Try.f53) [1, 1, 0, 1, 0, 0]), .inBlock 0, .code (cAt (bodyOf Try.f53) [1, 1, 1])]) (by kernel_rfl) rfl (ih_F53_L1 (IntKind.i64.wrap (v342 + 1)) l96 hF))
        exact J_adv 10 (J_at [0, 1, 2, 7, 8, 9] [93] (T0 := [.inLoop (cAt (bodyOf Try.f53) [1, 1, 0, 1, 0, 0, 1, 0, 0, 1, 0, 0]), .inBlock 2, .inBlock 1, .code (cAt (bodyOf Try.f53) [1, 1, 0, 1, 0, 0, 1, 1]), .inLoop (cAt (bodyOf Try.f53) [1, 1, 0, 1, 0, 0]), .inBlock 0, .code (cAt (bodyOf Try.f53) [1, 1, 1])]) (by kernel_rfl) rfl (hF53_L2 fuel 0 l72 hF))
      · replace hF := iff' hb2421 hF
        have hr_ := Option.some.inj hF; subst hr_
        exact J_adv 7 (J_ret (xs := [.d (.sl 1 (l72.map e_i64))]) [.d (.sl 1 (l72.map e_i64))] rfl rfl (by kernel_rfl) (Res'.refl _) rfl)
  refine J_adv 15 (J_own (n := 1) 7 93 3 1 (by kernel_rfl) (by kernel_rfl) ?_)
  exact J_adv 0 (J_at [0, 1, 2, 7, 8] [93] (T0 := [.inLoop (cAt (bodyOf Try.f53) [1, 1, 0, 1, 0, 0]), .inBlock 0, .code (cAt (bodyOf Try.f53) [1, 1, 1])]) (by kernel_rfl) rfl (hF53_L1 fuel 0 [] hF))

/- croupier/croupierref30.stuck -/
def F40_L1 (fuel : Nat) (d0 : List (List Int)) (d1 : List Int) : Nat → Int → (List Int) → Option Bool
  | 0, _, _ => none
  | n_F40_L1 + 1, v2, l2 =>
    bif decide (((l2.map e_i64).length : Int) > 0) then
      (Option.bind (geti l2 0) fun y6 =>
      Option.bind (F53 fuel d0 d1 (IntKind.i64.wrap (v2 - y6))) fun y7 =>
      (F40_L1 fuel d0 d1 n_F40_L1) (IntKind.i64.wrap (v2 - y6)) y7)
    else
      (Option.bind (F54 fuel d1 v2) fun y8 =>
      some (!y8))
def F40 (fuel : Nat) (d0 : List (List Int)) (d1 : List Int) : Option Bool :=
  ass (decide (0 ≤ ((d0.map e_li64).length : Int))) <|
  Option.bind (F53 fuel d0 d1 (IntKind.i64.wrap ((IntKind.i64.wrap (1 * 2 ^ (min (Int.toNat ((d0.map e_li64).length : Int)) IntKind.i64.bits))) - 1))) fun y1 =>
  F40_L1 fuel d0 d1 fuel (IntKind.i64.wrap ((IntKind.i64.wrap (1 * 2 ^ (min (Int.toNat ((d0.map e_li64).length : Int)) IntKind.i64.bits))) - 1)) y1
theorem F40_ok {fuel : Nat} {d0 : List (List Int)} {d1 : List Int} {r : Bool} (hF : F40 fuel d0 d1 = some r) :
    CallF Try.prog 40 [.d (.sl 1 (d0.map e_li64)), .d (.sl 1 (d1.map e_i64))] (.d (.bool r)) := by
  unfold F40 at hF
  refine callF_of (N := 31) (b := bodyOf Try.f40) Try.func40 (by kernel_rfl) rfl rfl ?_
  obtain ⟨hb1, hF⟩ := assd hF
  refine J_adv 8 (J_opt1 (o := chk (decide (0 ≤ ((d0.map e_li64).length : Int)))) [] (by kernel_rfl) (ck hb1) ?_)
  obtain ⟨y1, e1, hF⟩ := bnd hF
  refine J_adv 9 (J_callF (xs := [.d (.sl 1 (d0.map e_li64)), .d (.sl 1 (d1.map e_i64)), .d (.int .i64 (IntKind.i64.wrap ((IntKind.i64.wrap (1 * 2 ^ (min (Int.toNat ((d0.map e_li64).length : Int)) IntKind.i64.bits))) - 1)))]) [.d (.sl 1 (d0.map e_li64)), .d (.sl 1 (d1.map e_i64)), .d (.int .i64 (IntKind.i64.wrap ((IntKind.i64.wrap (1 * 2 ^ (min (Int.toNat ((d0.map e_li64).length : Int)) IntKind.i64.bits))) - 1)))] (.d (.sl 1 (y1.map e_i64))) (by kernel_rfl) en53 (Res'.refl _) (F53_ok e1) ?_)
  have hF40_L1 : ∀ (n_F40_L1 : Nat) (v2 : Int) (l2 : List Int), F40_L1 fuel d0 d1 n_F40_L1 v2 l2 = some r → J none Try.prog 31 [] (finF Try.prog Try.f40 (.d (.bool r))) ⟨mkT [(0, .d (.sl 1 (d0.map e_li64))), (1, .d (.sl 1 (d1.map e_i64))), (5, .d (.int .i64 v2)), (6, .d (.sl 1 (l2.map e_i64)))], [], [.inLoop (cAt (bodyOf Try.f40) [1, 1, 0, 1, 0, 0]), .inBlock 0, .code (cAt (bodyOf Try.f40) [1, 1, 1])]⟩ := by
    clear hF; intro n_F40_L1
    induction n_F40_L1 with
    | zero => intro v2 l2 hF; cases hF
    | succ n_F40_L1 ih_F40_L1 =>
      intro v2 l2 hF
      rw [F40_L1] at hF
      refine J_adv 8 (J_bool 17 (b := decide (((l2.map e_i64).length : Int) > 0)) (by kernel_rfl) (fun hb4 => ?_) (fun hb4 => ?_))
      · replace hF := ift hb4 hF
        obtain ⟨y6, e6, hF⟩ := bnd hF
        refine J_adv 7 (J_opt1 (o := geti (l2.map e_i64) 0) (e_i64 y6) (by kernel_rfl) (gm e6) ?_)
        obtain ⟨y7, e7, hF⟩ := bnd hF
        refine J_adv 9 (J_callF (xs := [.d (.sl 1 (d0.map e_li64)), .d (.sl 1 (d1.map e_i64)), .d (.int .i64 (IntKind.i64.wrap (v2 - y6)))]) [.d (.sl 1 (d0.map e_li64)), .d (.sl 1 (d1.map e_i64)), .d (.int .i64 (IntKind.i64.wrap (v2 - y6)))] (.d (.sl 1 (y7.map e_i64))) (by kernel_rfl) en53 (Res'.refl _) (F53_ok e7) ?_)
        exact J_adv 2 (J_at [0, 1, 5, 6] [] (T0 := [.inLoop (cAt (bodyOf Try.f40) [1, 1, 0, 1, 0, 0]), .inBlock 0, .code (cAt (bodyOf Try.f40) [1, 1, 1])]) (by kernel_rfl) rfl (ih_F40_L1 (IntKind.i64.wrap (v2 - y6)) y7 hF))
      · replace hF := iff' hb4 hF
        obtain ⟨y8, e8, hF⟩ := bnd hF
        refine J_adv 6 (J_callF (xs := [.d (.sl 1 (d1.map e_i64)), .d (.int .i64 v2)]) [.d (.sl 1 (d1.map e_i64)), .d (.int .i64 v2)] (.d (.bool y8)) (by kernel_rfl) en54 (Res'.refl _) (F54_ok e8) ?_)
        have hr_ := Option.some.inj hF; subst hr_
        exact J_adv 3 (J_ret (xs := [.d (.bool (!y8))]) [.d (.bool (!y8))] rfl rfl (by kernel_rfl) (Res'.refl _) rfl)
  exact J_adv 4 (J_at [0, 1, 5, 6] [] (T0 := [.inLoop (cAt (bodyOf Try.f40) [1, 1, 0, 1, 0, 0]), .inBlock 0, .code (cAt (bodyOf Try.f40) [1, 1, 1])]) (by kernel_rfl) rfl (hF40_L1 fuel (IntKind.i64.wrap ((IntKind.i64.wrap (1 * 2 ^ (min (Int.toNat ((d0.map e_li64).length : Int)) IntKind.i64.bits))) - 1)) y1 hF))

/- croupier/croupierref30.enough -/
def F41_L1 (d0 : List (List Int)) (d1 : List Int) (d2 : Int) (d3 : Int) (y2 : List Int) (rec_F41 : (List (List Int)) → (List Int) → Int → Int → Option Bool) : Nat → Int → Option Bool
  | 0, _ => none
  | n_F41_L1 + 1, v2 =>
    bif decide (v2 < ((y2.map e_i64).length : Int)) then
      (Option.bind (geti y2 v2) fun y7 =>
      Option.bind (rec_F41 d0 d1 (IntKind.i64.wrap (d2 - y7)) (IntKind.i64.wrap (d3 - 1))) fun y8 =>
      bif y8 then
        (some true)
      else
        ((F41_L1 d0 d1 d2 d3 y2 rec_F41 n_F41_L1) (IntKind.i64.wrap (v2 + 1))))
    else
      (some false)
def F41 : Nat → (List (List Int)) → (List Int) → Int → Int → Option Bool
  | 0, _, _, _, _ => none
  | fuel + 1, d0, d1, d2, d3 =>
    Option.bind (F54 fuel d1 d2) fun y1 =>
    bif y1 then
      (some true)
    else
      (bif d3 == 0 then
        (some false)
      else
        (Option.bind (F53 fuel d0 d1 d2) fun y2 =>
        F41_L1 d0 d1 d2 d3 y2 (F41 fuel) fuel 0))
theorem F41_ok : ∀ {fuel : Nat} {d0 : List (List Int)} {d1 : List Int} {d2 : Int} {d3 : Int} {r : Bool}, F41 fuel d0 d1 d2 d3 = some r → CallF Try.prog 41 [.d (.sl 1 (d0.map e_li64)), .d (.sl 1 (d1.map e_i64)), .d (.int .i64 d2), .d (.int .i64 d3)] (.d (.bool r)) := by
  intro fuel
  induction fuel with
  | zero => intro _ _ _ _ r hF; cases hF
  | succ fuel ih =>
    intro d0 d1 d2 d3 r hF
    have ih_F41 : ∀ (d0 : List (List Int)) (d1 : List Int) (d2 : Int) (d3 : Int) (r : Bool), F41 fuel d0 d1 d2 d3 = some r → CallF Try.prog 41 [.d (.sl 1 (d0.map e_li64)), .d (.sl 1 (d1.map e_i64)), .d (.int .i64 d2), .d (.int .i64 d3)] (.d (.bool r)) := fun d0 d1 d2 d3 r h => ih h
    rw [F41] at hF
    refine callF_of (N := 37) (b := bodyOf Try.f41) Try.func41 (by kernel_rfl) rfl rfl ?_
    obtain ⟨y1, e1, hF⟩ := bnd hF
    refine J_adv 9 (J_callF (xs := [.d (.sl 1 (d1.map e_i64)), .d (.int .i64 d2)]) [.d (.sl 1 (d1.map e_i64)), .d (.int .i64 d2)] (.d (.bool y1)) (by kernel_rfl) en54 (Res'.refl _) (F54_ok e1) ?_)
    refine J_adv 1 (J_bool 13 (b := y1) (by kernel_rfl) (fun hb1 => ?_) (fun hb1 => ?_))
    · replace hF := ift hb1 hF
      have hr_ := Option.some.inj hF; subst hr_
      exact J_adv 5 (J_ret (xs := [.d (.bool true)]) [.d (.bool true)] rfl rfl (by kernel_rfl) (Res'.refl _) rfl)
    · replace hF := iff' hb1 hF
      refine J_adv 8 (J_bool 15 (b := d3 == 0) (by kernel_rfl) (fun hb2 => ?_) (fun hb2 => ?_))
      · replace hF := ift hb2 hF
        have hr_ := Option.some.inj hF; subst hr_
        exact J_adv 5 (J_ret (xs := [.d (.bool false)]) [.d (.bool false)] rfl rfl (by kernel_rfl) (Res'.refl _) rfl)
      · replace hF := iff' hb2 hF
        obtain ⟨y2, e2, hF⟩ := bnd hF
        refine J_adv 7 (J_callF (xs := [.d (.sl 1 (d0.map e_li64)), .d (.sl 1 (d1.map e_i64)), .d (.int .i64 d2)]) [.d (.sl 1 (d0.map e_li64)), .d (.sl 1 (d1.map e_i64)), .d (.int .i64 d2)] (.d (.sl 1 (y2.map e_i64))) (by kernel_rfl) en53 (Res'.refl _) (F53_ok e2) ?_)
        have hF41_L1 : ∀ (n_F41_L1 : Nat) (v2 : Int), F41_L1 d0 d1 d2 d3 y2 (F41 fuel) n_F41_L1 v2 = some r → J none Try.prog 37 [] (finF Try.prog Try.f41 (.d (.bool r))) ⟨mkT [(0, .d (.sl 1 (d0.map e_li64))), (1, .d (.sl 1 (d1.map e_i64))), (2, .d (.int .i64 d2)), (3, .d (.int .i64 d3)), (9, .d (.sl 1 (y2.map e_i64))), (10, .d (.int .i64 v2))], [], [.inLoop (cAt (bodyOf Try.f41) [1, 1, 1, 1, 0, 1, 0, 0]), .inBlock 0, .code (cAt (bodyOf Try.f41) [1, 1, 1, 1, 1])]⟩ := by
          clear hF; intro n_F41_L1
          induction n_F41_L1 with
          | zero => intro v2 hF; cases hF
          | succ n_F41_L1 ih_F41_L1 =>
            intro v2 hF
            rw [F41_L1] at hF
            refine J_adv 9 (J_bool 23 (b := decide (v2 < ((y2.map e_i64).length : Int))) (by kernel_rfl) (fun hb7 => ?_) (fun hb7 => ?_))
            · replace hF := ift hb7 hF
              obtain ⟨y7, e7, hF⟩ := bnd hF
              refine J_adv 11 (J_opt1 (o := geti (y2.map e_i64) v2) (e_i64 y7) (by kernel_rfl) (gm e7) ?_)
              obtain ⟨y8, e8, hF⟩ := bnd hF
              refine J_adv 4 (J_callF (xs := [.d (.sl 1 (d0.map e_li64)), .d (.sl 1 (d1.map e_i64)), .d (.int .i64 (IntKind.i64.wrap (d2 - y7))), .d (.int .i64 (IntKind.i64.wrap (d3 - 1)))]) [.d (.sl 1 (d0.map e_li64)), .d (.sl 1 (d1.map e_i64)), .d (.int .i64 (IntKind.i64.wrap (d2 - y7))), .d (.int .i64 (IntKind.i64.wrap (d3 - 1)))] (.d (.bool y8)) (by kernel_rfl) en41 (Res'.refl _) (ih_F41 _ _ _ _ _ e8) ?_)
              refine J_adv 1 (J_bool 36 (b := y8) (by kernel_rfl) (fun hb8 => ?_) (fun hb8 => ?_))
              · replace hF := ift hb8 hF
                have hr_ := Option.some.inj hF; subst hr_
                exact J_adv 5 (J_ret (xs := [.d (.bool true)]) [.d (.bool true)] rfl rfl (by kernel_rfl) (Res'.refl _) rfl)
              · replace hF := iff' hb8 hF
                exact J_adv 8 (J_at [0, 1, 2, 3, 9, 10] [] (T0 := [.inLoop (cAt (bodyOf Try.f41) [1, 1, 1, 1, 0, 1, 0, 0]), .inBlock 0, .code (cAt (bodyOf Try.f41) [1, 1, 1, 1, 1])]) (by kernel_rfl) rfl (ih_F41_L1 (IntKind.i64.wrap (v2 + 1)) hF))
            · replace hF := iff' hb7 hF
              have hr_ := Option.some.inj hF; subst hr_
              exact J_adv 6 (J_ret (xs := [.d (.bool false)]) [.d (.bool false)] rfl rfl (by kernel_rfl) (Res'.refl _) rfl)
        exact J_adv 9 (J_at [0, 1, 2, 3, 9, 10] [] (T0 := [.inLoop (cAt (bodyOf Try.f41) [1, 1, 1, 1, 0, 1, 0, 0]), .inBlock 0, .code (cAt (bodyOf Try.f41) [1, 1, 1, 1, 1])]) (by kernel_rfl) rfl (hF41_L1 fuel 0 hF))

/- croupier/croupierref30.Fewest -/
def F20_L1 (fuel : Nat) (d0 : List (List Int)) (d1 : List Int) : Nat → Int → Option (Int × Int)
  | 0, _ => none
  | n_F20_L1 + 1, v2 =>
    ass (decide (0 ≤ ((d0.map e_li64).length : Int))) <|
    Option.bind (F41 fuel d0 d1 (IntKind.i64.wrap ((IntKind.i64.wrap (1 * 2 ^ (min (Int.toNat ((d0.map e_li64).length : Int)) IntKind.i64.bits))) - 1)) v2) fun y4 =>
    bif !y4 then
      ((F20_L1 fuel d0 d1 n_F20_L1) (IntKind.i64.wrap (v2 + 1)))
    else
      (some (v2, 0))
def F20 (fuel : Nat) (d0 : List (List Int)) (d1 : List Int) : Option (Int × Int) :=
  Option.bind (F40 fuel d0 d1) fun y1 =>
  bif y1 then
    (some (0, 4))
  else
    (F20_L1 fuel d0 d1 fuel 0)
theorem F20_ok {fuel : Nat} {d0 : List (List Int)} {d1 : List Int} {r : Int × Int} (hF : F20 fuel d0 d1 = some r) :
    CallF Try.prog 20 [.d (.sl 1 (d0.map e_li64)), .d (.sl 1 (d1.map e_i64))] (.tup [.d (.int .i64 r.1), .d (.int .i64 r.2)]) := by
  unfold F20 at hF
  refine callF_of (N := 22) (b := bodyOf Try.f20) Try.func20 (by kernel_rfl) rfl rfl ?_
  obtain ⟨y1, e1, hF⟩ := bnd hF
  refine J_adv 10 (J_callF (xs := [.d (.sl 1 (d0.map e_li64)), .d (.sl 1 (d1.map e_i64))]) [.d (.sl 1 (d0.map e_li64)), .d (.sl 1 (d1.map e_i64))] (.d (.bool y1)) (by kernel_rfl) en40 (Res'.refl _) (F40_ok e1) ?_)
  refine J_adv 1 (J_bool 9 (b := y1) (by kernel_rfl) (fun hb1 => ?_) (fun hb1 => ?_))
  · replace hF := ift hb1 hF
    have hr_ := Option.some.inj hF; subst hr_
    exact J_adv 6 (J_ret (xs := [.d (.int .i64 0), .d (.int .i64 4)]) [.d (.int .i64 0), .d (.int .i64 4)] rfl rfl (by kernel_rfl) (Res'.refl _) rfl)
  · replace hF := iff' hb1 hF
    have hF20_L1 : ∀ (n_F20_L1 : Nat) (v2 : Int), F20_L1 fuel d0 d1 n_F20_L1 v2 = some r → J none Try.prog 22 [] (finF Try.prog Try.f20 (.tup [.d (.int .i64 r.1), .d (.int .i64 r.2)])) ⟨mkT [(0, .d (.sl 1 (d0.map e_li64))), (1, .d (.sl 1 (d1.map e_i64))), (6, .d (.int .i64 v2))], [], [.inLoop (cAt (bodyOf Try.f20) [1, 1, 1, 0, 0, 0]), .inBlock 0, .code (cAt (bodyOf Try.f20) [1, 1, 1, 1])]⟩ := by
      clear hF; intro n_F20_L1
      induction n_F20_L1 with
      | zero => intro v2 hF; cases hF
      | succ n_F20_L1 ih_F20_L1 =>
        intro v2 hF
        rw [F20_L1] at hF
        obtain ⟨hb6, hF⟩ := assd hF
        refine J_adv 8 (J_opt1 (o := chk (decide (0 ≤ ((d0.map e_li64).length : Int)))) [] (by kernel_rfl) (ck hb6) ?_)
        obtain ⟨y4, e4, hF⟩ := bnd hF
        refine J_adv 2 (J_callF (xs := [.d (.sl 1 (d0.map e_li64)), .d (.sl 1 (d1.map e_i64)), .d (.int .i64 (IntKind.i64.wrap ((IntKind.i64.wrap (1 * 2 ^ (min (Int.toNat ((d0.map e_li64).length : Int)) IntKind.i64.bits))) - 1))), .d (.int .i64 v2)]) [.d (.sl 1 (d0.map e_li64)), .d (.sl 1 (d1.map e_i64)), .d (.int .i64 (IntKind.i64.wrap ((IntKind.i64.wrap (1 * 2 ^ (min (Int.toNat ((d0.map e_li64).length : Int)) IntKind.i64.bits))) - 1))), .d (.int .i64 v2)] (.d (.bool y4)) (by kernel_rfl) en41 (Res'.refl _) (F41_ok e4) ?_)
        refine J_adv 2 (J_bool 18 (b := !y4) (by kernel_rfl) (fun hb7 => ?_) (fun hb7 => ?_))
        · replace hF := ift hb7 hF
          exact J_adv 9 (J_at [0, 1, 6] [] (T0 := [.inLoop (cAt (bodyOf Try.f20) [1, 1, 1, 0, 0, 0]), .inBlock 0, .code (cAt (bodyOf Try.f20) [1, 1, 1, 1])]) (by kernel_rfl) rfl (ih_F20_L1 (IntKind.i64.wrap (v2 + 1)) hF))
        · replace hF := iff' hb7 hF
          have hr_ := Option.some.inj hF; subst hr_
          exact J_adv 8 (J_ret (xs := [.d (.int .i64 v2), .d (.int .i64 0)]) [.d (.int .i64 v2), .d (.int .i64 0)] rfl rfl (by kernel_rfl) (Res'.refl _) rfl)
    exact J_adv 9 (J_at [0, 1, 6] [] (T0 := [.inLoop (cAt (bodyOf Try.f20) [1, 1, 1, 0, 0, 0]), .inBlock 0, .code (cAt (bodyOf Try.f20) [1, 1, 1, 1])]) (by kernel_rfl) rfl (hF20_L1 fuel 0 hF))

/- croupier/croupierlaw30.small -/
def F16_L1 (l1 : List (List Int)) : Nat → Int → (List (List Int)) → Option (List (List Int))
  | 0, _, _ => none
  | n_F16_L1 + 1, v2, l7 =>
    bif decide (v2 < ((l1.map e_li64).length : Int)) then
      (Option.bind (geti l1 v2) fun y3 =>
      Option.bind (slc y3 0 (bif decide (6 < ((y3.map e_i64).length : Int)) then 6 else ((y3.map e_i64).length : Int))) fun l8 =>
      Option.bind (app l7 [l8]) fun l9 =>
      (F16_L1 l1 n_F16_L1) (IntKind.i64.wrap (v2 + 1)) l9)
    else
      (some l7)
def F16 (fuel : Nat) (d0 : List (List Int)) : Option (List (List Int)) :=
  Option.bind (slc d0 0 (bif decide (14 < ((d0.map e_li64).length : Int)) then 14 else ((d0.map e_li64).length : Int))) fun l1 =>
  F16_L1 l1 fuel 0 []
theorem F16_ok {fuel : Nat} {d0 : List (List Int)} {r : List (List Int)} (hF : F16 fuel d0 = some r) :
    CallF Try.prog 16 [.d (.sl 1 (d0.map e_li64))] (.d (.sl 1 (r.map e_li64))) := by
  unfold F16 at hF
  refine callF_of (N := 26) (b := bodyOf Try.f16) Try.func16 (by kernel_rfl) rfl rfl ?_
  obtain ⟨l1, e1, hF⟩ := bnd hF
  refine J_adv 15 (J_opt2 (o := slc (d0.map e_li64) 0 (bif decide (14 < ((d0.map e_li64).length : Int)) then 14 else ((d0.map e_li64).length : Int))) (l1.map e_li64) (by kernel_rfl) (sm e1) ?_)
  have hF16_L1 : ∀ (n_F16_L1 : Nat) (v2 : Int) (l7 : List (List Int)), F16_L1 l1 n_F16_L1 v2 l7 = some r → J none Try.prog 26 [] (finF Try.prog Try.f16 (.d (.sl 1 (r.map e_li64)))) ⟨mkT [(3, .suf 23 0 0), (10, .d (.sl 1 (l1.map e_li64))), (11, .d (.int .i64 ((l1.map e_li64).length : Int))), (12, .d (.int .i64 v2))], [(23, .buf 0 31 1 (l7.map e_li64))], [.inLoop (cAt (bodyOf Try.f16) [1, 1, 0, 1, 0, 0]), .inBlock 0, .code (cAt (bodyOf Try.f16) [1, 1, 1])]⟩ := by
    clear hF; intro n_F16_L1
    induction n_F16_L1 with
    | zero => intro v2 l7 hF; cases hF
    | succ n_F16_L1 ih_F16_L1 =>
      intro v2 l7 hF
      rw [F16_L1] at hF
      refine J_adv 6 (J_bool 13 (b := decide (v2 < ((l1.map e_li64).length : Int))) (by kernel_rfl) (fun hb3 => ?_) (fun hb3 => ?_))
      · replace hF := ift hb3 hF
        obtain ⟨y3, e8, hF⟩ := bnd hF
        refine J_adv 6 (J_opt1 (o := geti (l1.map e_li64) v2) (e_li64 y3) (by kernel_rfl) (gm e8) ?_)
        obtain ⟨l8, e9, hF⟩ := bnd hF
        refine J_adv 9 (J_opt2 (o := slc (y3.map e_i64) 0 (bif decide (6 < ((y3.map e_i64).length : Int)) then 6 else ((y3.map e_i64).length : Int))) (l8.map e_i64) (by kernel_rfl) (sm e9) ?_)
        obtain ⟨l9, e10, hF⟩ := bnd hF
        refine J_adv 1 (J_opt2 (o := app2 ((l7.map e_li64).drop 0) ([l8].map e_li64)) (l9.map e_li64) (by kernel_rfl) (am e10) ?_)
        exact J_adv 7 (J_at [3, 10, 11, 12] [23] (T0 := [.inLoop (cAt (bodyOf Try.f16) [1, 1, 0, 1, 0, 0]), .inBlock 0, .code (cAt (bodyOf Try.f16) [1, 1, 1])]) (by kernel_rfl) rfl (ih_F16_L1 (IntKind.i64.wrap (v2 + 1)) l9 hF))
      · replace hF := iff' hb3 hF
        have hr_ := Option.some.inj hF; subst hr_
        exact J_adv 7 (J_ret (xs := [.d (.sl 1 (l7.map e_li64))]) [.d (.sl 1 (l7.map e_li64))] rfl rfl (by kernel_rfl) (Res'.refl _) rfl)
  refine J_adv 5 (J_own (n := 1) 3 23 31 1 (by kernel_rfl) (by kernel_rfl) ?_)
  exact J_adv 0 (J_at [3, 10, 11, 12] [23] (T0 := [.inLoop (cAt (bodyOf Try.f16) [1, 1, 0, 1, 0, 0]), .inBlock 0, .code (cAt (bodyOf Try.f16) [1, 1, 1])]) (by kernel_rfl) rfl (hF16_L1 fuel 0 [] hF))

/- croupier/croupierref30.Row -/
def F44_L1 (d0 : List Int) : Nat → Int → Option Bool
  | 0, _ => none
  | n_F44_L1 + 1, v2 =>
    bif decide (v2 < ((d0.map e_i64).length : Int)) then
      (Option.bind (geti d0 v2) fun y5 =>
      Option.bind (F42 y5 (-99) 99) fun y6 =>
      bif !y6 then
        (some false)
      else
        ((F44_L1 d0 n_F44_L1) (IntKind.i64.wrap (v2 + 1))))
    else
      (Option.bind (F42 ((d0.map e_i64).length : Int) 1 4) fun y7 =>
      some y7)
def F44 (fuel : Nat) (d0 : List Int) : Option Bool :=
  F44_L1 d0 fuel 0
theorem F44_ok {fuel : Nat} {d0 : List Int} {r : Bool} (hF : F44 fuel d0 = some r) :
    CallF Try.prog 44 [.d (.sl 1 (d0.map e_i64))] (.d (.bool r)) := by
  unfold F44 at hF
  refine callF_of (N := 19) (b := bodyOf Try.f44) Try.func44 (by kernel_rfl) rfl rfl ?_
  have hF44_L1 : ∀ (n_F44_L1 : Nat) (v2 : Int), F44_L1 d0 n_F44_L1 v2 = some r → J none Try.prog 19 [] (finF Try.prog Try.f44 (.d (.bool r))) ⟨mkT [(0, .d (.sl 1 (d0.map e_i64))), (3, .d (.int .i64 v2))], [], [.inLoop (cAt (bodyOf Try.f44) [1, 0, 1, 0, 0]), .inBlock 0, .code (cAt (bodyOf Try.f44) [1, 1])]⟩ := by
    clear hF; intro n_F44_L1
    induction n_F44_L1 with
    | zero => intro v2 hF; cases hF
    | succ n_F44_L1 ih_F44_L1 =>
      intro v2 hF
      rw [F44_L1] at hF
      refine J_adv 9 (J_bool 7 (b := decide (v2 < ((d0.map e_i64).length : Int))) (by kernel_rfl) (fun hb5 => ?_) (fun hb5 => ?_))
      · replace hF := ift hb5 hF
        obtain ⟨y5, e5, hF⟩ := bnd hF
        refine J_adv 8 (J_opt1 (o := geti (d0.map e_i64) v2) (e_i64 y5) (by kernel_rfl) (gm e5) ?_)
        obtain ⟨y6, e6, hF⟩ := bnd hF
        refine J_adv 1 (J_callF (xs := [.d (.int .i64 y5), .d (.int .i64 (-99)), .d (.int .i64 99)]) [.d (.int .i64 y5), .d (.int .i64 (-99)), .d (.int .i64 99)] (.d (.bool y6)) (by kernel_rfl) en42 (Res'.refl _) (F42_ok e6) ?_)
        refine J_adv 2 (J_bool 15 (b := !y6) (by kernel_rfl) (fun hb6 => ?_) (fun hb6 => ?_))
        · replace hF := ift hb6 hF
          have hr_ := Option.some.inj hF; subst hr_
          exact J_adv 5 (J_ret (xs := [.d (.bool false)]) [.d (.bool false)] rfl rfl (by kernel_rfl) (Res'.refl _) rfl)
        · replace hF := iff' hb6 hF
          exact J_adv 8 (J_at [0, 3] [] (T0 := [.inLoop (cAt (bodyOf Try.f44) [1, 0, 1, 0, 0]), .inBlock 0, .code (cAt (bodyOf Try.f44) [1, 1])]) (by kernel_rfl) rfl (ih_F44_L1 (IntKind.i64.wrap (v2 + 1)) hF))
      · replace hF := iff' hb5 hF
        obtain ⟨y7, e7, hF⟩ := bnd hF
        refine J_adv 6 (J_callF (xs := [.d (.int .i64 ((d0.map e_i64).length : Int)), .d (.int .i64 1), .d (.int .i64 4)]) [.d (.int .i64 ((d0.map e_i64).length : Int)), .d (.int .i64 1), .d (.int .i64 4)] (.d (.bool y7)) (by kernel_rfl) en42 (Res'.refl _) (F42_ok e7) ?_)
        have hr_ := Option.some.inj hF; subst hr_
        exact J_adv 2 (J_ret (xs := [.d (.bool y7)]) [.d (.bool y7)] rfl rfl (by kernel_rfl) (Res'.refl _) rfl)
  exact J_adv 11 (J_at [0, 3] [] (T0 := [.inLoop (cAt (bodyOf Try.f44) [1, 0, 1, 0, 0]), .inBlock 0, .code (cAt (bodyOf Try.f44) [1, 1])]) (by kernel_rfl) rfl (hF44_L1 fuel 0 hF))

/- croupier/croupierref30.Table -/
def F23_L1 (fuel : Nat) (d0 : List (List Int)) (d1 : List Int) : Nat → Int → Option Bool
  | 0, _ => none
  | n_F23_L1 + 1, v2 =>
    bif decide (v2 < ((d0.map e_li64).length : Int)) then
      (Option.bind (
        Option.bind (geti d0 v2) fun y51 =>
        Option.bind (F44 fuel y51) fun y52 =>
        bif !y52 then
          (some true)
        else
          (Option.bind (geti d0 v2) fun y53 =>
          Option.bind (geti d0 0) fun y54 =>
          bif ((y53.map e_i64).length : Int) != ((y54.map e_i64).length : Int) then
            (some true)
          else
            (Option.bind (geti d1 v2) fun y55 =>
            Option.bind (F42 y55 0 3) fun y56 =>
            some (!y56)))) fun o4 =>
      bif o4 then
        (some false)
      else
        ((F23_L1 fuel d0 d1 n_F23_L1) (IntKind.i64.wrap (v2 + 1))))
    else
      (some true)
def F23 (fuel : Nat) (d0 : List (List Int)) (d1 : List Int) : Option Bool :=
  Option.bind (
    Option.bind (F42 ((d0.map e_li64).length : Int) 1 12) fun y57 =>
    bif !y57 then
      (some true)
    else
      (some (((d1.map e_i64).length : Int) != ((d0.map e_li64).length : Int)))) fun o1 =>
  bif o1 then
    (some false)
  else
    (F23_L1 fuel d0 d1 fuel 0)
theorem F23_ok {fuel : Nat} {d0 : List (List Int)} {d1 : List Int} {r : Bool} (hF : F23 fuel d0 d1 = some r) :
    CallF Try.prog 23 [.d (.sl 1 (d0.map e_li64)), .d (.sl 1 (d1.map e_i64))] (.d (.bool r)) := by
  unfold F23 at hF
  refine callF_of (N := 49) (b := bodyOf Try.f23) Try.func23 (by kernel_rfl) rfl rfl ?_
  obtain ⟨o1, hO, hF⟩ := bnd hF
  have hR1 : J none Try.prog 49 [] (finF Try.prog Try.f23 (.d (.bool r))) ⟨mkT [(0, .d (.sl 1 (d0.map e_li64))), (1, .d (.sl 1 (d1.map e_i64))), (16, .d (.bool o1))], [], [.ops (opsOf (cAt (bodyOf Try.f23) [1, 0, 0])) [], .code (cAt (bodyOf Try.f23) [1, 0, 1]), .code (cAt (bodyOf Try.f23) [1, 1])]⟩ := by
    clear hO
    refine J_adv 1 (J_bool 16 (b := o1) (by kernel_rfl) (fun hb3 => ?_) (fun hb3 => ?_))
    · replace hF := ift hb3 hF
      have hr_ := Option.some.inj hF; subst hr_
      exact J_adv 5 (J_ret (xs := [.d (.bool false)]) [.d (.bool false)] rfl rfl (by kernel_rfl) (Res'.refl _) rfl)
    · replace hF := iff' hb3 hF
      have hF23_L1 : ∀ (n_F23_L1 : Nat) (v2 : Int), F23_L1 fuel d0 d1 n_F23_L1 v2 = some r → J none Try.prog 49 [] (finF Try.prog Try.f23 (.d (.bool r))) ⟨mkT [(0, .d (.sl 1 (d0.map e_li64))), (1, .d (.sl 1 (d1.map e_i64))), (5, .d (.int .i64 v2))], [], [.inLoop (cAt (bodyOf Try.f23) [1, 1, 0, 1, 0, 0]), .inBlock 0, .code (cAt (bodyOf Try.f23) [1, 1, 1])]⟩ := by
        clear hF; intro n_F23_L1
        induction n_F23_L1 with
        | zero => intro v2 hF; cases hF
        | succ n_F23_L1 ih_F23_L1 =>
          intro v2 hF
          rw [F23_L1] at hF
          refine J_adv 9 (J_bool 20 (b := decide (v2 < ((d0.map e_li64).length : Int))) (by kernel_rfl) (fun hb20 => ?_) (fun hb20 => ?_))
          · replace hF := ift hb20 hF
            obtain ⟨o4, hO, hF⟩ := bnd hF
            have hR4 : J none Try.prog 49 [] (finF Try.prog Try.f23 (.d (.bool r))) ⟨mkT [(0, .d (.sl 1 (d0.map e_li64))), (1, .d (.sl 1 (d1.map e_i64))), (5, .d (.int .i64 v2)), (48, .d (.bool o4))], [], [.code (cAt (bodyOf Try.f23) [1, 1, 0, 1, 0, 0, 1, 0, 0, 1]), .inBlock 1, .code (cAt (bodyOf Try.f23) [1, 1, 0, 1, 0, 0, 1, 1]), .inLoop (cAt (bodyOf Try.f23) [1, 1, 0, 1, 0, 0]), .inBlock 0, .code (cAt (bodyOf Try.f23) [1, 1, 1])]⟩ := by
              clear hO
              refine J_adv 0 (J_bool 48 (b := o4) (by kernel_rfl) (fun hb25 => ?_) (fun hb25 => ?_))
              · replace hF := ift hb25 hF
                have hr_ := Option.some.inj hF; subst hr_
                exact J_adv 5 (J_ret (xs := [.d (.bool false)]) [.d (.bool false)] rfl rfl (by kernel_rfl) (Res'.refl _) rfl)
              · replace hF := iff' hb25 hF
                exact J_adv 8 (J_at [0, 1, 5] [] (T0 := [.inLoop (cAt (bodyOf Try.f23) [1, 1, 0, 1, 0, 0]), .inBlock 0, .code (cAt (bodyOf Try.f23) [1, 1, 1])]) (by kernel_rfl) rfl (ih_F23_L1 (IntKind.i64.wrap (v2 + 1)) hF))
            clear hF; rename _ = some o4 => hF
            refine J_adv 5 (J_draw (by kernel_rfl) (by kernel_rfl) ?_)
            obtain ⟨y51, e51, hF⟩ := bnd hF
            refine JD_adv 2 (JD_opt1 (o := geti (d0.map e_li64) v2) (e_li64 y51) (by kernel_rfl) (by kernel_rfl) (gm e51) ?_)
            obtain ⟨y52, e52, hF⟩ := bnd hF
            refine JD_adv 1 (JD_callF (xs := [.d (.sl 1 (y51.map e_i64))]) [.d (.sl 1 (y51.map e_i64))] (.d (.bool y52)) (by kernel_rfl) (by kernel_rfl) en44 (Res'.refl _) (F44_ok e52) ?_)
            refine JD_adv 2 (JD_bool 29 (b := !y52) (by kernel_rfl) (fun hb26 => ?_) (fun hb26 => ?_))
            · replace hF := ift hb26 hF
              refine JD_adv 19 (JD_end (by kernel_rfl) ?_)
              have hr_ := Option.some.inj hF; subst hr_
              exact J_adv 0 (J_at [0, 1, 5, 48] [] (T0 := [.code (cAt (bodyOf Try.f23) [1, 1, 0, 1, 0, 0, 1, 0, 0, 1]), .inBlock 1, .code (cAt (bodyOf Try.f23) [1, 1, 0, 1, 0, 0, 1, 1]), .inLoop (cAt (bodyOf Try.f23) [1, 1, 0, 1, 0, 0]), .inBlock 0, .code (cAt (bodyOf Try.f23) [1, 1, 1])]) (by kernel_rfl) rfl hR4)
            · replace hF := iff' hb26 hF
              obtain ⟨y53, e53, hF⟩ := bnd hF
              refine JD_adv 2 (JD_opt1 (o := geti (d0.map e_li64) v2) (e_li64 y53) (by kernel_rfl) (by kernel_rfl) (gm e53) ?_)
              obtain ⟨y54, e54, hF⟩ := bnd hF
              refine JD_adv 3 (JD_opt1 (o := geti (d0.map e_li64) 0) (e_li64 y54) (by kernel_rfl) (by kernel_rfl) (gm e54) ?_)
              refine JD_adv 5 (JD_bool 41 (b := ((y53.map e_i64).length : Int) != ((y54.map e_i64).length : Int)) (by kernel_rfl) (fun hb27 => ?_) (fun hb27 => ?_))
              · replace hF := ift hb27 hF
                refine JD_adv 7 (JD_end (by kernel_rfl) ?_)
                have hr_ := Option.some.inj hF; subst hr_
                exact J_adv 0 (J_at [0, 1, 5, 48] [] (T0 := [.code (cAt (bodyOf Try.f23) [1, 1, 0, 1, 0, 0, 1, 0, 0, 1]), .inBlock 1, .code (cAt (bodyOf Try.f23) [1, 1, 0, 1, 0, 0, 1, 1]), .inLoop (cAt (bodyOf Try.f23) [1, 1, 0, 1, 0, 0]), .inBlock 0, .code (cAt (bodyOf Try.f23) [1, 1, 1])]) (by kernel_rfl) rfl hR4)
              · replace hF := iff' hb27 hF
                obtain ⟨y55, e55, hF⟩ := bnd hF
                refine JD_adv 2 (JD_opt1 (o := geti (d1.map e_i64) v2) (e_i64 y55) (by kernel_rfl) (by kernel_rfl) (gm e55) ?_)
                obtain ⟨y56, e56, hF⟩ := bnd hF
                refine JD_adv 1 (JD_callF (xs := [.d (.int .i64 y55), .d (.int .i64 0), .d (.int .i64 3)]) [.d (.int .i64 y55), .d (.int .i64 0), .d (.int .i64 3)] (.d (.bool y56)) (by kernel_rfl) (by kernel_rfl) en42 (Res'.refl _) (F42_ok e56) ?_)
                refine JD_adv 2 (JD_end (by kernel_rfl) ?_)
                have hr_ := Option.some.inj hF; subst hr_
                exact J_adv 0 (J_at [0, 1, 5, 48] [] (T0 := [.code (cAt (bodyOf Try.f23) [1, 1, 0, 1, 0, 0, 1, 0, 0, 1]), .inBlock 1, .code (cAt (bodyOf Try.f23) [1, 1, 0, 1, 0, 0, 1, 1]), .inLoop (cAt (bodyOf Try.f23) [1, 1, 0, 1, 0, 0]), .inBlock 0, .code (cAt (bodyOf Try.f23) [1, 1, 1])]) (by kernel_rfl) rfl hR4)
          · replace hF := iff' hb20 hF
            have hr_ := Option.some.inj hF; subst hr_
            exact J_adv 6 (J_ret (xs := [.d (.bool true)]) [.d (.bool true)] rfl rfl (by kernel_rfl) (Res'.refl _) rfl)
      exact J_adv 9 (J_at [0, 1, 5] [] (T0 := [.inLoop (cAt (bodyOf Try.f23) [1, 1, 0, 1, 0, 0]), .inBlock 0, .code (cAt (bodyOf Try.f23) [1, 1, 1])]) (by kernel_rfl) rfl (hF23_L1 fuel 0 hF))
  clear hF; rename _ = some o1 => hF
  obtain ⟨y57, e57, hF⟩ := bnd hF
  refine J_adv 9 (J_callF (xs := [.d (.int .i64 ((d0.map e_li64).length : Int)), .d (.int .i64 1), .d (.int .i64 12)]) [.d (.int .i64 ((d0.map e_li64).length : Int)), .d (.int .i64 1), .d (.int .i64 12)] (.d (.bool y57)) (by kernel_rfl) en42 (Res'.refl _) (F42_ok e57) ?_)
  refine J_adv 2 (J_bool 10 (b := !y57) (by kernel_rfl) (fun hb28 => ?_) (fun hb28 => ?_))
  · replace hF := ift hb28 hF
    have hr_ := Option.some.inj hF; subst hr_
    exact J_adv 6 (J_at [0, 1, 16] [] (T0 := [.ops (opsOf (cAt (bodyOf Try.f23) [1, 0, 0])) [], .code (cAt (bodyOf Try.f23) [1, 0, 1]), .code (cAt (bodyOf Try.f23) [1, 1])]) (by kernel_rfl) rfl hR1)
  · replace hF := iff' hb28 hF
    have hr_ := Option.some.inj hF; subst hr_
    exact J_adv 6 (J_at [0, 1, 16] [] (T0 := [.ops (opsOf (cAt (bodyOf Try.f23) [1, 0, 0])) [], .code (cAt (bodyOf Try.f23) [1, 0, 1]), .code (cAt (bodyOf Try.f23) [1, 1])]) (by kernel_rfl) rfl hR1)

/- croupier/croupierlaw30.RulesShortest -/
def F4 (fuel : Nat) (d0 : T_croupierref30_Draft) (d1 : List (List Int)) (d2 : List Int) : Option Bool :=
  Option.bind (F11 fuel) fun y1 =>
  bif !y1 then
    (some false)
  else
    (Option.bind (F12 fuel d0) fun y2 =>
    Option.bind (F19 fuel y2.1 y2.2) fun y3 =>
    Option.bind (F20 fuel y2.1 y2.2) fun y4 =>
    Option.bind (
      bif y3.2 != y4.2 then
        (some true)
      else
        (bif y3.2 == 0 then
          (bif ((y3.1.List.map e_T_api_Rule).length : Int) != y4.1 then
            (some true)
          else
            (Option.bind (F21 fuel y3.1) fun y12 =>
            bif !y12 then
              (some true)
            else
              (Option.bind (F22 fuel y3.1 y2.1 y2.2) fun y13 =>
              bif !y13 then
                (some true)
              else
                (bif y3.2 != 0 then
                  (bif ((y3.1.List.map e_T_api_Rule).length : Int) != 0 then
                    (some true)
                  else
                    (some (y3.1.Else != 0)))
                else
                  (some false)))))
        else
          (bif y3.2 != 0 then
            (bif ((y3.1.List.map e_T_api_Rule).length : Int) != 0 then
              (some true)
            else
              (some (y3.1.Else != 0)))
          else
            (some false)))) fun o1 =>
    bif o1 then
      (some false)
    else
      (Option.bind (F16 fuel d1) fun y9 =>
      Option.bind (F23 fuel y9 d2) fun y10 =>
      bif y10 then
        (some true)
      else
        (Option.bind (F19 fuel y9 d2) fun y11 =>
        some (y11.2 == 2))))
theorem F4_ok {fuel : Nat} {d0 : T_croupierref30_Draft} {d1 : List (List Int)} {d2 : List Int} {r : Bool} (hF : F4 fuel d0 d1 d2 = some r) :
    CallF Try.prog 4 [.agg [.d (.int .u8 d0.Wide), .d (.sl 4 (d0.Rows.map e_a4i8)), .d (.sl 1 (d0.C.map e_u8)), .d (.bool d0.Few)], .d (.sl 1 (d1.map e_li64)), .d (.sl 1 (d2.map e_i64))] (.d (.bool r)) := by
  unfold F4 at hF
  refine callF_of (N := 88) (b := bodyOf Try.f4) Try.func4 (by kernel_rfl) rfl rfl ?_
  obtain ⟨y1, e1, hF⟩ := bnd hF
  refine J_adv 8 (J_callF (xs := []) [] (.d (.bool y1)) (by kernel_rfl) en11 (Res'.refl _) (F11_ok e1) ?_)
  refine J_adv 2 (J_bool 16 (b := !y1) (by kernel_rfl) (fun hb1 => ?_) (fun hb1 => ?_))
  · replace hF := ift hb1 hF
    have hr_ := Option.some.inj hF; subst hr_
    exact J_adv 5 (J_ret (xs := [.d (.bool false)]) [.d (.bool false)] rfl rfl (by kernel_rfl) (Res'.refl _) rfl)
  · replace hF := iff' hb1 hF
    obtain ⟨y2, e2, hF⟩ := bnd hF
    refine J_adv 5 (J_callF (xs := [.agg [.d (.int .u8 d0.Wide), .d (.sl 4 (d0.Rows.map e_a4i8)), .d (.sl 1 (d0.C.map e_u8)), .d (.bool d0.Few)]]) [.agg [.d (.int .u8 d0.Wide), .d (.sl 4 (d0.Rows.map e_a4i8)), .d (.sl 1 (d0.C.map e_u8)), .d (.bool d0.Few)]] (.tup [.d (.sl 1 (y2.1.map e_li64)), .d (.sl 1 (y2.2.map e_i64))]) (by kernel_rfl) en12 (Res'.refl _) (F12_ok e2) ?_)
    obtain ⟨y3, e3, hF⟩ := bnd hF
    refine J_adv 10 (J_callF (xs := [.d (.sl 1 (y2.1.map e_li64)), .d (.sl 1 (y2.2.map e_i64))]) [.d (.sl 1 (y2.1.map e_li64)), .d (.sl 1 (y2.2.map e_i64))] (.tup [.agg [.d (.sl 4 (y3.1.List.map e_T_api_Rule)), .d (.int .i64 y3.1.Else)], .d (.int .i64 y3.2)]) (by kernel_rfl) en19 (Res'.refl _) (F19_ok e3) ?_)
    obtain ⟨y4, e4, hF⟩ := bnd hF
    refine J_adv 11 (J_callF (xs := [.d (.sl 1 (y2.1.map e_li64)), .d (.sl 1 (y2.2.map e_i64))]) [.d (.sl 1 (y2.1.map e_li64)), .d (.sl 1 (y2.2.map e_i64))] (.tup [.d (.int .i64 y4.1), .d (.int .i64 y4.2)]) (by kernel_rfl) en20 (Res'.refl _) (F20_ok e4) ?_)
    obtain ⟨o1, hO, hF⟩ := bnd hF
    have hR1 : J none Try.prog 88 [] (finF Try.prog Try.f4 (.d (.bool r))) ⟨mkT [(1, .d (.sl 1 (d1.map e_li64))), (2, .d (.sl 1 (d2.map e_i64))), (74, .d (.bool o1))], [], [.ops (opsOf (cAt (bodyOf Try.f4) [1, 1, 1, 1, 1, 0, 0])) [], .code (cAt (bodyOf Try.f4) [1, 1, 1, 1, 1, 0, 1]), .code (cAt (bodyOf Try.f4) [1, 1, 1, 1, 1, 1])]⟩ := by
      clear hO
      refine J_adv 1 (J_bool 74 (b := o1) (by kernel_rfl) (fun hb20 => ?_) (fun hb20 => ?_))
      · replace hF := ift hb20 hF
        have hr_ := Option.some.inj hF; subst hr_
        exact J_adv 5 (J_ret (xs := [.d (.bool false)]) [.d (.bool false)] rfl rfl (by kernel_rfl) (Res'.refl _) rfl)
      · replace hF := iff' hb20 hF
        obtain ⟨y9, e9, hF⟩ := bnd hF
        refine J_adv 5 (J_callF (xs := [.d (.sl 1 (d1.map e_li64))]) [.d (.sl 1 (d1.map e_li64))] (.d (.sl 1 (y9.map e_li64))) (by kernel_rfl) en16 (Res'.refl _) (F16_ok e9) ?_)
        obtain ⟨y10, e10, hF⟩ := bnd hF
        refine J_adv 7 (J_callF (xs := [.d (.sl 1 (y9.map e_li64)), .d (.sl 1 (d2.map e_i64))]) [.d (.sl 1 (y9.map e_li64)), .d (.sl 1 (d2.map e_i64))] (.d (.bool y10)) (by kernel_rfl) en23 (Res'.refl _) (F23_ok e10) ?_)
        refine J_adv 1 (J_bool 79 (b := y10) (by kernel_rfl) (fun hb21 => ?_) (fun hb21 => ?_))
        · replace hF := ift hb21 hF
          have hr_ := Option.some.inj hF; subst hr_
          exact J_adv 5 (J_ret (xs := [.d (.bool true)]) [.d (.bool true)] rfl rfl (by kernel_rfl) (Res'.refl _) rfl)
        · replace hF := iff' hb21 hF
          obtain ⟨y11, e11, hF⟩ := bnd hF
          refine J_adv 6 (J_callF (xs := [.d (.sl 1 (y9.map e_li64)), .d (.sl 1 (d2.map e_i64))]) [.d (.sl 1 (y9.map e_li64)), .d (.sl 1 (d2.map e_i64))] (.tup [.agg [.d (.sl 4 (y11.1.List.map e_T_api_Rule)), .d (.int .i64 y11.1.Else)], .d (.int .i64 y11.2)]) (by kernel_rfl) en19 (Res'.refl _) (F19_ok e11) ?_)
          have hr_ := Option.some.inj hF; subst hr_
          exact J_adv 13 (J_ret (xs := [.d (.bool (y11.2 == 2))]) [.d (.bool (y11.2 == 2))] rfl rfl (by kernel_rfl) (Res'.refl _) rfl)
    clear hF; rename _ = some o1 => hF
    refine J_adv 13 (J_bool 37 (b := y3.2 != y4.2) (by kernel_rfl) (fun hb22 => ?_) (fun hb22 => ?_))
    · replace hF := ift hb22 hF
      have hr_ := Option.some.inj hF; subst hr_
      exact J_adv 37 (J_at [1, 2, 74] [] (T0 := [.ops (opsOf (cAt (bodyOf Try.f4) [1, 1, 1, 1, 1, 0, 0])) [], .code (cAt (bodyOf Try.f4) [1, 1, 1, 1, 1, 0, 1]), .code (cAt (bodyOf Try.f4) [1, 1, 1, 1, 1, 1])]) (by kernel_rfl) rfl hR1)
    · replace hF := iff' hb22 hF
      refine J_adv 3 (J_bool 40 (b := y3.2 == 0) (by kernel_rfl) (fun hb23 => ?_) (fun hb23 => ?_))
      · replace hF := ift hb23 hF
        refine J_adv 6 (J_bool 46 (b := ((y3.1.List.map e_T_api_Rule).length : Int) != y4.1) (by kernel_rfl) (fun hb24 => ?_) (fun hb24 => ?_))
        · replace hF := ift hb24 hF
          have hr_ := Option.some.inj hF; subst hr_
          exact J_adv 28 (J_at [1, 2, 74] [] (T0 := [.ops (opsOf (cAt (bodyOf Try.f4) [1, 1, 1, 1, 1, 0, 0])) [], .code (cAt (bodyOf Try.f4) [1, 1, 1, 1, 1, 0, 1]), .code (cAt (bodyOf Try.f4) [1, 1, 1, 1, 1, 1])]) (by kernel_rfl) rfl hR1)
        · replace hF := iff' hb24 hF
          obtain ⟨y12, e12, hF⟩ := bnd hF
          refine J_adv 1 (J_callF (xs := [.agg [.d (.sl 4 (y3.1.List.map e_T_api_Rule)), .d (.int .i64 y3.1.Else)]]) [.agg [.d (.sl 4 (y3.1.List.map e_T_api_Rule)), .d (.int .i64 y3.1.Else)]] (.d (.bool y12)) (by kernel_rfl) en21 (Res'.refl _) (F21_ok e12) ?_)
          refine J_adv 3 (J_bool 51 (b := !y12) (by kernel_rfl) (fun hb25 => ?_) (fun hb25 => ?_))
          · replace hF := ift hb25 hF
            have hr_ := Option.some.inj hF; subst hr_
            exact J_adv 23 (J_at [1, 2, 74] [] (T0 := [.ops (opsOf (cAt (bodyOf Try.f4) [1, 1, 1, 1, 1, 0, 0])) [], .code (cAt (bodyOf Try.f4) [1, 1, 1, 1, 1, 0, 1]), .code (cAt (bodyOf Try.f4) [1, 1, 1, 1, 1, 1])]) (by kernel_rfl) rfl hR1)
          · replace hF := iff' hb25 hF
            obtain ⟨y13, e13, hF⟩ := bnd hF
            refine J_adv 3 (J_callF (xs := [.agg [.d (.sl 4 (y3.1.List.map e_T_api_Rule)), .d (.int .i64 y3.1.Else)], .d (.sl 1 (y2.1.map e_li64)), .d (.sl 1 (y2.2.map e_i64))]) [.agg [.d (.sl 4 (y3.1.List.map e_T_api_Rule)), .d (.int .i64 y3.1.Else)], .d (.sl 1 (y2.1.map e_li64)), .d (.sl 1 (y2.2.map e_i64))] (.d (.bool y13)) (by kernel_rfl) en22 (Res'.refl _) (F22_ok e13) ?_)
            refine J_adv 5 (J_bool 60 (b := !y13) (by kernel_rfl) (fun hb26 => ?_) (fun hb26 => ?_))
            · replace hF := ift hb26 hF
              have hr_ := Option.some.inj hF; subst hr_
              exact J_adv 14 (J_at [1, 2, 74] [] (T0 := [.ops (opsOf (cAt (bodyOf Try.f4) [1, 1, 1, 1, 1, 0, 0])) [], .code (cAt (bodyOf Try.f4) [1, 1, 1, 1, 1, 0, 1]), .code (cAt (bodyOf Try.f4) [1, 1, 1, 1, 1, 1])]) (by kernel_rfl) rfl hR1)
            · replace hF := iff' hb26 hF
              refine J_adv 3 (J_bool 63 (b := y3.2 != 0) (by kernel_rfl) (fun hb27 => ?_) (fun hb27 => ?_))
              · replace hF := ift hb27 hF
                refine J_adv 5 (J_bool 68 (b := ((y3.1.List.map e_T_api_Rule).length : Int) != 0) (by kernel_rfl) (fun hb28 => ?_) (fun hb28 => ?_))
                · replace hF := ift hb28 hF
                  have hr_ := Option.some.inj hF; subst hr_
                  exact J_adv 6 (J_at [1, 2, 74] [] (T0 := [.ops (opsOf (cAt (bodyOf Try.f4) [1, 1, 1, 1, 1, 0, 0])) [], .code (cAt (bodyOf Try.f4) [1, 1, 1, 1, 1, 0, 1]), .code (cAt (bodyOf Try.f4) [1, 1, 1, 1, 1, 1])]) (by kernel_rfl) rfl hR1)
                · replace hF := iff' hb28 hF
                  have hr_ := Option.some.inj hF; subst hr_
                  exact J_adv 6 (J_at [1, 2, 74] [] (T0 := [.ops (opsOf (cAt (bodyOf Try.f4) [1, 1, 1, 1, 1, 0, 0])) [], .code (cAt (bodyOf Try.f4) [1, 1, 1, 1, 1, 0, 1]), .code (cAt (bodyOf Try.f4) [1, 1, 1, 1, 1, 1])]) (by kernel_rfl) rfl hR1)
              · replace hF := iff' hb27 hF
                have hr_ := Option.some.inj hF; subst hr_
                exact J_adv 11 (J_at [1, 2, 74] [] (T0 := [.ops (opsOf (cAt (bodyOf Try.f4) [1, 1, 1, 1, 1, 0, 0])) [], .code (cAt (bodyOf Try.f4) [1, 1, 1, 1, 1, 0, 1]), .code (cAt (bodyOf Try.f4) [1, 1, 1, 1, 1, 1])]) (by kernel_rfl) rfl hR1)
      · replace hF := iff' hb23 hF
        refine J_adv 23 (J_bool 63 (b := y3.2 != 0) (by kernel_rfl) (fun hb29 => ?_) (fun hb29 => ?_))
        · replace hF := ift hb29 hF
          refine J_adv 5 (J_bool 68 (b := ((y3.1.List.map e_T_api_Rule).length : Int) != 0) (by kernel_rfl) (fun hb30 => ?_) (fun hb30 => ?_))
          · replace hF := ift hb30 hF
            have hr_ := Option.some.inj hF; subst hr_
            exact J_adv 6 (J_at [1, 2, 74] [] (T0 := [.ops (opsOf (cAt (bodyOf Try.f4) [1, 1, 1, 1, 1, 0, 0])) [], .code (cAt (bodyOf Try.f4) [1, 1, 1, 1, 1, 0, 1]), .code (cAt (bodyOf Try.f4) [1, 1, 1, 1, 1, 1])]) (by kernel_rfl) rfl hR1)
          · replace hF := iff' hb30 hF
            have hr_ := Option.some.inj hF; subst hr_
            exact J_adv 6 (J_at [1, 2, 74] [] (T0 := [.ops (opsOf (cAt (bodyOf Try.f4) [1, 1, 1, 1, 1, 0, 0])) [], .code (cAt (bodyOf Try.f4) [1, 1, 1, 1, 1, 0, 1]), .code (cAt (bodyOf Try.f4) [1, 1, 1, 1, 1, 1])]) (by kernel_rfl) rfl hR1)
        · replace hF := iff' hb29 hF
          have hr_ := Option.some.inj hF; subst hr_
          exact J_adv 11 (J_at [1, 2, 74] [] (T0 := [.ops (opsOf (cAt (bodyOf Try.f4) [1, 1, 1, 1, 1, 0, 0])) [], .code (cAt (bodyOf Try.f4) [1, 1, 1, 1, 1, 0, 1]), .code (cAt (bodyOf Try.f4) [1, 1, 1, 1, 1, 1])]) (by kernel_rfl) rfl hR1)

end Go.Proofs.Ytljkgnjmigmcgaa
