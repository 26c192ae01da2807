/- One part of the texts that lead to the theorem; it claims nothing by itself. -/
import Derived.Test.YtfgbhfphjmmiaaaGreatDoorProg
import Derived.KernelRfl
import Derived.Test.YtfgbhfphjmmiaaaGreatDoorKnd
section
set_option linter.unusedVariables false
set_option maxRecDepth 100000
namespace Go.Proofs.YtfgbhfphjmmiaaaGreatDoor
open Go Go.RowKit Kx
theorem en185 : entersT Tryz.prog 185 := Kx.enters_of Tryz.func185 (by kernel_rfl) (by kernel_rfl)
theorem en141 : entersT Tryz.prog 141 := Kx.enters_of Tryz.func141 (by kernel_rfl) (by kernel_rfl)
theorem en233 : entersT Tryz.prog 233 := Kx.enters_of Tryz.func233 (by kernel_rfl) (by kernel_rfl)
theorem en186 : entersT Tryz.prog 186 := Kx.enters_of Tryz.func186 (by kernel_rfl) (by kernel_rfl)
theorem en140 : entersT Tryz.prog 140 := Kx.enters_of Tryz.func140 (by kernel_rfl) (by kernel_rfl)
theorem en100 : entersT Tryz.prog 100 := Kx.enters_of Tryz.func100 (by kernel_rfl) (by kernel_rfl)
theorem en142 : entersT Tryz.prog 142 := Kx.enters_of Tryz.func142 (by kernel_rfl) (by kernel_rfl)
theorem en145 : entersT Tryz.prog 145 := Kx.enters_of Tryz.func145 (by kernel_rfl) (by kernel_rfl)
theorem en146 : entersT Tryz.prog 146 := Kx.enters_of Tryz.func146 (by kernel_rfl) (by kernel_rfl)
theorem en221 : entersT Tryz.prog 221 := Kx.enters_of Tryz.func221 (by kernel_rfl) (by kernel_rfl)
theorem en254 : entersT Tryz.prog 254 := Kx.enters_of Tryz.func254 (by kernel_rfl) (by kernel_rfl)
theorem en217 : entersT Tryz.prog 217 := Kx.enters_of Tryz.func217 (by kernel_rfl) (by kernel_rfl)
theorem en218 : entersT Tryz.prog 218 := Kx.enters_of Tryz.func218 (by kernel_rfl) (by kernel_rfl)
theorem en219 : entersT Tryz.prog 219 := Kx.enters_of Tryz.func219 (by kernel_rfl) (by kernel_rfl)
theorem en220 : entersT Tryz.prog 220 := Kx.enters_of Tryz.func220 (by kernel_rfl) (by kernel_rfl)
theorem en178 : entersT Tryz.prog 178 := Kx.enters_of Tryz.func178 (by kernel_rfl) (by kernel_rfl)
theorem en99 : entersT Tryz.prog 99 := Kx.enters_of Tryz.func99 (by kernel_rfl) (by kernel_rfl)
theorem en143 : entersT Tryz.prog 143 := Kx.enters_of Tryz.func143 (by kernel_rfl) (by kernel_rfl)
theorem en104 : entersT Tryz.prog 104 := Kx.enters_of Tryz.func104 (by kernel_rfl) (by kernel_rfl)
theorem en187 : entersT Tryz.prog 187 := Kx.enters_of Tryz.func187 (by kernel_rfl) (by kernel_rfl)
theorem en179 : entersT Tryz.prog 179 := Kx.enters_of Tryz.func179 (by kernel_rfl) (by kernel_rfl)
theorem en226 : entersT Tryz.prog 226 := Kx.enters_of Tryz.func226 (by kernel_rfl) (by kernel_rfl)
theorem en182 : entersT Tryz.prog 182 := Kx.enters_of Tryz.func182 (by kernel_rfl) (by kernel_rfl)
theorem en138 : entersT Tryz.prog 138 := Kx.enters_of Tryz.func138 (by kernel_rfl) (by kernel_rfl)
theorem en227 : entersT Tryz.prog 227 := Kx.enters_of Tryz.func227 (by kernel_rfl) (by kernel_rfl)
theorem en183 : entersT Tryz.prog 183 := Kx.enters_of Tryz.func183 (by kernel_rfl) (by kernel_rfl)
theorem en139 : entersT Tryz.prog 139 := Kx.enters_of Tryz.func139 (by kernel_rfl) (by kernel_rfl)
theorem en194 : entersT Tryz.prog 194 := Kx.enters_of Tryz.func194 (by kernel_rfl) (by kernel_rfl)
theorem en159 : entersT Tryz.prog 159 := Kx.enters_of Tryz.func159 (by kernel_rfl) (by kernel_rfl)
theorem en110 : entersT Tryz.prog 110 := Kx.enters_of Tryz.func110 (by kernel_rfl) (by kernel_rfl)
theorem en160 : entersT Tryz.prog 160 := Kx.enters_of Tryz.func160 (by kernel_rfl) (by kernel_rfl)
theorem en161 : entersT Tryz.prog 161 := Kx.enters_of Tryz.func161 (by kernel_rfl) (by kernel_rfl)
theorem en97 : entersT Tryz.prog 97 := Kx.enters_of Tryz.func97 (by kernel_rfl) (by kernel_rfl)
theorem en98 : entersT Tryz.prog 98 := Kx.enters_of Tryz.func98 (by kernel_rfl) (by kernel_rfl)
theorem en101 : entersT Tryz.prog 101 := Kx.enters_of Tryz.func101 (by kernel_rfl) (by kernel_rfl)
theorem en102 : entersT Tryz.prog 102 := Kx.enters_of Tryz.func102 (by kernel_rfl) (by kernel_rfl)
theorem en135 : entersT Tryz.prog 135 := Kx.enters_of Tryz.func135 (by kernel_rfl) (by kernel_rfl)
theorem en144 : entersT Tryz.prog 144 := Kx.enters_of Tryz.func144 (by kernel_rfl) (by kernel_rfl)
theorem en103 : entersT Tryz.prog 103 := Kx.enters_of Tryz.func103 (by kernel_rfl) (by kernel_rfl)
theorem en126 : entersT Tryz.prog 126 := Kx.enters_of Tryz.func126 (by kernel_rfl) (by kernel_rfl)
theorem en127 : entersT Tryz.prog 127 := Kx.enters_of Tryz.func127 (by kernel_rfl) (by kernel_rfl)
theorem en180 : entersT Tryz.prog 180 := Kx.enters_of Tryz.func180 (by kernel_rfl) (by kernel_rfl)
theorem en133 : entersT Tryz.prog 133 := Kx.enters_of Tryz.func133 (by kernel_rfl) (by kernel_rfl)
theorem en48 : entersT Tryz.prog 48 := Kx.enters_of Tryz.func48 (by kernel_rfl) (by kernel_rfl)
theorem en134 : entersT Tryz.prog 134 := Kx.enters_of Tryz.func134 (by kernel_rfl) (by kernel_rfl)
theorem en136 : entersT Tryz.prog 136 := Kx.enters_of Tryz.func136 (by kernel_rfl) (by kernel_rfl)
theorem en96 : entersT Tryz.prog 96 := Kx.enters_of Tryz.func96 (by kernel_rfl) (by kernel_rfl)
structure T_exact_Whole where
  neg : Bool
  mag : List Int
  deriving DecidableEq
def e_u32 (x : Int) : List Dat := [.int .u32 x]
/- croupier/exact.Small -/
def F99_L1 (d0 : Int) : Nat → Int → (List Int) → Option T_exact_Whole
  | 0, _, _ => none
  | n_F99_L1 + 1, v2, l4 =>
    bif decide (v2 > 0) then
      (Option.bind (app l4 [IntKind.u32.wrap (Int.tmod v2 1000000000)]) fun l5 =>
      (F99_L1 d0 n_F99_L1) (IntKind.u64.wrap (Int.tdiv v2 1000000000)) l5)
    else
      (some (⟨decide (d0 < 0), l4⟩ : T_exact_Whole))
def F99_L2 (d0 : Int) : Nat → Int → (List Int) → Option T_exact_Whole
  | 0, _, _ => none
  | n_F99_L2 + 1, v4, l9 =>
    bif decide (v4 > 0) then
      (Option.bind (app l9 [IntKind.u32.wrap (Int.tmod v4 1000000000)]) fun l10 =>
      (F99_L2 d0 n_F99_L2) (IntKind.u64.wrap (Int.tdiv v4 1000000000)) l10)
    else
      (some (⟨decide (d0 < 0), l9⟩ : T_exact_Whole))
def F99 (fuel : Nat) (d0 : Int) : Option T_exact_Whole :=
  bif decide (d0 < 0) then
    (F99_L1 d0 fuel (IntKind.u64.wrap (0 - (IntKind.u64.wrap d0))) [])
  else
    (F99_L2 d0 fuel (IntKind.u64.wrap d0) [])
theorem F99_ok {fuel : Nat} {d0 : Int} {r : T_exact_Whole} (hF : F99 fuel d0 = some r) :
    CallF Tryz.prog 99 [.d (.int .i64 d0)] (.agg [.d (.bool r.neg), .d (.sl 1 (r.mag.map e_u32))]) := by
  unfold F99 at hF
  refine callF_of (N := 27) (b := bodyOf Tryz.f99) Tryz.func99 (by kernel_rfl) rfl rfl ?_
  refine J_adv 24 (J_bool 11 (b := decide (d0 < 0)) (by kernel_rfl) (fun hb1 => ?_) (fun hb1 => ?_))
  · replace hF := ift hb1 hF
    have hF99_L1 : ∀ (n_F99_L1 : Nat) (v2 : Int) (l4 : List Int), F99_L1 d0 n_F99_L1 v2 l4 = some r → J none Tryz.prog 27 [] (finF Tryz.prog Tryz.f99 (.agg [.d (.bool r.neg), .d (.sl 1 (r.mag.map e_u32))])) ⟨mkT [(2, .ptr 2 0), (3, .ptr 3 0), (4, .d (.int .u64 v2))], [(2, .box 98 [.d (.bool false), .esl 1]), (3, .box 98 [.d (.bool (decide (d0 < 0))), .suf 24 0 0]), (24, .buf 0 167 1 (l4.map e_u32))], [.inLoop (cAt (bodyOf Tryz.f99) [1, 1, 1, 1, 0, 0, 0]), .inBlock 0, .code (cAt (bodyOf Tryz.f99) [1, 1, 1, 1, 1])]⟩ := by
      clear hF; intro n_F99_L1
      induction n_F99_L1 with
      | zero => intro v2 l4 hF; cases hF
      | succ n_F99_L1 ih_F99_L1 =>
        intro v2 l4 hF
        rw [F99_L1] at hF
        refine J_adv 7 (J_bool 15 (b := decide (v2 > 0)) (by kernel_rfl) (fun hb4 => ?_) (fun hb4 => ?_))
        · replace hF := ift hb4 hF
          obtain ⟨l5, e3, hF⟩ := bnd hF
          refine J_adv 11 (J_opt2 (o := app2 ((l4.map e_u32).drop 0) ([IntKind.u32.wrap (Int.tmod v2 1000000000)].map e_u32)) (l5.map e_u32) (by kernel_rfl) (am e3) ?_)
          exact J_adv 9 (J_at [2, 3, 4] [2, 3, 24] (T0 := [.inLoop (cAt (bodyOf Tryz.f99) [1, 1, 1, 1, 0, 0, 0]), .inBlock 0, .code (cAt (bodyOf Tryz.f99) [1, 1, 1, 1, 1])]) (by kernel_rfl) rfl (ih_F99_L1 (IntKind.u64.wrap (Int.tdiv v2 1000000000)) l5 hF))
        · replace hF := iff' hb4 hF
          have hr_ := Option.some.inj hF; subst hr_
          exact J_adv 7 (J_ret (xs := [.agg [.d (.bool (decide (d0 < 0))), .d (.sl 1 (l4.map e_u32))]]) [.agg [.d (.bool (decide (d0 < 0))), .d (.sl 1 (l4.map e_u32))]] rfl rfl (by kernel_rfl) (Res'.refl _) rfl)
    refine J_adv 9 (J_ownc (n := 1) 3 1 24 167 1 (by kernel_rfl) (by kernel_rfl) ?_)
    exact J_adv 0 (J_at [2, 3, 4] [2, 3, 24] (T0 := [.inLoop (cAt (bodyOf Tryz.f99) [1, 1, 1, 1, 0, 0, 0]), .inBlock 0, .code (cAt (bodyOf Tryz.f99) [1, 1, 1, 1, 1])]) (by kernel_rfl) rfl (hF99_L1 fuel (IntKind.u64.wrap (0 - (IntKind.u64.wrap d0))) [] hF))
  · replace hF := iff' hb1 hF
    have hF99_L2 : ∀ (n_F99_L2 : Nat) (v4 : Int) (l9 : List Int), F99_L2 d0 n_F99_L2 v4 l9 = some r → J none Tryz.prog 27 [] (finF Tryz.prog Tryz.f99 (.agg [.d (.bool r.neg), .d (.sl 1 (r.mag.map e_u32))])) ⟨mkT [(2, .ptr 2 0), (3, .ptr 3 0), (4, .d (.int .u64 v4))], [(2, .box 98 [.d (.bool false), .esl 1]), (3, .box 98 [.d (.bool (decide (d0 < 0))), .suf 24 0 0]), (24, .buf 0 167 1 (l9.map e_u32))], [.inLoop (cAt (bodyOf Tryz.f99) [1, 1, 1, 1, 0, 0, 0]), .inBlock 0, .code (cAt (bodyOf Tryz.f99) [1, 1, 1, 1, 1])]⟩ := by
      clear hF; intro n_F99_L2
      induction n_F99_L2 with
      | zero => intro v4 l9 hF; cases hF
      | succ n_F99_L2 ih_F99_L2 =>
        intro v4 l9 hF
        rw [F99_L2] at hF
        refine J_adv 7 (J_bool 15 (b := decide (v4 > 0)) (by kernel_rfl) (fun hb7 => ?_) (fun hb7 => ?_))
        · replace hF := ift hb7 hF
          obtain ⟨l10, e6, hF⟩ := bnd hF
          refine J_adv 11 (J_opt2 (o := app2 ((l9.map e_u32).drop 0) ([IntKind.u32.wrap (Int.tmod v4 1000000000)].map e_u32)) (l10.map e_u32) (by kernel_rfl) (am e6) ?_)
          exact J_adv 9 (J_at [2, 3, 4] [2, 3, 24] (T0 := [.inLoop (cAt (bodyOf Tryz.f99) [1, 1, 1, 1, 0, 0, 0]), .inBlock 0, .code (cAt (bodyOf Tryz.f99) [1, 1, 1, 1, 1])]) (by kernel_rfl) rfl (ih_F99_L2 (IntKind.u64.wrap (Int.tdiv v4 1000000000)) l10 hF))
        · replace hF := iff' hb7 hF
          have hr_ := Option.some.inj hF; subst hr_
          exact J_adv 7 (J_ret (xs := [.agg [.d (.bool (decide (d0 < 0))), .d (.sl 1 (l9.map e_u32))]]) [.agg [.d (.bool (decide (d0 < 0))), .d (.sl 1 (l9.map e_u32))]] rfl rfl (by kernel_rfl) (Res'.refl _) rfl)
    refine J_adv 5 (J_ownc (n := 1) 3 1 24 167 1 (by kernel_rfl) (by kernel_rfl) ?_)
    exact J_adv 0 (J_at [2, 3, 4] [2, 3, 24] (T0 := [.inLoop (cAt (bodyOf Tryz.f99) [1, 1, 1, 1, 0, 0, 0]), .inBlock 0, .code (cAt (bodyOf Tryz.f99) [1, 1, 1, 1, 1])]) (by kernel_rfl) rfl (hF99_L2 fuel (IntKind.u64.wrap d0) [] hF))
/- croupier/exact.whole -/
def F140_L1 (d0 : Bool) : Nat → (List Int) → Option T_exact_Whole
  | 0, _ => none
  | n_F140_L1 + 1, l4 =>
    Option.bind (
      bif decide (((l4.map e_u32).length : Int) > 0) then
        (Option.bind (geti l4 (IntKind.i64.wrap (((l4.map e_u32).length : Int) - 1))) fun y9 =>
        some (y9 == 0))
      else
        (some false)) fun o3 =>
    bif o3 then
      (Option.bind (slc l4 0 (IntKind.i64.wrap (((l4.map e_u32).length : Int) - 1))) fun l5 =>
      (F140_L1 d0 n_F140_L1) l5)
    else
      (Option.bind (
        bif d0 then
          (some (decide (((l4.map e_u32).length : Int) > 0)))
        else
          (some false)) fun o4 =>
      some (⟨o4, l4⟩ : T_exact_Whole))
def F140 (fuel : Nat) (d0 : Bool) (d1 : List Int) : Option T_exact_Whole :=
  F140_L1 d0 fuel d1
theorem F140_ok {fuel : Nat} {d0 : Bool} {d1 : List Int} {r : T_exact_Whole} (hF : F140 fuel d0 d1 = some r) :
    CallF Tryz.prog 140 [.d (.bool d0), .d (.sl 1 (d1.map e_u32))] (.agg [.d (.bool r.neg), .d (.sl 1 (r.mag.map e_u32))]) := by
  unfold F140 at hF
  refine callF_of (N := 30) (b := bodyOf Tryz.f140) Tryz.func140 (by kernel_rfl) rfl rfl ?_
  have hF140_L1 : ∀ (n_F140_L1 : Nat) (l4 : List Int), F140_L1 d0 n_F140_L1 l4 = some r → J none Tryz.prog 30 [] (finF Tryz.prog Tryz.f140 (.agg [.d (.bool r.neg), .d (.sl 1 (r.mag.map e_u32))])) ⟨mkT [(0, .d (.bool d0)), (1, .d (.sl 1 (l4.map e_u32))), (4, .ptr 4 0)], [(4, .box 98 [.d (.bool false), .esl 1])], [.inLoop (cAt (bodyOf Tryz.f140) [1, 0, 0, 0]), .inBlock 0, .code (cAt (bodyOf Tryz.f140) [1, 1])]⟩ := by
    clear hF; intro n_F140_L1
    induction n_F140_L1 with
    | zero => intro l4 hF; cases hF
    | succ n_F140_L1 ih_F140_L1 =>
      intro l4 hF
      rw [F140_L1] at hF
      obtain ⟨o3, hO, hF⟩ := bnd hF
      have hR3 : J none Tryz.prog 30 [] (finF Tryz.prog Tryz.f140 (.agg [.d (.bool r.neg), .d (.sl 1 (r.mag.map e_u32))])) ⟨mkT [(0, .d (.bool d0)), (1, .d (.sl 1 (l4.map e_u32))), (4, .ptr 4 0), (16, .d (.bool o3))], [(4, .box 98 [.d (.bool false), .esl 1])], [.ops (opsOf (cAt (bodyOf Tryz.f140) [1, 0, 0, 0, 0, 0])) [], .code (cAt (bodyOf Tryz.f140) [1, 0, 0, 0, 0, 1]), .code (cAt (bodyOf Tryz.f140) [1, 0, 0, 0, 1]), .inLoop (cAt (bodyOf Tryz.f140) [1, 0, 0, 0]), .inBlock 0, .code (cAt (bodyOf Tryz.f140) [1, 1])]⟩ := by
        clear hO
        refine J_adv 1 (J_bool 16 (b := o3) (by kernel_rfl) (fun hb11 => ?_) (fun hb11 => ?_))
        · replace hF := ift hb11 hF
          obtain ⟨l5, e11, hF⟩ := bnd hF
          refine J_adv 8 (J_opt2 (o := slc (l4.map e_u32) 0 (IntKind.i64.wrap (((l4.map e_u32).length : Int) - 1))) (l5.map e_u32) (by kernel_rfl) (sm e11) ?_)
          exact J_adv 3 (J_at [0, 1, 4] [4] (T0 := [.inLoop (cAt (bodyOf Tryz.f140) [1, 0, 0, 0]), .inBlock 0, .code (cAt (bodyOf Tryz.f140) [1, 1])]) (by kernel_rfl) rfl (ih_F140_L1 l5 hF))
        · replace hF := iff' hb11 hF
          obtain ⟨o4, hO, hF⟩ := bnd hF
          have hR4 : J none Tryz.prog 30 [] (finF Tryz.prog Tryz.f140 (.agg [.d (.bool r.neg), .d (.sl 1 (r.mag.map e_u32))])) ⟨mkT [(4, .ptr 4 0)], [(4, .box 98 [.d (.bool o4), .d (.sl 1 (l4.map e_u32))])], [.ops (opsOf (cAt (bodyOf Tryz.f140) [1, 1, 0])) [], .code (cAt (bodyOf Tryz.f140) [1, 1, 1])]⟩ := by
            clear hO
            have hr_ := Option.some.inj hF; subst hr_
            exact J_adv 1 (J_ret (xs := [.agg [.d (.bool o4), .d (.sl 1 (l4.map e_u32))]]) [.agg [.d (.bool o4), .d (.sl 1 (l4.map e_u32))]] rfl rfl (by kernel_rfl) (Res'.refl _) rfl)
          clear hF; rename _ = some o4 => hF
          refine J_adv 6 (J_bool 23 (b := d0) (by kernel_rfl) (fun hb14 => ?_) (fun hb14 => ?_))
          · replace hF := ift hb14 hF
            have hr_ := Option.some.inj hF; subst hr_
            exact J_adv 7 (J_at [4] [4] (T0 := [.ops (opsOf (cAt (bodyOf Tryz.f140) [1, 1, 0])) [], .code (cAt (bodyOf Tryz.f140) [1, 1, 1])]) (by kernel_rfl) rfl hR4)
          · replace hF := iff' hb14 hF
            have hr_ := Option.some.inj hF; subst hr_
            exact J_adv 7 (J_at [4] [4] (T0 := [.ops (opsOf (cAt (bodyOf Tryz.f140) [1, 1, 0])) [], .code (cAt (bodyOf Tryz.f140) [1, 1, 1])]) (by kernel_rfl) rfl hR4)
      clear hF; rename _ = some o3 => hF
      refine J_adv 8 (J_bool 8 (b := decide (((l4.map e_u32).length : Int) > 0)) (by kernel_rfl) (fun hb15 => ?_) (fun hb15 => ?_))
      · replace hF := ift hb15 hF
        obtain ⟨y9, e12, hF⟩ := bnd hF
        refine J_adv 4 (J_opt1 (o := geti (l4.map e_u32) (IntKind.i64.wrap (((l4.map e_u32).length : Int) - 1))) (e_u32 y9) (by kernel_rfl) (gm e12) ?_)
        have hr_ := Option.some.inj hF; subst hr_
        exact J_adv 3 (J_at [0, 1, 4, 16] [4] (T0 := [.ops (opsOf (cAt (bodyOf Tryz.f140) [1, 0, 0, 0, 0, 0])) [], .code (cAt (bodyOf Tryz.f140) [1, 0, 0, 0, 0, 1]), .code (cAt (bodyOf Tryz.f140) [1, 0, 0, 0, 1]), .inLoop (cAt (bodyOf Tryz.f140) [1, 0, 0, 0]), .inBlock 0, .code (cAt (bodyOf Tryz.f140) [1, 1])]) (by kernel_rfl) rfl hR3)
      · replace hF := iff' hb15 hF
        have hr_ := Option.some.inj hF; subst hr_
        exact J_adv 8 (J_at [0, 1, 4, 16] [4] (T0 := [.ops (opsOf (cAt (bodyOf Tryz.f140) [1, 0, 0, 0, 0, 0])) [], .code (cAt (bodyOf Tryz.f140) [1, 0, 0, 0, 0, 1]), .code (cAt (bodyOf Tryz.f140) [1, 0, 0, 0, 1]), .inLoop (cAt (bodyOf Tryz.f140) [1, 0, 0, 0]), .inBlock 0, .code (cAt (bodyOf Tryz.f140) [1, 1])]) (by kernel_rfl) rfl hR3)
  exact J_adv 7 (J_at [0, 1, 4] [4] (T0 := [.inLoop (cAt (bodyOf Tryz.f140) [1, 0, 0, 0]), .inBlock 0, .code (cAt (bodyOf Tryz.f140) [1, 1])]) (by kernel_rfl) rfl (hF140_L1 fuel d1 hF))
/- cmp.isNaN(int) -/
def F185 (d0 : Int) : Option Bool :=
  some (d0 != d0)
theorem F185_ok {d0 : Int} {r : Bool} (hF : F185 d0 = some r) :
    CallF Tryz.prog 185 [.d (.int .i64 d0)] (.d (.bool r)) := by
  unfold F185 at hF
  refine callF_of (N := 6) (b := bodyOf Tryz.f185) Tryz.func185 (by kernel_rfl) rfl rfl ?_
  have hr_ := Option.some.inj hF; subst hr_
  exact J_adv 11 (J_ret (xs := [.d (.bool (d0 != d0))]) [.d (.bool (d0 != d0))] rfl rfl (by kernel_rfl) (Res'.refl _) rfl)
/- cmp.Compare(int) -/
def F141 (d0 : Int) (d1 : Int) : Option Int :=
  Option.bind (F185 d0) fun y1 =>
  Option.bind (F185 d1) fun y2 =>
  bif y1 then
    (bif y2 then
      (some 0)
    else
      (some (-1)))
  else
    (bif y2 then
      (some 1)
    else
      (bif decide (d0 < d1) then
        (some (-1))
      else
        (bif decide (d0 > d1) then
          (some 1)
        else
          (some 0))))
theorem F141_ok {d0 : Int} {d1 : Int} {r : Int} (hF : F141 d0 d1 = some r) :
    CallF Tryz.prog 141 [.d (.int .i64 d0), .d (.int .i64 d1)] (.d (.int .i64 r)) := by
  unfold F141 at hF
  refine callF_of (N := 20) (b := bodyOf Tryz.f141) Tryz.func141 (by kernel_rfl) rfl rfl ?_
  obtain ⟨y1, e1, hF⟩ := bnd hF
  refine J_adv 7 (J_callF (xs := [.d (.int .i64 d0)]) [.d (.int .i64 d0)] (.d (.bool y1)) (by kernel_rfl) en185 (Res'.refl _) (F185_ok e1) ?_)
  obtain ⟨y2, e2, hF⟩ := bnd hF
  refine J_adv 5 (J_callF (xs := [.d (.int .i64 d1)]) [.d (.int .i64 d1)] (.d (.bool y2)) (by kernel_rfl) en185 (Res'.refl _) (F185_ok e2) ?_)
  refine J_adv 7 (J_bool 11 (b := y1) (by kernel_rfl) (fun hb1 => ?_) (fun hb1 => ?_))
  · replace hF := ift hb1 hF
    refine J_adv 6 (J_bool 12 (b := y2) (by kernel_rfl) (fun hb2 => ?_) (fun hb2 => ?_))
    · replace hF := ift hb2 hF
      have hr_ := Option.some.inj hF; subst hr_
      exact J_adv 5 (J_ret (xs := [.d (.int .i64 0)]) [.d (.int .i64 0)] rfl rfl (by kernel_rfl) (Res'.refl _) rfl)
    · replace hF := iff' hb2 hF
      have hr_ := Option.some.inj hF; subst hr_
      exact J_adv 6 (J_ret (xs := [.d (.int .i64 (-1))]) [.d (.int .i64 (-1))] rfl rfl (by kernel_rfl) (Res'.refl _) rfl)
  · replace hF := iff' hb1 hF
    refine J_adv 7 (J_bool 13 (b := y2) (by kernel_rfl) (fun hb3 => ?_) (fun hb3 => ?_))
    · replace hF := ift hb3 hF
      have hr_ := Option.some.inj hF; subst hr_
      exact J_adv 5 (J_ret (xs := [.d (.int .i64 1)]) [.d (.int .i64 1)] rfl rfl (by kernel_rfl) (Res'.refl _) rfl)
    · replace hF := iff' hb3 hF
      refine J_adv 9 (J_bool 16 (b := decide (d0 < d1)) (by kernel_rfl) (fun hb4 => ?_) (fun hb4 => ?_))
      · replace hF := ift hb4 hF
        have hr_ := Option.some.inj hF; subst hr_
        exact J_adv 5 (J_ret (xs := [.d (.int .i64 (-1))]) [.d (.int .i64 (-1))] rfl rfl (by kernel_rfl) (Res'.refl _) rfl)
      · replace hF := iff' hb4 hF
        refine J_adv 9 (J_bool 19 (b := decide (d0 > d1)) (by kernel_rfl) (fun hb5 => ?_) (fun hb5 => ?_))
        · replace hF := ift hb5 hF
          have hr_ := Option.some.inj hF; subst hr_
          exact J_adv 5 (J_ret (xs := [.d (.int .i64 1)]) [.d (.int .i64 1)] rfl rfl (by kernel_rfl) (Res'.refl _) rfl)
        · replace hF := iff' hb5 hF
          have hr_ := Option.some.inj hF; subst hr_
          exact J_adv 6 (J_ret (xs := [.d (.int .i64 0)]) [.d (.int .i64 0)] rfl rfl (by kernel_rfl) (Res'.refl _) rfl)
/- cmp.isNaN(uint32) -/
def F233 (d0 : Int) : Option Bool :=
  some (d0 != d0)
theorem F233_ok {d0 : Int} {r : Bool} (hF : F233 d0 = some r) :
    CallF Tryz.prog 233 [.d (.int .u32 d0)] (.d (.bool r)) := by
  unfold F233 at hF
  refine callF_of (N := 6) (b := bodyOf Tryz.f233) Tryz.func233 (by kernel_rfl) rfl rfl ?_
  have hr_ := Option.some.inj hF; subst hr_
  exact J_adv 11 (J_ret (xs := [.d (.bool (d0 != d0))]) [.d (.bool (d0 != d0))] rfl rfl (by kernel_rfl) (Res'.refl _) rfl)
/- cmp.Compare(uint32) -/
def F186 (d0 : Int) (d1 : Int) : Option Int :=
  Option.bind (F233 d0) fun y1 =>
  Option.bind (F233 d1) fun y2 =>
  bif y1 then
    (bif y2 then
      (some 0)
    else
      (some (-1)))
  else
    (bif y2 then
      (some 1)
    else
      (bif decide (d0 < d1) then
        (some (-1))
      else
        (bif decide (d0 > d1) then
          (some 1)
        else
          (some 0))))
theorem F186_ok {d0 : Int} {d1 : Int} {r : Int} (hF : F186 d0 d1 = some r) :
    CallF Tryz.prog 186 [.d (.int .u32 d0), .d (.int .u32 d1)] (.d (.int .i64 r)) := by
  unfold F186 at hF
  refine callF_of (N := 20) (b := bodyOf Tryz.f186) Tryz.func186 (by kernel_rfl) rfl rfl ?_
  obtain ⟨y1, e1, hF⟩ := bnd hF
  refine J_adv 7 (J_callF (xs := [.d (.int .u32 d0)]) [.d (.int .u32 d0)] (.d (.bool y1)) (by kernel_rfl) en233 (Res'.refl _) (F233_ok e1) ?_)
  obtain ⟨y2, e2, hF⟩ := bnd hF
  refine J_adv 5 (J_callF (xs := [.d (.int .u32 d1)]) [.d (.int .u32 d1)] (.d (.bool y2)) (by kernel_rfl) en233 (Res'.refl _) (F233_ok e2) ?_)
  refine J_adv 7 (J_bool 11 (b := y1) (by kernel_rfl) (fun hb1 => ?_) (fun hb1 => ?_))
  · replace hF := ift hb1 hF
    refine J_adv 6 (J_bool 12 (b := y2) (by kernel_rfl) (fun hb2 => ?_) (fun hb2 => ?_))
    · replace hF := ift hb2 hF
      have hr_ := Option.some.inj hF; subst hr_
      exact J_adv 5 (J_ret (xs := [.d (.int .i64 0)]) [.d (.int .i64 0)] rfl rfl (by kernel_rfl) (Res'.refl _) rfl)
    · replace hF := iff' hb2 hF
      have hr_ := Option.some.inj hF; subst hr_
      exact J_adv 6 (J_ret (xs := [.d (.int .i64 (-1))]) [.d (.int .i64 (-1))] rfl rfl (by kernel_rfl) (Res'.refl _) rfl)
  · replace hF := iff' hb1 hF
    refine J_adv 7 (J_bool 13 (b := y2) (by kernel_rfl) (fun hb3 => ?_) (fun hb3 => ?_))
    · replace hF := ift hb3 hF
      have hr_ := Option.some.inj hF; subst hr_
      exact J_adv 5 (J_ret (xs := [.d (.int .i64 1)]) [.d (.int .i64 1)] rfl rfl (by kernel_rfl) (Res'.refl _) rfl)
    · replace hF := iff' hb3 hF
      refine J_adv 9 (J_bool 16 (b := decide (d0 < d1)) (by kernel_rfl) (fun hb4 => ?_) (fun hb4 => ?_))
      · replace hF := ift hb4 hF
        have hr_ := Option.some.inj hF; subst hr_
        exact J_adv 5 (J_ret (xs := [.d (.int .i64 (-1))]) [.d (.int .i64 (-1))] rfl rfl (by kernel_rfl) (Res'.refl _) rfl)
      · replace hF := iff' hb4 hF
        refine J_adv 9 (J_bool 19 (b := decide (d0 > d1)) (by kernel_rfl) (fun hb5 => ?_) (fun hb5 => ?_))
        · replace hF := ift hb5 hF
          have hr_ := Option.some.inj hF; subst hr_
          exact J_adv 5 (J_ret (xs := [.d (.int .i64 1)]) [.d (.int .i64 1)] rfl rfl (by kernel_rfl) (Res'.refl _) rfl)
        · replace hF := iff' hb5 hF
          have hr_ := Option.some.inj hF; subst hr_
          exact J_adv 6 (J_ret (xs := [.d (.int .i64 0)]) [.d (.int .i64 0)] rfl rfl (by kernel_rfl) (Res'.refl _) rfl)
/- (croupier/exact.limbs).compare -/
def F142_L1 (d0 : List Int) (d1 : List Int) : Nat → Int → Option Int
  | 0, _ => none
  | n_F142_L1 + 1, v2 =>
    bif decide (v2 ≥ 0) then
      (Option.bind (geti d0 v2) fun y8 =>
      Option.bind (geti d1 v2) fun y9 =>
      Option.bind (F186 y8 y9) fun y10 =>
      bif y10 != 0 then
        (some y10)
      else
        ((F142_L1 d0 d1 n_F142_L1) (IntKind.i64.wrap (v2 - 1))))
    else
      (some 0)
def F142 (fuel : Nat) (d0 : List Int) (d1 : List Int) : Option Int :=
  Option.bind (F141 ((d0.map e_u32).length : Int) ((d1.map e_u32).length : Int)) fun y1 =>
  bif y1 != 0 then
    (some y1)
  else
    (F142_L1 d0 d1 fuel (IntKind.i64.wrap (((d0.map e_u32).length : Int) - 1)))
theorem F142_ok {fuel : Nat} {d0 : List Int} {d1 : List Int} {r : Int} (hF : F142 fuel d0 d1 = some r) :
    CallF Tryz.prog 142 [.d (.sl 1 (d0.map e_u32)), .d (.sl 1 (d1.map e_u32))] (.d (.int .i64 r)) := by
  unfold F142 at hF
  refine callF_of (N := 35) (b := bodyOf Tryz.f142) Tryz.func142 (by kernel_rfl) rfl rfl ?_
  obtain ⟨y1, e1, hF⟩ := bnd hF
  refine J_adv 11 (J_callF (xs := [.d (.int .i64 ((d0.map e_u32).length : Int)), .d (.int .i64 ((d1.map e_u32).length : Int))]) [.d (.int .i64 ((d0.map e_u32).length : Int)), .d (.int .i64 ((d1.map e_u32).length : Int))] (.d (.int .i64 y1)) (by kernel_rfl) en141 (Res'.refl _) (F141_ok e1) ?_)
  refine J_adv 7 (J_bool 14 (b := y1 != 0) (by kernel_rfl) (fun hb1 => ?_) (fun hb1 => ?_))
  · replace hF := ift hb1 hF
    have hr_ := Option.some.inj hF; subst hr_
    exact J_adv 6 (J_ret (xs := [.d (.int .i64 y1)]) [.d (.int .i64 y1)] rfl rfl (by kernel_rfl) (Res'.refl _) rfl)
  · replace hF := iff' hb1 hF
    have hF142_L1 : ∀ (n_F142_L1 : Nat) (v2 : Int), F142_L1 d0 d1 n_F142_L1 v2 = some r → J none Tryz.prog 35 [] (finF Tryz.prog Tryz.f142 (.d (.int .i64 r))) ⟨mkT [(0, .d (.sl 1 (d0.map e_u32))), (1, .d (.sl 1 (d1.map e_u32))), (6, .d (.int .i64 v2))], [], [.inLoop (cAt (bodyOf Tryz.f142) [1, 1, 0, 1, 0, 0]), .inBlock 0, .code (cAt (bodyOf Tryz.f142) [1, 1, 1])]⟩ := by
      clear hF; intro n_F142_L1
      induction n_F142_L1 with
      | zero => intro v2 hF; cases hF
      | succ n_F142_L1 ih_F142_L1 =>
        intro v2 hF
        rw [F142_L1] at hF
        refine J_adv 7 (J_bool 20 (b := decide (v2 ≥ 0)) (by kernel_rfl) (fun hb6 => ?_) (fun hb6 => ?_))
        · replace hF := ift hb6 hF
          refine J_adv 5 (J_draw (by kernel_rfl) (by kernel_rfl) ?_)
          obtain ⟨y8, e8, hF⟩ := bnd hF
          refine JD_adv 2 (JD_opt1 (o := geti (d0.map e_u32) v2) (e_u32 y8) (by kernel_rfl) (by kernel_rfl) (gm e8) ?_)
          obtain ⟨y9, e9, hF⟩ := bnd hF
          refine JD_adv 3 (JD_opt1 (o := geti (d1.map e_u32) v2) (e_u32 y9) (by kernel_rfl) (by kernel_rfl) (gm e9) ?_)
          obtain ⟨y10, e10, hF⟩ := bnd hF
          refine JD_adv 1 (JD_callF (xs := [.d (.int .u32 y8), .d (.int .u32 y9)]) [.d (.int .u32 y8), .d (.int .u32 y9)] (.d (.int .i64 y10)) (by kernel_rfl) (by kernel_rfl) en186 (Res'.refl _) (F186_ok e10) ?_)
          refine JD_adv 1 (JD_end (by kernel_rfl) ?_)
          refine J_adv 5 (J_bool 33 (b := y10 != 0) (by kernel_rfl) (fun hb7 => ?_) (fun hb7 => ?_))
          · replace hF := ift hb7 hF
            have hr_ := Option.some.inj hF; subst hr_
            exact J_adv 6 (J_ret (xs := [.d (.int .i64 y10)]) [.d (.int .i64 y10)] rfl rfl (by kernel_rfl) (Res'.refl _) rfl)
          · replace hF := iff' hb7 hF
            exact J_adv 8 (J_at [0, 1, 6] [] (T0 := [.inLoop (cAt (bodyOf Tryz.f142) [1, 1, 0, 1, 0, 0]), .inBlock 0, .code (cAt (bodyOf Tryz.f142) [1, 1, 1])]) (by kernel_rfl) rfl (ih_F142_L1 (IntKind.i64.wrap (v2 - 1)) hF))
        · replace hF := iff' hb6 hF
          have hr_ := Option.some.inj hF; subst hr_
          exact J_adv 6 (J_ret (xs := [.d (.int .i64 0)]) [.d (.int .i64 0)] rfl rfl (by kernel_rfl) (Res'.refl _) rfl)
    exact J_adv 12 (J_at [0, 1, 6] [] (T0 := [.inLoop (cAt (bodyOf Tryz.f142) [1, 1, 0, 1, 0, 0]), .inBlock 0, .code (cAt (bodyOf Tryz.f142) [1, 1, 1])]) (by kernel_rfl) rfl (hF142_L1 fuel (IntKind.i64.wrap (((d0.map e_u32).length : Int) - 1)) hF))
/- (croupier/exact.Whole).Neg -/
def F143 (fuel : Nat) (d0 : T_exact_Whole) : Option T_exact_Whole :=
  Option.bind (F140 fuel (!d0.neg) d0.mag) fun y1 =>
  some y1
theorem F143_ok {fuel : Nat} {d0 : T_exact_Whole} {r : T_exact_Whole} (hF : F143 fuel d0 = some r) :
    CallF Tryz.prog 143 [.agg [.d (.bool d0.neg), .d (.sl 1 (d0.mag.map e_u32))]] (.agg [.d (.bool r.neg), .d (.sl 1 (r.mag.map e_u32))]) := by
  unfold F143 at hF
  refine callF_of (N := 9) (b := bodyOf Tryz.f143) Tryz.func143 (by kernel_rfl) rfl rfl ?_
  obtain ⟨y1, e1, hF⟩ := bnd hF
  refine J_adv 12 (J_callF (xs := [.d (.bool (!d0.neg)), .d (.sl 1 (d0.mag.map e_u32))]) [.d (.bool (!d0.neg)), .d (.sl 1 (d0.mag.map e_u32))] (.agg [.d (.bool y1.neg), .d (.sl 1 (y1.mag.map e_u32))]) (by kernel_rfl) en140 (Res'.refl _) (F140_ok e1) ?_)
  have hr_ := Option.some.inj hF; subst hr_
  exact J_adv 2 (J_ret (xs := [.agg [.d (.bool y1.neg), .d (.sl 1 (y1.mag.map e_u32))]]) [.agg [.d (.bool y1.neg), .d (.sl 1 (y1.mag.map e_u32))]] rfl rfl (by kernel_rfl) (Res'.refl _) rfl)
/- (croupier/exact.Whole).Sign -/
def F100 (d0 : T_exact_Whole) : Option Int :=
  bif ((d0.mag.map e_u32).length : Int) == 0 then
    (some 0)
  else
    (bif d0.neg then
      (some (-1))
    else
      (some 1))
theorem F100_ok {d0 : T_exact_Whole} {r : Int} (hF : F100 d0 = some r) :
    CallF Tryz.prog 100 [.agg [.d (.bool d0.neg), .d (.sl 1 (d0.mag.map e_u32))]] (.d (.int .i64 r)) := by
  unfold F100 at hF
  refine callF_of (N := 11) (b := bodyOf Tryz.f100) Tryz.func100 (by kernel_rfl) rfl rfl ?_
  refine J_adv 15 (J_bool 3 (b := ((d0.mag.map e_u32).length : Int) == 0) (by kernel_rfl) (fun hb1 => ?_) (fun hb1 => ?_))
  · replace hF := ift hb1 hF
    have hr_ := Option.some.inj hF; subst hr_
    exact J_adv 5 (J_ret (xs := [.d (.int .i64 0)]) [.d (.int .i64 0)] rfl rfl (by kernel_rfl) (Res'.refl _) rfl)
  · replace hF := iff' hb1 hF
    refine J_adv 7 (J_bool 8 (b := d0.neg) (by kernel_rfl) (fun hb2 => ?_) (fun hb2 => ?_))
    · replace hF := ift hb2 hF
      have hr_ := Option.some.inj hF; subst hr_
      exact J_adv 5 (J_ret (xs := [.d (.int .i64 (-1))]) [.d (.int .i64 (-1))] rfl rfl (by kernel_rfl) (Res'.refl _) rfl)
    · replace hF := iff' hb2 hF
      have hr_ := Option.some.inj hF; subst hr_
      exact J_adv 7 (J_ret (xs := [.d (.int .i64 1)]) [.d (.int .i64 1)] rfl rfl (by kernel_rfl) (Res'.refl _) rfl)
/- (croupier/exact.Whole).Cmp -/
def F102 (fuel : Nat) (d0 : T_exact_Whole) (d1 : T_exact_Whole) : Option Int :=
  Option.bind (F100 d0) fun y1 =>
  Option.bind (F100 d1) fun y2 =>
  Option.bind (F141 y1 y2) fun y3 =>
  Option.bind (
    bif y3 != 0 then
      (some true)
    else
      (some (((d0.mag.map e_u32).length : Int) == 0))) fun o1 =>
  bif o1 then
    (some y3)
  else
    (bif d0.neg then
      (Option.bind (F142 fuel d1.mag d0.mag) fun y4 =>
      some y4)
    else
      (Option.bind (F142 fuel d0.mag d1.mag) fun y5 =>
      some y5))
theorem F102_ok {fuel : Nat} {d0 : T_exact_Whole} {d1 : T_exact_Whole} {r : Int} (hF : F102 fuel d0 d1 = some r) :
    CallF Tryz.prog 102 [.agg [.d (.bool d0.neg), .d (.sl 1 (d0.mag.map e_u32))], .agg [.d (.bool d1.neg), .d (.sl 1 (d1.mag.map e_u32))]] (.d (.int .i64 r)) := by
  unfold F102 at hF
  refine callF_of (N := 32) (b := bodyOf Tryz.f102) Tryz.func102 (by kernel_rfl) rfl rfl ?_
  refine J_adv 8 (J_draw (by kernel_rfl) (by kernel_rfl) ?_)
  obtain ⟨y1, e1, hF⟩ := bnd hF
  refine JD_adv 1 (JD_callF (xs := [.agg [.d (.bool d0.neg), .d (.sl 1 (d0.mag.map e_u32))]]) [.agg [.d (.bool d0.neg), .d (.sl 1 (d0.mag.map e_u32))]] (.d (.int .i64 y1)) (by kernel_rfl) (by kernel_rfl) en100 (Res'.refl _) (F100_ok e1) ?_)
  obtain ⟨y2, e2, hF⟩ := bnd hF
  refine JD_adv 1 (JD_callF (xs := [.agg [.d (.bool d1.neg), .d (.sl 1 (d1.mag.map e_u32))]]) [.agg [.d (.bool d1.neg), .d (.sl 1 (d1.mag.map e_u32))]] (.d (.int .i64 y2)) (by kernel_rfl) (by kernel_rfl) en100 (Res'.refl _) (F100_ok e2) ?_)
  obtain ⟨y3, e3, hF⟩ := bnd hF
  refine JD_adv 0 (JD_callF (xs := [.d (.int .i64 y1), .d (.int .i64 y2)]) [.d (.int .i64 y1), .d (.int .i64 y2)] (.d (.int .i64 y3)) (by kernel_rfl) (by kernel_rfl) en141 (Res'.refl _) (F141_ok e3) ?_)
  refine JD_adv 1 (JD_end (by kernel_rfl) ?_)
  obtain ⟨o1, hO, hF⟩ := bnd hF
  have hR1 : J none Tryz.prog 32 [] (finF Tryz.prog Tryz.f102 (.d (.int .i64 r))) ⟨mkT [(2, .ptr 2 0), (3, .ptr 3 0), (5, .d (.int .i64 y3)), (18, .d (.bool o1))], [(2, .box 98 [.d (.bool d0.neg), .d (.sl 1 (d0.mag.map e_u32))]), (3, .box 98 [.d (.bool d1.neg), .d (.sl 1 (d1.mag.map e_u32))])], [.ops (opsOf (cAt (bodyOf Tryz.f102) [1, 0, 1, 0])) [], .code (cAt (bodyOf Tryz.f102) [1, 0, 1, 1]), .code (cAt (bodyOf Tryz.f102) [1, 1])]⟩ := by
    clear hO
    refine J_adv 1 (J_bool 18 (b := o1) (by kernel_rfl) (fun hb3 => ?_) (fun hb3 => ?_))
    · replace hF := ift hb3 hF
      have hr_ := Option.some.inj hF; subst hr_
      exact J_adv 6 (J_ret (xs := [.d (.int .i64 y3)]) [.d (.int .i64 y3)] rfl rfl (by kernel_rfl) (Res'.refl _) rfl)
    · replace hF := iff' hb3 hF
      refine J_adv 8 (J_bool 21 (b := d0.neg) (by kernel_rfl) (fun hb4 => ?_) (fun hb4 => ?_))
      · replace hF := ift hb4 hF
        obtain ⟨y4, e4, hF⟩ := bnd hF
        refine J_adv 7 (J_callF (xs := [.d (.sl 1 (d1.mag.map e_u32)), .d (.sl 1 (d0.mag.map e_u32))]) [.d (.sl 1 (d1.mag.map e_u32)), .d (.sl 1 (d0.mag.map e_u32))] (.d (.int .i64 y4)) (by kernel_rfl) en142 (Res'.refl _) (F142_ok e4) ?_)
        have hr_ := Option.some.inj hF; subst hr_
        exact J_adv 2 (J_ret (xs := [.d (.int .i64 y4)]) [.d (.int .i64 y4)] rfl rfl (by kernel_rfl) (Res'.refl _) rfl)
      · replace hF := iff' hb4 hF
        obtain ⟨y5, e5, hF⟩ := bnd hF
        refine J_adv 8 (J_callF (xs := [.d (.sl 1 (d0.mag.map e_u32)), .d (.sl 1 (d1.mag.map e_u32))]) [.d (.sl 1 (d0.mag.map e_u32)), .d (.sl 1 (d1.mag.map e_u32))] (.d (.int .i64 y5)) (by kernel_rfl) en142 (Res'.refl _) (F142_ok e5) ?_)
        have hr_ := Option.some.inj hF; subst hr_
        exact J_adv 2 (J_ret (xs := [.d (.int .i64 y5)]) [.d (.int .i64 y5)] rfl rfl (by kernel_rfl) (Res'.refl _) rfl)
  clear hF; rename _ = some o1 => hF
  refine J_adv 5 (J_bool 13 (b := y3 != 0) (by kernel_rfl) (fun hb5 => ?_) (fun hb5 => ?_))
  · replace hF := ift hb5 hF
    have hr_ := Option.some.inj hF; subst hr_
    exact J_adv 5 (J_at [2, 3, 5, 18] [2, 3] (T0 := [.ops (opsOf (cAt (bodyOf Tryz.f102) [1, 0, 1, 0])) [], .code (cAt (bodyOf Tryz.f102) [1, 0, 1, 1]), .code (cAt (bodyOf Tryz.f102) [1, 1])]) (by kernel_rfl) rfl hR1)
  · replace hF := iff' hb5 hF
    have hr_ := Option.some.inj hF; subst hr_
    exact J_adv 5 (J_at [2, 3, 5, 18] [2, 3] (T0 := [.ops (opsOf (cAt (bodyOf Tryz.f102) [1, 0, 1, 0])) [], .code (cAt (bodyOf Tryz.f102) [1, 0, 1, 1]), .code (cAt (bodyOf Tryz.f102) [1, 1])]) (by kernel_rfl) rfl hR1)
/- (croupier/exact.limbs).plus -/
def F145_L1 (d0 : List Int) (d1 : List Int) : Nat → Int → Int → (List Int) → Option (List Int)
  | 0, _, _, _ => none
  | n_F145_L1 + 1, v3, v4, l7 =>
    bif decide (v4 < ((d1.map e_u32).length : Int)) then
      (Option.bind (geti d1 v4) fun y5 =>
      bif decide (v4 < ((d0.map e_u32).length : Int)) then
        (Option.bind (geti d0 v4) fun y6 =>
        Option.bind (app l7 [Int.tmod (IntKind.u32.wrap ((IntKind.u32.wrap (y5 + v3)) + y6)) 1000000000]) fun l8 =>
        (F145_L1 d0 d1 n_F145_L1) (IntKind.u32.wrap (Int.tdiv (IntKind.u32.wrap ((IntKind.u32.wrap (y5 + v3)) + y6)) 1000000000)) (IntKind.i64.wrap (v4 + 1)) l8)
      else
        (Option.bind (app l7 [Int.tmod (IntKind.u32.wrap (y5 + v3)) 1000000000]) fun l9 =>
        (F145_L1 d0 d1 n_F145_L1) (IntKind.u32.wrap (Int.tdiv (IntKind.u32.wrap (y5 + v3)) 1000000000)) (IntKind.i64.wrap (v4 + 1)) l9))
    else
      (bif decide (v3 > 0) then
        (Option.bind (app l7 [v3]) fun l10 =>
        some l10)
      else
        (some l7))
def F145_L2 (d0 : List Int) (d1 : List Int) : Nat → Int → Int → (List Int) → Option (List Int)
  | 0, _, _, _ => none
  | n_F145_L2 + 1, v7, v8, l17 =>
    bif decide (v8 < ((d0.map e_u32).length : Int)) then
      (Option.bind (geti d0 v8) fun y11 =>
      bif decide (v8 < ((d1.map e_u32).length : Int)) then
        (Option.bind (geti d1 v8) fun y12 =>
        Option.bind (app l17 [Int.tmod (IntKind.u32.wrap ((IntKind.u32.wrap (y11 + v7)) + y12)) 1000000000]) fun l18 =>
        (F145_L2 d0 d1 n_F145_L2) (IntKind.u32.wrap (Int.tdiv (IntKind.u32.wrap ((IntKind.u32.wrap (y11 + v7)) + y12)) 1000000000)) (IntKind.i64.wrap (v8 + 1)) l18)
      else
        (Option.bind (app l17 [Int.tmod (IntKind.u32.wrap (y11 + v7)) 1000000000]) fun l19 =>
        (F145_L2 d0 d1 n_F145_L2) (IntKind.u32.wrap (Int.tdiv (IntKind.u32.wrap (y11 + v7)) 1000000000)) (IntKind.i64.wrap (v8 + 1)) l19))
    else
      (bif decide (v7 > 0) then
        (Option.bind (app l17 [v7]) fun l20 =>
        some l20)
      else
        (some l17))
def F145 (fuel : Nat) (d0 : List Int) (d1 : List Int) : Option (List Int) :=
  bif decide (((d0.map e_u32).length : Int) < ((d1.map e_u32).length : Int)) then
    (Option.bind (mkL 0 (IntKind.i64.wrap (((d1.map e_u32).length : Int) + 1)) 0) fun l1 =>
    F145_L1 d0 d1 fuel 0 0 l1)
  else
    (Option.bind (mkL 0 (IntKind.i64.wrap (((d0.map e_u32).length : Int) + 1)) 0) fun l11 =>
    F145_L2 d0 d1 fuel 0 0 l11)
theorem F145_ok {fuel : Nat} {d0 : List Int} {d1 : List Int} {r : List Int} (hF : F145 fuel d0 d1 = some r) :
    CallF Tryz.prog 145 [.d (.sl 1 (d0.map e_u32)), .d (.sl 1 (d1.map e_u32))] (.d (.sl 1 (r.map e_u32))) := by
  unfold F145 at hF
  refine callF_of (N := 56) (b := bodyOf Tryz.f145) Tryz.func145 (by kernel_rfl) rfl rfl ?_
  refine J_adv 13 (J_bool 14 (b := decide (((d0.map e_u32).length : Int) < ((d1.map e_u32).length : Int))) (by kernel_rfl) (fun hb1 => ?_) (fun hb1 => ?_))
  · replace hF := ift hb1 hF
    obtain ⟨l1, e1, hF⟩ := bnd hF
    refine J_adv 12 (J_opt2 (o := mk2 0 (IntKind.i64.wrap (((d1.map e_u32).length : Int) + 1)) (e_u32 0)) (l1.map e_u32) (by kernel_rfl) (mm e1) ?_)
    have hF145_L1 : ∀ (n_F145_L1 : Nat) (v3 : Int) (v4 : Int) (l7 : List Int), F145_L1 d0 d1 n_F145_L1 v3 v4 l7 = some r → J none Tryz.prog 56 [] (finF Tryz.prog Tryz.f145 (.d (.sl 1 (r.map e_u32)))) ⟨mkT [(1, .d (.sl 1 (d0.map e_u32))), (5, .suf 20 0 0), (6, .d (.int .u32 v3)), (21, .d (.sl 1 (d1.map e_u32))), (22, .d (.int .i64 ((d1.map e_u32).length : Int))), (23, .d (.int .i64 v4))], [(20, .buf 0 167 1 (l7.map e_u32))], [.inLoop (cAt (bodyOf Tryz.f145) [1, 1, 1, 1, 0, 1, 0, 0]), .inBlock 0, .code (cAt (bodyOf Tryz.f145) [1, 1, 1, 1, 1])]⟩ := by
      clear hF; intro n_F145_L1
      induction n_F145_L1 with
      | zero => intro v3 v4 l7 hF; cases hF
      | succ n_F145_L1 ih_F145_L1 =>
        intro v3 v4 l7 hF
        rw [F145_L1] at hF
        refine J_adv 6 (J_bool 24 (b := decide (v4 < ((d1.map e_u32).length : Int))) (by kernel_rfl) (fun hb6 => ?_) (fun hb6 => ?_))
        · replace hF := ift hb6 hF
          obtain ⟨y5, e10, hF⟩ := bnd hF
          refine J_adv 7 (J_opt1 (o := geti (d1.map e_u32) v4) (e_u32 y5) (by kernel_rfl) (gm e10) ?_)
          refine J_adv 19 (J_bool 34 (b := decide (v4 < ((d0.map e_u32).length : Int))) (by kernel_rfl) (fun hb7 => ?_) (fun hb7 => ?_))
          · replace hF := ift hb7 hF
            obtain ⟨y6, e11, hF⟩ := bnd hF
            refine J_adv 5 (J_opt1 (o := geti (d0.map e_u32) v4) (e_u32 y6) (by kernel_rfl) (gm e11) ?_)
            obtain ⟨l8, e12, hF⟩ := bnd hF
            refine J_adv 15 (J_opt2 (o := app2 ((l7.map e_u32).drop 0) ([Int.tmod (IntKind.u32.wrap ((IntKind.u32.wrap (y5 + v3)) + y6)) 1000000000].map e_u32)) (l8.map e_u32) (by kernel_rfl) (am e12) ?_)
            exact J_adv 7 (J_at [1, 5, 6, 21, 22, 23] [20] (T0 := [.inLoop (cAt (bodyOf Tryz.f145) [1, 1, 1, 1, 0, 1, 0, 0]), .inBlock 0, .code (cAt (bodyOf Tryz.f145) [1, 1, 1, 1, 1])]) (by kernel_rfl) rfl (ih_F145_L1 (IntKind.u32.wrap (Int.tdiv (IntKind.u32.wrap ((IntKind.u32.wrap (y5 + v3)) + y6)) 1000000000)) (IntKind.i64.wrap (v4 + 1)) l8 hF))
          · replace hF := iff' hb7 hF
            obtain ⟨l9, e13, hF⟩ := bnd hF
            refine J_adv 13 (J_opt2 (o := app2 ((l7.map e_u32).drop 0) ([Int.tmod (IntKind.u32.wrap (y5 + v3)) 1000000000].map e_u32)) (l9.map e_u32) (by kernel_rfl) (am e13) ?_)
            exact J_adv 7 (J_at [1, 5, 6, 21, 22, 23] [20] (T0 := [.inLoop (cAt (bodyOf Tryz.f145) [1, 1, 1, 1, 0, 1, 0, 0]), .inBlock 0, .code (cAt (bodyOf Tryz.f145) [1, 1, 1, 1, 1])]) (by kernel_rfl) rfl (ih_F145_L1 (IntKind.u32.wrap (Int.tdiv (IntKind.u32.wrap (y5 + v3)) 1000000000)) (IntKind.i64.wrap (v4 + 1)) l9 hF))
        · replace hF := iff' hb6 hF
          refine J_adv 8 (J_bool 50 (b := decide (v3 > 0)) (by kernel_rfl) (fun hb8 => ?_) (fun hb8 => ?_))
          · replace hF := ift hb8 hF
            obtain ⟨l10, e14, hF⟩ := bnd hF
            refine J_adv 5 (J_opt2 (o := app2 ((l7.map e_u32).drop 0) ([v3].map e_u32)) (l10.map e_u32) (by kernel_rfl) (am e14) ?_)
            have hr_ := Option.some.inj hF; subst hr_
            exact J_adv 7 (J_ret (xs := [.d (.sl 1 (l10.map e_u32))]) [.d (.sl 1 (l10.map e_u32))] rfl rfl (by kernel_rfl) (Res'.refl _) rfl)
          · replace hF := iff' hb8 hF
            have hr_ := Option.some.inj hF; subst hr_
            exact J_adv 7 (J_ret (xs := [.d (.sl 1 (l7.map e_u32))]) [.d (.sl 1 (l7.map e_u32))] rfl rfl (by kernel_rfl) (Res'.refl _) rfl)
    exact J_adv 15 (J_at [1, 5, 6, 21, 22, 23] [20] (T0 := [.inLoop (cAt (bodyOf Tryz.f145) [1, 1, 1, 1, 0, 1, 0, 0]), .inBlock 0, .code (cAt (bodyOf Tryz.f145) [1, 1, 1, 1, 1])]) (by kernel_rfl) rfl (hF145_L1 fuel 0 0 l1 hF))
  · replace hF := iff' hb1 hF
    obtain ⟨l11, e15, hF⟩ := bnd hF
    refine J_adv 7 (J_opt2 (o := mk2 0 (IntKind.i64.wrap (((d0.map e_u32).length : Int) + 1)) (e_u32 0)) (l11.map e_u32) (by kernel_rfl) (mm e15) ?_)
    have hF145_L2 : ∀ (n_F145_L2 : Nat) (v7 : Int) (v8 : Int) (l17 : List Int), F145_L2 d0 d1 n_F145_L2 v7 v8 l17 = some r → J none Tryz.prog 56 [] (finF Tryz.prog Tryz.f145 (.d (.sl 1 (r.map e_u32)))) ⟨mkT [(1, .d (.sl 1 (d1.map e_u32))), (5, .suf 20 0 0), (6, .d (.int .u32 v7)), (21, .d (.sl 1 (d0.map e_u32))), (22, .d (.int .i64 ((d0.map e_u32).length : Int))), (23, .d (.int .i64 v8))], [(20, .buf 0 167 1 (l17.map e_u32))], [.inLoop (cAt (bodyOf Tryz.f145) [1, 1, 1, 1, 0, 1, 0, 0]), .inBlock 0, .code (cAt (bodyOf Tryz.f145) [1, 1, 1, 1, 1])]⟩ := by
      clear hF; intro n_F145_L2
      induction n_F145_L2 with
      | zero => intro v7 v8 l17 hF; cases hF
      | succ n_F145_L2 ih_F145_L2 =>
        intro v7 v8 l17 hF
        rw [F145_L2] at hF
        refine J_adv 6 (J_bool 24 (b := decide (v8 < ((d0.map e_u32).length : Int))) (by kernel_rfl) (fun hb13 => ?_) (fun hb13 => ?_))
        · replace hF := ift hb13 hF
          obtain ⟨y11, e24, hF⟩ := bnd hF
          refine J_adv 7 (J_opt1 (o := geti (d0.map e_u32) v8) (e_u32 y11) (by kernel_rfl) (gm e24) ?_)
          refine J_adv 19 (J_bool 34 (b := decide (v8 < ((d1.map e_u32).length : Int))) (by kernel_rfl) (fun hb14 => ?_) (fun hb14 => ?_))
          · replace hF := ift hb14 hF
            obtain ⟨y12, e25, hF⟩ := bnd hF
            refine J_adv 5 (J_opt1 (o := geti (d1.map e_u32) v8) (e_u32 y12) (by kernel_rfl) (gm e25) ?_)
            obtain ⟨l18, e26, hF⟩ := bnd hF
            refine J_adv 15 (J_opt2 (o := app2 ((l17.map e_u32).drop 0) ([Int.tmod (IntKind.u32.wrap ((IntKind.u32.wrap (y11 + v7)) + y12)) 1000000000].map e_u32)) (l18.map e_u32) (by kernel_rfl) (am e26) ?_)
            exact J_adv 7 (J_at [1, 5, 6, 21, 22, 23] [20] (T0 := [.inLoop (cAt (bodyOf Tryz.f145) [1, 1, 1, 1, 0, 1, 0, 0]), .inBlock 0, .code (cAt (bodyOf Tryz.f145) [1, 1, 1, 1, 1])]) (by kernel_rfl) rfl (ih_F145_L2 (IntKind.u32.wrap (Int.tdiv (IntKind.u32.wrap ((IntKind.u32.wrap (y11 + v7)) + y12)) 1000000000)) (IntKind.i64.wrap (v8 + 1)) l18 hF))
          · replace hF := iff' hb14 hF
            obtain ⟨l19, e27, hF⟩ := bnd hF
            refine J_adv 13 (J_opt2 (o := app2 ((l17.map e_u32).drop 0) ([Int.tmod (IntKind.u32.wrap (y11 + v7)) 1000000000].map e_u32)) (l19.map e_u32) (by kernel_rfl) (am e27) ?_)
            exact J_adv 7 (J_at [1, 5, 6, 21, 22, 23] [20] (T0 := [.inLoop (cAt (bodyOf Tryz.f145) [1, 1, 1, 1, 0, 1, 0, 0]), .inBlock 0, .code (cAt (bodyOf Tryz.f145) [1, 1, 1, 1, 1])]) (by kernel_rfl) rfl (ih_F145_L2 (IntKind.u32.wrap (Int.tdiv (IntKind.u32.wrap (y11 + v7)) 1000000000)) (IntKind.i64.wrap (v8 + 1)) l19 hF))
        · replace hF := iff' hb13 hF
          refine J_adv 8 (J_bool 50 (b := decide (v7 > 0)) (by kernel_rfl) (fun hb15 => ?_) (fun hb15 => ?_))
          · replace hF := ift hb15 hF
            obtain ⟨l20, e28, hF⟩ := bnd hF
            refine J_adv 5 (J_opt2 (o := app2 ((l17.map e_u32).drop 0) ([v7].map e_u32)) (l20.map e_u32) (by kernel_rfl) (am e28) ?_)
            have hr_ := Option.some.inj hF; subst hr_
            exact J_adv 7 (J_ret (xs := [.d (.sl 1 (l20.map e_u32))]) [.d (.sl 1 (l20.map e_u32))] rfl rfl (by kernel_rfl) (Res'.refl _) rfl)
          · replace hF := iff' hb15 hF
            have hr_ := Option.some.inj hF; subst hr_
            exact J_adv 7 (J_ret (xs := [.d (.sl 1 (l17.map e_u32))]) [.d (.sl 1 (l17.map e_u32))] rfl rfl (by kernel_rfl) (Res'.refl _) rfl)
    exact J_adv 15 (J_at [1, 5, 6, 21, 22, 23] [20] (T0 := [.inLoop (cAt (bodyOf Tryz.f145) [1, 1, 1, 1, 0, 1, 0, 0]), .inBlock 0, .code (cAt (bodyOf Tryz.f145) [1, 1, 1, 1, 1])]) (by kernel_rfl) rfl (hF145_L2 fuel 0 0 l11 hF))
/- (croupier/exact.limbs).minus -/
def F146_L1 (d0 : List Int) (d1 : List Int) : Nat → Int → Int → (List Int) → Option (List Int)
  | 0, _, _, _ => none
  | n_F146_L1 + 1, v3, v4, l11 =>
    bif decide (v4 < ((d0.map e_u32).length : Int)) then
      (Option.bind (geti d0 v4) fun y5 =>
      bif decide (v4 < ((d1.map e_u32).length : Int)) then
        (Option.bind (geti d1 v4) fun y6 =>
        bif decide ((IntKind.i64.wrap ((IntKind.i64.wrap ((IntKind.i64.wrap y5) - v3)) - (IntKind.i64.wrap y6))) < 0) then
          (Option.bind (app l11 [IntKind.u32.wrap (IntKind.i64.wrap ((IntKind.i64.wrap ((IntKind.i64.wrap ((IntKind.i64.wrap y5) - v3)) - (IntKind.i64.wrap y6))) + 1000000000))]) fun l12 =>
          (F146_L1 d0 d1 n_F146_L1) 1 (IntKind.i64.wrap (v4 + 1)) l12)
        else
          (Option.bind (app l11 [IntKind.u32.wrap (IntKind.i64.wrap ((IntKind.i64.wrap ((IntKind.i64.wrap y5) - v3)) - (IntKind.i64.wrap y6)))]) fun l13 =>
          (F146_L1 d0 d1 n_F146_L1) 0 (IntKind.i64.wrap (v4 + 1)) l13))
      else
        (bif decide ((IntKind.i64.wrap ((IntKind.i64.wrap y5) - v3)) < 0) then
          (Option.bind (app l11 [IntKind.u32.wrap (IntKind.i64.wrap ((IntKind.i64.wrap ((IntKind.i64.wrap y5) - v3)) + 1000000000))]) fun l14 =>
          (F146_L1 d0 d1 n_F146_L1) 1 (IntKind.i64.wrap (v4 + 1)) l14)
        else
          (Option.bind (app l11 [IntKind.u32.wrap (IntKind.i64.wrap ((IntKind.i64.wrap y5) - v3))]) fun l15 =>
          (F146_L1 d0 d1 n_F146_L1) 0 (IntKind.i64.wrap (v4 + 1)) l15)))
    else
      (some l11)
def F146 (fuel : Nat) (d0 : List Int) (d1 : List Int) : Option (List Int) :=
  Option.bind (mkL 0 ((d0.map e_u32).length : Int) 0) fun l1 =>
  F146_L1 d0 d1 fuel 0 0 l1
theorem F146_ok {fuel : Nat} {d0 : List Int} {d1 : List Int} {r : List Int} (hF : F146 fuel d0 d1 = some r) :
    CallF Tryz.prog 146 [.d (.sl 1 (d0.map e_u32)), .d (.sl 1 (d1.map e_u32))] (.d (.sl 1 (r.map e_u32))) := by
  unfold F146 at hF
  refine callF_of (N := 46) (b := bodyOf Tryz.f146) Tryz.func146 (by kernel_rfl) rfl rfl ?_
  obtain ⟨l1, e1, hF⟩ := bnd hF
  refine J_adv 8 (J_opt2 (o := mk2 0 ((d0.map e_u32).length : Int) (e_u32 0)) (l1.map e_u32) (by kernel_rfl) (mm e1) ?_)
  have hF146_L1 : ∀ (n_F146_L1 : Nat) (v3 : Int) (v4 : Int) (l11 : List Int), F146_L1 d0 d1 n_F146_L1 v3 v4 l11 = some r → J none Tryz.prog 46 [] (finF Tryz.prog Tryz.f146 (.d (.sl 1 (r.map e_u32)))) ⟨mkT [(1, .d (.sl 1 (d1.map e_u32))), (5, .suf 12 0 0), (6, .d (.int .i64 v3)), (13, .d (.sl 1 (d0.map e_u32))), (14, .d (.int .i64 ((d0.map e_u32).length : Int))), (15, .d (.int .i64 v4))], [(12, .buf 0 167 1 (l11.map e_u32))], [.inLoop (cAt (bodyOf Tryz.f146) [1, 1, 1, 0, 1, 0, 0]), .inBlock 0, .code (cAt (bodyOf Tryz.f146) [1, 1, 1, 1])]⟩ := by
    clear hF; intro n_F146_L1
    induction n_F146_L1 with
    | zero => intro v3 v4 l11 hF; cases hF
    | succ n_F146_L1 ih_F146_L1 =>
      intro v3 v4 l11 hF
      rw [F146_L1] at hF
      refine J_adv 6 (J_bool 16 (b := decide (v4 < ((d0.map e_u32).length : Int))) (by kernel_rfl) (fun hb9 => ?_) (fun hb9 => ?_))
      · replace hF := ift hb9 hF
        obtain ⟨y5, e14, hF⟩ := bnd hF
        refine J_adv 7 (J_opt1 (o := geti (d0.map e_u32) v4) (e_u32 y5) (by kernel_rfl) (gm e14) ?_)
        refine J_adv 20 (J_bool 27 (b := decide (v4 < ((d1.map e_u32).length : Int))) (by kernel_rfl) (fun hb10 => ?_) (fun hb10 => ?_))
        · replace hF := ift hb10 hF
          obtain ⟨y6, e15, hF⟩ := bnd hF
          refine J_adv 5 (J_opt1 (o := geti (d1.map e_u32) v4) (e_u32 y6) (by kernel_rfl) (gm e15) ?_)
          refine J_adv 15 (J_bool 36 (b := decide ((IntKind.i64.wrap ((IntKind.i64.wrap ((IntKind.i64.wrap y5) - v3)) - (IntKind.i64.wrap y6))) < 0)) (by kernel_rfl) (fun hb11 => ?_) (fun hb11 => ?_))
          · replace hF := ift hb11 hF
            obtain ⟨l12, e16, hF⟩ := bnd hF
            refine J_adv 12 (J_opt2 (o := app2 ((l11.map e_u32).drop 0) ([IntKind.u32.wrap (IntKind.i64.wrap ((IntKind.i64.wrap ((IntKind.i64.wrap ((IntKind.i64.wrap y5) - v3)) - (IntKind.i64.wrap y6))) + 1000000000))].map e_u32)) (l12.map e_u32) (by kernel_rfl) (am e16) ?_)
            exact J_adv 7 (J_at [1, 5, 6, 13, 14, 15] [12] (T0 := [.inLoop (cAt (bodyOf Tryz.f146) [1, 1, 1, 0, 1, 0, 0]), .inBlock 0, .code (cAt (bodyOf Tryz.f146) [1, 1, 1, 1])]) (by kernel_rfl) rfl (ih_F146_L1 1 (IntKind.i64.wrap (v4 + 1)) l12 hF))
          · replace hF := iff' hb11 hF
            obtain ⟨l13, e17, hF⟩ := bnd hF
            refine J_adv 7 (J_opt2 (o := app2 ((l11.map e_u32).drop 0) ([IntKind.u32.wrap (IntKind.i64.wrap ((IntKind.i64.wrap ((IntKind.i64.wrap y5) - v3)) - (IntKind.i64.wrap y6)))].map e_u32)) (l13.map e_u32) (by kernel_rfl) (am e17) ?_)
            exact J_adv 7 (J_at [1, 5, 6, 13, 14, 15] [12] (T0 := [.inLoop (cAt (bodyOf Tryz.f146) [1, 1, 1, 0, 1, 0, 0]), .inBlock 0, .code (cAt (bodyOf Tryz.f146) [1, 1, 1, 1])]) (by kernel_rfl) rfl (ih_F146_L1 0 (IntKind.i64.wrap (v4 + 1)) l13 hF))
        · replace hF := iff' hb10 hF
          refine J_adv 12 (J_bool 36 (b := decide ((IntKind.i64.wrap ((IntKind.i64.wrap y5) - v3)) < 0)) (by kernel_rfl) (fun hb12 => ?_) (fun hb12 => ?_))
          · replace hF := ift hb12 hF
            obtain ⟨l14, e18, hF⟩ := bnd hF
            refine J_adv 12 (J_opt2 (o := app2 ((l11.map e_u32).drop 0) ([IntKind.u32.wrap (IntKind.i64.wrap ((IntKind.i64.wrap ((IntKind.i64.wrap y5) - v3)) + 1000000000))].map e_u32)) (l14.map e_u32) (by kernel_rfl) (am e18) ?_)
            exact J_adv 7 (J_at [1, 5, 6, 13, 14, 15] [12] (T0 := [.inLoop (cAt (bodyOf Tryz.f146) [1, 1, 1, 0, 1, 0, 0]), .inBlock 0, .code (cAt (bodyOf Tryz.f146) [1, 1, 1, 1])]) (by kernel_rfl) rfl (ih_F146_L1 1 (IntKind.i64.wrap (v4 + 1)) l14 hF))
          · replace hF := iff' hb12 hF
            obtain ⟨l15, e19, hF⟩ := bnd hF
            refine J_adv 7 (J_opt2 (o := app2 ((l11.map e_u32).drop 0) ([IntKind.u32.wrap (IntKind.i64.wrap ((IntKind.i64.wrap y5) - v3))].map e_u32)) (l15.map e_u32) (by kernel_rfl) (am e19) ?_)
            exact J_adv 7 (J_at [1, 5, 6, 13, 14, 15] [12] (T0 := [.inLoop (cAt (bodyOf Tryz.f146) [1, 1, 1, 0, 1, 0, 0]), .inBlock 0, .code (cAt (bodyOf Tryz.f146) [1, 1, 1, 1])]) (by kernel_rfl) rfl (ih_F146_L1 0 (IntKind.i64.wrap (v4 + 1)) l15 hF))
      · replace hF := iff' hb9 hF
        have hr_ := Option.some.inj hF; subst hr_
        exact J_adv 7 (J_ret (xs := [.d (.sl 1 (l11.map e_u32))]) [.d (.sl 1 (l11.map e_u32))] rfl rfl (by kernel_rfl) (Res'.refl _) rfl)
  exact J_adv 15 (J_at [1, 5, 6, 13, 14, 15] [12] (T0 := [.inLoop (cAt (bodyOf Tryz.f146) [1, 1, 1, 0, 1, 0, 0]), .inBlock 0, .code (cAt (bodyOf Tryz.f146) [1, 1, 1, 1])]) (by kernel_rfl) rfl (hF146_L1 fuel 0 0 l1 hF))
/- (croupier/exact.Whole).Add -/
def F104 (fuel : Nat) (d0 : T_exact_Whole) (d1 : T_exact_Whole) : Option T_exact_Whole :=
  bif d0.neg == d1.neg then
    (Option.bind (F145 fuel d0.mag d1.mag) fun y1 =>
    Option.bind (F140 fuel d0.neg y1) fun y2 =>
    some y2)
  else
    (Option.bind (F142 fuel d0.mag d1.mag) fun y3 =>
    bif decide (y3 < 0) then
      (Option.bind (F146 fuel d1.mag d0.mag) fun y4 =>
      Option.bind (F140 fuel d1.neg y4) fun y5 =>
      some y5)
    else
      (Option.bind (F146 fuel d0.mag d1.mag) fun y6 =>
      Option.bind (F140 fuel d0.neg y6) fun y7 =>
      some y7))
theorem F104_ok {fuel : Nat} {d0 : T_exact_Whole} {d1 : T_exact_Whole} {r : T_exact_Whole} (hF : F104 fuel d0 d1 = some r) :
    CallF Tryz.prog 104 [.agg [.d (.bool d0.neg), .d (.sl 1 (d0.mag.map e_u32))], .agg [.d (.bool d1.neg), .d (.sl 1 (d1.mag.map e_u32))]] (.agg [.d (.bool r.neg), .d (.sl 1 (r.mag.map e_u32))]) := by
  unfold F104 at hF
  refine callF_of (N := 42) (b := bodyOf Tryz.f104) Tryz.func104 (by kernel_rfl) rfl rfl ?_
  refine J_adv 17 (J_bool 5 (b := d0.neg == d1.neg) (by kernel_rfl) (fun hb1 => ?_) (fun hb1 => ?_))
  · replace hF := ift hb1 hF
    refine J_adv 2 (J_draw (by kernel_rfl) (by kernel_rfl) ?_)
    obtain ⟨y1, e1, hF⟩ := bnd hF
    refine JD_adv 6 (JD_callF (xs := [.d (.sl 1 (d0.mag.map e_u32)), .d (.sl 1 (d1.mag.map e_u32))]) [.d (.sl 1 (d0.mag.map e_u32)), .d (.sl 1 (d1.mag.map e_u32))] (.d (.sl 1 (y1.map e_u32))) (by kernel_rfl) (by kernel_rfl) en145 (Res'.refl _) (F145_ok e1) ?_)
    obtain ⟨y2, e2, hF⟩ := bnd hF
    refine JD_adv 0 (JD_callF (xs := [.d (.bool d0.neg), .d (.sl 1 (y1.map e_u32))]) [.d (.bool d0.neg), .d (.sl 1 (y1.map e_u32))] (.agg [.d (.bool y2.neg), .d (.sl 1 (y2.mag.map e_u32))]) (by kernel_rfl) (by kernel_rfl) en140 (Res'.refl _) (F140_ok e2) ?_)
    refine JD_adv 1 (JD_end (by kernel_rfl) ?_)
    have hr_ := Option.some.inj hF; subst hr_
    exact J_adv 0 (J_ret (xs := [.agg [.d (.bool y2.neg), .d (.sl 1 (y2.mag.map e_u32))]]) [.agg [.d (.bool y2.neg), .d (.sl 1 (y2.mag.map e_u32))]] rfl rfl (by kernel_rfl) (Res'.refl _) rfl)
  · replace hF := iff' hb1 hF
    obtain ⟨y3, e3, hF⟩ := bnd hF
    refine J_adv 7 (J_callF (xs := [.d (.sl 1 (d0.mag.map e_u32)), .d (.sl 1 (d1.mag.map e_u32))]) [.d (.sl 1 (d0.mag.map e_u32)), .d (.sl 1 (d1.mag.map e_u32))] (.d (.int .i64 y3)) (by kernel_rfl) en142 (Res'.refl _) (F142_ok e3) ?_)
    refine J_adv 3 (J_bool 19 (b := decide (y3 < 0)) (by kernel_rfl) (fun hb2 => ?_) (fun hb2 => ?_))
    · replace hF := ift hb2 hF
      refine J_adv 2 (J_draw (by kernel_rfl) (by kernel_rfl) ?_)
      obtain ⟨y4, e4, hF⟩ := bnd hF
      refine JD_adv 6 (JD_callF (xs := [.d (.sl 1 (d1.mag.map e_u32)), .d (.sl 1 (d0.mag.map e_u32))]) [.d (.sl 1 (d1.mag.map e_u32)), .d (.sl 1 (d0.mag.map e_u32))] (.d (.sl 1 (y4.map e_u32))) (by kernel_rfl) (by kernel_rfl) en146 (Res'.refl _) (F146_ok e4) ?_)
      obtain ⟨y5, e5, hF⟩ := bnd hF
      refine JD_adv 0 (JD_callF (xs := [.d (.bool d1.neg), .d (.sl 1 (y4.map e_u32))]) [.d (.bool d1.neg), .d (.sl 1 (y4.map e_u32))] (.agg [.d (.bool y5.neg), .d (.sl 1 (y5.mag.map e_u32))]) (by kernel_rfl) (by kernel_rfl) en140 (Res'.refl _) (F140_ok e5) ?_)
      refine JD_adv 1 (JD_end (by kernel_rfl) ?_)
      have hr_ := Option.some.inj hF; subst hr_
      exact J_adv 0 (J_ret (xs := [.agg [.d (.bool y5.neg), .d (.sl 1 (y5.mag.map e_u32))]]) [.agg [.d (.bool y5.neg), .d (.sl 1 (y5.mag.map e_u32))]] rfl rfl (by kernel_rfl) (Res'.refl _) rfl)
    · replace hF := iff' hb2 hF
      refine J_adv 4 (J_draw (by kernel_rfl) (by kernel_rfl) ?_)
      obtain ⟨y6, e6, hF⟩ := bnd hF
      refine JD_adv 6 (JD_callF (xs := [.d (.sl 1 (d0.mag.map e_u32)), .d (.sl 1 (d1.mag.map e_u32))]) [.d (.sl 1 (d0.mag.map e_u32)), .d (.sl 1 (d1.mag.map e_u32))] (.d (.sl 1 (y6.map e_u32))) (by kernel_rfl) (by kernel_rfl) en146 (Res'.refl _) (F146_ok e6) ?_)
      obtain ⟨y7, e7, hF⟩ := bnd hF
      refine JD_adv 0 (JD_callF (xs := [.d (.bool d0.neg), .d (.sl 1 (y6.map e_u32))]) [.d (.bool d0.neg), .d (.sl 1 (y6.map e_u32))] (.agg [.d (.bool y7.neg), .d (.sl 1 (y7.mag.map e_u32))]) (by kernel_rfl) (by kernel_rfl) en140 (Res'.refl _) (F140_ok e7) ?_)
      refine JD_adv 1 (JD_end (by kernel_rfl) ?_)
      have hr_ := Option.some.inj hF; subst hr_
      exact J_adv 0 (J_ret (xs := [.agg [.d (.bool y7.neg), .d (.sl 1 (y7.mag.map e_u32))]]) [.agg [.d (.bool y7.neg), .d (.sl 1 (y7.mag.map e_u32))]] rfl rfl (by kernel_rfl) (Res'.refl _) rfl)
/- (croupier/exact.Whole).Mul -/
def F101_L2 (d1 : T_exact_Whole) (v10 : Int) (y23 : Int) (rec_F101_L1 : Int → (List Int) → Option T_exact_Whole) : Nat → Int → Int → (List Int) → Option T_exact_Whole
  | 0, _, _, _ => none
  | n_F101_L2 + 1, v13, v14, l19 =>
    bif decide (v14 < ((d1.mag.map e_u32).length : Int)) then
      (Option.bind (geti d1.mag v14) fun y30 =>
      Option.bind (geti l19 (IntKind.i64.wrap (v10 + v14))) fun y31 =>
      Option.bind (geti l19 (IntKind.i64.wrap (v10 + v14))) fun y32 =>
      Option.bind (some (l19.set (0 + Int.toNat (IntKind.i64.wrap (v10 + v14))) (IntKind.u32.wrap (Int.tmod (IntKind.u64.wrap ((IntKind.u64.wrap ((IntKind.u64.wrap ((IntKind.u64.wrap y23) * (IntKind.u64.wrap y30))) + (IntKind.u64.wrap y31))) + v13)) 1000000000)))) fun l20 =>
      (F101_L2 d1 v10 y23 rec_F101_L1 n_F101_L2) (IntKind.u64.wrap (Int.tdiv (IntKind.u64.wrap ((IntKind.u64.wrap ((IntKind.u64.wrap ((IntKind.u64.wrap y23) * (IntKind.u64.wrap y30))) + (IntKind.u64.wrap y31))) + v13)) 1000000000)) (IntKind.i64.wrap (v14 + 1)) l20)
    else
      (Option.bind (geti l19 (IntKind.i64.wrap (v10 + ((d1.mag.map e_u32).length : Int)))) fun y33 =>
      Option.bind (some (l19.set (0 + Int.toNat (IntKind.i64.wrap (v10 + ((d1.mag.map e_u32).length : Int)))) (IntKind.u32.wrap v13))) fun l21 =>
      rec_F101_L1 (IntKind.i64.wrap (v10 + 1)) l21)
def F101_L1 (fuel : Nat) (d0 : T_exact_Whole) (d1 : T_exact_Whole) : Nat → Int → (List Int) → Option T_exact_Whole
  | 0, _, _ => none
  | n_F101_L1 + 1, v10, l15 =>
    bif decide (v10 < ((d0.mag.map e_u32).length : Int)) then
      (Option.bind (geti d0.mag v10) fun y23 =>
      F101_L2 d1 v10 y23 (F101_L1 fuel d0 d1 n_F101_L1) fuel 0 0 l15)
    else
      (Option.bind (F140 fuel (!(d0.neg == d1.neg)) l15) fun y34 =>
      some y34)
def F101 (fuel : Nat) (d0 : T_exact_Whole) (d1 : T_exact_Whole) : Option T_exact_Whole :=
  Option.bind (mkL (IntKind.i64.wrap (((d0.mag.map e_u32).length : Int) + ((d1.mag.map e_u32).length : Int))) (IntKind.i64.wrap (((d0.mag.map e_u32).length : Int) + ((d1.mag.map e_u32).length : Int))) 0) fun l1 =>
  F101_L1 fuel d0 d1 fuel 0 l1
theorem F101_ok {fuel : Nat} {d0 : T_exact_Whole} {d1 : T_exact_Whole} {r : T_exact_Whole} (hF : F101 fuel d0 d1 = some r) :
    CallF Tryz.prog 101 [.agg [.d (.bool d0.neg), .d (.sl 1 (d0.mag.map e_u32))], .agg [.d (.bool d1.neg), .d (.sl 1 (d1.mag.map e_u32))]] (.agg [.d (.bool r.neg), .d (.sl 1 (r.mag.map e_u32))]) := by
  unfold F101 at hF
  refine callF_of (N := 79) (b := bodyOf Tryz.f101) Tryz.func101 (by kernel_rfl) rfl rfl ?_
  obtain ⟨l1, e1, hF⟩ := bnd hF
  refine J_adv 15 (J_opt2 (o := mk2 (IntKind.i64.wrap (((d0.mag.map e_u32).length : Int) + ((d1.mag.map e_u32).length : Int))) (IntKind.i64.wrap (((d0.mag.map e_u32).length : Int) + ((d1.mag.map e_u32).length : Int))) (e_u32 0)) (l1.map e_u32) (by kernel_rfl) (mm e1) ?_)
  have hF101_L1 : ∀ (n_F101_L1 : Nat) (v10 : Int) (l15 : List Int), F101_L1 fuel d0 d1 n_F101_L1 v10 l15 = some r → J none Tryz.prog 79 [] (finF Tryz.prog Tryz.f101 (.agg [.d (.bool r.neg), .d (.sl 1 (r.mag.map e_u32))])) ⟨mkT [(2, .ptr 2 0), (3, .ptr 3 0), (4, .ptr 4 0), (5, .suf 19 0 0), (21, .d (.sl 1 (d0.mag.map e_u32))), (22, .d (.int .i64 ((d0.mag.map e_u32).length : Int))), (23, .d (.int .i64 v10))], [(2, .box 98 [.d (.bool d0.neg), .d (.sl 1 (d0.mag.map e_u32))]), (3, .box 98 [.d (.bool d1.neg), .d (.sl 1 (d1.mag.map e_u32))]), (4, .box 98 [.d (.bool false), .esl 1]), (19, .buf 0 167 1 (l15.map e_u32))], [.inLoop (cAt (bodyOf Tryz.f101) [1, 1, 0, 1, 0, 0]), .inBlock 0, .code (cAt (bodyOf Tryz.f101) [1, 1, 1])]⟩ := by
    clear hF; intro n_F101_L1
    induction n_F101_L1 with
    | zero => intro v10 l15 hF; cases hF
    | succ n_F101_L1 ih_F101_L1 =>
      intro v10 l15 hF
      rw [F101_L1] at hF
      refine J_adv 6 (J_bool 24 (b := decide (v10 < ((d0.mag.map e_u32).length : Int))) (by kernel_rfl) (fun hb9 => ?_) (fun hb9 => ?_))
      · replace hF := ift hb9 hF
        obtain ⟨y23, e32, hF⟩ := bnd hF
        refine J_adv 7 (J_opt1 (o := geti (d0.mag.map e_u32) v10) (e_u32 y23) (by kernel_rfl) (gm e32) ?_)
        have hF101_L2 : ∀ (n_F101_L2 : Nat) (v13 : Int) (v14 : Int) (l19 : List Int), F101_L2 d1 v10 y23 (F101_L1 fuel d0 d1 n_F101_L1) n_F101_L2 v13 v14 l19 = some r → J none Tryz.prog 79 [] (finF Tryz.prog Tryz.f101 (.agg [.d (.bool r.neg), .d (.sl 1 (r.mag.map e_u32))])) ⟨mkT [(2, .ptr 2 0), (3, .ptr 3 0), (4, .ptr 4 0), (5, .suf 19 0 0), (6, .d (.int .i64 v10)), (7, .d (.int .u32 y23)), (8, .d (.int .u64 v13)), (21, .d (.sl 1 (d0.mag.map e_u32))), (22, .d (.int .i64 ((d0.mag.map e_u32).length : Int))), (23, .d (.int .i64 v10)), (29, .d (.sl 1 (d1.mag.map e_u32))), (30, .d (.int .i64 ((d1.mag.map e_u32).length : Int))), (31, .d (.int .i64 v14))], [(2, .box 98 [.d (.bool d0.neg), .d (.sl 1 (d0.mag.map e_u32))]), (3, .box 98 [.d (.bool d1.neg), .d (.sl 1 (d1.mag.map e_u32))]), (4, .box 98 [.d (.bool false), .esl 1]), (19, .buf 0 167 1 (l19.map e_u32))], [.inLoop (cAt (bodyOf Tryz.f101) [1, 1, 0, 1, 0, 0, 1, 1, 0, 0, 1, 1, 0, 1, 0, 0]), .inBlock 2, .code (cAt (bodyOf Tryz.f101) [1, 1, 0, 1, 0, 0, 1, 1, 0, 0, 1, 1, 1]), .inBlock 1, .code (cAt (bodyOf Tryz.f101) [1, 1, 0, 1, 0, 0, 1, 1, 1]), .inLoop (cAt (bodyOf Tryz.f101) [1, 1, 0, 1, 0, 0]), .inBlock 0, .code (cAt (bodyOf Tryz.f101) [1, 1, 1])]⟩ := by
          clear hF; intro n_F101_L2
          induction n_F101_L2 with
          | zero => intro v13 v14 l19 hF; cases hF
          | succ n_F101_L2 ih_F101_L2 =>
            intro v13 v14 l19 hF
            rw [F101_L2] at hF
            refine J_adv 6 (J_bool 32 (b := decide (v14 < ((d1.mag.map e_u32).length : Int))) (by kernel_rfl) (fun hb12 => ?_) (fun hb12 => ?_))
            · replace hF := ift hb12 hF
              obtain ⟨y30, e41, hF⟩ := bnd hF
              refine J_adv 7 (J_opt1 (o := geti (d1.mag.map e_u32) v14) (e_u32 y30) (by kernel_rfl) (gm e41) ?_)
              obtain ⟨y31, e42, hF⟩ := bnd hF
              refine J_adv 15 (J_opt1 (o := geti (l19.map e_u32) (IntKind.i64.wrap (v10 + v14))) (e_u32 y31) (by kernel_rfl) (gm e42) ?_)
              refine J_adv 0 (J_opt1 (o := (l19.map e_u32)[0 + Int.toNat (IntKind.i64.wrap (v10 + v14))]?) (e_u32 y31) (by kernel_rfl) (gjm (gj e42)) ?_)
              obtain ⟨y32, e43, hF⟩ := bnd hF
              refine J_adv 16 (J_opt1 (o := geti (l19.map e_u32) (IntKind.i64.wrap (v10 + v14))) (e_u32 y32) (by kernel_rfl) (gm e43) ?_)
              obtain ⟨l20, e44, hF⟩ := bnd hF
              have hst := stm (f := e_u32) (z := IntKind.u32.wrap (Int.tmod (IntKind.u64.wrap ((IntKind.u64.wrap ((IntKind.u64.wrap ((IntKind.u64.wrap y23) * (IntKind.u64.wrap y30))) + (IntKind.u64.wrap y31))) + v13)) 1000000000)) (k := 0) (xs := [.int .u32 (IntKind.u32.wrap (Int.tmod (IntKind.u64.wrap ((IntKind.u64.wrap ((IntKind.u64.wrap ((IntKind.u64.wrap y23) * (IntKind.u64.wrap y30))) + (IntKind.u64.wrap y31))) + v13)) 1000000000))]) (gj e43) rfl
              refine J_adv 0 (J_opt2 (o := (match (l19.map e_u32)[0 + Int.toNat (IntKind.i64.wrap (v10 + v14))]? with | some old => some ((l19.map e_u32).set (0 + Int.toNat (IntKind.i64.wrap (v10 + v14))) (setD old 0 [.int .u32 (IntKind.u32.wrap (Int.tmod (IntKind.u64.wrap ((IntKind.u64.wrap ((IntKind.u64.wrap ((IntKind.u64.wrap y23) * (IntKind.u64.wrap y30))) + (IntKind.u64.wrap y31))) + v13)) 1000000000))])) | none => none)) (l20.map e_u32) (by kernel_rfl) (by cases e44; exact hst) ?_)
              exact J_adv 7 (J_at [2, 3, 4, 5, 6, 7, 8, 21, 22, 23, 29, 30, 31] [2, 3, 4, 19] (T0 := [.inLoop (cAt (bodyOf Tryz.f101) [1, 1, 0, 1, 0, 0, 1, 1, 0, 0, 1, 1, 0, 1, 0, 0]), .inBlock 2, .code (cAt (bodyOf Tryz.f101) [1, 1, 0, 1, 0, 0, 1, 1, 0, 0, 1, 1, 1]), .inBlock 1, .code (cAt (bodyOf Tryz.f101) [1, 1, 0, 1, 0, 0, 1, 1, 1]), .inLoop (cAt (bodyOf Tryz.f101) [1, 1, 0, 1, 0, 0]), .inBlock 0, .code (cAt (bodyOf Tryz.f101) [1, 1, 1])]) (by kernel_rfl) rfl (ih_F101_L2 (IntKind.u64.wrap (Int.tdiv (IntKind.u64.wrap ((IntKind.u64.wrap ((IntKind.u64.wrap ((IntKind.u64.wrap y23) * (IntKind.u64.wrap y30))) + (IntKind.u64.wrap y31))) + v13)) 1000000000)) (IntKind.i64.wrap (v14 + 1)) l20 hF))
            · replace hF := iff' hb12 hF
              obtain ⟨y33, e45, hF⟩ := bnd hF
              refine J_adv 11 (J_opt1 (o := geti (l19.map e_u32) (IntKind.i64.wrap (v10 + ((d1.mag.map e_u32).length : Int)))) (e_u32 y33) (by kernel_rfl) (gm e45) ?_)
              obtain ⟨l21, e46, hF⟩ := bnd hF
              have hst := stm (f := e_u32) (z := IntKind.u32.wrap v13) (k := 0) (xs := [.int .u32 (IntKind.u32.wrap v13)]) (gj e45) rfl
              refine J_adv 0 (J_opt2 (o := (match (l19.map e_u32)[0 + Int.toNat (IntKind.i64.wrap (v10 + ((d1.mag.map e_u32).length : Int)))]? with | some old => some ((l19.map e_u32).set (0 + Int.toNat (IntKind.i64.wrap (v10 + ((d1.mag.map e_u32).length : Int)))) (setD old 0 [.int .u32 (IntKind.u32.wrap v13)])) | none => none)) (l21.map e_u32) (by kernel_rfl) (by cases e46; exact hst) ?_)
              exact J_adv 6 (J_at [2, 3, 4, 5, 21, 22, 23] [2, 3, 4, 19] (T0 := [.inLoop (cAt (bodyOf Tryz.f101) [1, 1, 0, 1, 0, 0]), .inBlock 0, .code (cAt (bodyOf Tryz.f101) [1, 1, 1])]) (by kernel_rfl) rfl (ih_F101_L1 (IntKind.i64.wrap (v10 + 1)) l21 hF))
        exact J_adv 18 (J_at [2, 3, 4, 5, 6, 7, 8, 21, 22, 23, 29, 30, 31] [2, 3, 4, 19] (T0 := [.inLoop (cAt (bodyOf Tryz.f101) [1, 1, 0, 1, 0, 0, 1, 1, 0, 0, 1, 1, 0, 1, 0, 0]), .inBlock 2, .code (cAt (bodyOf Tryz.f101) [1, 1, 0, 1, 0, 0, 1, 1, 0, 0, 1, 1, 1]), .inBlock 1, .code (cAt (bodyOf Tryz.f101) [1, 1, 0, 1, 0, 0, 1, 1, 1]), .inLoop (cAt (bodyOf Tryz.f101) [1, 1, 0, 1, 0, 0]), .inBlock 0, .code (cAt (bodyOf Tryz.f101) [1, 1, 1])]) (by kernel_rfl) rfl (hF101_L2 fuel 0 0 l15 hF))
      · replace hF := iff' hb9 hF
        obtain ⟨y34, e47, hF⟩ := bnd hF
        refine J_adv 10 (J_callF (xs := [.d (.bool (!(d0.neg == d1.neg))), .d (.sl 1 (l15.map e_u32))]) [.d (.bool (!(d0.neg == d1.neg))), .d (.sl 1 (l15.map e_u32))] (.agg [.d (.bool y34.neg), .d (.sl 1 (y34.mag.map e_u32))]) (by kernel_rfl) en140 (Res'.refl _) (F140_ok e47) ?_)
        have hr_ := Option.some.inj hF; subst hr_
        exact J_adv 2 (J_ret (xs := [.agg [.d (.bool y34.neg), .d (.sl 1 (y34.mag.map e_u32))]]) [.agg [.d (.bool y34.neg), .d (.sl 1 (y34.mag.map e_u32))]] rfl rfl (by kernel_rfl) (Res'.refl _) rfl)
  exact J_adv 12 (J_at [2, 3, 4, 5, 21, 22, 23] [2, 3, 4, 19] (T0 := [.inLoop (cAt (bodyOf Tryz.f101) [1, 1, 0, 1, 0, 0]), .inBlock 0, .code (cAt (bodyOf Tryz.f101) [1, 1, 1])]) (by kernel_rfl) rfl (hF101_L1 fuel 0 l1 hF))
/- slices.Backward(croupier/exact.limbs,uint32) -/
def F221 (d0 : List Int) : Option (List Int) :=
  some d0
theorem F221_ok {d0 : List Int} {r : List Int} (hF : F221 d0 = some r) :
    CallR Tryz.prog 221 [] [.d (.sl 1 (d0.map e_u32))] [(2000, .box 96 [.d (.sl 1 (r.map e_u32))])] (.fn 254 [] [.ptr 2000 0]) := by
  unfold F221 at hF
  refine callR_of (N := 4) (b := bodyOf Tryz.f221) Tryz.func221 (by kernel_rfl) rfl rfl ?_
  refine J_adv 10 (J_at (S0 := [(2, .fn 254 [] [.ptr 1 0])]) (O0 := [(1, .box 96 [.d (.sl 1 (d0.map e_u32))])]) (T0 := [.code (cAt (bodyOf Tryz.f221) [1, 1])]) [2] [1] (by kernel_rfl) rfl ?_)
  refine J_adv 0 (J_ren [(1, 2000)] (by kernel_rfl) (by kernel_rfl) (by kernel_rfl) (by kernel_rfl) ?_)
  have hr_ := Option.some.inj hF; subst hr_
  exact J_adv 0 (J_retRR (xs := [.fn 254 [] [.ptr 2000 0]]) [.fn 254 [] [.ptr 2000 0]] rfl (by kernel_rfl) (by kernel_rfl) (Res'.refl _) rfl)
def y_i64_u32 (x : Int × Int) : List Kx.V := [.d (.int .i64 x.1), .d (.int .u32 x.2)]
/- slices.Backward(croupier/exact.limbs,uint32)$1 -/
def F254_L1 (d0 : List Int) : Nat → Int → Option (List (Int × Int))
  | 0, _ => none
  | n_F254_L1 + 1, v2 =>
    bif decide (v2 ≥ 0) then
      (Option.bind (geti d0 v2) fun y3 =>
      Option.bind (
        (F254_L1 d0 n_F254_L1) (IntKind.i64.wrap (v2 - 1))) fun l3 =>
      some ((v2, y3) :: l3))
    else
      (some [])
def F254 (fuel : Nat) (d0 : List Int) : Option (List (Int × Int)) :=
  F254_L1 d0 fuel (IntKind.i64.wrap (((d0.map e_u32).length : Int) - 1))
theorem F254_ok {fuel : Nat} {d0 : List Int} {r : List (Int × Int)} (hF : F254 fuel d0 = some r) :
    IterC Tryz.prog 254 [(2000, .frn 2000)] [.yl 2000, .rp [.sl 1 (d0.map e_u32)] 0] (r.map y_i64_u32) false := by
  unfold F254 at hF
  refine iterC_of (N := 19) (b := bodyOf Tryz.f254) Tryz.func254 (by kernel_rfl) rfl rfl (fun yl_ Inv_ Stop_ Pan_ hR_ => ?_)
  have hF254_L1 : ∀ (n_F254_L1 : Nat) (r : List (Int × Int)) (v2 : Int), F254_L1 d0 n_F254_L1 v2 = some r → J none Tryz.prog 19 [] (finI Tryz.prog Tryz.f254 yl_ Inv_ Stop_ Pan_ false (some (r.map y_i64_u32))) ⟨mkT [(0, .yl 2000), (1, .rp [.sl 1 (d0.map e_u32)] 0), (3, .d (.int .i64 v2))], [(2000, .frn 2000)], [.inLoop (cAt (bodyOf Tryz.f254) [1, 0, 0]), .inBlock 0]⟩ := by
    clear hF; intro n_F254_L1
    induction n_F254_L1 with
    | zero => intro r v2 hF; cases hF
    | succ n_F254_L1 ih_F254_L1 =>
      intro r v2 hF
      rw [F254_L1] at hF
      refine J_adv 7 (J_bool 8 (b := decide (v2 ≥ 0)) (by kernel_rfl) (fun hb3 => ?_) (fun hb3 => ?_))
      · replace hF := ift hb3 hF
        obtain ⟨y3, e3, hF⟩ := bnd hF
        refine J_adv 10 (J_opt1 (o := geti (d0.map e_u32) v2) (e_u32 y3) (by kernel_rfl) (gm e3) ?_)
        obtain ⟨l3, hY_, hr_⟩ := bnd hF
        clear hF; have hr_ := Option.some.inj hr_; subst hr_; have hF := hY_; clear hY_
        refine J_adv 1 (J_yield hR_ (xs := [.d (.int .i64 v2), .d (.int .u32 y3)]) [.d (.int .i64 v2), .d (.int .u32 y3)] (ys := l3.map y_i64_u32) (by kernel_rfl) (by kernel_rfl) (Res'.refl _) ?_ ?_)
        rotate_left
        ·
          exact J_adv 3 (J_doneI hR_ (.inr rfl) rfl rfl (by kernel_rfl))
        ·
          exact J_adv 10 (J_at [0, 1, 3] [2000] (T0 := [.inLoop (cAt (bodyOf Tryz.f254) [1, 0, 0]), .inBlock 0]) (by kernel_rfl) rfl (ih_F254_L1 _ (IntKind.i64.wrap (v2 - 1)) hF))
      · replace hF := iff' hb3 hF
        have hr_ := Option.some.inj hF; subst hr_
        exact J_adv 2 (J_doneI hR_ (.inl ⟨rfl, rfl⟩) rfl rfl (by kernel_rfl))
  exact J_adv 9 (J_at [0, 1, 3] [2000] (T0 := [.inLoop (cAt (bodyOf Tryz.f254) [1, 0, 0]), .inBlock 0]) (by kernel_rfl) rfl (hF254_L1 fuel _ (IntKind.i64.wrap (((d0.map e_u32).length : Int) - 1)) hF))
/- (croupier/exact.limbs).short -/
def F217_L1 (d1 : Int) : List (Int × Int) → Int → (List Int) → Option (List Int × Int)
  | [], v2, l5 =>
    some (l5, IntKind.u32.wrap v2)
  | y6 :: ys_F217_L1, v2, l5 =>
    ass (decide ((IntKind.u64.wrap d1) ≠ 0)) <|
    ass (decide ((IntKind.u64.wrap d1) ≠ 0)) <|
    Option.bind (geti l5 y6.1) fun y7 =>
    Option.bind (some (l5.set (0 + Int.toNat y6.1) (IntKind.u32.wrap (IntKind.u64.wrap (Int.tdiv (IntKind.u64.wrap ((IntKind.u64.wrap (v2 * 1000000000)) + (IntKind.u64.wrap y6.2))) (IntKind.u64.wrap d1)))))) fun l6 =>
    (F217_L1 d1 ys_F217_L1) (Int.tmod (IntKind.u64.wrap ((IntKind.u64.wrap (v2 * 1000000000)) + (IntKind.u64.wrap y6.2))) (IntKind.u64.wrap d1)) l6
def F217 (fuel : Nat) (d0 : List Int) (d1 : Int) : Option (List Int × Int) :=
  Option.bind (mkL ((d0.map e_u32).length : Int) ((d0.map e_u32).length : Int) 0) fun l1 =>
  Option.bind (F221 d0) fun y1 =>
  Option.bind (F254 fuel y1) fun ys1 =>
  F217_L1 d1 ys1 0 l1
theorem F217_ok {fuel : Nat} {d0 : List Int} {d1 : Int} {r : List Int × Int} (hF : F217 fuel d0 d1 = some r) :
    CallF Tryz.prog 217 [.d (.sl 1 (d0.map e_u32)), .d (.int .u32 d1)] (.tup [.d (.sl 1 (r.1.map e_u32)), .d (.int .u32 r.2)]) := by
  unfold F217 at hF
  refine callM_of (N := 38) (b := bodyOf Tryz.f217) Tryz.func217 (by kernel_rfl) rfl rfl (fun w00_ M00_ => ?_)
  obtain ⟨l1, e1, hF⟩ := bnd hF
  refine J_adv 10 (J_opt2 (o := mk2 ((d0.map e_u32).length : Int) ((d0.map e_u32).length : Int) (e_u32 0)) (l1.map e_u32) (by kernel_rfl) (mm e1) ?_)
  obtain ⟨y1, e2, hF⟩ := bnd hF
  refine J_adv 12 (J_callR (os := []) (xs := [.d (.sl 1 (d0.map e_u32))]) [(15, 2000)] [.d (.sl 1 (d0.map e_u32))] [(2000, .box 96 [.d (.sl 1 (y1.map e_u32))])] (.fn 254 [] [.ptr 2000 0]) (by kernel_rfl) (by kernel_rfl) en221 (Res'.refl _) (F221_ok e2) ?_)
  refine J_adv 2 (J_at (S0 := [(3, .ptr 3 0), (6, .ptr 6 0), (7, .ptr 7 0), (15, .fn 254 [] [.ptr 15 0])]) (O0 := [(3, .box 167 [.d (.int .u32 d1)]), (6, .box 96 [.suf 13 0 0]), (7, .box 39 [.d (.int .u64 0)]), (13, .buf 0 167 1 (l1.map e_u32)), (15, .box 96 [.d (.sl 1 (y1.map e_u32))])]) (T0 := [.code (cAt (bodyOf Tryz.f217) [1, 1, 1, 0, 1, 0]), .inBlock 0, .code (cAt (bodyOf Tryz.f217) [1, 1, 1, 1])]) [3, 6, 7, 15] [3, 6, 7, 13, 15] (by kernel_rfl) rfl ?_)
  refine J_ren [(13, 13), (15, 15), (3, 2100), (6, 2101), (7, 2102)] (by kernel_rfl) (by kernel_rfl) (by kernel_rfl) (by kernel_rfl) ?_
  refine J_at (S0 := [(3, .ptr 2100 0), (6, .ptr 2101 0), (7, .ptr 2102 0), (15, .fn 254 [] [.ptr 15 0])]) (O0 := [(13, .buf 0 167 1 (l1.map e_u32)), (15, .box 96 [.d (.sl 1 (y1.map e_u32))]), (2100, .box 167 [.d (.int .u32 d1)]), (2101, .box 96 [.suf 13 0 0]), (2102, .box 39 [.d (.int .u64 0)])]) (T0 := [.code (cAt (bodyOf Tryz.f217) [1, 1, 1, 0, 1, 0]), .inBlock 0, .code (cAt (bodyOf Tryz.f217) [1, 1, 1, 1])]) [3, 6, 7, 15] [13, 15, 2100, 2101, 2102] (by kernel_rfl) rfl ?_
  obtain ⟨ys1, e3, hF⟩ := bnd hF
  obtain ⟨G_, hG_⟩ : ∃ G : List (List Kx.V) → List (Nat × IObj) → Prop, G = (fun yv ob => ∃ (yl_ : List (Int × Int)) (v2 : Int) (l5 : List Int), yv = yl_.map y_i64_u32 ∧ ob = [(13, .buf 0 167 1 (l5.map e_u32)), (2100, .box 167 [.d (.int .u32 d1)]), (2101, .box 96 [.suf 13 0 0]), (2102, .box 39 [.d (.int .u64 v2)])] ∧ F217_L1 d1 yl_ v2 l5 = some r) := ⟨_, rfl⟩
  obtain ⟨GX_, hGX_⟩ : ∃ G : Code → List (Nat × IObj) → Prop, G = (fun j ob => False) := ⟨_, rfl⟩
  refine J_range (P := Tryz.prog) (g := (.tmp 15)) (ps := #[16, 17]) (asg := (cAt (bodyOf Tryz.f217) [1, 1, 1, 0, 1, 0, 0])) (bo := (cAt (bodyOf Tryz.f217) [1, 1, 1, 0, 1, 0, 1])) (k := [.inBlock 0, .code (cAt (bodyOf Tryz.f217) [1, 1, 1, 1])]) (gf := 254) (first := []) (cap := [.ptr 15 0]) (xs := [.rp [.sl 1 (y1.map e_u32)] 0]) (os := []) (S1 := [(3, .ptr 2100 0), (6, .ptr 2101 0), (7, .ptr 2102 0)]) (ob0 := [(13, .buf 0 167 1 (l1.map e_u32)), (2100, .box 167 [.d (.int .u32 d1)]), (2101, .box 96 [.suf 13 0 0]), (2102, .box 39 [.d (.int .u64 0)])]) [] [3, 6, 7] [13, 2100, 2101, 2102] [.rp [.sl 1 (y1.map e_u32)] 0] (ysAll := ys1.map y_i64_u32) [2100, 2101, 2102] G_ GX_ rfl (by kernel_rfl) rfl (by kernel_rfl) rfl (by kernel_rfl) (Res'.refl _) en254 (F254_ok e3) (by kernel_rfl) (by kernel_rfl) (by kernel_rfl) ?_ ?_ ?_ ⟨by kernel_rfl, by kernel_rfl⟩ ?_ ?_ ?_
  · rw [hG_]; exact ⟨ys1, 0, l1, rfl, by kernel_rfl, hF⟩
  · intro yv_ ob_ h_; rw [hG_] at h_; obtain ⟨_, _, _, _, rfl, _⟩ := h_; kernel_rfl
  · intro j_ ob_ h_; rw [hGX_] at h_; exact h_.elim
  · intro x_ hxa_ hxb_ hxp_ yv_ ysv_ ob_ h_; rw [hG_] at h_
    obtain ⟨yl_, v2, l5, hy_, rfl, hF⟩ := h_
    cases yl_ with
    | nil => cases hy_
    | cons y6 ys_F217_L1 =>
      cases hy_; rw [F217_L1] at hF
      refine hJ_of (by kernel_rfl) ?_
      refine J_at (S0 := [(3, .ptr 2100 0), (6, .ptr 2101 0), (7, .ptr 2102 0), (16, .d (.int .i64 y6.1)), (17, .d (.int .u32 y6.2))]) (O0 := [(3000, .raw x_.D (.deferred (some []))), (3001, .raw x_.L (.loop (recOf x_ .ready none))), (13, .buf 0 167 1 (l5.map e_u32)), (2100, .box 167 [.d (.int .u32 d1)]), (2101, .box 96 [.suf 13 0 0]), (2102, .box 39 [.d (.int .u64 v2)])]) (T0 := [.code (cAt (bodyOf Tryz.f217) [1, 1, 1, 0, 1, 0, 0]), .begR x_.L, .code (cAt (bodyOf Tryz.f217) [1, 1, 1, 0, 1, 0, 1])]) [3, 6, 7, 16, 17] [3000, 3001, 13, 2100, 2101, 2102] (by kernel_rfl) rfl ?_
      refine J_adv 7 (J_at (S0 := [(3, .ptr 2100 0), (6, .ptr 2101 0), (7, .ptr 2102 0), (8, .d (.int .i64 y6.1)), (9, .d (.int .u32 y6.2)), (16, .d (.int .i64 y6.1)), (17, .d (.int .u32 y6.2))]) (O0 := [(3000, .raw x_.D (.deferred (some []))), (3001, .raw x_.L (.loop (recOf x_ .ready none))), (13, .buf 0 167 1 (l5.map e_u32)), (2100, .box 167 [.d (.int .u32 d1)]), (2101, .box 96 [.suf 13 0 0]), (2102, .box 39 [.d (.int .u64 v2)])]) (T0 := [.begR x_.L, .code (cAt (bodyOf Tryz.f217) [1, 1, 1, 0, 1, 0, 1])]) [3, 6, 7, 8, 9, 16, 17] [3000, 3001, 13, 2100, 2101, 2102] (by kernel_rfl) rfl ?_)
      refine J_begR (l := x_.L) (q := 3001) (k := [.code (cAt (bodyOf Tryz.f217) [1, 1, 1, 0, 1, 0, 1])]) (rec := recOf x_ .ready none) rfl rfl rfl ?_
      refine J_adv 10 (J_draw (by kernel_rfl) (by kernel_rfl) ?_)
      obtain ⟨hb5, hF⟩ := assd hF
      refine JD_adv 5 (JD_opt1 (o := chk (decide ((IntKind.u64.wrap d1) ≠ 0))) [] (by kernel_rfl) (by kernel_rfl) (ck hb5) ?_)
      obtain ⟨hb6, hF⟩ := assd hF
      refine JD_adv 4 (JD_opt1 (o := chk (decide ((IntKind.u64.wrap d1) ≠ 0))) [] (by kernel_rfl) (by kernel_rfl) (ck hb6) ?_)
      obtain ⟨y7, e8, hF⟩ := bnd hF
      refine JD_adv 0 (JD_opt1 (o := geti (l5.map e_u32) y6.1) (e_u32 y7) (by kernel_rfl) (by kernel_rfl) (gm e8) ?_)
      obtain ⟨l6, e9, hF⟩ := bnd hF
      have hst := stm (f := e_u32) (z := IntKind.u32.wrap (IntKind.u64.wrap (Int.tdiv (IntKind.u64.wrap ((IntKind.u64.wrap (v2 * 1000000000)) + (IntKind.u64.wrap y6.2))) (IntKind.u64.wrap d1)))) (k := 0) (xs := [.int .u32 (IntKind.u32.wrap (IntKind.u64.wrap (Int.tdiv (IntKind.u64.wrap ((IntKind.u64.wrap (v2 * 1000000000)) + (IntKind.u64.wrap y6.2))) (IntKind.u64.wrap d1))))]) (gj e8) rfl
      refine JD_adv 0 (JD_opt2 (o := (match (l5.map e_u32)[0 + Int.toNat y6.1]? with | some old => some ((l5.map e_u32).set (0 + Int.toNat y6.1) (setD old 0 [.int .u32 (IntKind.u32.wrap (IntKind.u64.wrap (Int.tdiv (IntKind.u64.wrap ((IntKind.u64.wrap (v2 * 1000000000)) + (IntKind.u64.wrap y6.2))) (IntKind.u64.wrap d1))))])) | none => none)) (l6.map e_u32) (by kernel_rfl) (by kernel_rfl) (by cases e9; exact hst) ?_)
      refine JD_adv 1 (JD_end (by kernel_rfl) ?_)
      refine J_adv 1 (J_at (S0 := []) (O0 := rob x_ .busy none [(13, .buf 0 167 1 (l6.map e_u32)), (2100, .box 167 [.d (.int .u32 d1)]), (2101, .box 96 [.suf 13 0 0]), (2102, .box 39 [.d (.int .u64 (Int.tmod (IntKind.u64.wrap ((IntKind.u64.wrap (v2 * 1000000000)) + (IntKind.u64.wrap y6.2))) (IntKind.u64.wrap d1)))])]) (T0 := []) [] [3000, 3001, 13, 2100, 2101, 2102] (by kernel_rfl) rfl ?_)
      exact J_endB rfl [(13, .buf 0 167 1 (l6.map e_u32)), (2100, .box 167 [.d (.int .u32 d1)]), (2101, .box 96 [.suf 13 0 0]), (2102, .box 39 [.d (.int .u64 (Int.tmod (IntKind.u64.wrap ((IntKind.u64.wrap (v2 * 1000000000)) + (IntKind.u64.wrap y6.2))) (IntKind.u64.wrap d1)))])] rfl rfl (by kernel_rfl) (by rw [hG_]; exact ⟨ys_F217_L1, Int.tmod (IntKind.u64.wrap ((IntKind.u64.wrap (v2 * 1000000000)) + (IntKind.u64.wrap y6.2))) (IntKind.u64.wrap d1), l6, rfl, rfl, hF⟩)
  · intro D_ ob_ h_; rw [hG_] at h_
    obtain ⟨yl_, v2, l5, hy_, rfl, hF⟩ := h_
    cases yl_ with
    | cons _ _ => cases hy_
    | nil =>
      clear hy_; rw [F217_L1] at hF
      refine J_renM [(2100, 3), (2101, 6), (2102, 7), (13, 13)] (by kernel_rfl) (by kernel_rfl) (by kernel_rfl) ?_
      refine J_adv 0 (J_at (S0 := [(6, .ptr 6 0), (7, .ptr 7 0)]) (O0 := [(6, .box 96 [.suf 13 0 0]), (7, .box 39 [.d (.int .u64 v2)]), (13, .buf 0 167 1 (l5.map e_u32))]) (T0 := [.inBlock 0, .code (cAt (bodyOf Tryz.f217) [1, 1, 1, 1])]) [6, 7] [6, 7, 13] (by kernel_rfl) rfl ?_)
      refine J_adv 2 (J_draw (by kernel_rfl) (by kernel_rfl) ?_)
      refine JD_adv 5 (JD_end (by kernel_rfl) ?_)
      have hr_ := Option.some.inj hF; subst hr_
      exact J_adv 0 (J_retM (xs := [.d (.sl 1 (l5.map e_u32)), .d (.int .u32 (IntKind.u32.wrap v2))]) [.d (.sl 1 (l5.map e_u32)), .d (.int .u32 (IntKind.u32.wrap v2))] rfl rfl (by kernel_rfl) (Res'.refl _) rfl (by kernel_rfl))
  · intro D_ ob_ j_ h_; rw [hGX_] at h_
    exact h_.elim
/- (croupier/exact.limbs).scaled -/
def F218_L1 (d0 : List Int) (d1 : Int) : Nat → Int → Int → (List Int) → Option (List Int)
  | 0, _, _, _ => none
  | n_F218_L1 + 1, v3, v4, l5 =>
    bif decide (v4 < ((d0.map e_u32).length : Int)) then
      (Option.bind (geti d0 v4) fun y3 =>
      Option.bind (app l5 [IntKind.u32.wrap (Int.tmod (IntKind.u64.wrap ((IntKind.u64.wrap ((IntKind.u64.wrap y3) * (IntKind.u64.wrap d1))) + v3)) 1000000000)]) fun l6 =>
      (F218_L1 d0 d1 n_F218_L1) (IntKind.u64.wrap (Int.tdiv (IntKind.u64.wrap ((IntKind.u64.wrap ((IntKind.u64.wrap y3) * (IntKind.u64.wrap d1))) + v3)) 1000000000)) (IntKind.i64.wrap (v4 + 1)) l6)
    else
      (Option.bind (app l5 [IntKind.u32.wrap v3]) fun l7 =>
      some l7)
def F218 (fuel : Nat) (d0 : List Int) (d1 : Int) : Option (List Int) :=
  Option.bind (mkL 0 (IntKind.i64.wrap (((d0.map e_u32).length : Int) + 1)) 0) fun l1 =>
  F218_L1 d0 d1 fuel 0 0 l1
theorem F218_ok {fuel : Nat} {d0 : List Int} {d1 : Int} {r : List Int} (hF : F218 fuel d0 d1 = some r) :
    CallR Tryz.prog 218 [] [.d (.sl 1 (d0.map e_u32)), .d (.int .u32 d1)] [(2000, .buf 0 167 1 (r.map e_u32))] (.suf 2000 0 0) := by
  unfold F218 at hF
  refine callR_of (N := 41) (b := bodyOf Tryz.f218) Tryz.func218 (by kernel_rfl) rfl rfl ?_
  obtain ⟨l1, e1, hF⟩ := bnd hF
  refine J_adv 9 (J_opt2 (o := mk2 0 (IntKind.i64.wrap (((d0.map e_u32).length : Int) + 1)) (e_u32 0)) (l1.map e_u32) (by kernel_rfl) (mm e1) ?_)
  have hF218_L1 : ∀ (n_F218_L1 : Nat) (v3 : Int) (v4 : Int) (l5 : List Int), F218_L1 d0 d1 n_F218_L1 v3 v4 l5 = some r → J none Tryz.prog 41 [] (finR Tryz.prog Tryz.f218 [(2000, .buf 0 167 1 (r.map e_u32))] (.suf 2000 0 0)) ⟨mkT [(1, .d (.int .u32 d1)), (5, .suf 13 0 0), (6, .d (.int .u64 v3)), (14, .d (.sl 1 (d0.map e_u32))), (15, .d (.int .i64 ((d0.map e_u32).length : Int))), (16, .d (.int .i64 v4))], [(13, .buf 0 167 1 (l5.map e_u32))], [.inLoop (cAt (bodyOf Tryz.f218) [1, 1, 1, 0, 1, 0, 0]), .inBlock 0, .code (cAt (bodyOf Tryz.f218) [1, 1, 1, 1])]⟩ := by
    clear hF; intro n_F218_L1
    induction n_F218_L1 with
    | zero => intro v3 v4 l5 hF; cases hF
    | succ n_F218_L1 ih_F218_L1 =>
      intro v3 v4 l5 hF
      rw [F218_L1] at hF
      refine J_adv 6 (J_bool 17 (b := decide (v4 < ((d0.map e_u32).length : Int))) (by kernel_rfl) (fun hb3 => ?_) (fun hb3 => ?_))
      · replace hF := ift hb3 hF
        obtain ⟨y3, e6, hF⟩ := bnd hF
        refine J_adv 6 (J_opt1 (o := geti (d0.map e_u32) v4) (e_u32 y3) (by kernel_rfl) (gm e6) ?_)
        obtain ⟨l6, e7, hF⟩ := bnd hF
        refine J_adv 20 (J_opt2 (o := app2 ((l5.map e_u32).drop 0) ([IntKind.u32.wrap (Int.tmod (IntKind.u64.wrap ((IntKind.u64.wrap ((IntKind.u64.wrap y3) * (IntKind.u64.wrap d1))) + v3)) 1000000000)].map e_u32)) (l6.map e_u32) (by kernel_rfl) (am e7) ?_)
        exact J_adv 10 (J_at [1, 5, 6, 14, 15, 16] [13] (T0 := [.inLoop (cAt (bodyOf Tryz.f218) [1, 1, 1, 0, 1, 0, 0]), .inBlock 0, .code (cAt (bodyOf Tryz.f218) [1, 1, 1, 1])]) (by kernel_rfl) rfl (ih_F218_L1 (IntKind.u64.wrap (Int.tdiv (IntKind.u64.wrap ((IntKind.u64.wrap ((IntKind.u64.wrap y3) * (IntKind.u64.wrap d1))) + v3)) 1000000000)) (IntKind.i64.wrap (v4 + 1)) l6 hF))
      · replace hF := iff' hb3 hF
        obtain ⟨l7, e8, hF⟩ := bnd hF
        refine J_adv 8 (J_opt2 (o := app2 ((l5.map e_u32).drop 0) ([IntKind.u32.wrap v3].map e_u32)) (l7.map e_u32) (by kernel_rfl) (am e8) ?_)
        refine J_adv 2 (J_at (S0 := [(4, .suf 13 0 0)]) (O0 := [(13, .buf 0 167 1 (l7.map e_u32))]) (T0 := [.code (cAt (bodyOf Tryz.f218) [1, 1, 1, 1, 1])]) [4] [13] (by kernel_rfl) rfl ?_)
        refine J_adv 0 (J_ren [(13, 2000)] (by kernel_rfl) (by kernel_rfl) (by kernel_rfl) (by kernel_rfl) ?_)
        have hr_ := Option.some.inj hF; subst hr_
        exact J_adv 0 (J_retRR (xs := [.suf 2000 0 0]) [.suf 2000 0 0] rfl (by kernel_rfl) (by kernel_rfl) (Res'.refl _) rfl)
  exact J_adv 15 (J_at [1, 5, 6, 14, 15, 16] [13] (T0 := [.inLoop (cAt (bodyOf Tryz.f218) [1, 1, 1, 0, 1, 0, 0]), .inBlock 0, .code (cAt (bodyOf Tryz.f218) [1, 1, 1, 1])]) (by kernel_rfl) rfl (hF218_L1 fuel 0 0 l1 hF))
/- (croupier/exact.limbs).scaled -/
def F218a_L1 (d0 : List Int) (d1 : Int) : Nat → Int → Int → (List Int) → Option (List Int)
  | 0, _, _, _ => none
  | n_F218a_L1 + 1, v3, v4, l5 =>
    bif decide (v4 < ((d0.map e_u32).length : Int)) then
      (Option.bind (geti d0 v4) fun y3 =>
      Option.bind (app l5 [IntKind.u32.wrap (Int.tmod (IntKind.u64.wrap ((IntKind.u64.wrap ((IntKind.u64.wrap y3) * (IntKind.u64.wrap d1))) + v3)) 1000000000)]) fun l6 =>
      (F218a_L1 d0 d1 n_F218a_L1) (IntKind.u64.wrap (Int.tdiv (IntKind.u64.wrap ((IntKind.u64.wrap ((IntKind.u64.wrap y3) * (IntKind.u64.wrap d1))) + v3)) 1000000000)) (IntKind.i64.wrap (v4 + 1)) l6)
    else
      (Option.bind (app l5 [IntKind.u32.wrap v3]) fun l7 =>
      some l7)
def F218a (fuel : Nat) (d0 : List Int) (d1 : Int) : Option (List Int) :=
  Option.bind (mkL 0 (IntKind.i64.wrap (((d0.map e_u32).length : Int) + 1)) 0) fun l1 =>
  F218a_L1 d0 d1 fuel 0 0 l1
theorem F218a_ok {fuel : Nat} {d0 : List Int} {d1 : Int} {r : List Int} (hF : F218a fuel d0 d1 = some r) :
    CallF Tryz.prog 218 [.d (.sl 1 (d0.map e_u32)), .d (.int .u32 d1)] (.d (.sl 1 (r.map e_u32))) := by
  unfold F218a at hF
  refine callF_of (N := 41) (b := bodyOf Tryz.f218) Tryz.func218 (by kernel_rfl) rfl rfl ?_
  obtain ⟨l1, e1, hF⟩ := bnd hF
  refine J_adv 9 (J_opt2 (o := mk2 0 (IntKind.i64.wrap (((d0.map e_u32).length : Int) + 1)) (e_u32 0)) (l1.map e_u32) (by kernel_rfl) (mm e1) ?_)
  have hF218a_L1 : ∀ (n_F218a_L1 : Nat) (v3 : Int) (v4 : Int) (l5 : List Int), F218a_L1 d0 d1 n_F218a_L1 v3 v4 l5 = some r → J none Tryz.prog 41 [] (finF Tryz.prog Tryz.f218 (.d (.sl 1 (r.map e_u32)))) ⟨mkT [(1, .d (.int .u32 d1)), (5, .suf 13 0 0), (6, .d (.int .u64 v3)), (14, .d (.sl 1 (d0.map e_u32))), (15, .d (.int .i64 ((d0.map e_u32).length : Int))), (16, .d (.int .i64 v4))], [(13, .buf 0 167 1 (l5.map e_u32))], [.inLoop (cAt (bodyOf Tryz.f218) [1, 1, 1, 0, 1, 0, 0]), .inBlock 0, .code (cAt (bodyOf Tryz.f218) [1, 1, 1, 1])]⟩ := by
    clear hF; intro n_F218a_L1
    induction n_F218a_L1 with
    | zero => intro v3 v4 l5 hF; cases hF
    | succ n_F218a_L1 ih_F218a_L1 =>
      intro v3 v4 l5 hF
      rw [F218a_L1] at hF
      refine J_adv 6 (J_bool 17 (b := decide (v4 < ((d0.map e_u32).length : Int))) (by kernel_rfl) (fun hb3 => ?_) (fun hb3 => ?_))
      · replace hF := ift hb3 hF
        obtain ⟨y3, e6, hF⟩ := bnd hF
        refine J_adv 6 (J_opt1 (o := geti (d0.map e_u32) v4) (e_u32 y3) (by kernel_rfl) (gm e6) ?_)
        obtain ⟨l6, e7, hF⟩ := bnd hF
        refine J_adv 20 (J_opt2 (o := app2 ((l5.map e_u32).drop 0) ([IntKind.u32.wrap (Int.tmod (IntKind.u64.wrap ((IntKind.u64.wrap ((IntKind.u64.wrap y3) * (IntKind.u64.wrap d1))) + v3)) 1000000000)].map e_u32)) (l6.map e_u32) (by kernel_rfl) (am e7) ?_)
        exact J_adv 10 (J_at [1, 5, 6, 14, 15, 16] [13] (T0 := [.inLoop (cAt (bodyOf Tryz.f218) [1, 1, 1, 0, 1, 0, 0]), .inBlock 0, .code (cAt (bodyOf Tryz.f218) [1, 1, 1, 1])]) (by kernel_rfl) rfl (ih_F218a_L1 (IntKind.u64.wrap (Int.tdiv (IntKind.u64.wrap ((IntKind.u64.wrap ((IntKind.u64.wrap y3) * (IntKind.u64.wrap d1))) + v3)) 1000000000)) (IntKind.i64.wrap (v4 + 1)) l6 hF))
      · replace hF := iff' hb3 hF
        obtain ⟨l7, e8, hF⟩ := bnd hF
        refine J_adv 8 (J_opt2 (o := app2 ((l5.map e_u32).drop 0) ([IntKind.u32.wrap v3].map e_u32)) (l7.map e_u32) (by kernel_rfl) (am e8) ?_)
        have hr_ := Option.some.inj hF; subst hr_
        exact J_adv 2 (J_ret (xs := [.d (.sl 1 (l7.map e_u32))]) [.d (.sl 1 (l7.map e_u32))] rfl rfl (by kernel_rfl) (Res'.refl _) rfl)
  exact J_adv 15 (J_at [1, 5, 6, 14, 15, 16] [13] (T0 := [.inLoop (cAt (bodyOf Tryz.f218) [1, 1, 1, 0, 1, 0, 0]), .inBlock 0, .code (cAt (bodyOf Tryz.f218) [1, 1, 1, 1])]) (by kernel_rfl) rfl (hF218a_L1 fuel 0 0 l1 hF))
/- (croupier/exact.limbs).lose -/
def F219_L1 (d0 : Nat) (d1 : List Int) (d2 : Int) : Nat → Int → Int → Int → (List Int) → Option (Bool × List Int)
  | 0, _, _, _, _ => none
  | n_F219_L1 + 1, v4, v5, v6, l10 =>
    bif decide (v6 < (IntKind.i64.wrap (((d1.map e_u32).length : Int) + 1))) then
      (bif decide (v6 < ((d1.map e_u32).length : Int)) then
        (Option.bind (geti d1 v6) fun y15 =>
        Option.bind (geti (l10.drop d0) v6) fun y16 =>
        bif decide ((IntKind.i64.wrap ((IntKind.i64.wrap ((IntKind.i64.wrap y16) - (IntKind.i64.wrap (Int.tmod (IntKind.u64.wrap (v4 + (IntKind.u64.wrap (d2 * (IntKind.u64.wrap y15))))) 1000000000)))) - v5)) < 0) then
          (Option.bind (geti (l10.drop d0) v6) fun y17 =>
          Option.bind (some (l10.set (d0 + Int.toNat v6) (IntKind.u32.wrap (IntKind.i64.wrap ((IntKind.i64.wrap ((IntKind.i64.wrap ((IntKind.i64.wrap y16) - (IntKind.i64.wrap (Int.tmod (IntKind.u64.wrap (v4 + (IntKind.u64.wrap (d2 * (IntKind.u64.wrap y15))))) 1000000000)))) - v5)) + 1000000000))))) fun l11 =>
          (F219_L1 d0 d1 d2 n_F219_L1) (IntKind.u64.wrap (Int.tdiv (IntKind.u64.wrap (v4 + (IntKind.u64.wrap (d2 * (IntKind.u64.wrap y15))))) 1000000000)) 1 (IntKind.i64.wrap (v6 + 1)) l11)
        else
          (Option.bind (geti (l10.drop d0) v6) fun y18 =>
          Option.bind (some (l10.set (d0 + Int.toNat v6) (IntKind.u32.wrap (IntKind.i64.wrap ((IntKind.i64.wrap ((IntKind.i64.wrap y16) - (IntKind.i64.wrap (Int.tmod (IntKind.u64.wrap (v4 + (IntKind.u64.wrap (d2 * (IntKind.u64.wrap y15))))) 1000000000)))) - v5))))) fun l12 =>
          (F219_L1 d0 d1 d2 n_F219_L1) (IntKind.u64.wrap (Int.tdiv (IntKind.u64.wrap (v4 + (IntKind.u64.wrap (d2 * (IntKind.u64.wrap y15))))) 1000000000)) 0 (IntKind.i64.wrap (v6 + 1)) l12))
      else
        (Option.bind (geti (l10.drop d0) v6) fun y19 =>
        bif decide ((IntKind.i64.wrap ((IntKind.i64.wrap ((IntKind.i64.wrap y19) - (IntKind.i64.wrap (Int.tmod v4 1000000000)))) - v5)) < 0) then
          (Option.bind (geti (l10.drop d0) v6) fun y20 =>
          Option.bind (some (l10.set (d0 + Int.toNat v6) (IntKind.u32.wrap (IntKind.i64.wrap ((IntKind.i64.wrap ((IntKind.i64.wrap ((IntKind.i64.wrap y19) - (IntKind.i64.wrap (Int.tmod v4 1000000000)))) - v5)) + 1000000000))))) fun l13 =>
          (F219_L1 d0 d1 d2 n_F219_L1) (IntKind.u64.wrap (Int.tdiv v4 1000000000)) 1 (IntKind.i64.wrap (v6 + 1)) l13)
        else
          (Option.bind (geti (l10.drop d0) v6) fun y21 =>
          Option.bind (some (l10.set (d0 + Int.toNat v6) (IntKind.u32.wrap (IntKind.i64.wrap ((IntKind.i64.wrap ((IntKind.i64.wrap y19) - (IntKind.i64.wrap (Int.tmod v4 1000000000)))) - v5))))) fun l14 =>
          (F219_L1 d0 d1 d2 n_F219_L1) (IntKind.u64.wrap (Int.tdiv v4 1000000000)) 0 (IntKind.i64.wrap (v6 + 1)) l14)))
    else
      (some (decide (v5 > 0), l10))
def F219 (fuel : Nat) (d0 : Nat) (d1 : List Int) (d2 : Int) (d3 : List Int) : Option (Bool × List Int) :=
  F219_L1 d0 d1 d2 fuel 0 0 0 d3
theorem F219_ok {fuel : Nat} {d0 : Nat} {d1 : List Int} {d2 : Int} {d3 : List Int} {r : Bool × List Int} (hF : F219 fuel d0 d1 d2 d3 = some r) :
    CallR Tryz.prog 219 [(2000, .buf 0 167 1 (d3.map e_u32))] [.suf 2000 0 d0, .d (.sl 1 (d1.map e_u32)), .d (.int .u64 d2)] [(2000, .buf 0 167 1 (r.2.map e_u32))] (.d (.bool r.1)) := by
  unfold F219 at hF
  refine callR_of (N := 57) (b := bodyOf Tryz.f219) Tryz.func219 (by kernel_rfl) rfl rfl ?_
  have hF219_L1 : ∀ (n_F219_L1 : Nat) (v4 : Int) (v5 : Int) (v6 : Int) (l10 : List Int), F219_L1 d0 d1 d2 n_F219_L1 v4 v5 v6 l10 = some r → J none Tryz.prog 57 [] (finR Tryz.prog Tryz.f219 [(2000, .buf 0 167 1 (r.2.map e_u32))] (.d (.bool r.1))) ⟨mkT [(0, .suf 2000 0 d0), (1, .d (.sl 1 (d1.map e_u32))), (2, .d (.int .u64 d2)), (7, .d (.int .u64 v4)), (8, .d (.int .i64 v5)), (14, .d (.int .i64 (IntKind.i64.wrap (((d1.map e_u32).length : Int) + 1)))), (15, .d (.int .i64 v6))], [(2000, .buf 0 167 1 (l10.map e_u32))], [.inLoop (cAt (bodyOf Tryz.f219) [1, 1, 0, 1, 0, 0]), .inBlock 0, .code (cAt (bodyOf Tryz.f219) [1, 1, 1])]⟩ := by
    clear hF; intro n_F219_L1
    induction n_F219_L1 with
    | zero => intro v4 v5 v6 l10 hF; cases hF
    | succ n_F219_L1 ih_F219_L1 =>
      intro v4 v5 v6 l10 hF
      rw [F219_L1] at hF
      refine J_adv 6 (J_bool 16 (b := decide (v6 < (IntKind.i64.wrap (((d1.map e_u32).length : Int) + 1)))) (by kernel_rfl) (fun hb9 => ?_) (fun hb9 => ?_))
      · replace hF := ift hb9 hF
        refine J_adv 22 (J_bool 22 (b := decide (v6 < ((d1.map e_u32).length : Int))) (by kernel_rfl) (fun hb10 => ?_) (fun hb10 => ?_))
        · replace hF := ift hb10 hF
          obtain ⟨y15, e23, hF⟩ := bnd hF
          refine J_adv 6 (J_opt1 (o := geti (d1.map e_u32) v6) (e_u32 y15) (by kernel_rfl) (gm e23) ?_)
          obtain ⟨y16, e24, hF⟩ := bnd hF
          refine J_adv 16 (J_opt1 (o := geti ((l10.map e_u32).drop d0) v6) (e_u32 y16) (by kernel_rfl) (gmd e24) ?_)
          refine J_adv 0 (J_opt1 (o := (l10.map e_u32)[d0 + Int.toNat v6]?) (e_u32 y16) (by kernel_rfl) (gjm (gjd e24)) ?_)
          refine J_adv 19 (J_bool 46 (b := decide ((IntKind.i64.wrap ((IntKind.i64.wrap ((IntKind.i64.wrap y16) - (IntKind.i64.wrap (Int.tmod (IntKind.u64.wrap (v4 + (IntKind.u64.wrap (d2 * (IntKind.u64.wrap y15))))) 1000000000)))) - v5)) < 0)) (by kernel_rfl) (fun hb11 => ?_) (fun hb11 => ?_))
          · replace hF := ift hb11 hF
            obtain ⟨y17, e25, hF⟩ := bnd hF
            refine J_adv 12 (J_opt1 (o := geti ((l10.map e_u32).drop d0) v6) (e_u32 y17) (by kernel_rfl) (gmd e25) ?_)
            obtain ⟨l11, e26, hF⟩ := bnd hF
            have hst := stm (f := e_u32) (z := IntKind.u32.wrap (IntKind.i64.wrap ((IntKind.i64.wrap ((IntKind.i64.wrap ((IntKind.i64.wrap y16) - (IntKind.i64.wrap (Int.tmod (IntKind.u64.wrap (v4 + (IntKind.u64.wrap (d2 * (IntKind.u64.wrap y15))))) 1000000000)))) - v5)) + 1000000000))) (k := 0) (xs := [.int .u32 (IntKind.u32.wrap (IntKind.i64.wrap ((IntKind.i64.wrap ((IntKind.i64.wrap ((IntKind.i64.wrap y16) - (IntKind.i64.wrap (Int.tmod (IntKind.u64.wrap (v4 + (IntKind.u64.wrap (d2 * (IntKind.u64.wrap y15))))) 1000000000)))) - v5)) + 1000000000)))]) (gjd e25) rfl
            refine J_adv 0 (J_opt2 (o := (match (l10.map e_u32)[d0 + Int.toNat v6]? with | some old => some ((l10.map e_u32).set (d0 + Int.toNat v6) (setD old 0 [.int .u32 (IntKind.u32.wrap (IntKind.i64.wrap ((IntKind.i64.wrap ((IntKind.i64.wrap ((IntKind.i64.wrap y16) - (IntKind.i64.wrap (Int.tmod (IntKind.u64.wrap (v4 + (IntKind.u64.wrap (d2 * (IntKind.u64.wrap y15))))) 1000000000)))) - v5)) + 1000000000)))])) | none => none)) (l11.map e_u32) (by kernel_rfl) (by cases e26; exact hst) ?_)
            exact J_adv 6 (J_at [0, 1, 2, 7, 8, 14, 15] [2000] (T0 := [.inLoop (cAt (bodyOf Tryz.f219) [1, 1, 0, 1, 0, 0]), .inBlock 0, .code (cAt (bodyOf Tryz.f219) [1, 1, 1])]) (by kernel_rfl) rfl (ih_F219_L1 (IntKind.u64.wrap (Int.tdiv (IntKind.u64.wrap (v4 + (IntKind.u64.wrap (d2 * (IntKind.u64.wrap y15))))) 1000000000)) 1 (IntKind.i64.wrap (v6 + 1)) l11 hF))
          · replace hF := iff' hb11 hF
            obtain ⟨y18, e27, hF⟩ := bnd hF
            refine J_adv 7 (J_opt1 (o := geti ((l10.map e_u32).drop d0) v6) (e_u32 y18) (by kernel_rfl) (gmd e27) ?_)
            obtain ⟨l12, e28, hF⟩ := bnd hF
            have hst := stm (f := e_u32) (z := IntKind.u32.wrap (IntKind.i64.wrap ((IntKind.i64.wrap ((IntKind.i64.wrap y16) - (IntKind.i64.wrap (Int.tmod (IntKind.u64.wrap (v4 + (IntKind.u64.wrap (d2 * (IntKind.u64.wrap y15))))) 1000000000)))) - v5))) (k := 0) (xs := [.int .u32 (IntKind.u32.wrap (IntKind.i64.wrap ((IntKind.i64.wrap ((IntKind.i64.wrap y16) - (IntKind.i64.wrap (Int.tmod (IntKind.u64.wrap (v4 + (IntKind.u64.wrap (d2 * (IntKind.u64.wrap y15))))) 1000000000)))) - v5)))]) (gjd e27) rfl
            refine J_adv 0 (J_opt2 (o := (match (l10.map e_u32)[d0 + Int.toNat v6]? with | some old => some ((l10.map e_u32).set (d0 + Int.toNat v6) (setD old 0 [.int .u32 (IntKind.u32.wrap (IntKind.i64.wrap ((IntKind.i64.wrap ((IntKind.i64.wrap y16) - (IntKind.i64.wrap (Int.tmod (IntKind.u64.wrap (v4 + (IntKind.u64.wrap (d2 * (IntKind.u64.wrap y15))))) 1000000000)))) - v5)))])) | none => none)) (l12.map e_u32) (by kernel_rfl) (by cases e28; exact hst) ?_)
            exact J_adv 6 (J_at [0, 1, 2, 7, 8, 14, 15] [2000] (T0 := [.inLoop (cAt (bodyOf Tryz.f219) [1, 1, 0, 1, 0, 0]), .inBlock 0, .code (cAt (bodyOf Tryz.f219) [1, 1, 1])]) (by kernel_rfl) rfl (ih_F219_L1 (IntKind.u64.wrap (Int.tdiv (IntKind.u64.wrap (v4 + (IntKind.u64.wrap (d2 * (IntKind.u64.wrap y15))))) 1000000000)) 0 (IntKind.i64.wrap (v6 + 1)) l12 hF))
        · replace hF := iff' hb10 hF
          obtain ⟨y19, e29, hF⟩ := bnd hF
          refine J_adv 12 (J_opt1 (o := geti ((l10.map e_u32).drop d0) v6) (e_u32 y19) (by kernel_rfl) (gmd e29) ?_)
          refine J_adv 0 (J_opt1 (o := (l10.map e_u32)[d0 + Int.toNat v6]?) (e_u32 y19) (by kernel_rfl) (gjm (gjd e29)) ?_)
          refine J_adv 19 (J_bool 46 (b := decide ((IntKind.i64.wrap ((IntKind.i64.wrap ((IntKind.i64.wrap y19) - (IntKind.i64.wrap (Int.tmod v4 1000000000)))) - v5)) < 0)) (by kernel_rfl) (fun hb12 => ?_) (fun hb12 => ?_))
          · replace hF := ift hb12 hF
            obtain ⟨y20, e30, hF⟩ := bnd hF
            refine J_adv 12 (J_opt1 (o := geti ((l10.map e_u32).drop d0) v6) (e_u32 y20) (by kernel_rfl) (gmd e30) ?_)
            obtain ⟨l13, e31, hF⟩ := bnd hF
            have hst := stm (f := e_u32) (z := IntKind.u32.wrap (IntKind.i64.wrap ((IntKind.i64.wrap ((IntKind.i64.wrap ((IntKind.i64.wrap y19) - (IntKind.i64.wrap (Int.tmod v4 1000000000)))) - v5)) + 1000000000))) (k := 0) (xs := [.int .u32 (IntKind.u32.wrap (IntKind.i64.wrap ((IntKind.i64.wrap ((IntKind.i64.wrap ((IntKind.i64.wrap y19) - (IntKind.i64.wrap (Int.tmod v4 1000000000)))) - v5)) + 1000000000)))]) (gjd e30) rfl
            refine J_adv 0 (J_opt2 (o := (match (l10.map e_u32)[d0 + Int.toNat v6]? with | some old => some ((l10.map e_u32).set (d0 + Int.toNat v6) (setD old 0 [.int .u32 (IntKind.u32.wrap (IntKind.i64.wrap ((IntKind.i64.wrap ((IntKind.i64.wrap ((IntKind.i64.wrap y19) - (IntKind.i64.wrap (Int.tmod v4 1000000000)))) - v5)) + 1000000000)))])) | none => none)) (l13.map e_u32) (by kernel_rfl) (by cases e31; exact hst) ?_)
            exact J_adv 6 (J_at [0, 1, 2, 7, 8, 14, 15] [2000] (T0 := [.inLoop (cAt (bodyOf Tryz.f219) [1, 1, 0, 1, 0, 0]), .inBlock 0, .code (cAt (bodyOf Tryz.f219) [1, 1, 1])]) (by kernel_rfl) rfl (ih_F219_L1 (IntKind.u64.wrap (Int.tdiv v4 1000000000)) 1 (IntKind.i64.wrap (v6 + 1)) l13 hF))
          · replace hF := iff' hb12 hF
            obtain ⟨y21, e32, hF⟩ := bnd hF
            refine J_adv 7 (J_opt1 (o := geti ((l10.map e_u32).drop d0) v6) (e_u32 y21) (by kernel_rfl) (gmd e32) ?_)
            obtain ⟨l14, e33, hF⟩ := bnd hF
            have hst := stm (f := e_u32) (z := IntKind.u32.wrap (IntKind.i64.wrap ((IntKind.i64.wrap ((IntKind.i64.wrap y19) - (IntKind.i64.wrap (Int.tmod v4 1000000000)))) - v5))) (k := 0) (xs := [.int .u32 (IntKind.u32.wrap (IntKind.i64.wrap ((IntKind.i64.wrap ((IntKind.i64.wrap y19) - (IntKind.i64.wrap (Int.tmod v4 1000000000)))) - v5)))]) (gjd e32) rfl
            refine J_adv 0 (J_opt2 (o := (match (l10.map e_u32)[d0 + Int.toNat v6]? with | some old => some ((l10.map e_u32).set (d0 + Int.toNat v6) (setD old 0 [.int .u32 (IntKind.u32.wrap (IntKind.i64.wrap ((IntKind.i64.wrap ((IntKind.i64.wrap y19) - (IntKind.i64.wrap (Int.tmod v4 1000000000)))) - v5)))])) | none => none)) (l14.map e_u32) (by kernel_rfl) (by cases e33; exact hst) ?_)
            exact J_adv 6 (J_at [0, 1, 2, 7, 8, 14, 15] [2000] (T0 := [.inLoop (cAt (bodyOf Tryz.f219) [1, 1, 0, 1, 0, 0]), .inBlock 0, .code (cAt (bodyOf Tryz.f219) [1, 1, 1])]) (by kernel_rfl) rfl (ih_F219_L1 (IntKind.u64.wrap (Int.tdiv v4 1000000000)) 0 (IntKind.i64.wrap (v6 + 1)) l14 hF))
      · replace hF := iff' hb9 hF
        have hr_ := Option.some.inj hF; subst hr_
        exact J_adv 8 (J_retR (xs := [.d (.bool (decide (v5 > 0)))]) [.d (.bool (decide (v5 > 0)))] rfl (by kernel_rfl) (by kernel_rfl) (Res'.refl _) rfl)
  exact J_adv 19 (J_at [0, 1, 2, 7, 8, 14, 15] [2000] (T0 := [.inLoop (cAt (bodyOf Tryz.f219) [1, 1, 0, 1, 0, 0]), .inBlock 0, .code (cAt (bodyOf Tryz.f219) [1, 1, 1])]) (by kernel_rfl) rfl (hF219_L1 fuel 0 0 0 d3 hF))
/- (croupier/exact.limbs).gain -/
def F220_L1 (d0 : Nat) (d1 : List Int) : Nat → Int → Int → (List Int) → Option (List Int)
  | 0, _, _, _ => none
  | n_F220_L1 + 1, v3, v4, l6 =>
    bif decide (v4 < (IntKind.i64.wrap (((d1.map e_u32).length : Int) + 1))) then
      (Option.bind (geti (l6.drop d0) v4) fun y9 =>
      bif decide (v4 < ((d1.map e_u32).length : Int)) then
        (Option.bind (geti d1 v4) fun y10 =>
        Option.bind (geti (l6.drop d0) v4) fun y11 =>
        Option.bind (some (l6.set (d0 + Int.toNat v4) (Int.tmod (IntKind.u32.wrap ((IntKind.u32.wrap (y9 + v3)) + y10)) 1000000000))) fun l7 =>
        (F220_L1 d0 d1 n_F220_L1) (IntKind.u32.wrap (Int.tdiv (IntKind.u32.wrap ((IntKind.u32.wrap (y9 + v3)) + y10)) 1000000000)) (IntKind.i64.wrap (v4 + 1)) l7)
      else
        (Option.bind (geti (l6.drop d0) v4) fun y12 =>
        Option.bind (some (l6.set (d0 + Int.toNat v4) (Int.tmod (IntKind.u32.wrap (y9 + v3)) 1000000000))) fun l8 =>
        (F220_L1 d0 d1 n_F220_L1) (IntKind.u32.wrap (Int.tdiv (IntKind.u32.wrap (y9 + v3)) 1000000000)) (IntKind.i64.wrap (v4 + 1)) l8))
    else
      (some l6)
def F220 (fuel : Nat) (d0 : Nat) (d1 : List Int) (d2 : List Int) : Option (List Int) :=
  F220_L1 d0 d1 fuel 0 0 d2
theorem F220_ok {fuel : Nat} {d0 : Nat} {d1 : List Int} {d2 : List Int} {r : List Int} (hF : F220 fuel d0 d1 d2 = some r) :
    CallR Tryz.prog 220 [(2000, .buf 0 167 1 (d2.map e_u32))] [.suf 2000 0 d0, .d (.sl 1 (d1.map e_u32))] [(2000, .buf 0 167 1 (r.map e_u32))] (.tup []) := by
  unfold F220 at hF
  refine callR_of (N := 37) (b := bodyOf Tryz.f220) Tryz.func220 (by kernel_rfl) rfl rfl ?_
  have hF220_L1 : ∀ (n_F220_L1 : Nat) (v3 : Int) (v4 : Int) (l6 : List Int), F220_L1 d0 d1 n_F220_L1 v3 v4 l6 = some r → J none Tryz.prog 37 [] (finR Tryz.prog Tryz.f220 [(2000, .buf 0 167 1 (r.map e_u32))] (.tup [])) ⟨mkT [(0, .suf 2000 0 d0), (1, .d (.sl 1 (d1.map e_u32))), (4, .d (.int .u32 v3)), (9, .d (.int .i64 (IntKind.i64.wrap (((d1.map e_u32).length : Int) + 1)))), (10, .d (.int .i64 v4))], [(2000, .buf 0 167 1 (l6.map e_u32))], [.inLoop (cAt (bodyOf Tryz.f220) [1, 1, 0, 0]), .inBlock 0]⟩ := by
    clear hF; intro n_F220_L1
    induction n_F220_L1 with
    | zero => intro v3 v4 l6 hF; cases hF
    | succ n_F220_L1 ih_F220_L1 =>
      intro v3 v4 l6 hF
      rw [F220_L1] at hF
      refine J_adv 6 (J_bool 11 (b := decide (v4 < (IntKind.i64.wrap (((d1.map e_u32).length : Int) + 1)))) (by kernel_rfl) (fun hb5 => ?_) (fun hb5 => ?_))
      · replace hF := ift hb5 hF
        obtain ⟨y9, e13, hF⟩ := bnd hF
        refine J_adv 13 (J_opt1 (o := geti ((l6.map e_u32).drop d0) v4) (e_u32 y9) (by kernel_rfl) (gmd e13) ?_)
        refine J_adv 0 (J_opt1 (o := (l6.map e_u32)[d0 + Int.toNat v4]?) (e_u32 y9) (by kernel_rfl) (gjm (gjd e13)) ?_)
        refine J_adv 12 (J_bool 22 (b := decide (v4 < ((d1.map e_u32).length : Int))) (by kernel_rfl) (fun hb6 => ?_) (fun hb6 => ?_))
        · replace hF := ift hb6 hF
          obtain ⟨y10, e14, hF⟩ := bnd hF
          refine J_adv 5 (J_opt1 (o := geti (d1.map e_u32) v4) (e_u32 y10) (by kernel_rfl) (gm e14) ?_)
          obtain ⟨y11, e15, hF⟩ := bnd hF
          refine J_adv 11 (J_opt1 (o := geti ((l6.map e_u32).drop d0) v4) (e_u32 y11) (by kernel_rfl) (gmd e15) ?_)
          obtain ⟨l7, e16, hF⟩ := bnd hF
          have hst := stm (f := e_u32) (z := Int.tmod (IntKind.u32.wrap ((IntKind.u32.wrap (y9 + v3)) + y10)) 1000000000) (k := 0) (xs := [.int .u32 (Int.tmod (IntKind.u32.wrap ((IntKind.u32.wrap (y9 + v3)) + y10)) 1000000000)]) (gjd e15) rfl
          refine J_adv 0 (J_opt2 (o := (match (l6.map e_u32)[d0 + Int.toNat v4]? with | some old => some ((l6.map e_u32).set (d0 + Int.toNat v4) (setD old 0 [.int .u32 (Int.tmod (IntKind.u32.wrap ((IntKind.u32.wrap (y9 + v3)) + y10)) 1000000000)])) | none => none)) (l7.map e_u32) (by kernel_rfl) (by cases e16; exact hst) ?_)
          exact J_adv 7 (J_at [0, 1, 4, 9, 10] [2000] (T0 := [.inLoop (cAt (bodyOf Tryz.f220) [1, 1, 0, 0]), .inBlock 0]) (by kernel_rfl) rfl (ih_F220_L1 (IntKind.u32.wrap (Int.tdiv (IntKind.u32.wrap ((IntKind.u32.wrap (y9 + v3)) + y10)) 1000000000)) (IntKind.i64.wrap (v4 + 1)) l7 hF))
        · replace hF := iff' hb6 hF
          obtain ⟨y12, e17, hF⟩ := bnd hF
          refine J_adv 9 (J_opt1 (o := geti ((l6.map e_u32).drop d0) v4) (e_u32 y12) (by kernel_rfl) (gmd e17) ?_)
          obtain ⟨l8, e18, hF⟩ := bnd hF
          have hst := stm (f := e_u32) (z := Int.tmod (IntKind.u32.wrap (y9 + v3)) 1000000000) (k := 0) (xs := [.int .u32 (Int.tmod (IntKind.u32.wrap (y9 + v3)) 1000000000)]) (gjd e17) rfl
          refine J_adv 0 (J_opt2 (o := (match (l6.map e_u32)[d0 + Int.toNat v4]? with | some old => some ((l6.map e_u32).set (d0 + Int.toNat v4) (setD old 0 [.int .u32 (Int.tmod (IntKind.u32.wrap (y9 + v3)) 1000000000)])) | none => none)) (l8.map e_u32) (by kernel_rfl) (by cases e18; exact hst) ?_)
          exact J_adv 7 (J_at [0, 1, 4, 9, 10] [2000] (T0 := [.inLoop (cAt (bodyOf Tryz.f220) [1, 1, 0, 0]), .inBlock 0]) (by kernel_rfl) rfl (ih_F220_L1 (IntKind.u32.wrap (Int.tdiv (IntKind.u32.wrap (y9 + v3)) 1000000000)) (IntKind.i64.wrap (v4 + 1)) l8 hF))
      · replace hF := iff' hb5 hF
        have hr_ := Option.some.inj hF; subst hr_
        exact J_adv 2 (J_retR (xs := []) [] rfl (by kernel_rfl) (by kernel_rfl) (Res'.refl _) rfl)
  exact J_adv 13 (J_at [0, 1, 4, 9, 10] [2000] (T0 := [.inLoop (cAt (bodyOf Tryz.f220) [1, 1, 0, 0]), .inBlock 0]) (by kernel_rfl) rfl (hF220_L1 fuel 0 0 d2 hF))
/- (croupier/exact.limbs).divided -/
def F178_L2 (fuel : Nat) (l1 : List Int) (l9 : List Int) (l10 : List Int) (v6 : Int) (y93 : Int) (y94 : Int) (rec_F178_L1 : Int → (List Int) → (List Int) → Option (List Int × List Int)) : Nat → Int → Option (List Int × List Int)
  | 0, _ => none
  | n_F178_L2 + 1, v8 =>
    Option.bind (
      Option.bind (geti l1 (IntKind.i64.wrap (((l1.map e_u32).length : Int) - 2))) fun y132 =>
      Option.bind (geti l1 (IntKind.i64.wrap (((l1.map e_u32).length : Int) - 1))) fun y133 =>
      Option.bind (geti l10 (IntKind.i64.wrap ((IntKind.i64.wrap (v6 + ((l1.map e_u32).length : Int))) - 2))) fun y134 =>
      bif decide ((IntKind.u64.wrap (v8 * (IntKind.u64.wrap y132))) > (IntKind.u64.wrap ((IntKind.u64.wrap ((IntKind.u64.wrap ((IntKind.u64.wrap ((IntKind.u64.wrap ((IntKind.u64.wrap y93) * 1000000000)) + (IntKind.u64.wrap y94))) - (IntKind.u64.wrap (v8 * (IntKind.u64.wrap y133))))) * 1000000000)) + (IntKind.u64.wrap y134)))) then
        (Option.bind (geti l1 (IntKind.i64.wrap (((l1.map e_u32).length : Int) - 1))) fun y135 =>
        some (decide ((IntKind.u64.wrap ((IntKind.u64.wrap ((IntKind.u64.wrap ((IntKind.u64.wrap y93) * 1000000000)) + (IntKind.u64.wrap y94))) - (IntKind.u64.wrap (v8 * (IntKind.u64.wrap y135))))) < 1000000000)))
      else
        (some false)) fun o9 =>
    bif o9 then
      ((F178_L2 fuel l1 l9 l10 v6 y93 y94 rec_F178_L1 n_F178_L2) (IntKind.u64.wrap (v8 - 1)))
    else
      (ass (decide ((0 : Int) ≤ v6) && decide (v6 ≤ (((l10.map e_u32).drop 0).length : Int))) <|
      Option.bind (F219 fuel (0 + Int.toNat v6) l1 v8 l10) fun y128 =>
      bif y128.1 then
        (ass (decide ((0 : Int) ≤ v6) && decide (v6 ≤ (((y128.2.map e_u32).drop 0).length : Int))) <|
        Option.bind (F220 fuel (0 + Int.toNat v6) l1 y128.2) fun y129 =>
        Option.bind (geti l9 v6) fun y130 =>
        Option.bind (some (l9.set (0 + Int.toNat v6) (IntKind.u32.wrap (IntKind.u64.wrap (v8 - 1))))) fun l11 =>
        rec_F178_L1 (IntKind.i64.wrap (v6 - 1)) l11 y129)
      else
        (Option.bind (geti l9 v6) fun y131 =>
        Option.bind (some (l9.set (0 + Int.toNat v6) (IntKind.u32.wrap v8))) fun l12 =>
        rec_F178_L1 (IntKind.i64.wrap (v6 - 1)) l12 y128.2))
def F178_L1 (fuel : Nat) (l1 : List Int) (y4 : Int) : Nat → Int → (List Int) → (List Int) → Option (List Int × List Int)
  | 0, _, _, _ => none
  | n_F178_L1 + 1, v6, l9, l10 =>
    bif decide (v6 ≥ 0) then
      (Option.bind (geti l10 (IntKind.i64.wrap (v6 + ((l1.map e_u32).length : Int)))) fun y93 =>
      Option.bind (geti l10 (IntKind.i64.wrap ((IntKind.i64.wrap (v6 + ((l1.map e_u32).length : Int))) - 1))) fun y94 =>
      Option.bind (geti l1 (IntKind.i64.wrap (((l1.map e_u32).length : Int) - 1))) fun y95 =>
      ass (decide ((IntKind.u64.wrap y95) ≠ 0)) <|
      F178_L2 fuel l1 l9 l10 v6 y93 y94 (F178_L1 fuel l1 y4 n_F178_L1) fuel (bif decide (999999999 < (IntKind.u64.wrap (Int.tdiv (IntKind.u64.wrap ((IntKind.u64.wrap ((IntKind.u64.wrap y93) * 1000000000)) + (IntKind.u64.wrap y94))) (IntKind.u64.wrap y95)))) then 999999999 else (IntKind.u64.wrap (Int.tdiv (IntKind.u64.wrap ((IntKind.u64.wrap ((IntKind.u64.wrap y93) * 1000000000)) + (IntKind.u64.wrap y94))) (IntKind.u64.wrap y95)))))
    else
      (Option.bind (slc l10 0 ((l1.map e_u32).length : Int)) fun l13 =>
      Option.bind (F140 fuel false l13) fun y136 =>
      Option.bind (F217 fuel y136.mag (IntKind.u32.wrap (IntKind.u64.wrap (Int.tdiv 1000000000 (IntKind.u64.wrap ((IntKind.u64.wrap y4) + 1)))))) fun y137 =>
      some (l9, y137.1))
def F178 (fuel : Nat) (d0 : List Int) (d1 : List Int) : Option (List Int × List Int) :=
  Option.bind (F142 fuel d0 d1) fun y1 =>
  bif decide (y1 < 0) then
    (some ([], d0))
  else
    (bif ((d1.map e_u32).length : Int) == 1 then
      (Option.bind (geti d1 0) fun y2 =>
      Option.bind (F217 fuel d0 y2) fun y3 =>
      some (y3.1, [y3.2]))
    else
      (Option.bind (geti d1 (IntKind.i64.wrap (((d1.map e_u32).length : Int) - 1))) fun y4 =>
      ass (decide ((IntKind.u64.wrap ((IntKind.u64.wrap y4) + 1)) ≠ 0)) <|
      Option.bind (F218 fuel d0 (IntKind.u32.wrap (IntKind.u64.wrap (Int.tdiv 1000000000 (IntKind.u64.wrap ((IntKind.u64.wrap y4) + 1)))))) fun y5 =>
      Option.bind (F218a fuel d1 (IntKind.u32.wrap (IntKind.u64.wrap (Int.tdiv 1000000000 (IntKind.u64.wrap ((IntKind.u64.wrap y4) + 1)))))) fun y6 =>
      Option.bind (slc y6 0 ((d1.map e_u32).length : Int)) fun l1 =>
      Option.bind (mkL (IntKind.i64.wrap (((y5.map e_u32).length : Int) - ((l1.map e_u32).length : Int))) (IntKind.i64.wrap (((y5.map e_u32).length : Int) - ((l1.map e_u32).length : Int))) 0) fun l2 =>
      F178_L1 fuel l1 y4 fuel (IntKind.i64.wrap ((IntKind.i64.wrap (((y5.map e_u32).length : Int) - ((l1.map e_u32).length : Int))) - 1)) l2 y5))
theorem F178_ok {fuel : Nat} {d0 : List Int} {d1 : List Int} {r : List Int × List Int} (hF : F178 fuel d0 d1 = some r) :
    CallF Tryz.prog 178 [.d (.sl 1 (d0.map e_u32)), .d (.sl 1 (d1.map e_u32))] (.tup [.d (.sl 1 (r.1.map e_u32)), .d (.sl 1 (r.2.map e_u32))]) := by
  unfold F178 at hF
  refine callF_of (N := 172) (b := bodyOf Tryz.f178) Tryz.func178 (by kernel_rfl) rfl rfl ?_
  obtain ⟨y1, e1, hF⟩ := bnd hF
  refine J_adv 10 (J_callF (xs := [.d (.sl 1 (d0.map e_u32)), .d (.sl 1 (d1.map e_u32))]) [.d (.sl 1 (d0.map e_u32)), .d (.sl 1 (d1.map e_u32))] (.d (.int .i64 y1)) (by kernel_rfl) en142 (Res'.refl _) (F142_ok e1) ?_)
  refine J_adv 2 (J_bool 21 (b := decide (y1 < 0)) (by kernel_rfl) (fun hb1 => ?_) (fun hb1 => ?_))
  · replace hF := ift hb1 hF
    have hr_ := Option.some.inj hF; subst hr_
    exact J_adv 7 (J_ret (xs := [.d (.sl 1 ([].map e_u32)), .d (.sl 1 (d0.map e_u32))]) [.d (.sl 1 ([].map e_u32)), .d (.sl 1 (d0.map e_u32))] rfl rfl (by kernel_rfl) (Res'.refl _) rfl)
  · replace hF := iff' hb1 hF
    refine J_adv 9 (J_bool 25 (b := ((d1.map e_u32).length : Int) == 1) (by kernel_rfl) (fun hb2 => ?_) (fun hb2 => ?_))
    · replace hF := ift hb2 hF
      obtain ⟨y2, e2, hF⟩ := bnd hF
      refine J_adv 5 (J_opt1 (o := geti (d1.map e_u32) 0) (e_u32 y2) (by kernel_rfl) (gm e2) ?_)
      obtain ⟨y3, e3, hF⟩ := bnd hF
      refine J_adv 1 (J_callF (xs := [.d (.sl 1 (d0.map e_u32)), .d (.int .u32 y2)]) [.d (.sl 1 (d0.map e_u32)), .d (.int .u32 y2)] (.tup [.d (.sl 1 (y3.1.map e_u32)), .d (.int .u32 y3.2)]) (by kernel_rfl) en217 (Res'.refl _) (F217_ok e3) ?_)
      have hr_ := Option.some.inj hF; subst hr_
      exact J_adv 14 (J_ret (xs := [.d (.sl 1 (y3.1.map e_u32)), .d (.sl 1 ([y3.2].map e_u32))]) [.d (.sl 1 (y3.1.map e_u32)), .d (.sl 1 ([y3.2].map e_u32))] rfl rfl (by kernel_rfl) (Res'.refl _) rfl)
    · replace hF := iff' hb2 hF
      obtain ⟨y4, e4, hF⟩ := bnd hF
      refine J_adv 8 (J_opt1 (o := geti (d1.map e_u32) (IntKind.i64.wrap (((d1.map e_u32).length : Int) - 1))) (e_u32 y4) (by kernel_rfl) (gm e4) ?_)
      obtain ⟨hb3, hF⟩ := assd hF
      refine J_adv 3 (J_opt1 (o := chk (decide ((IntKind.u64.wrap ((IntKind.u64.wrap y4) + 1)) ≠ 0))) [] (by kernel_rfl) (ck hb3) ?_)
      refine J_adv 4 (J_draw (by kernel_rfl) (by kernel_rfl) ?_)
      obtain ⟨y5, e5, hF⟩ := bnd hF
      refine JD_adv 2 (JD_callR (os := []) (xs := [.d (.sl 1 (d0.map e_u32)), .d (.int .u32 (IntKind.u32.wrap (IntKind.u64.wrap (Int.tdiv 1000000000 (IntKind.u64.wrap ((IntKind.u64.wrap y4) + 1))))))]) [(49, 2000)] [.d (.sl 1 (d0.map e_u32)), .d (.int .u32 (IntKind.u32.wrap (IntKind.u64.wrap (Int.tdiv 1000000000 (IntKind.u64.wrap ((IntKind.u64.wrap y4) + 1))))))] [(2000, .buf 0 167 1 (y5.map e_u32))] (.suf 2000 0 0) (by kernel_rfl) (by kernel_rfl) en218 (Res'.refl _) (F218_ok e5) ?_)
      obtain ⟨y6, e6, hF⟩ := bnd hF
      refine JD_adv 2 (JD_callF (xs := [.d (.sl 1 (d1.map e_u32)), .d (.int .u32 (IntKind.u32.wrap (IntKind.u64.wrap (Int.tdiv 1000000000 (IntKind.u64.wrap ((IntKind.u64.wrap y4) + 1))))))]) [.d (.sl 1 (d1.map e_u32)), .d (.int .u32 (IntKind.u32.wrap (IntKind.u64.wrap (Int.tdiv 1000000000 (IntKind.u64.wrap ((IntKind.u64.wrap y4) + 1))))))] (.d (.sl 1 (y6.map e_u32))) (by kernel_rfl) (by kernel_rfl) en218 (Res'.refl _) (F218a_ok e6) ?_)
      obtain ⟨l1, e7, hF⟩ := bnd hF
      refine JD_adv 2 (JD_opt2 (o := slc (y6.map e_u32) 0 ((d1.map e_u32).length : Int)) (l1.map e_u32) (by kernel_rfl) (by kernel_rfl) (sm e7) ?_)
      refine JD_adv 2 (JD_end (by kernel_rfl) ?_)
      obtain ⟨l2, e8, hF⟩ := bnd hF
      refine J_adv 12 (J_opt2 (o := mk2 (IntKind.i64.wrap (((y5.map e_u32).length : Int) - ((l1.map e_u32).length : Int))) (IntKind.i64.wrap (((y5.map e_u32).length : Int) - ((l1.map e_u32).length : Int))) (e_u32 0)) (l2.map e_u32) (by kernel_rfl) (mm e8) ?_)
      have hF178_L1 : ∀ (n_F178_L1 : Nat) (v6 : Int) (l9 : List Int) (l10 : List Int), F178_L1 fuel l1 y4 n_F178_L1 v6 l9 l10 = some r → J none Tryz.prog 172 [] (finF Tryz.prog Tryz.f178 (.tup [.d (.sl 1 (r.1.map e_u32)), .d (.sl 1 (r.2.map e_u32))])) ⟨mkT [(8, .d (.int .u32 (IntKind.u32.wrap (IntKind.u64.wrap (Int.tdiv 1000000000 (IntKind.u64.wrap ((IntKind.u64.wrap y4) + 1))))))), (9, .suf 49 0 0), (10, .d (.sl 1 (l1.map e_u32))), (11, .d (.int .i64 ((l1.map e_u32).length : Int))), (12, .suf 62 0 0), (13, .d (.int .i64 v6))], [(49, .buf 0 167 1 (l10.map e_u32)), (62, .buf 0 167 1 (l9.map e_u32))], [.inLoop (cAt (bodyOf Tryz.f178) [1, 1, 1, 1, 1, 1, 1, 0, 1, 0, 0]), .inBlock 0, .code (cAt (bodyOf Tryz.f178) [1, 1, 1, 1, 1, 1, 1, 1])]⟩ := by
        clear hF; intro n_F178_L1
        induction n_F178_L1 with
        | zero => intro v6 l9 l10 hF; cases hF
        | succ n_F178_L1 ih_F178_L1 =>
          intro v6 l9 l10 hF
          rw [F178_L1] at hF
          refine J_adv 7 (J_bool 69 (b := decide (v6 ≥ 0)) (by kernel_rfl) (fun hb38 => ?_) (fun hb38 => ?_))
          · replace hF := ift hb38 hF
            refine J_adv 5 (J_draw (by kernel_rfl) (by kernel_rfl) ?_)
            obtain ⟨y93, e99, hF⟩ := bnd hF
            refine JD_adv 4 (JD_opt1 (o := geti (l10.map e_u32) (IntKind.i64.wrap (v6 + ((l1.map e_u32).length : Int)))) (e_u32 y93) (by kernel_rfl) (by kernel_rfl) (gm e99) ?_)
            refine JD_adv 0 (JD_opt1 (o := (l10.map e_u32)[0 + Int.toNat (IntKind.i64.wrap (v6 + ((l1.map e_u32).length : Int)))]?) (e_u32 y93) (by kernel_rfl) (by kernel_rfl) (gjm (gj e99)) ?_)
            obtain ⟨y94, e100, hF⟩ := bnd hF
            refine JD_adv 7 (JD_opt1 (o := geti (l10.map e_u32) (IntKind.i64.wrap ((IntKind.i64.wrap (v6 + ((l1.map e_u32).length : Int))) - 1))) (e_u32 y94) (by kernel_rfl) (by kernel_rfl) (gm e100) ?_)
            refine JD_adv 0 (JD_opt1 (o := (l10.map e_u32)[0 + Int.toNat (IntKind.i64.wrap ((IntKind.i64.wrap (v6 + ((l1.map e_u32).length : Int))) - 1))]?) (e_u32 y94) (by kernel_rfl) (by kernel_rfl) (gjm (gj e100)) ?_)
            refine JD_adv 3 (JD_end (by kernel_rfl) ?_)
            obtain ⟨y95, e101, hF⟩ := bnd hF
            refine J_adv 6 (J_opt1 (o := geti (l1.map e_u32) (IntKind.i64.wrap (((l1.map e_u32).length : Int) - 1))) (e_u32 y95) (by kernel_rfl) (gm e101) ?_)
            obtain ⟨hb39, hF⟩ := assd hF
            refine J_adv 2 (J_opt1 (o := chk (decide ((IntKind.u64.wrap y95) ≠ 0))) [] (by kernel_rfl) (ck hb39) ?_)
            have hF178_L2 : ∀ (n_F178_L2 : Nat) (v8 : Int), F178_L2 fuel l1 l9 l10 v6 y93 y94 (F178_L1 fuel l1 y4 n_F178_L1) n_F178_L2 v8 = some r → J none Tryz.prog 172 [] (finF Tryz.prog Tryz.f178 (.tup [.d (.sl 1 (r.1.map e_u32)), .d (.sl 1 (r.2.map e_u32))])) ⟨mkT [(8, .d (.int .u32 (IntKind.u32.wrap (IntKind.u64.wrap (Int.tdiv 1000000000 (IntKind.u64.wrap ((IntKind.u64.wrap y4) + 1))))))), (9, .suf 49 0 0), (10, .d (.sl 1 (l1.map e_u32))), (11, .d (.int .i64 ((l1.map e_u32).length : Int))), (12, .suf 62 0 0), (13, .d (.int .i64 v6)), (14, .d (.int .u64 (IntKind.u64.wrap ((IntKind.u64.wrap ((IntKind.u64.wrap y93) * 1000000000)) + (IntKind.u64.wrap y94))))), (15, .d (.int .u64 v8))], [(49, .buf 0 167 1 (l10.map e_u32)), (62, .buf 0 167 1 (l9.map e_u32))], [.inLoop (cAt (bodyOf Tryz.f178) [1, 1, 1, 1, 1, 1, 1, 0, 1, 0, 0, 1, 0, 0, 1, 1, 0, 0, 0]), .inBlock 2, .code (cAt (bodyOf Tryz.f178) [1, 1, 1, 1, 1, 1, 1, 0, 1, 0, 0, 1, 0, 0, 1, 1, 1]), .inBlock 1, .code (cAt (bodyOf Tryz.f178) [1, 1, 1, 1, 1, 1, 1, 0, 1, 0, 0, 1, 1]), .inLoop (cAt (bodyOf Tryz.f178) [1, 1, 1, 1, 1, 1, 1, 0, 1, 0, 0]), .inBlock 0, .code (cAt (bodyOf Tryz.f178) [1, 1, 1, 1, 1, 1, 1, 1])]⟩ := by
              clear hF; intro n_F178_L2
              induction n_F178_L2 with
              | zero => intro v8 hF; cases hF
              | succ n_F178_L2 ih_F178_L2 =>
                intro v8 hF
                rw [F178_L2] at hF
                obtain ⟨o9, hO, hF⟩ := bnd hF
                have hR9 : J none Tryz.prog 172 [] (finF Tryz.prog Tryz.f178 (.tup [.d (.sl 1 (r.1.map e_u32)), .d (.sl 1 (r.2.map e_u32))])) ⟨mkT [(8, .d (.int .u32 (IntKind.u32.wrap (IntKind.u64.wrap (Int.tdiv 1000000000 (IntKind.u64.wrap ((IntKind.u64.wrap y4) + 1))))))), (9, .suf 49 0 0), (10, .d (.sl 1 (l1.map e_u32))), (11, .d (.int .i64 ((l1.map e_u32).length : Int))), (12, .suf 62 0 0), (13, .d (.int .i64 v6)), (14, .d (.int .u64 (IntKind.u64.wrap ((IntKind.u64.wrap ((IntKind.u64.wrap y93) * 1000000000)) + (IntKind.u64.wrap y94))))), (15, .d (.int .u64 v8)), (139, .d (.bool o9))], [(49, .buf 0 167 1 (l10.map e_u32)), (62, .buf 0 167 1 (l9.map e_u32))], [.code (cAt (bodyOf Tryz.f178) [1, 1, 1, 1, 1, 1, 1, 0, 1, 0, 0, 1, 0, 0, 1, 1, 0, 0, 0, 0, 1]), .code (cAt (bodyOf Tryz.f178) [1, 1, 1, 1, 1, 1, 1, 0, 1, 0, 0, 1, 0, 0, 1, 1, 0, 0, 0, 1]), .inLoop (cAt (bodyOf Tryz.f178) [1, 1, 1, 1, 1, 1, 1, 0, 1, 0, 0, 1, 0, 0, 1, 1, 0, 0, 0]), .inBlock 2, .code (cAt (bodyOf Tryz.f178) [1, 1, 1, 1, 1, 1, 1, 0, 1, 0, 0, 1, 0, 0, 1, 1, 1]), .inBlock 1, .code (cAt (bodyOf Tryz.f178) [1, 1, 1, 1, 1, 1, 1, 0, 1, 0, 0, 1, 1]), .inLoop (cAt (bodyOf Tryz.f178) [1, 1, 1, 1, 1, 1, 1, 0, 1, 0, 0]), .inBlock 0, .code (cAt (bodyOf Tryz.f178) [1, 1, 1, 1, 1, 1, 1, 1])]⟩ := by
                  clear hO
                  refine J_adv 0 (J_bool 139 (b := o9) (by kernel_rfl) (fun hb50 => ?_) (fun hb50 => ?_))
                  · replace hF := ift hb50 hF
                    exact J_adv 9 (J_at [8, 9, 10, 11, 12, 13, 14, 15] [49, 62] (T0 := [.inLoop (cAt (bodyOf Tryz.f178) [1, 1, 1, 1, 1, 1, 1, 0, 1, 0, 0, 1, 0, 0, 1, 1, 0, 0, 0]), .inBlock 2, .code (cAt (bodyOf Tryz.f178) [1, 1, 1, 1, 1, 1, 1, 0, 1, 0, 0, 1, 0, 0, 1, 1, 1]), .inBlock 1, .code (cAt (bodyOf Tryz.f178) [1, 1, 1, 1, 1, 1, 1, 0, 1, 0, 0, 1, 1]), .inLoop (cAt (bodyOf Tryz.f178) [1, 1, 1, 1, 1, 1, 1, 0, 1, 0, 0]), .inBlock 0, .code (cAt (bodyOf Tryz.f178) [1, 1, 1, 1, 1, 1, 1, 1])]) (by kernel_rfl) rfl (ih_F178_L2 (IntKind.u64.wrap (v8 - 1)) hF))
                  · replace hF := iff' hb50 hF
                    obtain ⟨hb51, hF⟩ := assd hF
                    refine J_adv 7 (J_opt1 (o := chk (decide ((0 : Int) ≤ v6) && decide (v6 ≤ (((l10.map e_u32).drop 0).length : Int)))) [] (by kernel_rfl) (ck hb51) ?_)
                    obtain ⟨y128, e134, hF⟩ := bnd hF
                    refine J_adv 2 (J_callR (os := [(2000, .buf 0 167 1 (l10.map e_u32))]) (xs := [.suf 2000 0 (0 + Int.toNat v6), .d (.sl 1 (l1.map e_u32)), .d (.int .u64 v8)]) [(49, 2000)] [.suf 2000 0 (0 + Int.toNat v6), .d (.sl 1 (l1.map e_u32)), .d (.int .u64 v8)] [(2000, .buf 0 167 1 (y128.2.map e_u32))] (.d (.bool y128.1)) (by kernel_rfl) (by kernel_rfl) en219 (Res'.refl _) (F219_ok e134) ?_)
                    refine J_adv 1 (J_bool 147 (b := y128.1) (by kernel_rfl) (fun hb52 => ?_) (fun hb52 => ?_))
                    · replace hF := ift hb52 hF
                      obtain ⟨hb53, hF⟩ := assd hF
                      refine J_adv 10 (J_opt1 (o := chk (decide ((0 : Int) ≤ v6) && decide (v6 ≤ (((y128.2.map e_u32).drop 0).length : Int)))) [] (by kernel_rfl) (ck hb53) ?_)
                      obtain ⟨y129, e135, hF⟩ := bnd hF
                      refine J_adv 1 (J_callR (os := [(2000, .buf 0 167 1 (y128.2.map e_u32))]) (xs := [.suf 2000 0 (0 + Int.toNat v6), .d (.sl 1 (l1.map e_u32))]) [(49, 2000)] [.suf 2000 0 (0 + Int.toNat v6), .d (.sl 1 (l1.map e_u32))] [(2000, .buf 0 167 1 (y129.map e_u32))] (.tup []) (by kernel_rfl) (by kernel_rfl) en220 (Res'.refl _) (F220_ok e135) ?_)
                      obtain ⟨y130, e136, hF⟩ := bnd hF
                      refine J_adv 6 (J_opt1 (o := geti (l9.map e_u32) v6) (e_u32 y130) (by kernel_rfl) (gm e136) ?_)
                      obtain ⟨l11, e137, hF⟩ := bnd hF
                      have hst := stm (f := e_u32) (z := IntKind.u32.wrap (IntKind.u64.wrap (v8 - 1))) (k := 0) (xs := [.int .u32 (IntKind.u32.wrap (IntKind.u64.wrap (v8 - 1)))]) (gj e136) rfl
                      refine J_adv 0 (J_opt2 (o := (match (l9.map e_u32)[0 + Int.toNat v6]? with | some old => some ((l9.map e_u32).set (0 + Int.toNat v6) (setD old 0 [.int .u32 (IntKind.u32.wrap (IntKind.u64.wrap (v8 - 1)))])) | none => none)) (l11.map e_u32) (by kernel_rfl) (by cases e137; exact hst) ?_)
                      exact J_adv 7 (J_at [8, 9, 10, 11, 12, 13] [49, 62] (T0 := [.inLoop (cAt (bodyOf Tryz.f178) [1, 1, 1, 1, 1, 1, 1, 0, 1, 0, 0]), .inBlock 0, .code (cAt (bodyOf Tryz.f178) [1, 1, 1, 1, 1, 1, 1, 1])]) (by kernel_rfl) rfl (ih_F178_L1 (IntKind.i64.wrap (v6 - 1)) l11 y129 hF))
                    · replace hF := iff' hb52 hF
                      obtain ⟨y131, e138, hF⟩ := bnd hF
                      refine J_adv 7 (J_opt1 (o := geti (l9.map e_u32) v6) (e_u32 y131) (by kernel_rfl) (gm e138) ?_)
                      obtain ⟨l12, e139, hF⟩ := bnd hF
                      have hst := stm (f := e_u32) (z := IntKind.u32.wrap v8) (k := 0) (xs := [.int .u32 (IntKind.u32.wrap v8)]) (gj e138) rfl
                      refine J_adv 0 (J_opt2 (o := (match (l9.map e_u32)[0 + Int.toNat v6]? with | some old => some ((l9.map e_u32).set (0 + Int.toNat v6) (setD old 0 [.int .u32 (IntKind.u32.wrap v8)])) | none => none)) (l12.map e_u32) (by kernel_rfl) (by cases e139; exact hst) ?_)
                      exact J_adv 7 (J_at [8, 9, 10, 11, 12, 13] [49, 62] (T0 := [.inLoop (cAt (bodyOf Tryz.f178) [1, 1, 1, 1, 1, 1, 1, 0, 1, 0, 0]), .inBlock 0, .code (cAt (bodyOf Tryz.f178) [1, 1, 1, 1, 1, 1, 1, 1])]) (by kernel_rfl) rfl (ih_F178_L1 (IntKind.i64.wrap (v6 - 1)) l12 y128.2 hF))
                clear hF; rename _ = some o9 => hF
                refine J_adv 3 (J_draw (by kernel_rfl) (by kernel_rfl) ?_)
                obtain ⟨y132, e140, hF⟩ := bnd hF
                refine JD_adv 4 (JD_opt1 (o := geti (l1.map e_u32) (IntKind.i64.wrap (((l1.map e_u32).length : Int) - 2))) (e_u32 y132) (by kernel_rfl) (by kernel_rfl) (gm e140) ?_)
                obtain ⟨y133, e141, hF⟩ := bnd hF
                refine JD_adv 8 (JD_opt1 (o := geti (l1.map e_u32) (IntKind.i64.wrap (((l1.map e_u32).length : Int) - 1))) (e_u32 y133) (by kernel_rfl) (by kernel_rfl) (gm e141) ?_)
                obtain ⟨y134, e142, hF⟩ := bnd hF
                refine JD_adv 10 (JD_opt1 (o := geti (l10.map e_u32) (IntKind.i64.wrap ((IntKind.i64.wrap (v6 + ((l1.map e_u32).length : Int))) - 2))) (e_u32 y134) (by kernel_rfl) (by kernel_rfl) (gm e142) ?_)
                refine JD_adv 0 (JD_opt1 (o := (l10.map e_u32)[0 + Int.toNat (IntKind.i64.wrap ((IntKind.i64.wrap (v6 + ((l1.map e_u32).length : Int))) - 2))]?) (e_u32 y134) (by kernel_rfl) (by kernel_rfl) (gjm (gj e142)) ?_)
                refine JD_adv 4 (JD_bool 127 (b := decide ((IntKind.u64.wrap (v8 * (IntKind.u64.wrap y132))) > (IntKind.u64.wrap ((IntKind.u64.wrap ((IntKind.u64.wrap ((IntKind.u64.wrap ((IntKind.u64.wrap ((IntKind.u64.wrap y93) * 1000000000)) + (IntKind.u64.wrap y94))) - (IntKind.u64.wrap (v8 * (IntKind.u64.wrap y133))))) * 1000000000)) + (IntKind.u64.wrap y134))))) (by kernel_rfl) (fun hb54 => ?_) (fun hb54 => ?_))
                · replace hF := ift hb54 hF
                  obtain ⟨y135, e143, hF⟩ := bnd hF
                  refine JD_adv 5 (JD_opt1 (o := geti (l1.map e_u32) (IntKind.i64.wrap (((l1.map e_u32).length : Int) - 1))) (e_u32 y135) (by kernel_rfl) (by kernel_rfl) (gm e143) ?_)
                  refine JD_adv 6 (JD_end (by kernel_rfl) ?_)
                  have hr_ := Option.some.inj hF; subst hr_
                  exact J_adv 0 (J_at [8, 9, 10, 11, 12, 13, 14, 15, 139] [49, 62] (T0 := [.code (cAt (bodyOf Tryz.f178) [1, 1, 1, 1, 1, 1, 1, 0, 1, 0, 0, 1, 0, 0, 1, 1, 0, 0, 0, 0, 1]), .code (cAt (bodyOf Tryz.f178) [1, 1, 1, 1, 1, 1, 1, 0, 1, 0, 0, 1, 0, 0, 1, 1, 0, 0, 0, 1]), .inLoop (cAt (bodyOf Tryz.f178) [1, 1, 1, 1, 1, 1, 1, 0, 1, 0, 0, 1, 0, 0, 1, 1, 0, 0, 0]), .inBlock 2, .code (cAt (bodyOf Tryz.f178) [1, 1, 1, 1, 1, 1, 1, 0, 1, 0, 0, 1, 0, 0, 1, 1, 1]), .inBlock 1, .code (cAt (bodyOf Tryz.f178) [1, 1, 1, 1, 1, 1, 1, 0, 1, 0, 0, 1, 1]), .inLoop (cAt (bodyOf Tryz.f178) [1, 1, 1, 1, 1, 1, 1, 0, 1, 0, 0]), .inBlock 0, .code (cAt (bodyOf Tryz.f178) [1, 1, 1, 1, 1, 1, 1, 1])]) (by kernel_rfl) rfl hR9)
                · replace hF := iff' hb54 hF
                  refine JD_adv 12 (JD_end (by kernel_rfl) ?_)
                  have hr_ := Option.some.inj hF; subst hr_
                  exact J_adv 0 (J_at [8, 9, 10, 11, 12, 13, 14, 15, 139] [49, 62] (T0 := [.code (cAt (bodyOf Tryz.f178) [1, 1, 1, 1, 1, 1, 1, 0, 1, 0, 0, 1, 0, 0, 1, 1, 0, 0, 0, 0, 1]), .code (cAt (bodyOf Tryz.f178) [1, 1, 1, 1, 1, 1, 1, 0, 1, 0, 0, 1, 0, 0, 1, 1, 0, 0, 0, 1]), .inLoop (cAt (bodyOf Tryz.f178) [1, 1, 1, 1, 1, 1, 1, 0, 1, 0, 0, 1, 0, 0, 1, 1, 0, 0, 0]), .inBlock 2, .code (cAt (bodyOf Tryz.f178) [1, 1, 1, 1, 1, 1, 1, 0, 1, 0, 0, 1, 0, 0, 1, 1, 1]), .inBlock 1, .code (cAt (bodyOf Tryz.f178) [1, 1, 1, 1, 1, 1, 1, 0, 1, 0, 0, 1, 1]), .inLoop (cAt (bodyOf Tryz.f178) [1, 1, 1, 1, 1, 1, 1, 0, 1, 0, 0]), .inBlock 0, .code (cAt (bodyOf Tryz.f178) [1, 1, 1, 1, 1, 1, 1, 1])]) (by kernel_rfl) rfl hR9)
            exact J_adv 6 (J_at [8, 9, 10, 11, 12, 13, 14, 15] [49, 62] (T0 := [.inLoop (cAt (bodyOf Tryz.f178) [1, 1, 1, 1, 1, 1, 1, 0, 1, 0, 0, 1, 0, 0, 1, 1, 0, 0, 0]), .inBlock 2, .code (cAt (bodyOf Tryz.f178) [1, 1, 1, 1, 1, 1, 1, 0, 1, 0, 0, 1, 0, 0, 1, 1, 1]), .inBlock 1, .code (cAt (bodyOf Tryz.f178) [1, 1, 1, 1, 1, 1, 1, 0, 1, 0, 0, 1, 1]), .inLoop (cAt (bodyOf Tryz.f178) [1, 1, 1, 1, 1, 1, 1, 0, 1, 0, 0]), .inBlock 0, .code (cAt (bodyOf Tryz.f178) [1, 1, 1, 1, 1, 1, 1, 1])]) (by kernel_rfl) rfl (hF178_L2 fuel (bif decide (999999999 < (IntKind.u64.wrap (Int.tdiv (IntKind.u64.wrap ((IntKind.u64.wrap ((IntKind.u64.wrap y93) * 1000000000)) + (IntKind.u64.wrap y94))) (IntKind.u64.wrap y95)))) then 999999999 else (IntKind.u64.wrap (Int.tdiv (IntKind.u64.wrap ((IntKind.u64.wrap ((IntKind.u64.wrap y93) * 1000000000)) + (IntKind.u64.wrap y94))) (IntKind.u64.wrap y95)))) hF))
          · replace hF := iff' hb38 hF
            refine J_adv 3 (J_frzS 9 (by kernel_rfl) (by kernel_rfl) ?_)
            obtain ⟨l13, e144, hF⟩ := bnd hF
            refine J_adv 3 (J_opt2 (o := slc (l10.map e_u32) 0 ((l1.map e_u32).length : Int)) (l13.map e_u32) (by kernel_rfl) (sm e144) ?_)
            obtain ⟨y136, e145, hF⟩ := bnd hF
            refine J_adv 0 (J_callF (xs := [.d (.bool false), .d (.sl 1 (l13.map e_u32))]) [.d (.bool false), .d (.sl 1 (l13.map e_u32))] (.agg [.d (.bool y136.neg), .d (.sl 1 (y136.mag.map e_u32))]) (by kernel_rfl) en140 (Res'.refl _) (F140_ok e145) ?_)
            obtain ⟨y137, e146, hF⟩ := bnd hF
            refine J_adv 2 (J_callF (xs := [.d (.sl 1 (y136.mag.map e_u32)), .d (.int .u32 (IntKind.u32.wrap (IntKind.u64.wrap (Int.tdiv 1000000000 (IntKind.u64.wrap ((IntKind.u64.wrap y4) + 1))))))]) [.d (.sl 1 (y136.mag.map e_u32)), .d (.int .u32 (IntKind.u32.wrap (IntKind.u64.wrap (Int.tdiv 1000000000 (IntKind.u64.wrap ((IntKind.u64.wrap y4) + 1))))))] (.tup [.d (.sl 1 (y137.1.map e_u32)), .d (.int .u32 y137.2)]) (by kernel_rfl) en217 (Res'.refl _) (F217_ok e146) ?_)
            have hr_ := Option.some.inj hF; subst hr_
            exact J_adv 13 (J_ret (xs := [.d (.sl 1 (l9.map e_u32)), .d (.sl 1 (y137.1.map e_u32))]) [.d (.sl 1 (l9.map e_u32)), .d (.sl 1 (y137.1.map e_u32))] rfl rfl (by kernel_rfl) (Res'.refl _) rfl)
      exact J_adv 14 (J_at [8, 9, 10, 11, 12, 13] [49, 62] (T0 := [.inLoop (cAt (bodyOf Tryz.f178) [1, 1, 1, 1, 1, 1, 1, 0, 1, 0, 0]), .inBlock 0, .code (cAt (bodyOf Tryz.f178) [1, 1, 1, 1, 1, 1, 1, 1])]) (by kernel_rfl) rfl (hF178_L1 fuel (IntKind.i64.wrap ((IntKind.i64.wrap (((y5.map e_u32).length : Int) - ((l1.map e_u32).length : Int))) - 1)) l2 y5 hF))
/- (croupier/exact.Whole).Sub -/
def F187 (fuel : Nat) (d0 : T_exact_Whole) (d1 : T_exact_Whole) : Option T_exact_Whole :=
  Option.bind (F143 fuel d1) fun y1 =>
  Option.bind (F104 fuel d0 y1) fun y2 =>
  some y2
theorem F187_ok {fuel : Nat} {d0 : T_exact_Whole} {d1 : T_exact_Whole} {r : T_exact_Whole} (hF : F187 fuel d0 d1 = some r) :
    CallF Tryz.prog 187 [.agg [.d (.bool d0.neg), .d (.sl 1 (d0.mag.map e_u32))], .agg [.d (.bool d1.neg), .d (.sl 1 (d1.mag.map e_u32))]] (.agg [.d (.bool r.neg), .d (.sl 1 (r.mag.map e_u32))]) := by
  unfold F187 at hF
  refine callF_of (N := 9) (b := bodyOf Tryz.f187) Tryz.func187 (by kernel_rfl) rfl rfl ?_
  refine J_adv 7 (J_draw (by kernel_rfl) (by kernel_rfl) ?_)
  obtain ⟨y1, e1, hF⟩ := bnd hF
  refine JD_adv 2 (JD_callF (xs := [.agg [.d (.bool d1.neg), .d (.sl 1 (d1.mag.map e_u32))]]) [.agg [.d (.bool d1.neg), .d (.sl 1 (d1.mag.map e_u32))]] (.agg [.d (.bool y1.neg), .d (.sl 1 (y1.mag.map e_u32))]) (by kernel_rfl) (by kernel_rfl) en143 (Res'.refl _) (F143_ok e1) ?_)
  obtain ⟨y2, e2, hF⟩ := bnd hF
  refine JD_adv 0 (JD_callF (xs := [.agg [.d (.bool d0.neg), .d (.sl 1 (d0.mag.map e_u32))], .agg [.d (.bool y1.neg), .d (.sl 1 (y1.mag.map e_u32))]]) [.agg [.d (.bool d0.neg), .d (.sl 1 (d0.mag.map e_u32))], .agg [.d (.bool y1.neg), .d (.sl 1 (y1.mag.map e_u32))]] (.agg [.d (.bool y2.neg), .d (.sl 1 (y2.mag.map e_u32))]) (by kernel_rfl) (by kernel_rfl) en104 (Res'.refl _) (F104_ok e2) ?_)
  refine JD_adv 1 (JD_end (by kernel_rfl) ?_)
  have hr_ := Option.some.inj hF; subst hr_
  exact J_adv 0 (J_ret (xs := [.agg [.d (.bool y2.neg), .d (.sl 1 (y2.mag.map e_u32))]]) [.agg [.d (.bool y2.neg), .d (.sl 1 (y2.mag.map e_u32))]] rfl rfl (by kernel_rfl) (Res'.refl _) rfl)
/- (croupier/exact.Whole).Div -/
def F144 (fuel : Nat) (d0 : T_exact_Whole) (d1 : T_exact_Whole) : Option (T_exact_Whole × T_exact_Whole) :=
  Option.bind (F178 fuel d0.mag d1.mag) fun y1 =>
  Option.bind (F140 fuel (!(d0.neg == d1.neg)) y1.1) fun y2 =>
  Option.bind (F140 fuel d0.neg y1.2) fun y3 =>
  Option.bind (
    Option.bind (F100 y3) fun y9 =>
    bif y9 != 0 then
      (some (!(d0.neg == d1.neg)))
    else
      (some false)) fun o1 =>
  bif o1 then
    (Option.bind (F99 fuel 1) fun y6 =>
    Option.bind (F187 fuel y2 y6) fun y7 =>
    Option.bind (F104 fuel y3 d1) fun y8 =>
    some (y7, y8))
  else
    (some (y2, y3))
theorem F144_ok {fuel : Nat} {d0 : T_exact_Whole} {d1 : T_exact_Whole} {r : T_exact_Whole × T_exact_Whole} (hF : F144 fuel d0 d1 = some r) :
    CallF Tryz.prog 144 [.agg [.d (.bool d0.neg), .d (.sl 1 (d0.mag.map e_u32))], .agg [.d (.bool d1.neg), .d (.sl 1 (d1.mag.map e_u32))]] (.tup [.agg [.d (.bool r.1.neg), .d (.sl 1 (r.1.mag.map e_u32))], .agg [.d (.bool r.2.neg), .d (.sl 1 (r.2.mag.map e_u32))]]) := by
  unfold F144 at hF
  refine callF_of (N := 47) (b := bodyOf Tryz.f144) Tryz.func144 (by kernel_rfl) rfl rfl ?_
  obtain ⟨y1, e1, hF⟩ := bnd hF
  refine J_adv 13 (J_callF (xs := [.d (.sl 1 (d0.mag.map e_u32)), .d (.sl 1 (d1.mag.map e_u32))]) [.d (.sl 1 (d0.mag.map e_u32)), .d (.sl 1 (d1.mag.map e_u32))] (.tup [.d (.sl 1 (y1.1.map e_u32)), .d (.sl 1 (y1.2.map e_u32))]) (by kernel_rfl) en178 (Res'.refl _) (F178_ok e1) ?_)
  refine J_adv 7 (J_draw (by kernel_rfl) (by kernel_rfl) ?_)
  obtain ⟨y2, e2, hF⟩ := bnd hF
  refine JD_adv 6 (JD_callF (xs := [.d (.bool (!(d0.neg == d1.neg))), .d (.sl 1 (y1.1.map e_u32))]) [.d (.bool (!(d0.neg == d1.neg))), .d (.sl 1 (y1.1.map e_u32))] (.agg [.d (.bool y2.neg), .d (.sl 1 (y2.mag.map e_u32))]) (by kernel_rfl) (by kernel_rfl) en140 (Res'.refl _) (F140_ok e2) ?_)
  obtain ⟨y3, e3, hF⟩ := bnd hF
  refine JD_adv 3 (JD_callF (xs := [.d (.bool d0.neg), .d (.sl 1 (y1.2.map e_u32))]) [.d (.bool d0.neg), .d (.sl 1 (y1.2.map e_u32))] (.agg [.d (.bool y3.neg), .d (.sl 1 (y3.mag.map e_u32))]) (by kernel_rfl) (by kernel_rfl) en140 (Res'.refl _) (F140_ok e3) ?_)
  refine JD_adv 4 (JD_end (by kernel_rfl) ?_)
  obtain ⟨o1, hO, hF⟩ := bnd hF
  have hR1 : J none Tryz.prog 47 [] (finF Tryz.prog Tryz.f144 (.tup [.agg [.d (.bool r.1.neg), .d (.sl 1 (r.1.mag.map e_u32))], .agg [.d (.bool r.2.neg), .d (.sl 1 (r.2.mag.map e_u32))]])) ⟨mkT [(3, .ptr 3 0), (4, .ptr 4 0), (5, .ptr 5 0), (8, .ptr 8 0), (9, .ptr 9 0), (38, .d (.bool o1))], [(3, .box 98 [.d (.bool d1.neg), .d (.sl 1 (d1.mag.map e_u32))]), (4, .box 98 [.d (.bool false), .esl 1]), (5, .box 98 [.d (.bool false), .esl 1]), (8, .box 98 [.d (.bool y2.neg), .d (.sl 1 (y2.mag.map e_u32))]), (9, .box 98 [.d (.bool y3.neg), .d (.sl 1 (y3.mag.map e_u32))])], [.ops (opsOf (cAt (bodyOf Tryz.f144) [1, 1, 1, 0, 0])) [], .code (cAt (bodyOf Tryz.f144) [1, 1, 1, 0, 1]), .code (cAt (bodyOf Tryz.f144) [1, 1, 1, 1])]⟩ := by
    clear hO
    refine J_adv 1 (J_bool 38 (b := o1) (by kernel_rfl) (fun hb3 => ?_) (fun hb3 => ?_))
    · replace hF := ift hb3 hF
      refine J_adv 1 (J_draw (by kernel_rfl) (by kernel_rfl) ?_)
      obtain ⟨y6, e6, hF⟩ := bnd hF
      refine JD_adv 1 (JD_callF (xs := [.d (.int .i64 1)]) [.d (.int .i64 1)] (.agg [.d (.bool y6.neg), .d (.sl 1 (y6.mag.map e_u32))]) (by kernel_rfl) (by kernel_rfl) en99 (Res'.refl _) (F99_ok e6) ?_)
      obtain ⟨y7, e7, hF⟩ := bnd hF
      refine JD_adv 0 (JD_callF (xs := [.agg [.d (.bool y2.neg), .d (.sl 1 (y2.mag.map e_u32))], .agg [.d (.bool y6.neg), .d (.sl 1 (y6.mag.map e_u32))]]) [.agg [.d (.bool y2.neg), .d (.sl 1 (y2.mag.map e_u32))], .agg [.d (.bool y6.neg), .d (.sl 1 (y6.mag.map e_u32))]] (.agg [.d (.bool y7.neg), .d (.sl 1 (y7.mag.map e_u32))]) (by kernel_rfl) (by kernel_rfl) en187 (Res'.refl _) (F187_ok e7) ?_)
      obtain ⟨y8, e8, hF⟩ := bnd hF
      refine JD_adv 2 (JD_callF (xs := [.agg [.d (.bool y3.neg), .d (.sl 1 (y3.mag.map e_u32))], .agg [.d (.bool d1.neg), .d (.sl 1 (d1.mag.map e_u32))]]) [.agg [.d (.bool y3.neg), .d (.sl 1 (y3.mag.map e_u32))], .agg [.d (.bool d1.neg), .d (.sl 1 (d1.mag.map e_u32))]] (.agg [.d (.bool y8.neg), .d (.sl 1 (y8.mag.map e_u32))]) (by kernel_rfl) (by kernel_rfl) en104 (Res'.refl _) (F104_ok e8) ?_)
      refine JD_adv 2 (JD_end (by kernel_rfl) ?_)
      refine J_adv 1 (J_draw (by kernel_rfl) (by kernel_rfl) ?_)
      refine JD_adv 4 (JD_end (by kernel_rfl) ?_)
      have hr_ := Option.some.inj hF; subst hr_
      exact J_adv 0 (J_ret (xs := [.agg [.d (.bool y7.neg), .d (.sl 1 (y7.mag.map e_u32))], .agg [.d (.bool y8.neg), .d (.sl 1 (y8.mag.map e_u32))]]) [.agg [.d (.bool y7.neg), .d (.sl 1 (y7.mag.map e_u32))], .agg [.d (.bool y8.neg), .d (.sl 1 (y8.mag.map e_u32))]] rfl rfl (by kernel_rfl) (Res'.refl _) rfl)
    · replace hF := iff' hb3 hF
      refine J_adv 3 (J_draw (by kernel_rfl) (by kernel_rfl) ?_)
      refine JD_adv 4 (JD_end (by kernel_rfl) ?_)
      have hr_ := Option.some.inj hF; subst hr_
      exact J_adv 0 (J_ret (xs := [.agg [.d (.bool y2.neg), .d (.sl 1 (y2.mag.map e_u32))], .agg [.d (.bool y3.neg), .d (.sl 1 (y3.mag.map e_u32))]]) [.agg [.d (.bool y2.neg), .d (.sl 1 (y2.mag.map e_u32))], .agg [.d (.bool y3.neg), .d (.sl 1 (y3.mag.map e_u32))]] rfl rfl (by kernel_rfl) (Res'.refl _) rfl)
  clear hF; rename _ = some o1 => hF
  obtain ⟨y9, e9, hF⟩ := bnd hF
  refine J_adv 4 (J_callF (xs := [.agg [.d (.bool y3.neg), .d (.sl 1 (y3.mag.map e_u32))]]) [.agg [.d (.bool y3.neg), .d (.sl 1 (y3.mag.map e_u32))]] (.d (.int .i64 y9)) (by kernel_rfl) en100 (Res'.refl _) (F100_ok e9) ?_)
  refine J_adv 2 (J_bool 32 (b := y9 != 0) (by kernel_rfl) (fun hb4 => ?_) (fun hb4 => ?_))
  · replace hF := ift hb4 hF
    have hr_ := Option.some.inj hF; subst hr_
    exact J_adv 6 (J_at [3, 4, 5, 8, 9, 38] [3, 4, 5, 8, 9] (T0 := [.ops (opsOf (cAt (bodyOf Tryz.f144) [1, 1, 1, 0, 0])) [], .code (cAt (bodyOf Tryz.f144) [1, 1, 1, 0, 1]), .code (cAt (bodyOf Tryz.f144) [1, 1, 1, 1])]) (by kernel_rfl) rfl hR1)
  · replace hF := iff' hb4 hF
    have hr_ := Option.some.inj hF; subst hr_
    exact J_adv 6 (J_at [3, 4, 5, 8, 9, 38] [3, 4, 5, 8, 9] (T0 := [.ops (opsOf (cAt (bodyOf Tryz.f144) [1, 1, 1, 0, 0])) [], .code (cAt (bodyOf Tryz.f144) [1, 1, 1, 0, 1]), .code (cAt (bodyOf Tryz.f144) [1, 1, 1, 1])]) (by kernel_rfl) rfl hR1)
/- croupier/exact.value -/
def F179_L1 : List (Int × Int) → Int → Option Int
  | [], v2 =>
    some v2
  | y4 :: ys_F179_L1, v2 =>
    (F179_L1 ys_F179_L1) (IntKind.u64.wrap ((IntKind.u64.wrap (v2 * 1000000000)) + (IntKind.u64.wrap y4.2)))
def F179 (fuel : Nat) (d0 : List Int) : Option Int :=
  Option.bind (F221 d0) fun y1 =>
  Option.bind (F254 fuel y1) fun ys1 =>
  F179_L1 ys1 0
theorem F179_ok {fuel : Nat} {d0 : List Int} {r : Int} (hF : F179 fuel d0 = some r) :
    CallF Tryz.prog 179 [.d (.sl 1 (d0.map e_u32))] (.d (.int .u64 r)) := by
  unfold F179 at hF
  refine callM_of (N := 16) (b := bodyOf Tryz.f179) Tryz.func179 (by kernel_rfl) rfl rfl (fun w00_ M00_ => ?_)
  obtain ⟨y1, e1, hF⟩ := bnd hF
  refine J_adv 13 (J_callR (os := []) (xs := [.d (.sl 1 (d0.map e_u32))]) [(7, 2000)] [.d (.sl 1 (d0.map e_u32))] [(2000, .box 96 [.d (.sl 1 (y1.map e_u32))])] (.fn 254 [] [.ptr 2000 0]) (by kernel_rfl) (by kernel_rfl) en221 (Res'.refl _) (F221_ok e1) ?_)
  refine J_adv 2 (J_at (S0 := [(3, .ptr 3 0), (7, .fn 254 [] [.ptr 7 0])]) (O0 := [(3, .box 39 [.d (.int .u64 0)]), (7, .box 96 [.d (.sl 1 (y1.map e_u32))])]) (T0 := [.code (cAt (bodyOf Tryz.f179) [1, 1, 0, 1, 0]), .inBlock 0, .code (cAt (bodyOf Tryz.f179) [1, 1, 1])]) [3, 7] [3, 7] (by kernel_rfl) rfl ?_)
  refine J_ren [(7, 7), (3, 2100)] (by kernel_rfl) (by kernel_rfl) (by kernel_rfl) (by kernel_rfl) ?_
  refine J_at (S0 := [(3, .ptr 2100 0), (7, .fn 254 [] [.ptr 7 0])]) (O0 := [(7, .box 96 [.d (.sl 1 (y1.map e_u32))]), (2100, .box 39 [.d (.int .u64 0)])]) (T0 := [.code (cAt (bodyOf Tryz.f179) [1, 1, 0, 1, 0]), .inBlock 0, .code (cAt (bodyOf Tryz.f179) [1, 1, 1])]) [3, 7] [7, 2100] (by kernel_rfl) rfl ?_
  obtain ⟨ys1, e2, hF⟩ := bnd hF
  obtain ⟨G_, hG_⟩ : ∃ G : List (List Kx.V) → List (Nat × IObj) → Prop, G = (fun yv ob => ∃ (yl_ : List (Int × Int)) (v2 : Int), yv = yl_.map y_i64_u32 ∧ ob = [(2100, .box 39 [.d (.int .u64 v2)])] ∧ F179_L1 yl_ v2 = some r) := ⟨_, rfl⟩
  obtain ⟨GX_, hGX_⟩ : ∃ G : Code → List (Nat × IObj) → Prop, G = (fun j ob => False) := ⟨_, rfl⟩
  refine J_range (P := Tryz.prog) (g := (.tmp 7)) (ps := #[8, 9]) (asg := (cAt (bodyOf Tryz.f179) [1, 1, 0, 1, 0, 0])) (bo := (cAt (bodyOf Tryz.f179) [1, 1, 0, 1, 0, 1])) (k := [.inBlock 0, .code (cAt (bodyOf Tryz.f179) [1, 1, 1])]) (gf := 254) (first := []) (cap := [.ptr 7 0]) (xs := [.rp [.sl 1 (y1.map e_u32)] 0]) (os := []) (S1 := [(3, .ptr 2100 0)]) (ob0 := [(2100, .box 39 [.d (.int .u64 0)])]) [] [3] [2100] [.rp [.sl 1 (y1.map e_u32)] 0] (ysAll := ys1.map y_i64_u32) [2100] G_ GX_ rfl (by kernel_rfl) rfl (by kernel_rfl) rfl (by kernel_rfl) (Res'.refl _) en254 (F254_ok e2) (by kernel_rfl) (by kernel_rfl) (by kernel_rfl) ?_ ?_ ?_ ⟨by kernel_rfl, by kernel_rfl⟩ ?_ ?_ ?_
  · rw [hG_]; exact ⟨ys1, 0, rfl, by kernel_rfl, hF⟩
  · intro yv_ ob_ h_; rw [hG_] at h_; obtain ⟨_, _, _, rfl, _⟩ := h_; kernel_rfl
  · intro j_ ob_ h_; rw [hGX_] at h_; exact h_.elim
  · intro x_ hxa_ hxb_ hxp_ yv_ ysv_ ob_ h_; rw [hG_] at h_
    obtain ⟨yl_, v2, hy_, rfl, hF⟩ := h_
    cases yl_ with
    | nil => cases hy_
    | cons y4 ys_F179_L1 =>
      cases hy_; rw [F179_L1] at hF
      refine hJ_of (by kernel_rfl) ?_
      refine J_at (S0 := [(3, .ptr 2100 0), (8, .d (.int .i64 y4.1)), (9, .d (.int .u32 y4.2))]) (O0 := [(3000, .raw x_.D (.deferred (some []))), (3001, .raw x_.L (.loop (recOf x_ .ready none))), (2100, .box 39 [.d (.int .u64 v2)])]) (T0 := [.code (cAt (bodyOf Tryz.f179) [1, 1, 0, 1, 0, 0]), .begR x_.L, .code (cAt (bodyOf Tryz.f179) [1, 1, 0, 1, 0, 1])]) [3, 8, 9] [3000, 3001, 2100] (by kernel_rfl) rfl ?_
      refine J_adv 3 (J_at (S0 := [(3, .ptr 2100 0), (5, .d (.int .u32 y4.2)), (8, .d (.int .i64 y4.1)), (9, .d (.int .u32 y4.2))]) (O0 := [(3000, .raw x_.D (.deferred (some []))), (3001, .raw x_.L (.loop (recOf x_ .ready none))), (2100, .box 39 [.d (.int .u64 v2)])]) (T0 := [.begR x_.L, .code (cAt (bodyOf Tryz.f179) [1, 1, 0, 1, 0, 1])]) [3, 5, 8, 9] [3000, 3001, 2100] (by kernel_rfl) rfl ?_)
      refine J_begR (l := x_.L) (q := 3001) (k := [.code (cAt (bodyOf Tryz.f179) [1, 1, 0, 1, 0, 1])]) (rec := recOf x_ .ready none) rfl rfl rfl ?_
      refine J_adv 10 (J_at (S0 := []) (O0 := rob x_ .busy none [(2100, .box 39 [.d (.int .u64 (IntKind.u64.wrap ((IntKind.u64.wrap (v2 * 1000000000)) + (IntKind.u64.wrap y4.2))))])]) (T0 := []) [] [3000, 3001, 2100] (by kernel_rfl) rfl ?_)
      exact J_endB rfl [(2100, .box 39 [.d (.int .u64 (IntKind.u64.wrap ((IntKind.u64.wrap (v2 * 1000000000)) + (IntKind.u64.wrap y4.2))))])] rfl rfl (by kernel_rfl) (by rw [hG_]; exact ⟨ys_F179_L1, IntKind.u64.wrap ((IntKind.u64.wrap (v2 * 1000000000)) + (IntKind.u64.wrap y4.2)), rfl, rfl, hF⟩)
  · intro D_ ob_ h_; rw [hG_] at h_
    obtain ⟨yl_, v2, hy_, rfl, hF⟩ := h_
    cases yl_ with
    | cons _ _ => cases hy_
    | nil =>
      clear hy_; rw [F179_L1] at hF
      refine J_renM [(2100, 3)] (by kernel_rfl) (by kernel_rfl) (by kernel_rfl) ?_
      refine J_adv 0 (J_at (S0 := [(3, .ptr 3 0)]) (O0 := [(3, .box 39 [.d (.int .u64 v2)])]) (T0 := [.inBlock 0, .code (cAt (bodyOf Tryz.f179) [1, 1, 1])]) [3] [3] (by kernel_rfl) rfl ?_)
      have hr_ := Option.some.inj hF; subst hr_
      exact J_adv 6 (J_retM (xs := [.d (.int .u64 v2)]) [.d (.int .u64 v2)] rfl rfl (by kernel_rfl) (Res'.refl _) rfl (by kernel_rfl))
  · intro D_ ob_ j_ h_; rw [hGX_] at h_
    exact h_.elim
/- (croupier/exact.Whole).Gcd -/
def F135_L3 : Nat → Int → (List Int) → Option T_exact_Whole
  | 0, _, _ => none
  | n_F135_L3 + 1, v6, l8 =>
    bif decide (v6 > 0) then
      (Option.bind (app l8 [IntKind.u32.wrap (Int.tmod v6 1000000000)]) fun l9 =>
      (F135_L3 n_F135_L3) (IntKind.u64.wrap (Int.tdiv v6 1000000000)) l9)
    else
      (some (⟨false, l8⟩ : T_exact_Whole))
def F135_L2 (fuel : Nat) : Nat → Int → Int → Option T_exact_Whole
  | 0, _, _ => none
  | n_F135_L2 + 1, v3, v4 =>
    bif decide (v4 > 0) then
      (ass (decide (v4 ≠ 0)) <|
      (F135_L2 fuel n_F135_L2) v4 (Int.tmod v3 v4))
    else
      (F135_L3 fuel v3 [])
def F135_L1 (fuel : Nat) : Nat → (List Int) → (List Int) → Option T_exact_Whole
  | 0, _, _ => none
  | n_F135_L1 + 1, l3, l4 =>
    bif decide (((l4.map e_u32).length : Int) > 2) then
      (Option.bind (F178 fuel l3 l4) fun y5 =>
      Option.bind (F140 fuel false y5.2) fun y6 =>
      (F135_L1 fuel n_F135_L1) l4 y6.mag)
    else
      (bif ((l4.map e_u32).length : Int) == 0 then
        (Option.bind (F140 fuel false l3) fun y7 =>
        some y7)
      else
        (Option.bind (F178 fuel l3 l4) fun y8 =>
        Option.bind (F179 fuel l4) fun y9 =>
        Option.bind (F140 fuel false y8.2) fun y10 =>
        Option.bind (F179 fuel y10.mag) fun y11 =>
        F135_L2 fuel fuel y9 y11))
def F135 (fuel : Nat) (d0 : T_exact_Whole) (d1 : T_exact_Whole) : Option T_exact_Whole :=
  F135_L1 fuel fuel d0.mag d1.mag
theorem F135_ok {fuel : Nat} {d0 : T_exact_Whole} {d1 : T_exact_Whole} {r : T_exact_Whole} (hF : F135 fuel d0 d1 = some r) :
    CallF Tryz.prog 135 [.agg [.d (.bool d0.neg), .d (.sl 1 (d0.mag.map e_u32))], .agg [.d (.bool d1.neg), .d (.sl 1 (d1.mag.map e_u32))]] (.agg [.d (.bool r.neg), .d (.sl 1 (r.mag.map e_u32))]) := by
  unfold F135 at hF
  refine callF_of (N := 68) (b := bodyOf Tryz.f135) Tryz.func135 (by kernel_rfl) rfl rfl ?_
  refine J_adv 7 (J_draw (by kernel_rfl) (by kernel_rfl) ?_)
  refine JD_adv 6 (JD_end (by kernel_rfl) ?_)
  have hF135_L1 : ∀ (n_F135_L1 : Nat) (l3 : List Int) (l4 : List Int), F135_L1 fuel n_F135_L1 l3 l4 = some r → J none Tryz.prog 68 [] (finF Tryz.prog Tryz.f135 (.agg [.d (.bool r.neg), .d (.sl 1 (r.mag.map e_u32))])) ⟨mkT [(4, .ptr 4 0), (5, .d (.sl 1 (l3.map e_u32))), (6, .d (.sl 1 (l4.map e_u32)))], [(4, .box 98 [.d (.bool false), .esl 1])], [.inLoop (cAt (bodyOf Tryz.f135) [1, 1, 0, 0, 0]), .inBlock 0, .code (cAt (bodyOf Tryz.f135) [1, 1, 1])]⟩ := by
    clear hF; intro n_F135_L1
    induction n_F135_L1 with
    | zero => intro l3 l4 hF; cases hF
    | succ n_F135_L1 ih_F135_L1 =>
      intro l3 l4 hF
      rw [F135_L1] at hF
      refine J_adv 8 (J_bool 20 (b := decide (((l4.map e_u32).length : Int) > 2)) (by kernel_rfl) (fun hb3 => ?_) (fun hb3 => ?_))
      · replace hF := ift hb3 hF
        obtain ⟨y5, e5, hF⟩ := bnd hF
        refine J_adv 7 (J_callF (xs := [.d (.sl 1 (l3.map e_u32)), .d (.sl 1 (l4.map e_u32))]) [.d (.sl 1 (l3.map e_u32)), .d (.sl 1 (l4.map e_u32))] (.tup [.d (.sl 1 (y5.1.map e_u32)), .d (.sl 1 (y5.2.map e_u32))]) (by kernel_rfl) en178 (Res'.refl _) (F178_ok e5) ?_)
        obtain ⟨y6, e6, hF⟩ := bnd hF
        refine J_adv 9 (J_callF (xs := [.d (.bool false), .d (.sl 1 (y5.2.map e_u32))]) [.d (.bool false), .d (.sl 1 (y5.2.map e_u32))] (.agg [.d (.bool y6.neg), .d (.sl 1 (y6.mag.map e_u32))]) (by kernel_rfl) en140 (Res'.refl _) (F140_ok e6) ?_)
        exact J_adv 5 (J_at [4, 5, 6] [4] (T0 := [.inLoop (cAt (bodyOf Tryz.f135) [1, 1, 0, 0, 0]), .inBlock 0, .code (cAt (bodyOf Tryz.f135) [1, 1, 1])]) (by kernel_rfl) rfl (ih_F135_L1 l4 y6.mag hF))
      · replace hF := iff' hb3 hF
        refine J_adv 9 (J_bool 33 (b := ((l4.map e_u32).length : Int) == 0) (by kernel_rfl) (fun hb4 => ?_) (fun hb4 => ?_))
        · replace hF := ift hb4 hF
          obtain ⟨y7, e7, hF⟩ := bnd hF
          refine J_adv 4 (J_callF (xs := [.d (.bool false), .d (.sl 1 (l3.map e_u32))]) [.d (.bool false), .d (.sl 1 (l3.map e_u32))] (.agg [.d (.bool y7.neg), .d (.sl 1 (y7.mag.map e_u32))]) (by kernel_rfl) en140 (Res'.refl _) (F140_ok e7) ?_)
          have hr_ := Option.some.inj hF; subst hr_
          exact J_adv 2 (J_ret (xs := [.agg [.d (.bool y7.neg), .d (.sl 1 (y7.mag.map e_u32))]]) [.agg [.d (.bool y7.neg), .d (.sl 1 (y7.mag.map e_u32))]] rfl rfl (by kernel_rfl) (Res'.refl _) rfl)
        · replace hF := iff' hb4 hF
          obtain ⟨y8, e8, hF⟩ := bnd hF
          refine J_adv 6 (J_callF (xs := [.d (.sl 1 (l3.map e_u32)), .d (.sl 1 (l4.map e_u32))]) [.d (.sl 1 (l3.map e_u32)), .d (.sl 1 (l4.map e_u32))] (.tup [.d (.sl 1 (y8.1.map e_u32)), .d (.sl 1 (y8.2.map e_u32))]) (by kernel_rfl) en178 (Res'.refl _) (F178_ok e8) ?_)
          obtain ⟨y9, e9, hF⟩ := bnd hF
          refine J_adv 9 (J_callF (xs := [.d (.sl 1 (l4.map e_u32))]) [.d (.sl 1 (l4.map e_u32))] (.d (.int .u64 y9)) (by kernel_rfl) en179 (Res'.refl _) (F179_ok e9) ?_)
          obtain ⟨y10, e10, hF⟩ := bnd hF
          refine J_adv 1 (J_callF (xs := [.d (.bool false), .d (.sl 1 (y8.2.map e_u32))]) [.d (.bool false), .d (.sl 1 (y8.2.map e_u32))] (.agg [.d (.bool y10.neg), .d (.sl 1 (y10.mag.map e_u32))]) (by kernel_rfl) en140 (Res'.refl _) (F140_ok e10) ?_)
          obtain ⟨y11, e11, hF⟩ := bnd hF
          refine J_adv 1 (J_callF (xs := [.d (.sl 1 (y10.mag.map e_u32))]) [.d (.sl 1 (y10.mag.map e_u32))] (.d (.int .u64 y11)) (by kernel_rfl) en179 (Res'.refl _) (F179_ok e11) ?_)
          have hF135_L2 : ∀ (n_F135_L2 : Nat) (v3 : Int) (v4 : Int), F135_L2 fuel n_F135_L2 v3 v4 = some r → J none Tryz.prog 68 [] (finF Tryz.prog Tryz.f135 (.agg [.d (.bool r.neg), .d (.sl 1 (r.mag.map e_u32))])) ⟨mkT [(4, .ptr 4 0), (11, .d (.int .u64 v3)), (12, .d (.int .u64 v4))], [(4, .box 98 [.d (.bool false), .esl 1])], [.inLoop (cAt (bodyOf Tryz.f135) [1, 1, 1, 1, 1, 1, 0, 0, 0]), .inBlock 2, .code (cAt (bodyOf Tryz.f135) [1, 1, 1, 1, 1, 1, 1])]⟩ := by
            clear hF; intro n_F135_L2
            induction n_F135_L2 with
            | zero => intro v3 v4 hF; cases hF
            | succ n_F135_L2 ih_F135_L2 =>
              intro v3 v4 hF
              rw [F135_L2] at hF
              refine J_adv 7 (J_bool 49 (b := decide (v4 > 0)) (by kernel_rfl) (fun hb9 => ?_) (fun hb9 => ?_))
              · replace hF := ift hb9 hF
                refine J_adv 3 (J_draw (by kernel_rfl) (by kernel_rfl) ?_)
                obtain ⟨hb10, hF⟩ := assd hF
                refine JD_adv 3 (JD_opt1 (o := chk (decide (v4 ≠ 0))) [] (by kernel_rfl) (by kernel_rfl) (ck hb10) ?_)
                refine JD_adv 2 (JD_end (by kernel_rfl) ?_)
                exact J_adv 1 (J_at [4, 11, 12] [4] (T0 := [.inLoop (cAt (bodyOf Tryz.f135) [1, 1, 1, 1, 1, 1, 0, 0, 0]), .inBlock 2, .code (cAt (bodyOf Tryz.f135) [1, 1, 1, 1, 1, 1, 1])]) (by kernel_rfl) rfl (ih_F135_L2 v4 (Int.tmod v3 v4) hF))
              · replace hF := iff' hb9 hF
                have hF135_L3 : ∀ (n_F135_L3 : Nat) (v6 : Int) (l8 : List Int), F135_L3 n_F135_L3 v6 l8 = some r → J none Tryz.prog 68 [] (finF Tryz.prog Tryz.f135 (.agg [.d (.bool r.neg), .d (.sl 1 (r.mag.map e_u32))])) ⟨mkT [(4, .ptr 4 0), (11, .d (.int .u64 v6)), (13, .ptr 13 0)], [(4, .box 98 [.d (.bool false), .esl 1]), (13, .box 98 [.d (.bool false), .suf 65 0 0]), (65, .buf 0 167 1 (l8.map e_u32))], [.inLoop (cAt (bodyOf Tryz.f135) [1, 1, 1, 1, 1, 1, 1, 1, 0, 0, 0]), .inBlock 4, .code (cAt (bodyOf Tryz.f135) [1, 1, 1, 1, 1, 1, 1, 1, 1])]⟩ := by
                  clear hF; intro n_F135_L3
                  induction n_F135_L3 with
                  | zero => intro v6 l8 hF; cases hF
                  | succ n_F135_L3 ih_F135_L3 =>
                    intro v6 l8 hF
                    rw [F135_L3] at hF
                    refine J_adv 7 (J_bool 56 (b := decide (v6 > 0)) (by kernel_rfl) (fun hb13 => ?_) (fun hb13 => ?_))
                    · replace hF := ift hb13 hF
                      obtain ⟨l9, e14, hF⟩ := bnd hF
                      refine J_adv 11 (J_opt2 (o := app2 ((l8.map e_u32).drop 0) ([IntKind.u32.wrap (Int.tmod v6 1000000000)].map e_u32)) (l9.map e_u32) (by kernel_rfl) (am e14) ?_)
                      exact J_adv 9 (J_at [4, 11, 13] [4, 13, 65] (T0 := [.inLoop (cAt (bodyOf Tryz.f135) [1, 1, 1, 1, 1, 1, 1, 1, 0, 0, 0]), .inBlock 4, .code (cAt (bodyOf Tryz.f135) [1, 1, 1, 1, 1, 1, 1, 1, 1])]) (by kernel_rfl) rfl (ih_F135_L3 (IntKind.u64.wrap (Int.tdiv v6 1000000000)) l9 hF))
                    · replace hF := iff' hb13 hF
                      have hr_ := Option.some.inj hF; subst hr_
                      exact J_adv 7 (J_ret (xs := [.agg [.d (.bool false), .d (.sl 1 (l8.map e_u32))]]) [.agg [.d (.bool false), .d (.sl 1 (l8.map e_u32))]] rfl rfl (by kernel_rfl) (Res'.refl _) rfl)
                refine J_adv 11 (J_ownc (n := 1) 13 1 65 167 1 (by kernel_rfl) (by kernel_rfl) ?_)
                exact J_adv 0 (J_at [4, 11, 13] [4, 13, 65] (T0 := [.inLoop (cAt (bodyOf Tryz.f135) [1, 1, 1, 1, 1, 1, 1, 1, 0, 0, 0]), .inBlock 4, .code (cAt (bodyOf Tryz.f135) [1, 1, 1, 1, 1, 1, 1, 1, 1])]) (by kernel_rfl) rfl (hF135_L3 fuel v3 [] hF))
          exact J_adv 6 (J_at [4, 11, 12] [4] (T0 := [.inLoop (cAt (bodyOf Tryz.f135) [1, 1, 1, 1, 1, 1, 0, 0, 0]), .inBlock 2, .code (cAt (bodyOf Tryz.f135) [1, 1, 1, 1, 1, 1, 1])]) (by kernel_rfl) rfl (hF135_L2 fuel y9 y11 hF))
  exact J_adv 3 (J_at [4, 5, 6] [4] (T0 := [.inLoop (cAt (bodyOf Tryz.f135) [1, 1, 0, 0, 0]), .inBlock 0, .code (cAt (bodyOf Tryz.f135) [1, 1, 1])]) (by kernel_rfl) rfl (hF135_L1 fuel d0.mag d1.mag hF))
/- internal/stringslite.HasPrefix -/
def F226 (d0 : List UInt8) (d1 : List UInt8) : Option Bool :=
  Option.bind (
    bif decide ((d0.length : Int) ≥ (d1.length : Int)) then
      (ass (decide (0 ≤ 0) && decide (0 ≤ (d1.length : Int)) && decide ((d1.length : Int) ≤ d0.length)) <|
      some (((d0.drop (Int.toNat 0)).take (Int.toNat ((d1.length : Int) - 0))) == d1))
    else
      (some false)) fun o1 =>
  some o1
theorem F226_ok {d0 : List UInt8} {d1 : List UInt8} {r : Bool} (hF : F226 d0 d1 = some r) :
    CallF Tryz.prog 226 [.d (.str d0), .d (.str d1)] (.d (.bool r)) := by
  unfold F226 at hF
  refine callF_of (N := 18) (b := bodyOf Tryz.f226) Tryz.func226 (by kernel_rfl) rfl rfl ?_
  obtain ⟨o1, hO, hF⟩ := bnd hF
  have hR1 : J none Tryz.prog 18 [] (finF Tryz.prog Tryz.f226 (.d (.bool r))) ⟨mkT [(4, .d (.bool o1))], [], [.ops (opsOf (cAt (bodyOf Tryz.f226) [1, 0])) [], .code (cAt (bodyOf Tryz.f226) [1, 1])]⟩ := by
    clear hO
    have hr_ := Option.some.inj hF; subst hr_
    exact J_adv 1 (J_ret (xs := [.d (.bool o1)]) [.d (.bool o1)] rfl rfl (by kernel_rfl) (Res'.refl _) rfl)
  clear hF; rename _ = some o1 => hF
  refine J_adv 12 (J_bool 10 (b := decide ((d0.length : Int) ≥ (d1.length : Int))) (by kernel_rfl) (fun hb5 => ?_) (fun hb5 => ?_))
  · replace hF := ift hb5 hF
    obtain ⟨hb6, hF⟩ := assd hF
    refine J_adv 3 (J_opt1 (o := chk (decide (0 ≤ 0) && decide (0 ≤ (d1.length : Int)) && decide ((d1.length : Int) ≤ d0.length))) [] (by kernel_rfl) (ck hb6) ?_)
    have hr_ := Option.some.inj hF; subst hr_
    exact J_adv 4 (J_at [4] [] (T0 := [.ops (opsOf (cAt (bodyOf Tryz.f226) [1, 0])) [], .code (cAt (bodyOf Tryz.f226) [1, 1])]) (by kernel_rfl) rfl hR1)
  · replace hF := iff' hb5 hF
    have hr_ := Option.some.inj hF; subst hr_
    exact J_adv 8 (J_at [4] [] (T0 := [.ops (opsOf (cAt (bodyOf Tryz.f226) [1, 0])) [], .code (cAt (bodyOf Tryz.f226) [1, 1])]) (by kernel_rfl) rfl hR1)
/- internal/stringslite.TrimPrefix -/
def F182 (d0 : List UInt8) (d1 : List UInt8) : Option (List UInt8) :=
  Option.bind (F226 d0 d1) fun y1 =>
  bif y1 then
    (ass (decide (0 ≤ (d1.length : Int)) && decide ((d1.length : Int) ≤ (d0.length : Int)) && decide ((d0.length : Int) ≤ d0.length)) <|
    some ((d0.drop (Int.toNat (d1.length : Int))).take (Int.toNat ((d0.length : Int) - (d1.length : Int)))))
  else
    (some d0)
theorem F182_ok {d0 : List UInt8} {d1 : List UInt8} {r : List UInt8} (hF : F182 d0 d1 = some r) :
    CallF Tryz.prog 182 [.d (.str d0), .d (.str d1)] (.d (.str r)) := by
  unfold F182 at hF
  refine callF_of (N := 13) (b := bodyOf Tryz.f182) Tryz.func182 (by kernel_rfl) rfl rfl ?_
  obtain ⟨y1, e1, hF⟩ := bnd hF
  refine J_adv 9 (J_callF (xs := [.d (.str d0), .d (.str d1)]) [.d (.str d0), .d (.str d1)] (.d (.bool y1)) (by kernel_rfl) en226 (Res'.refl _) (F226_ok e1) ?_)
  refine J_adv 1 (J_bool 7 (b := y1) (by kernel_rfl) (fun hb1 => ?_) (fun hb1 => ?_))
  · replace hF := ift hb1 hF
    obtain ⟨hb2, hF⟩ := assd hF
    refine J_adv 6 (J_opt1 (o := chk (decide (0 ≤ (d1.length : Int)) && decide ((d1.length : Int) ≤ (d0.length : Int)) && decide ((d0.length : Int) ≤ d0.length))) [] (by kernel_rfl) (ck hb2) ?_)
    have hr_ := Option.some.inj hF; subst hr_
    exact J_adv 2 (J_ret (xs := [.d (.str ((d0.drop (Int.toNat (d1.length : Int))).take (Int.toNat ((d0.length : Int) - (d1.length : Int)))))]) [.d (.str ((d0.drop (Int.toNat (d1.length : Int))).take (Int.toNat ((d0.length : Int) - (d1.length : Int)))))] rfl rfl (by kernel_rfl) (Res'.refl _) rfl)
  · replace hF := iff' hb1 hF
    have hr_ := Option.some.inj hF; subst hr_
    exact J_adv 7 (J_ret (xs := [.d (.str d0)]) [.d (.str d0)] rfl rfl (by kernel_rfl) (Res'.refl _) rfl)
/- strings.TrimPrefix -/
def F138 (d0 : List UInt8) (d1 : List UInt8) : Option (List UInt8) :=
  Option.bind (F182 d0 d1) fun y1 =>
  some y1
theorem F138_ok {d0 : List UInt8} {d1 : List UInt8} {r : List UInt8} (hF : F138 d0 d1 = some r) :
    CallF Tryz.prog 138 [.d (.str d0), .d (.str d1)] (.d (.str r)) := by
  unfold F138 at hF
  refine callF_of (N := 8) (b := bodyOf Tryz.f138) Tryz.func138 (by kernel_rfl) rfl rfl ?_
  obtain ⟨y1, e1, hF⟩ := bnd hF
  refine J_adv 8 (J_callF (xs := [.d (.str d0), .d (.str d1)]) [.d (.str d0), .d (.str d1)] (.d (.str y1)) (by kernel_rfl) en182 (Res'.refl _) (F182_ok e1) ?_)
  have hr_ := Option.some.inj hF; subst hr_
  exact J_adv 2 (J_ret (xs := [.d (.str y1)]) [.d (.str y1)] rfl rfl (by kernel_rfl) (Res'.refl _) rfl)
def e_u8 (x : Int) : List Dat := [.int .u8 x]
/- internal/strconv.lower -/
def F227 (d0 : Int) : Option Int :=
  some (IntKind.u8.wrap (BitVec.ofInt IntKind.u8.bits d0 ||| BitVec.ofInt IntKind.u8.bits 32).toNat)
theorem F227_ok {d0 : Int} {r : Int} (hF : F227 d0 = some r) :
    CallF Tryz.prog 227 [.d (.int .u8 d0)] (.d (.int .u8 r)) := by
  unfold F227 at hF
  refine callF_of (N := 5) (b := bodyOf Tryz.f227) Tryz.func227 (by kernel_rfl) rfl rfl ?_
  have hr_ := Option.some.inj hF; subst hr_
  exact J_adv 10 (J_ret (xs := [.d (.int .u8 (IntKind.u8.wrap (BitVec.ofInt IntKind.u8.bits d0 ||| BitVec.ofInt IntKind.u8.bits 32).toNat))]) [.d (.int .u8 (IntKind.u8.wrap (BitVec.ofInt IntKind.u8.bits d0 ||| BitVec.ofInt IntKind.u8.bits 32).toNat))] rfl rfl (by kernel_rfl) (Res'.refl _) rfl)
/- internal/strconv.ParseUint -/
def F183_A2 (v7 : Int) (v8 : Int) (rec_F183_L1 : Int → Int → Option (Int × Bool)) (v10 : Int) : Option (Int × Bool) :=
  bif decide (v10 ≥ (IntKind.u8.wrap 10)) then
    (some (0, true))
  else
    (bif decide (v7 ≥ 1844674407370955162) then
      (some (IntKind.u64.wrap ((IntKind.u64.wrap (1 * 2 ^ (min (Int.toNat (IntKind.u64.wrap 32)) IntKind.u64.bits))) - 1), true))
    else
      (Option.bind (
        bif decide ((IntKind.u64.wrap ((IntKind.u64.wrap (v7 * (IntKind.u64.wrap 10))) + (IntKind.u64.wrap v10))) < (IntKind.u64.wrap (v7 * (IntKind.u64.wrap 10)))) then
          (some true)
        else
          (some (decide ((IntKind.u64.wrap ((IntKind.u64.wrap (v7 * (IntKind.u64.wrap 10))) + (IntKind.u64.wrap v10))) > (IntKind.u64.wrap ((IntKind.u64.wrap (1 * 2 ^ (min (Int.toNat (IntKind.u64.wrap 32)) IntKind.u64.bits))) - 1)))))) fun o39 =>
      bif o39 then
        (some (IntKind.u64.wrap ((IntKind.u64.wrap (1 * 2 ^ (min (Int.toNat (IntKind.u64.wrap 32)) IntKind.u64.bits))) - 1), true))
      else
        (rec_F183_L1 (IntKind.u64.wrap ((IntKind.u64.wrap (v7 * (IntKind.u64.wrap 10))) + (IntKind.u64.wrap v10))) (IntKind.i64.wrap (v8 + 1)))))
def F183_L1 (d0 : List UInt8) : Nat → Int → Int → Option (Int × Bool)
  | 0, _, _ => none
  | n_F183_L1 + 1, v7, v8 =>
    bif decide (v8 < (((d0.map toI).map e_u8).length : Int)) then
      (Option.bind (geti (d0.map toI) v8) fun y76 =>
      Option.bind (
        bif y76 == 95 then
          (some ())
        else
          (some ())) fun o40 =>
      Option.bind (
        bif decide (48 ≤ y76) then
          (some (decide (y76 ≤ 57)))
        else
          (some false)) fun o41 =>
      bif o41 then
        (F183_A2 v7 v8 (F183_L1 d0 n_F183_L1) (IntKind.u8.wrap (y76 - 48)))
      else
        (Option.bind (
          Option.bind (F227 y76) fun y89 =>
          bif decide (97 ≤ y89) then
            (Option.bind (F227 y76) fun y90 =>
            some (decide (y90 ≤ 122)))
          else
            (some false)) fun o42 =>
        bif o42 then
          (Option.bind (F227 y76) fun y88 =>
          F183_A2 v7 v8 (F183_L1 d0 n_F183_L1) (IntKind.u8.wrap ((IntKind.u8.wrap (y88 - 97)) + 10)))
        else
          (some (0, true))))
    else
      (some (v7, false))
def F183 (fuel : Nat) (d0 : List UInt8) : Option (Int × Bool) :=
  bif d0 == [] then
    (some (0, true))
  else
    (ass (decide (0 ≤ (IntKind.u64.wrap 32))) <|
    F183_L1 d0 fuel 0 0)
theorem F183_ok {fuel : Nat} {d0 : List UInt8} {r : Int × Bool} (hF : F183 fuel d0 = some r) :
    CallF Tryz.prog 183 [.d (.str d0), .d (.int .i64 10), .d (.int .i64 32)] (.tup [.d (.int .u64 r.1), .d (.ife r.2)]) := by
  unfold F183 at hF
  refine callF_of (N := 172) (b := bodyOf Tryz.f183) Tryz.func183 (by kernel_rfl) rfl rfl ?_
  refine J_adv 11 (J_bool 19 (b := d0 == []) (by kernel_rfl) (fun hb1 => ?_) (fun hb1 => ?_))
  · replace hF := ift hb1 hF
    have hr_ := Option.some.inj hF; subst hr_
    exact J_adv 7 (J_ret (xs := [.d (.int .u64 0), .d (.ife true)]) [.d (.int .u64 0), .d (.ife true)] rfl rfl (by kernel_rfl) (Res'.refl _) rfl)
  · replace hF := iff' hb1 hF
    obtain ⟨hb2, hF⟩ := assd hF
    refine J_adv 70 (J_opt1 (o := chk (decide (0 ≤ (IntKind.u64.wrap 32)))) [] (by kernel_rfl) (ck hb2) ?_)
    refine J_adv 15 (J_opt2 (o := some (d0.map byteD)) ((d0.map toI).map e_u8) (by kernel_rfl) (bym (f := e_u8) (fun _ => rfl)) ?_)
    have hF183_L1 : ∀ (n_F183_L1 : Nat) (v7 : Int) (v8 : Int), F183_L1 d0 n_F183_L1 v7 v8 = some r → J none Tryz.prog 172 [] (finF Tryz.prog Tryz.f183 (.tup [.d (.int .u64 r.1), .d (.ife r.2)])) ⟨mkT [(1, .d (.int .i64 10)), (8, .d (.bool false)), (9, .d (.str d0)), (10, .d (.int .u64 1844674407370955162)), (11, .d (.int .u64 (IntKind.u64.wrap ((IntKind.u64.wrap (1 * 2 ^ (min (Int.toNat (IntKind.u64.wrap 32)) IntKind.u64.bits))) - 1)))), (12, .d (.bool false)), (13, .d (.int .u64 v7)), (99, .d (.sl 1 ((d0.map toI).map e_u8))), (100, .d (.int .i64 (((d0.map toI).map e_u8).length : Int))), (101, .d (.int .i64 v8))], [], [.inLoop (cAt (bodyOf Tryz.f183) [1, 1, 1, 1, 1, 1, 1, 1, 1, 1, 1, 0, 1, 0, 0]), .inBlock 3, .code (cAt (bodyOf Tryz.f183) [1, 1, 1, 1, 1, 1, 1, 1, 1, 1, 1, 1])]⟩ := by
      clear hF; intro n_F183_L1
      induction n_F183_L1 with
      | zero => intro v7 v8 hF; cases hF
      | succ n_F183_L1 ih_F183_L1 =>
        intro v7 v8 hF
        rw [F183_L1] at hF
        refine J_adv 6 (J_bool 102 (b := decide (v8 < (((d0.map toI).map e_u8).length : Int))) (by kernel_rfl) (fun hb115 => ?_) (fun hb115 => ?_))
        · replace hF := ift hb115 hF
          obtain ⟨y76, e76, hF⟩ := bnd hF
          refine J_adv 6 (J_opt1 (o := geti ((d0.map toI).map e_u8) v8) (e_u8 y76) (by kernel_rfl) (gm e76) ?_)
          have hF183_A2 : ∀ (v10 : Int), F183_A2 v7 v8 (F183_L1 d0 n_F183_L1) v10 = some r → J none Tryz.prog 172 [] (finF Tryz.prog Tryz.f183 (.tup [.d (.int .u64 r.1), .d (.ife r.2)])) ⟨mkT [(1, .d (.int .i64 10)), (8, .d (.bool false)), (9, .d (.str d0)), (10, .d (.int .u64 1844674407370955162)), (11, .d (.int .u64 (IntKind.u64.wrap ((IntKind.u64.wrap (1 * 2 ^ (min (Int.toNat (IntKind.u64.wrap 32)) IntKind.u64.bits))) - 1)))), (12, .d (.bool false)), (13, .d (.int .u64 v7)), (16, .d (.int .u8 v10)), (99, .d (.sl 1 ((d0.map toI).map e_u8))), (100, .d (.int .i64 (((d0.map toI).map e_u8).length : Int))), (101, .d (.int .i64 v8))], [], [.code (cAt (bodyOf Tryz.f183) [1, 1, 1, 1, 1, 1, 1, 1, 1, 1, 1, 0, 1, 0, 0, 1, 1, 0, 0, 1, 1, 1]), .inBlock 4, .code (cAt (bodyOf Tryz.f183) [1, 1, 1, 1, 1, 1, 1, 1, 1, 1, 1, 0, 1, 0, 0, 1, 1, 1]), .inLoop (cAt (bodyOf Tryz.f183) [1, 1, 1, 1, 1, 1, 1, 1, 1, 1, 1, 0, 1, 0, 0]), .inBlock 3, .code (cAt (bodyOf Tryz.f183) [1, 1, 1, 1, 1, 1, 1, 1, 1, 1, 1, 1])]⟩ := by
            intro v10 hF
            unfold F183_A2 at hF
            refine J_adv 8 (J_bool 137 (b := decide (v10 ≥ (IntKind.u8.wrap 10))) (by kernel_rfl) (fun hb155 => ?_) (fun hb155 => ?_))
            · replace hF := ift hb155 hF
              have hr_ := Option.some.inj hF; subst hr_
              exact J_adv 7 (J_ret (xs := [.d (.int .u64 0), .d (.ife true)]) [.d (.int .u64 0), .d (.ife true)] rfl rfl (by kernel_rfl) (Res'.refl _) rfl)
            · replace hF := iff' hb155 hF
              refine J_adv 9 (J_bool 141 (b := decide (v7 ≥ 1844674407370955162)) (by kernel_rfl) (fun hb156 => ?_) (fun hb156 => ?_))
              · replace hF := ift hb156 hF
                have hr_ := Option.some.inj hF; subst hr_
                exact J_adv 8 (J_ret (xs := [.d (.int .u64 (IntKind.u64.wrap ((IntKind.u64.wrap (1 * 2 ^ (min (Int.toNat (IntKind.u64.wrap 32)) IntKind.u64.bits))) - 1))), .d (.ife true)]) [.d (.int .u64 (IntKind.u64.wrap ((IntKind.u64.wrap (1 * 2 ^ (min (Int.toNat (IntKind.u64.wrap 32)) IntKind.u64.bits))) - 1))), .d (.ife true)] rfl rfl (by kernel_rfl) (Res'.refl _) rfl)
              · replace hF := iff' hb156 hF
                obtain ⟨o39, hO, hF⟩ := bnd hF
                have hR39 : J none Tryz.prog 172 [] (finF Tryz.prog Tryz.f183 (.tup [.d (.int .u64 r.1), .d (.ife r.2)])) ⟨mkT [(1, .d (.int .i64 10)), (8, .d (.bool false)), (9, .d (.str d0)), (10, .d (.int .u64 1844674407370955162)), (11, .d (.int .u64 (IntKind.u64.wrap ((IntKind.u64.wrap (1 * 2 ^ (min (Int.toNat (IntKind.u64.wrap 32)) IntKind.u64.bits))) - 1)))), (12, .d (.bool false)), (17, .d (.int .u64 (IntKind.u64.wrap ((IntKind.u64.wrap (v7 * (IntKind.u64.wrap 10))) + (IntKind.u64.wrap v10))))), (99, .d (.sl 1 ((d0.map toI).map e_u8))), (100, .d (.int .i64 (((d0.map toI).map e_u8).length : Int))), (101, .d (.int .i64 v8)), (159, .d (.bool o39))], [], [.ops (opsOf (cAt (bodyOf Tryz.f183) [1, 1, 1, 1, 1, 1, 1, 1, 1, 1, 1, 0, 1, 0, 0, 1, 1, 0, 0, 1, 1, 1, 1, 1, 1, 1, 0, 0])) [], .code (cAt (bodyOf Tryz.f183) [1, 1, 1, 1, 1, 1, 1, 1, 1, 1, 1, 0, 1, 0, 0, 1, 1, 0, 0, 1, 1, 1, 1, 1, 1, 1, 0, 1]), .code (cAt (bodyOf Tryz.f183) [1, 1, 1, 1, 1, 1, 1, 1, 1, 1, 1, 0, 1, 0, 0, 1, 1, 0, 0, 1, 1, 1, 1, 1, 1, 1, 1]), .inBlock 4, .code (cAt (bodyOf Tryz.f183) [1, 1, 1, 1, 1, 1, 1, 1, 1, 1, 1, 0, 1, 0, 0, 1, 1, 1]), .inLoop (cAt (bodyOf Tryz.f183) [1, 1, 1, 1, 1, 1, 1, 1, 1, 1, 1, 0, 1, 0, 0]), .inBlock 3, .code (cAt (bodyOf Tryz.f183) [1, 1, 1, 1, 1, 1, 1, 1, 1, 1, 1, 1])]⟩ := by
                  clear hO
                  refine J_adv 1 (J_bool 159 (b := o39) (by kernel_rfl) (fun hb159 => ?_) (fun hb159 => ?_))
                  · replace hF := ift hb159 hF
                    have hr_ := Option.some.inj hF; subst hr_
                    exact J_adv 8 (J_ret (xs := [.d (.int .u64 (IntKind.u64.wrap ((IntKind.u64.wrap (1 * 2 ^ (min (Int.toNat (IntKind.u64.wrap 32)) IntKind.u64.bits))) - 1))), .d (.ife true)]) [.d (.int .u64 (IntKind.u64.wrap ((IntKind.u64.wrap (1 * 2 ^ (min (Int.toNat (IntKind.u64.wrap 32)) IntKind.u64.bits))) - 1))), .d (.ife true)] rfl rfl (by kernel_rfl) (Res'.refl _) rfl)
                  · replace hF := iff' hb159 hF
                    exact J_adv 11 (J_at [1, 8, 9, 10, 11, 12, 13, 99, 100, 101] [] (T0 := [.inLoop (cAt (bodyOf Tryz.f183) [1, 1, 1, 1, 1, 1, 1, 1, 1, 1, 1, 0, 1, 0, 0]), .inBlock 3, .code (cAt (bodyOf Tryz.f183) [1, 1, 1, 1, 1, 1, 1, 1, 1, 1, 1, 1])]) (by kernel_rfl) rfl (ih_F183_L1 (IntKind.u64.wrap ((IntKind.u64.wrap (v7 * (IntKind.u64.wrap 10))) + (IntKind.u64.wrap v10))) (IntKind.i64.wrap (v8 + 1)) hF))
                clear hF; rename _ = some o39 => hF
                refine J_adv 25 (J_bool 155 (b := decide ((IntKind.u64.wrap ((IntKind.u64.wrap (v7 * (IntKind.u64.wrap 10))) + (IntKind.u64.wrap v10))) < (IntKind.u64.wrap (v7 * (IntKind.u64.wrap 10))))) (by kernel_rfl) (fun hb160 => ?_) (fun hb160 => ?_))
                · replace hF := ift hb160 hF
                  have hr_ := Option.some.inj hF; subst hr_
                  exact J_adv 4 (J_at [1, 8, 9, 10, 11, 12, 17, 99, 100, 101, 159] [] (T0 := [.ops (opsOf (cAt (bodyOf Tryz.f183) [1, 1, 1, 1, 1, 1, 1, 1, 1, 1, 1, 0, 1, 0, 0, 1, 1, 0, 0, 1, 1, 1, 1, 1, 1, 1, 0, 0])) [], .code (cAt (bodyOf Tryz.f183) [1, 1, 1, 1, 1, 1, 1, 1, 1, 1, 1, 0, 1, 0, 0, 1, 1, 0, 0, 1, 1, 1, 1, 1, 1, 1, 0, 1]), .code (cAt (bodyOf Tryz.f183) [1, 1, 1, 1, 1, 1, 1, 1, 1, 1, 1, 0, 1, 0, 0, 1, 1, 0, 0, 1, 1, 1, 1, 1, 1, 1, 1]), .inBlock 4, .code (cAt (bodyOf Tryz.f183) [1, 1, 1, 1, 1, 1, 1, 1, 1, 1, 1, 0, 1, 0, 0, 1, 1, 1]), .inLoop (cAt (bodyOf Tryz.f183) [1, 1, 1, 1, 1, 1, 1, 1, 1, 1, 1, 0, 1, 0, 0]), .inBlock 3, .code (cAt (bodyOf Tryz.f183) [1, 1, 1, 1, 1, 1, 1, 1, 1, 1, 1, 1])]) (by kernel_rfl) rfl hR39)
                · replace hF := iff' hb160 hF
                  have hr_ := Option.some.inj hF; subst hr_
                  exact J_adv 4 (J_at [1, 8, 9, 10, 11, 12, 17, 99, 100, 101, 159] [] (T0 := [.ops (opsOf (cAt (bodyOf Tryz.f183) [1, 1, 1, 1, 1, 1, 1, 1, 1, 1, 1, 0, 1, 0, 0, 1, 1, 0, 0, 1, 1, 1, 1, 1, 1, 1, 0, 0])) [], .code (cAt (bodyOf Tryz.f183) [1, 1, 1, 1, 1, 1, 1, 1, 1, 1, 1, 0, 1, 0, 0, 1, 1, 0, 0, 1, 1, 1, 1, 1, 1, 1, 0, 1]), .code (cAt (bodyOf Tryz.f183) [1, 1, 1, 1, 1, 1, 1, 1, 1, 1, 1, 0, 1, 0, 0, 1, 1, 0, 0, 1, 1, 1, 1, 1, 1, 1, 1]), .inBlock 4, .code (cAt (bodyOf Tryz.f183) [1, 1, 1, 1, 1, 1, 1, 1, 1, 1, 1, 0, 1, 0, 0, 1, 1, 1]), .inLoop (cAt (bodyOf Tryz.f183) [1, 1, 1, 1, 1, 1, 1, 1, 1, 1, 1, 0, 1, 0, 0]), .inBlock 3, .code (cAt (bodyOf Tryz.f183) [1, 1, 1, 1, 1, 1, 1, 1, 1, 1, 1, 1])]) (by kernel_rfl) rfl hR39)
          obtain ⟨o40, hO, hF⟩ := bnd hF
          have hR40 : J none Tryz.prog 172 [] (finF Tryz.prog Tryz.f183 (.tup [.d (.int .u64 r.1), .d (.ife r.2)])) ⟨mkT [(1, .d (.int .i64 10)), (8, .d (.bool false)), (9, .d (.str d0)), (10, .d (.int .u64 1844674407370955162)), (11, .d (.int .u64 (IntKind.u64.wrap ((IntKind.u64.wrap (1 * 2 ^ (min (Int.toNat (IntKind.u64.wrap 32)) IntKind.u64.bits))) - 1)))), (12, .d (.bool false)), (13, .d (.int .u64 v7)), (15, .d (.int .u8 y76)), (99, .d (.sl 1 ((d0.map toI).map e_u8))), (100, .d (.int .i64 (((d0.map toI).map e_u8).length : Int))), (101, .d (.int .i64 v8)), (106, .d (.bool false))], [], [.ops (opsOf (cAt (bodyOf Tryz.f183) [1, 1, 1, 1, 1, 1, 1, 1, 1, 1, 1, 0, 1, 0, 0, 1, 1, 0, 0, 1, 1, 0, 0, 0])) [], .code (cAt (bodyOf Tryz.f183) [1, 1, 1, 1, 1, 1, 1, 1, 1, 1, 1, 0, 1, 0, 0, 1, 1, 0, 0, 1, 1, 0, 0, 1]), .inBlock 5, .code (cAt (bodyOf Tryz.f183) [1, 1, 1, 1, 1, 1, 1, 1, 1, 1, 1, 0, 1, 0, 0, 1, 1, 0, 0, 1, 1, 1]), .inBlock 4, .code (cAt (bodyOf Tryz.f183) [1, 1, 1, 1, 1, 1, 1, 1, 1, 1, 1, 0, 1, 0, 0, 1, 1, 1]), .inLoop (cAt (bodyOf Tryz.f183) [1, 1, 1, 1, 1, 1, 1, 1, 1, 1, 1, 0, 1, 0, 0]), .inBlock 3, .code (cAt (bodyOf Tryz.f183) [1, 1, 1, 1, 1, 1, 1, 1, 1, 1, 1, 1])]⟩ := by
            clear hO
            obtain ⟨o41, hO, hF⟩ := bnd hF
            have hR41 : J none Tryz.prog 172 [] (finF Tryz.prog Tryz.f183 (.tup [.d (.int .u64 r.1), .d (.ife r.2)])) ⟨mkT [(1, .d (.int .i64 10)), (8, .d (.bool false)), (9, .d (.str d0)), (10, .d (.int .u64 1844674407370955162)), (11, .d (.int .u64 (IntKind.u64.wrap ((IntKind.u64.wrap (1 * 2 ^ (min (Int.toNat (IntKind.u64.wrap 32)) IntKind.u64.bits))) - 1)))), (12, .d (.bool false)), (13, .d (.int .u64 v7)), (15, .d (.int .u8 y76)), (99, .d (.sl 1 ((d0.map toI).map e_u8))), (100, .d (.int .i64 (((d0.map toI).map e_u8).length : Int))), (101, .d (.int .i64 v8)), (112, .d (.bool o41))], [], [.ops (opsOf (cAt (bodyOf Tryz.f183) [1, 1, 1, 1, 1, 1, 1, 1, 1, 1, 1, 0, 1, 0, 0, 1, 1, 0, 0, 1, 1, 0, 0, 1, 1, 0])) [], .code (cAt (bodyOf Tryz.f183) [1, 1, 1, 1, 1, 1, 1, 1, 1, 1, 1, 0, 1, 0, 0, 1, 1, 0, 0, 1, 1, 0, 0, 1, 1, 1]), .inBlock 5, .code (cAt (bodyOf Tryz.f183) [1, 1, 1, 1, 1, 1, 1, 1, 1, 1, 1, 0, 1, 0, 0, 1, 1, 0, 0, 1, 1, 1]), .inBlock 4, .code (cAt (bodyOf Tryz.f183) [1, 1, 1, 1, 1, 1, 1, 1, 1, 1, 1, 0, 1, 0, 0, 1, 1, 1]), .inLoop (cAt (bodyOf Tryz.f183) [1, 1, 1, 1, 1, 1, 1, 1, 1, 1, 1, 0, 1, 0, 0]), .inBlock 3, .code (cAt (bodyOf Tryz.f183) [1, 1, 1, 1, 1, 1, 1, 1, 1, 1, 1, 1])]⟩ := by
              clear hO
              refine J_adv 1 (J_bool 112 (b := o41) (by kernel_rfl) (fun hb165 => ?_) (fun hb165 => ?_))
              · replace hF := ift hb165 hF
                exact J_adv 7 (J_at [1, 8, 9, 10, 11, 12, 13, 16, 99, 100, 101] [] (T0 := [.code (cAt (bodyOf Tryz.f183) [1, 1, 1, 1, 1, 1, 1, 1, 1, 1, 1, 0, 1, 0, 0, 1, 1, 0, 0, 1, 1, 1]), .inBlock 4, .code (cAt (bodyOf Tryz.f183) [1, 1, 1, 1, 1, 1, 1, 1, 1, 1, 1, 0, 1, 0, 0, 1, 1, 1]), .inLoop (cAt (bodyOf Tryz.f183) [1, 1, 1, 1, 1, 1, 1, 1, 1, 1, 1, 0, 1, 0, 0]), .inBlock 3, .code (cAt (bodyOf Tryz.f183) [1, 1, 1, 1, 1, 1, 1, 1, 1, 1, 1, 1])]) (by kernel_rfl) rfl (hF183_A2 (IntKind.u8.wrap (y76 - 48)) hF))
              · replace hF := iff' hb165 hF
                obtain ⟨o42, hO, hF⟩ := bnd hF
                have hR42 : J none Tryz.prog 172 [] (finF Tryz.prog Tryz.f183 (.tup [.d (.int .u64 r.1), .d (.ife r.2)])) ⟨mkT [(1, .d (.int .i64 10)), (8, .d (.bool false)), (9, .d (.str d0)), (10, .d (.int .u64 1844674407370955162)), (11, .d (.int .u64 (IntKind.u64.wrap ((IntKind.u64.wrap (1 * 2 ^ (min (Int.toNat (IntKind.u64.wrap 32)) IntKind.u64.bits))) - 1)))), (12, .d (.bool false)), (13, .d (.int .u64 v7)), (15, .d (.int .u8 y76)), (99, .d (.sl 1 ((d0.map toI).map e_u8))), (100, .d (.int .i64 (((d0.map toI).map e_u8).length : Int))), (101, .d (.int .i64 v8)), (121, .d (.bool o42))], [], [.ops (opsOf (cAt (bodyOf Tryz.f183) [1, 1, 1, 1, 1, 1, 1, 1, 1, 1, 1, 0, 1, 0, 0, 1, 1, 0, 0, 1, 1, 0, 0, 1, 1, 1, 1, 0])) [], .code (cAt (bodyOf Tryz.f183) [1, 1, 1, 1, 1, 1, 1, 1, 1, 1, 1, 0, 1, 0, 0, 1, 1, 0, 0, 1, 1, 0, 0, 1, 1, 1, 1, 1]), .inBlock 5, .code (cAt (bodyOf Tryz.f183) [1, 1, 1, 1, 1, 1, 1, 1, 1, 1, 1, 0, 1, 0, 0, 1, 1, 0, 0, 1, 1, 1]), .inBlock 4, .code (cAt (bodyOf Tryz.f183) [1, 1, 1, 1, 1, 1, 1, 1, 1, 1, 1, 0, 1, 0, 0, 1, 1, 1]), .inLoop (cAt (bodyOf Tryz.f183) [1, 1, 1, 1, 1, 1, 1, 1, 1, 1, 1, 0, 1, 0, 0]), .inBlock 3, .code (cAt (bodyOf Tryz.f183) [1, 1, 1, 1, 1, 1, 1, 1, 1, 1, 1, 1])]⟩ := by
                  clear hO
                  refine J_adv 1 (J_bool 121 (b := o42) (by kernel_rfl) (fun hb168 => ?_) (fun hb168 => ?_))
                  · replace hF := ift hb168 hF
                    obtain ⟨y88, e88, hF⟩ := bnd hF
                    refine J_adv 3 (J_callF (xs := [.d (.int .u8 y76)]) [.d (.int .u8 y76)] (.d (.int .u8 y88)) (by kernel_rfl) en227 (Res'.refl _) (F227_ok e88) ?_)
                    exact J_adv 5 (J_at [1, 8, 9, 10, 11, 12, 13, 16, 99, 100, 101] [] (T0 := [.code (cAt (bodyOf Tryz.f183) [1, 1, 1, 1, 1, 1, 1, 1, 1, 1, 1, 0, 1, 0, 0, 1, 1, 0, 0, 1, 1, 1]), .inBlock 4, .code (cAt (bodyOf Tryz.f183) [1, 1, 1, 1, 1, 1, 1, 1, 1, 1, 1, 0, 1, 0, 0, 1, 1, 1]), .inLoop (cAt (bodyOf Tryz.f183) [1, 1, 1, 1, 1, 1, 1, 1, 1, 1, 1, 0, 1, 0, 0]), .inBlock 3, .code (cAt (bodyOf Tryz.f183) [1, 1, 1, 1, 1, 1, 1, 1, 1, 1, 1, 1])]) (by kernel_rfl) rfl (hF183_A2 (IntKind.u8.wrap ((IntKind.u8.wrap (y88 - 97)) + 10)) hF))
                  · replace hF := iff' hb168 hF
                    have hr_ := Option.some.inj hF; subst hr_
                    exact J_adv 7 (J_ret (xs := [.d (.int .u64 0), .d (.ife true)]) [.d (.int .u64 0), .d (.ife true)] rfl rfl (by kernel_rfl) (Res'.refl _) rfl)
                clear hF; rename _ = some o42 => hF
                obtain ⟨y89, e89, hF⟩ := bnd hF
                refine J_adv 4 (J_callF (xs := [.d (.int .u8 y76)]) [.d (.int .u8 y76)] (.d (.int .u8 y89)) (by kernel_rfl) en227 (Res'.refl _) (F227_ok e89) ?_)
                refine J_adv 2 (J_bool 125 (b := decide (97 ≤ y89)) (by kernel_rfl) (fun hb169 => ?_) (fun hb169 => ?_))
                · replace hF := ift hb169 hF
                  obtain ⟨y90, e90, hF⟩ := bnd hF
                  refine J_adv 1 (J_callF (xs := [.d (.int .u8 y76)]) [.d (.int .u8 y76)] (.d (.int .u8 y90)) (by kernel_rfl) en227 (Res'.refl _) (F227_ok e90) ?_)
                  have hr_ := Option.some.inj hF; subst hr_
                  exact J_adv 3 (J_at [1, 8, 9, 10, 11, 12, 13, 15, 99, 100, 101, 121] [] (T0 := [.ops (opsOf (cAt (bodyOf Tryz.f183) [1, 1, 1, 1, 1, 1, 1, 1, 1, 1, 1, 0, 1, 0, 0, 1, 1, 0, 0, 1, 1, 0, 0, 1, 1, 1, 1, 0])) [], .code (cAt (bodyOf Tryz.f183) [1, 1, 1, 1, 1, 1, 1, 1, 1, 1, 1, 0, 1, 0, 0, 1, 1, 0, 0, 1, 1, 0, 0, 1, 1, 1, 1, 1]), .inBlock 5, .code (cAt (bodyOf Tryz.f183) [1, 1, 1, 1, 1, 1, 1, 1, 1, 1, 1, 0, 1, 0, 0, 1, 1, 0, 0, 1, 1, 1]), .inBlock 4, .code (cAt (bodyOf Tryz.f183) [1, 1, 1, 1, 1, 1, 1, 1, 1, 1, 1, 0, 1, 0, 0, 1, 1, 1]), .inLoop (cAt (bodyOf Tryz.f183) [1, 1, 1, 1, 1, 1, 1, 1, 1, 1, 1, 0, 1, 0, 0]), .inBlock 3, .code (cAt (bodyOf Tryz.f183) [1, 1, 1, 1, 1, 1, 1, 1, 1, 1, 1, 1])]) (by kernel_rfl) rfl hR42)
                · replace hF := iff' hb169 hF
                  have hr_ := Option.some.inj hF; subst hr_
                  exact J_adv 5 (J_at [1, 8, 9, 10, 11, 12, 13, 15, 99, 100, 101, 121] [] (T0 := [.ops (opsOf (cAt (bodyOf Tryz.f183) [1, 1, 1, 1, 1, 1, 1, 1, 1, 1, 1, 0, 1, 0, 0, 1, 1, 0, 0, 1, 1, 0, 0, 1, 1, 1, 1, 0])) [], .code (cAt (bodyOf Tryz.f183) [1, 1, 1, 1, 1, 1, 1, 1, 1, 1, 1, 0, 1, 0, 0, 1, 1, 0, 0, 1, 1, 0, 0, 1, 1, 1, 1, 1]), .inBlock 5, .code (cAt (bodyOf Tryz.f183) [1, 1, 1, 1, 1, 1, 1, 1, 1, 1, 1, 0, 1, 0, 0, 1, 1, 0, 0, 1, 1, 1]), .inBlock 4, .code (cAt (bodyOf Tryz.f183) [1, 1, 1, 1, 1, 1, 1, 1, 1, 1, 1, 0, 1, 0, 0, 1, 1, 1]), .inLoop (cAt (bodyOf Tryz.f183) [1, 1, 1, 1, 1, 1, 1, 1, 1, 1, 1, 0, 1, 0, 0]), .inBlock 3, .code (cAt (bodyOf Tryz.f183) [1, 1, 1, 1, 1, 1, 1, 1, 1, 1, 1, 1])]) (by kernel_rfl) rfl hR42)
            clear hF; rename _ = some o41 => hF
            refine J_adv 7 (J_bool 115 (b := decide (48 ≤ y76)) (by kernel_rfl) (fun hb170 => ?_) (fun hb170 => ?_))
            · replace hF := ift hb170 hF
              have hr_ := Option.some.inj hF; subst hr_
              exact J_adv 4 (J_at [1, 8, 9, 10, 11, 12, 13, 15, 99, 100, 101, 112] [] (T0 := [.ops (opsOf (cAt (bodyOf Tryz.f183) [1, 1, 1, 1, 1, 1, 1, 1, 1, 1, 1, 0, 1, 0, 0, 1, 1, 0, 0, 1, 1, 0, 0, 1, 1, 0])) [], .code (cAt (bodyOf Tryz.f183) [1, 1, 1, 1, 1, 1, 1, 1, 1, 1, 1, 0, 1, 0, 0, 1, 1, 0, 0, 1, 1, 0, 0, 1, 1, 1]), .inBlock 5, .code (cAt (bodyOf Tryz.f183) [1, 1, 1, 1, 1, 1, 1, 1, 1, 1, 1, 0, 1, 0, 0, 1, 1, 0, 0, 1, 1, 1]), .inBlock 4, .code (cAt (bodyOf Tryz.f183) [1, 1, 1, 1, 1, 1, 1, 1, 1, 1, 1, 0, 1, 0, 0, 1, 1, 1]), .inLoop (cAt (bodyOf Tryz.f183) [1, 1, 1, 1, 1, 1, 1, 1, 1, 1, 1, 0, 1, 0, 0]), .inBlock 3, .code (cAt (bodyOf Tryz.f183) [1, 1, 1, 1, 1, 1, 1, 1, 1, 1, 1, 1])]) (by kernel_rfl) rfl hR41)
            · replace hF := iff' hb170 hF
              have hr_ := Option.some.inj hF; subst hr_
              exact J_adv 4 (J_at [1, 8, 9, 10, 11, 12, 13, 15, 99, 100, 101, 112] [] (T0 := [.ops (opsOf (cAt (bodyOf Tryz.f183) [1, 1, 1, 1, 1, 1, 1, 1, 1, 1, 1, 0, 1, 0, 0, 1, 1, 0, 0, 1, 1, 0, 0, 1, 1, 0])) [], .code (cAt (bodyOf Tryz.f183) [1, 1, 1, 1, 1, 1, 1, 1, 1, 1, 1, 0, 1, 0, 0, 1, 1, 0, 0, 1, 1, 0, 0, 1, 1, 1]), .inBlock 5, .code (cAt (bodyOf Tryz.f183) [1, 1, 1, 1, 1, 1, 1, 1, 1, 1, 1, 0, 1, 0, 0, 1, 1, 0, 0, 1, 1, 1]), .inBlock 4, .code (cAt (bodyOf Tryz.f183) [1, 1, 1, 1, 1, 1, 1, 1, 1, 1, 1, 0, 1, 0, 0, 1, 1, 1]), .inLoop (cAt (bodyOf Tryz.f183) [1, 1, 1, 1, 1, 1, 1, 1, 1, 1, 1, 0, 1, 0, 0]), .inBlock 3, .code (cAt (bodyOf Tryz.f183) [1, 1, 1, 1, 1, 1, 1, 1, 1, 1, 1, 1])]) (by kernel_rfl) rfl hR41)
          clear hF; rename _ = some o40 => hF
          refine J_adv 14 (J_bool 109 (b := y76 == 95) (by kernel_rfl) (fun hb171 => ?_) (fun hb171 => ?_))
          · replace hF := ift hb171 hF
            have hr_ := Option.some.inj hF; subst hr_
            exact J_adv 3 (J_at [1, 8, 9, 10, 11, 12, 13, 15, 99, 100, 101, 106] [] (T0 := [.ops (opsOf (cAt (bodyOf Tryz.f183) [1, 1, 1, 1, 1, 1, 1, 1, 1, 1, 1, 0, 1, 0, 0, 1, 1, 0, 0, 1, 1, 0, 0, 0])) [], .code (cAt (bodyOf Tryz.f183) [1, 1, 1, 1, 1, 1, 1, 1, 1, 1, 1, 0, 1, 0, 0, 1, 1, 0, 0, 1, 1, 0, 0, 1]), .inBlock 5, .code (cAt (bodyOf Tryz.f183) [1, 1, 1, 1, 1, 1, 1, 1, 1, 1, 1, 0, 1, 0, 0, 1, 1, 0, 0, 1, 1, 1]), .inBlock 4, .code (cAt (bodyOf Tryz.f183) [1, 1, 1, 1, 1, 1, 1, 1, 1, 1, 1, 0, 1, 0, 0, 1, 1, 1]), .inLoop (cAt (bodyOf Tryz.f183) [1, 1, 1, 1, 1, 1, 1, 1, 1, 1, 1, 0, 1, 0, 0]), .inBlock 3, .code (cAt (bodyOf Tryz.f183) [1, 1, 1, 1, 1, 1, 1, 1, 1, 1, 1, 1])]) (by kernel_rfl) rfl hR40)
          · replace hF := iff' hb171 hF
            have hr_ := Option.some.inj hF; subst hr_
            exact J_adv 3 (J_at [1, 8, 9, 10, 11, 12, 13, 15, 99, 100, 101, 106] [] (T0 := [.ops (opsOf (cAt (bodyOf Tryz.f183) [1, 1, 1, 1, 1, 1, 1, 1, 1, 1, 1, 0, 1, 0, 0, 1, 1, 0, 0, 1, 1, 0, 0, 0])) [], .code (cAt (bodyOf Tryz.f183) [1, 1, 1, 1, 1, 1, 1, 1, 1, 1, 1, 0, 1, 0, 0, 1, 1, 0, 0, 1, 1, 0, 0, 1]), .inBlock 5, .code (cAt (bodyOf Tryz.f183) [1, 1, 1, 1, 1, 1, 1, 1, 1, 1, 1, 0, 1, 0, 0, 1, 1, 0, 0, 1, 1, 1]), .inBlock 4, .code (cAt (bodyOf Tryz.f183) [1, 1, 1, 1, 1, 1, 1, 1, 1, 1, 1, 0, 1, 0, 0, 1, 1, 1]), .inLoop (cAt (bodyOf Tryz.f183) [1, 1, 1, 1, 1, 1, 1, 1, 1, 1, 1, 0, 1, 0, 0]), .inBlock 3, .code (cAt (bodyOf Tryz.f183) [1, 1, 1, 1, 1, 1, 1, 1, 1, 1, 1, 1])]) (by kernel_rfl) rfl hR40)
        · replace hF := iff' hb115 hF
          have hr_ := Option.some.inj hF; subst hr_
          exact J_adv 20 (J_ret (xs := [.d (.int .u64 v7), .d (.ife false)]) [.d (.int .u64 v7), .d (.ife false)] rfl rfl (by kernel_rfl) (Res'.refl _) rfl)
    exact J_adv 5 (J_at [1, 8, 9, 10, 11, 12, 13, 99, 100, 101] [] (T0 := [.inLoop (cAt (bodyOf Tryz.f183) [1, 1, 1, 1, 1, 1, 1, 1, 1, 1, 1, 0, 1, 0, 0]), .inBlock 3, .code (cAt (bodyOf Tryz.f183) [1, 1, 1, 1, 1, 1, 1, 1, 1, 1, 1, 1])]) (by kernel_rfl) rfl (hF183_L1 fuel 0 0 hF))
/- strconv.ParseUint -/
def F139 (fuel : Nat) (d0 : List UInt8) : Option (Int × Bool) :=
  Option.bind (F183 fuel d0) fun y1 =>
  bif !!y1.2 then
    (none)
  else
    (some (y1.1, false))
theorem F139_ok {fuel : Nat} {d0 : List UInt8} {r : Int × Bool} (hF : F139 fuel d0 = some r) :
    CallF Tryz.prog 139 [.d (.str d0), .d (.int .i64 10), .d (.int .i64 32)] (.tup [.d (.int .u64 r.1), .d (.ife r.2)]) := by
  unfold F139 at hF
  refine callF_of (N := 26) (b := bodyOf Tryz.f139) Tryz.func139 (by kernel_rfl) rfl rfl ?_
  obtain ⟨y1, e1, hF⟩ := bnd hF
  refine J_adv 10 (J_callF (xs := [.d (.str d0), .d (.int .i64 10), .d (.int .i64 32)]) [.d (.str d0), .d (.int .i64 10), .d (.int .i64 32)] (.tup [.d (.int .u64 y1.1), .d (.ife y1.2)]) (by kernel_rfl) en183 (Res'.refl _) (F183_ok e1) ?_)
  refine J_adv 12 (J_bool 18 (b := !!y1.2) (by kernel_rfl) (fun hb1 => ?_) (fun hb1 => ?_))
  · replace hF := ift hb1 hF
    cases hF
  · replace hF := iff' hb1 hF
    have hr_ := Option.some.inj hF; subst hr_
    exact J_adv 8 (J_ret (xs := [.d (.int .u64 y1.1), .d (.ife false)]) [.d (.int .u64 y1.1), .d (.ife false)] rfl rfl (by kernel_rfl) (Res'.refl _) rfl)
/- croupier/exact.Read -/
def F98_L1 (fuel : Nat) (d0 : List UInt8) (y1 : List UInt8) : Nat → Int → (List Int) → Option T_exact_Whole
  | 0, _, _ => none
  | n_F98_L1 + 1, v2, l4 =>
    bif decide (v2 > 0) then
      (ass (decide (0 ≤ (bif decide ((IntKind.i64.wrap (v2 - 9)) > 0) then (IntKind.i64.wrap (v2 - 9)) else 0)) && decide ((bif decide ((IntKind.i64.wrap (v2 - 9)) > 0) then (IntKind.i64.wrap (v2 - 9)) else 0) ≤ v2) && decide (v2 ≤ y1.length)) <|
      Option.bind (F139 fuel ((y1.drop (Int.toNat (bif decide ((IntKind.i64.wrap (v2 - 9)) > 0) then (IntKind.i64.wrap (v2 - 9)) else 0))).take (Int.toNat (v2 - (bif decide ((IntKind.i64.wrap (v2 - 9)) > 0) then (IntKind.i64.wrap (v2 - 9)) else 0))))) fun y4 =>
      Option.bind (app l4 [IntKind.u32.wrap y4.1]) fun l5 =>
      (F98_L1 fuel d0 y1 n_F98_L1) (IntKind.i64.wrap (v2 - 9)) l5)
    else
      (Option.bind (F140 fuel (decide ((y1.length : Int) < (d0.length : Int))) l4) fun y5 =>
      some y5)
def F98 (fuel : Nat) (d0 : List UInt8) : Option T_exact_Whole :=
  Option.bind (F138 d0 [45]) fun y1 =>
  F98_L1 fuel d0 y1 fuel (y1.length : Int) []
theorem F98_ok {fuel : Nat} {d0 : List UInt8} {r : T_exact_Whole} (hF : F98 fuel d0 = some r) :
    CallF Tryz.prog 98 [.d (.str d0)] (.agg [.d (.bool r.neg), .d (.sl 1 (r.mag.map e_u32))]) := by
  unfold F98 at hF
  refine callF_of (N := 44) (b := bodyOf Tryz.f98) Tryz.func98 (by kernel_rfl) rfl rfl ?_
  obtain ⟨y1, e1, hF⟩ := bnd hF
  refine J_adv 7 (J_callF (xs := [.d (.str d0), .d (.str [45])]) [.d (.str d0), .d (.str [45])] (.d (.str y1)) (by kernel_rfl) en138 (Res'.refl _) (F138_ok e1) ?_)
  have hF98_L1 : ∀ (n_F98_L1 : Nat) (v2 : Int) (l4 : List Int), F98_L1 fuel d0 y1 n_F98_L1 v2 l4 = some r → J none Tryz.prog 44 [] (finF Tryz.prog Tryz.f98 (.agg [.d (.bool r.neg), .d (.sl 1 (r.mag.map e_u32))])) ⟨mkT [(2, .ptr 2 0), (3, .d (.str y1)), (4, .ptr 4 0), (5, .d (.int .i64 v2))], [(2, .box 98 [.d (.bool false), .esl 1]), (4, .box 98 [.d (.bool (decide ((y1.length : Int) < (d0.length : Int)))), .suf 37 0 0]), (37, .buf 0 167 1 (l4.map e_u32))], [.inLoop (cAt (bodyOf Tryz.f98) [1, 1, 1, 0, 1, 0, 0]), .inBlock 0, .code (cAt (bodyOf Tryz.f98) [1, 1, 1, 1])]⟩ := by
    clear hF; intro n_F98_L1
    induction n_F98_L1 with
    | zero => intro v2 l4 hF; cases hF
    | succ n_F98_L1 ih_F98_L1 =>
      intro v2 l4 hF
      rw [F98_L1] at hF
      refine J_adv 7 (J_bool 19 (b := decide (v2 > 0)) (by kernel_rfl) (fun hb5 => ?_) (fun hb5 => ?_))
      · replace hF := ift hb5 hF
        obtain ⟨hb6, hF⟩ := assd hF
        refine J_adv 11 (J_opt1 (o := chk (decide (0 ≤ (bif decide ((IntKind.i64.wrap (v2 - 9)) > 0) then (IntKind.i64.wrap (v2 - 9)) else 0)) && decide ((bif decide ((IntKind.i64.wrap (v2 - 9)) > 0) then (IntKind.i64.wrap (v2 - 9)) else 0) ≤ v2) && decide (v2 ≤ y1.length))) [] (by kernel_rfl) (ck hb6) ?_)
        obtain ⟨y4, e6, hF⟩ := bnd hF
        refine J_adv 0 (J_callF (xs := [.d (.str ((y1.drop (Int.toNat (bif decide ((IntKind.i64.wrap (v2 - 9)) > 0) then (IntKind.i64.wrap (v2 - 9)) else 0))).take (Int.toNat (v2 - (bif decide ((IntKind.i64.wrap (v2 - 9)) > 0) then (IntKind.i64.wrap (v2 - 9)) else 0))))), .d (.int .i64 10), .d (.int .i64 32)]) [.d (.str ((y1.drop (Int.toNat (bif decide ((IntKind.i64.wrap (v2 - 9)) > 0) then (IntKind.i64.wrap (v2 - 9)) else 0))).take (Int.toNat (v2 - (bif decide ((IntKind.i64.wrap (v2 - 9)) > 0) then (IntKind.i64.wrap (v2 - 9)) else 0))))), .d (.int .i64 10), .d (.int .i64 32)] (.tup [.d (.int .u64 y4.1), .d (.ife y4.2)]) (by kernel_rfl) en139 (Res'.refl _) (F139_ok e6) ?_)
        obtain ⟨l5, e7, hF⟩ := bnd hF
        refine J_adv 12 (J_opt2 (o := app2 ((l4.map e_u32).drop 0) ([IntKind.u32.wrap y4.1].map e_u32)) (l5.map e_u32) (by kernel_rfl) (am e7) ?_)
        exact J_adv 9 (J_at [2, 3, 4, 5] [2, 4, 37] (T0 := [.inLoop (cAt (bodyOf Tryz.f98) [1, 1, 1, 0, 1, 0, 0]), .inBlock 0, .code (cAt (bodyOf Tryz.f98) [1, 1, 1, 1])]) (by kernel_rfl) rfl (ih_F98_L1 (IntKind.i64.wrap (v2 - 9)) l5 hF))
      · replace hF := iff' hb5 hF
        obtain ⟨y5, e8, hF⟩ := bnd hF
        refine J_adv 8 (J_callF (xs := [.d (.bool (decide ((y1.length : Int) < (d0.length : Int)))), .d (.sl 1 (l4.map e_u32))]) [.d (.bool (decide ((y1.length : Int) < (d0.length : Int)))), .d (.sl 1 (l4.map e_u32))] (.agg [.d (.bool y5.neg), .d (.sl 1 (y5.mag.map e_u32))]) (by kernel_rfl) en140 (Res'.refl _) (F140_ok e8) ?_)
        have hr_ := Option.some.inj hF; subst hr_
        exact J_adv 2 (J_ret (xs := [.agg [.d (.bool y5.neg), .d (.sl 1 (y5.mag.map e_u32))]]) [.agg [.d (.bool y5.neg), .d (.sl 1 (y5.mag.map e_u32))]] rfl rfl (by kernel_rfl) (Res'.refl _) rfl)
  refine J_adv 22 (J_ownc (n := 1) 4 1 37 167 1 (by kernel_rfl) (by kernel_rfl) ?_)
  exact J_adv 0 (J_at [2, 3, 4, 5] [2, 4, 37] (T0 := [.inLoop (cAt (bodyOf Tryz.f98) [1, 1, 1, 0, 1, 0, 0]), .inBlock 0, .code (cAt (bodyOf Tryz.f98) [1, 1, 1, 1])]) (by kernel_rfl) rfl (hF98_L1 fuel (y1.length : Int) [] hF))
/- (*strings.Builder).copyCheck -/
def F194 : Option Unit :=
  some ()
theorem F194_ok {r : Unit} (hF : F194 = some r) :
    CallR Tryz.prog 194 [(2000, .box 224 [.d .nilp, .esl 1])] [.ptr 2000 0] [(2000, .box 224 [.ptr 2000 0, .esl 1])] (.tup []) := by
  unfold F194 at hF
  refine callR_of (N := 20) (b := bodyOf Tryz.f194) Tryz.func194 (by kernel_rfl) rfl rfl ?_
  refine J_adv 13 (J_callX (xs := [.ptr 2000 0]) (.ptr 2000 0) (by kernel_rfl) (callX_noEscape Tryz.func239 (by kernel_rfl) (by kernel_rfl) (by kernel_rfl) rfl _) ?_)
  have hr_ := Option.some.inj hF; subst hr_
  exact J_adv 5 (J_retR (xs := []) [] rfl (by kernel_rfl) (by kernel_rfl) (Res'.refl _) rfl)
/- (*strings.Builder).WriteByte -/
def F159 (d0 : Int) : Option (Bool × List Int) :=
  Option.bind (F194) fun y1 =>
  Option.bind (app [] [d0]) fun l1 =>
  some (false, l1)
theorem F159_ok {d0 : Int} {r : Bool × List Int} (hF : F159 d0 = some r) :
    CallR Tryz.prog 159 [(2000, .box 224 [.d .nilp, .esl 1])] [.ptr 2000 0, .d (.int .u8 d0)] [(2000, .box 224 [.ptr 2000 0, .suf 2001 0 0]), (2001, .buf 0 5 1 (r.2.map e_u8))] (.d (.ife r.1)) := by
  unfold F159 at hF
  refine callR_of (N := 17) (b := bodyOf Tryz.f159) Tryz.func159 (by kernel_rfl) rfl rfl ?_
  obtain ⟨y1, e1, hF⟩ := bnd hF
  refine J_adv 7 (J_callR (os := [(2000, .box 224 [.d .nilp, .esl 1])]) (xs := [.ptr 2000 0]) [(2000, 2000)] [.ptr 2000 0] [(2000, .box 224 [.ptr 2000 0, .esl 1])] (.tup []) (by kernel_rfl) (by kernel_rfl) en194 (Res'.refl _) (F194_ok e1) ?_)
  obtain ⟨l1, e2, hF⟩ := bnd hF
  refine J_adv 10 (J_opt2 (o := app2 [] ([d0].map e_u8)) (l1.map e_u8) (by kernel_rfl) (am e2) ?_)
  refine J_adv 8 (J_at (S0 := [(4, .d (.ife false))]) (O0 := [(14, .buf 0 5 1 (l1.map e_u8)), (2000, .box 224 [.ptr 2000 0, .suf 14 0 0])]) (T0 := [.code (cAt (bodyOf Tryz.f159) [1, 1, 1, 1])]) [4] [14, 2000] (by kernel_rfl) rfl ?_)
  refine J_adv 0 (J_ren [(2000, 2000), (14, 2001)] (by kernel_rfl) (by kernel_rfl) (by kernel_rfl) (by kernel_rfl) ?_)
  have hr_ := Option.some.inj hF; subst hr_
  exact J_adv 0 (J_retR (xs := [.d (.ife false)]) [.d (.ife false)] rfl (by kernel_rfl) (by kernel_rfl) (Res'.refl _) rfl)
/- strconv.Itoa -/
def F110 (d0 : Int) : Option (List UInt8) := itoaF d0
theorem F110_ok {d0 : Int} {r : List UInt8} (hF : F110 d0 = some r) : CallF Tryz.prog 110 [.d (.int .i64 d0)] (.d (.str r)) := itoa_callF (gn := 3) (by kernel_rfl) (by kernel_rfl) Tryz.strconv_Itoa hF
/- (*strings.Builder).copyCheck -/
def F194a (d0 : List Int) : Option Unit :=
  some ()
theorem F194a_ok {d0 : List Int} {r : Unit} (hF : F194a d0 = some r) :
    CallR Tryz.prog 194 [(2000, .box 224 [.ptr 2000 0, .suf 2001 0 0]), (2001, .buf 0 5 1 (d0.map e_u8))] [.ptr 2000 0] [(2000, .box 224 [.ptr 2000 0, .suf 2001 0 0]), (2001, .buf 0 5 1 (d0.map e_u8))] (.tup []) := by
  unfold F194a at hF
  refine callR_of (N := 20) (b := bodyOf Tryz.f194) Tryz.func194 (by kernel_rfl) rfl rfl ?_
  have hr_ := Option.some.inj hF; subst hr_
  exact J_adv 20 (J_retR (xs := []) [] rfl (by kernel_rfl) (by kernel_rfl) (Res'.refl _) rfl)
/- (*strings.Builder).WriteString -/
def F160 (d0 : List UInt8) (d1 : List Int) : Option (Int × Bool × List Int) :=
  Option.bind (F194a d1) fun y1 =>
  Option.bind (app d1 (d0.map toI)) fun l1 =>
  some ((d0.length : Int), false, l1)
theorem F160_ok {d0 : List UInt8} {d1 : List Int} {r : Int × Bool × List Int} (hF : F160 d0 d1 = some r) :
    CallR Tryz.prog 160 [(2000, .box 224 [.ptr 2000 0, .suf 2001 0 0]), (2001, .buf 0 5 1 (d1.map e_u8))] [.ptr 2000 0, .d (.str d0)] [(2000, .box 224 [.ptr 2000 0, .suf 2001 1 0]), (2001, .buf 1 5 1 (r.2.2.map e_u8))] (.tup [.d (.int .i64 r.1), .d (.ife r.2.1)]) := by
  unfold F160 at hF
  refine callR_of (N := 19) (b := bodyOf Tryz.f160) Tryz.func160 (by kernel_rfl) rfl rfl ?_
  obtain ⟨y1, e1, hF⟩ := bnd hF
  refine J_adv 8 (J_callR (os := [(2000, .box 224 [.ptr 2000 0, .suf 2001 0 0]), (2001, .buf 0 5 1 (d1.map e_u8))]) (xs := [.ptr 2000 0]) [(2000, 2000), (2001, 2001)] [.ptr 2000 0] [(2000, .box 224 [.ptr 2000 0, .suf 2001 0 0]), (2001, .buf 0 5 1 (d1.map e_u8))] (.tup []) (by kernel_rfl) (by kernel_rfl) en194 (Res'.refl _) (F194a_ok e1) ?_)
  obtain ⟨l1, e2, hF⟩ := bnd hF
  refine J_adv 9 (J_opt2 (o := app2 ((d1.map e_u8).drop 0) (d0.map byteD)) (l1.map e_u8) (by kernel_rfl) (ams (f := e_u8) (fun _ => rfl) e2) ?_)
  have hr_ := Option.some.inj hF; subst hr_
  exact J_adv 11 (J_retR (xs := [.d (.int .i64 (d0.length : Int)), .d (.ife false)]) [.d (.int .i64 (d0.length : Int)), .d (.ife false)] rfl (by kernel_rfl) (by kernel_rfl) (Res'.refl _) rfl)
/- (*strings.Builder).String -/
def F161 (d0 : List Int) : Option (List UInt8) :=
  ass (decide (0 < (d0.map e_u8).length)) <|
  Option.bind (ustr d0 0 ((d0.map e_u8).length : Int)) fun x1 =>
  some x1
theorem F161_ok {d0 : List Int} {r : List UInt8} (hF : F161 d0 = some r) :
    CallR Tryz.prog 161 [(2000, .box 224 [.ptr 2000 0, .suf 2001 0 0]), (2001, .buf 0 5 1 (d0.map e_u8))] [.ptr 2000 0] [(2000, .box 224 [.ptr 2000 0, .suf 2001 0 0]), (2001, .fzs 0 1 (d0.map e_u8))] (.d (.str r)) := by
  unfold F161 at hF
  refine callR_of (N := 14) (b := bodyOf Tryz.f161) Tryz.func161 (by kernel_rfl) rfl rfl ?_
  refine J_adv 5 (J_draw (by kernel_rfl) (by kernel_rfl) ?_)
  obtain ⟨hb1, hF⟩ := assd hF
  refine JD_adv 4 (JD_opt1 (o := chk (decide (0 < (d0.map e_u8).length))) [] (by kernel_rfl) (by kernel_rfl) (ck hb1) ?_)
  obtain ⟨x1, e1, hF⟩ := bnd hF
  refine JD_adv 5 (JD_opt1 (o := usd (d0.map e_u8) 0 ((d0.map e_u8).length : Int)) [.str x1] (by kernel_rfl) (by kernel_rfl) (usm (f := e_u8) (fun _ => rfl) e1) ?_)
  refine JD_adv 1 (JD_end (by kernel_rfl) ?_)
  have hr_ := Option.some.inj hF; subst hr_
  exact J_adv 0 (J_retR (xs := [.d (.str x1)]) [.d (.str x1)] rfl (by kernel_rfl) (by kernel_rfl) (Res'.refl _) rfl)
/- (*strings.Builder).WriteString -/
def F160a (d0 : List UInt8) : Option (Int × Bool × List Int) :=
  Option.bind (F194) fun y1 =>
  Option.bind (app [] (d0.map toI)) fun l1 =>
  some ((d0.length : Int), false, l1)
theorem F160a_ok {d0 : List UInt8} {r : Int × Bool × List Int} (hF : F160a d0 = some r) :
    CallR Tryz.prog 160 [(2000, .box 224 [.d .nilp, .esl 1])] [.ptr 2000 0, .d (.str d0)] [(2000, .box 224 [.ptr 2000 0, .suf 2001 0 0]), (2001, .buf 0 5 1 (r.2.2.map e_u8))] (.tup [.d (.int .i64 r.1), .d (.ife r.2.1)]) := by
  unfold F160a at hF
  refine callR_of (N := 19) (b := bodyOf Tryz.f160) Tryz.func160 (by kernel_rfl) rfl rfl ?_
  obtain ⟨y1, e1, hF⟩ := bnd hF
  refine J_adv 8 (J_callR (os := [(2000, .box 224 [.d .nilp, .esl 1])]) (xs := [.ptr 2000 0]) [(2000, 2000)] [.ptr 2000 0] [(2000, .box 224 [.ptr 2000 0, .esl 1])] (.tup []) (by kernel_rfl) (by kernel_rfl) en194 (Res'.refl _) (F194_ok e1) ?_)
  obtain ⟨l1, e2, hF⟩ := bnd hF
  refine J_adv 9 (J_opt2 (o := app2 [] (d0.map byteD)) (l1.map e_u8) (by kernel_rfl) (ams (f := e_u8) (fun _ => rfl) e2) ?_)
  refine J_adv 11 (J_at (S0 := [(4, .d (.int .i64 (d0.length : Int))), (5, .d (.ife false))]) (O0 := [(14, .buf 0 5 1 (l1.map e_u8)), (2000, .box 224 [.ptr 2000 0, .suf 14 0 0])]) (T0 := [.code (cAt (bodyOf Tryz.f160) [1, 1, 1, 1])]) [4, 5] [14, 2000] (by kernel_rfl) rfl ?_)
  refine J_adv 0 (J_ren [(2000, 2000), (14, 2001)] (by kernel_rfl) (by kernel_rfl) (by kernel_rfl) (by kernel_rfl) ?_)
  have hr_ := Option.some.inj hF; subst hr_
  exact J_adv 0 (J_retR (xs := [.d (.int .i64 (d0.length : Int)), .d (.ife false)]) [.d (.int .i64 (d0.length : Int)), .d (.ife false)] rfl (by kernel_rfl) (by kernel_rfl) (Res'.refl _) rfl)
/- (croupier/exact.Whole).Text -/
def F127_L1 (d0 : T_exact_Whole) : Nat → Int → (List Int) → Option (List UInt8)
  | 0, _, _ => none
  | n_F127_L1 + 1, v2, l2 =>
    bif decide (v2 ≥ 0) then
      (Option.bind (geti d0.mag v2) fun y12 =>
      Option.bind (F110 (IntKind.i64.wrap y12)) fun y13 =>
      bif decide (v2 < (IntKind.i64.wrap (((d0.mag.map e_u32).length : Int) - 1))) then
        (ass (decide (0 ≤ (y13.length : Int)) && decide ((y13.length : Int) ≤ ([48, 48, 48, 48, 48, 48, 48, 48, 48].length : Int)) && decide (([48, 48, 48, 48, 48, 48, 48, 48, 48].length : Int) ≤ [48, 48, 48, 48, 48, 48, 48, 48, 48].length)) <|
        Option.bind (F160 (([48, 48, 48, 48, 48, 48, 48, 48, 48].drop (Int.toNat (y13.length : Int))).take (Int.toNat (([48, 48, 48, 48, 48, 48, 48, 48, 48].length : Int) - (y13.length : Int)))) l2) fun y14 =>
        Option.bind (F160 y13 y14.2.2) fun y15 =>
        (F127_L1 d0 n_F127_L1) (IntKind.i64.wrap (v2 - 1)) y15.2.2)
      else
        (Option.bind (F160 y13 l2) fun y16 =>
        (F127_L1 d0 n_F127_L1) (IntKind.i64.wrap (v2 - 1)) y16.2.2))
    else
      (Option.bind (F161 l2) fun y17 =>
      some y17)
def F127_L2 (d0 : T_exact_Whole) : Nat → Int → (List Int) → Option (List UInt8)
  | 0, _, _ => none
  | n_F127_L2 + 1, v5, l5 =>
    bif decide (v5 ≥ 0) then
      (Option.bind (geti d0.mag v5) fun y39 =>
      Option.bind (F110 (IntKind.i64.wrap y39)) fun y40 =>
      bif decide (v5 < (IntKind.i64.wrap (((d0.mag.map e_u32).length : Int) - 1))) then
        (ass (decide (0 ≤ (y40.length : Int)) && decide ((y40.length : Int) ≤ ([48, 48, 48, 48, 48, 48, 48, 48, 48].length : Int)) && decide (([48, 48, 48, 48, 48, 48, 48, 48, 48].length : Int) ≤ [48, 48, 48, 48, 48, 48, 48, 48, 48].length)) <|
        Option.bind (F160 (([48, 48, 48, 48, 48, 48, 48, 48, 48].drop (Int.toNat (y40.length : Int))).take (Int.toNat (([48, 48, 48, 48, 48, 48, 48, 48, 48].length : Int) - (y40.length : Int)))) l5) fun y41 =>
        Option.bind (F160 y40 y41.2.2) fun y42 =>
        (F127_L2 d0 n_F127_L2) (IntKind.i64.wrap (v5 - 1)) y42.2.2)
      else
        (Option.bind (F160 y40 l5) fun y43 =>
        (F127_L2 d0 n_F127_L2) (IntKind.i64.wrap (v5 - 1)) y43.2.2))
    else
      (Option.bind (F161 l5) fun y44 =>
      some y44)
def F127_L3 (d0 : T_exact_Whole) : Nat → Int → (List Int) → Option (List UInt8)
  | 0, _, _ => none
  | n_F127_L3 + 1, v7, l7 =>
    bif decide (v7 ≥ 0) then
      (Option.bind (geti d0.mag v7) fun y56 =>
      Option.bind (F110 (IntKind.i64.wrap y56)) fun y57 =>
      bif decide (v7 < (IntKind.i64.wrap (((d0.mag.map e_u32).length : Int) - 1))) then
        (ass (decide (0 ≤ (y57.length : Int)) && decide ((y57.length : Int) ≤ ([48, 48, 48, 48, 48, 48, 48, 48, 48].length : Int)) && decide (([48, 48, 48, 48, 48, 48, 48, 48, 48].length : Int) ≤ [48, 48, 48, 48, 48, 48, 48, 48, 48].length)) <|
        Option.bind (F160 (([48, 48, 48, 48, 48, 48, 48, 48, 48].drop (Int.toNat (y57.length : Int))).take (Int.toNat (([48, 48, 48, 48, 48, 48, 48, 48, 48].length : Int) - (y57.length : Int)))) l7) fun y58 =>
        Option.bind (F160 y57 y58.2.2) fun y59 =>
        (F127_L3 d0 n_F127_L3) (IntKind.i64.wrap (v7 - 1)) y59.2.2)
      else
        (Option.bind (F160 y57 l7) fun y60 =>
        (F127_L3 d0 n_F127_L3) (IntKind.i64.wrap (v7 - 1)) y60.2.2))
    else
      (Option.bind (F161 l7) fun y61 =>
      some y61)
def F127 (fuel : Nat) (d0 : T_exact_Whole) : Option (List UInt8) :=
  bif ((d0.mag.map e_u32).length : Int) == 0 then
    (some [48])
  else
    (bif d0.neg then
      (Option.bind (F159 45) fun y1 =>
      F127_L1 d0 fuel (IntKind.i64.wrap (((d0.mag.map e_u32).length : Int) - 1)) y1.2)
    else
      (bif decide ((IntKind.i64.wrap (((d0.mag.map e_u32).length : Int) - 1)) ≥ 0) then
        (Option.bind (geti d0.mag (IntKind.i64.wrap (((d0.mag.map e_u32).length : Int) - 1))) fun y25 =>
        Option.bind (F110 (IntKind.i64.wrap y25)) fun y26 =>
        bif decide ((IntKind.i64.wrap (((d0.mag.map e_u32).length : Int) - 1)) < (IntKind.i64.wrap (((d0.mag.map e_u32).length : Int) - 1))) then
          (ass (decide (0 ≤ (y26.length : Int)) && decide ((y26.length : Int) ≤ ([48, 48, 48, 48, 48, 48, 48, 48, 48].length : Int)) && decide (([48, 48, 48, 48, 48, 48, 48, 48, 48].length : Int) ≤ [48, 48, 48, 48, 48, 48, 48, 48, 48].length)) <|
          Option.bind (F160a (([48, 48, 48, 48, 48, 48, 48, 48, 48].drop (Int.toNat (y26.length : Int))).take (Int.toNat (([48, 48, 48, 48, 48, 48, 48, 48, 48].length : Int) - (y26.length : Int))))) fun y27 =>
          Option.bind (F160 y26 y27.2.2) fun y28 =>
          F127_L2 d0 fuel (IntKind.i64.wrap ((IntKind.i64.wrap (((d0.mag.map e_u32).length : Int) - 1)) - 1)) y28.2.2)
        else
          (Option.bind (F160a y26) fun y45 =>
          F127_L3 d0 fuel (IntKind.i64.wrap ((IntKind.i64.wrap (((d0.mag.map e_u32).length : Int) - 1)) - 1)) y45.2.2))
      else
        (none)))
theorem F127_ok {fuel : Nat} {d0 : T_exact_Whole} {r : List UInt8} (hF : F127 fuel d0 = some r) :
    CallF Tryz.prog 127 [.agg [.d (.bool d0.neg), .d (.sl 1 (d0.mag.map e_u32))]] (.d (.str r)) := by
  unfold F127 at hF
  refine callF_of (N := 41) (b := bodyOf Tryz.f127) Tryz.func127 (by kernel_rfl) rfl rfl ?_
  refine J_adv 13 (J_bool 9 (b := ((d0.mag.map e_u32).length : Int) == 0) (by kernel_rfl) (fun hb1 => ?_) (fun hb1 => ?_))
  · replace hF := ift hb1 hF
    have hr_ := Option.some.inj hF; subst hr_
    exact J_adv 5 (J_ret (xs := [.d (.str [48])]) [.d (.str [48])] rfl rfl (by kernel_rfl) (Res'.refl _) rfl)
  · replace hF := iff' hb1 hF
    refine J_adv 12 (J_bool 11 (b := d0.neg) (by kernel_rfl) (fun hb2 => ?_) (fun hb2 => ?_))
    · replace hF := ift hb2 hF
      obtain ⟨y1, e1, hF⟩ := bnd hF
      refine J_adv 2 (J_callR (os := [(2000, .box 224 [.d .nilp, .esl 1])]) (xs := [.ptr 2000 0, .d (.int .u8 45)]) [(3, 2000), (12, 2001)] [.ptr 2000 0, .d (.int .u8 45)] [(2000, .box 224 [.ptr 2000 0, .suf 2001 0 0]), (2001, .buf 0 5 1 (y1.2.map e_u8))] (.d (.ife y1.1)) (by kernel_rfl) (by kernel_rfl) en159 (Res'.refl _) (F159_ok e1) ?_)
      have hF127_L1 : ∀ (n_F127_L1 : Nat) (v2 : Int) (l2 : List Int), F127_L1 d0 n_F127_L1 v2 l2 = some r → J none Tryz.prog 41 [] (finF Tryz.prog Tryz.f127 (.d (.str r))) ⟨mkT [(1, .ptr 1 0), (3, .ptr 3 0), (4, .d (.int .i64 v2))], [(1, .box 98 [.d (.bool d0.neg), .d (.sl 1 (d0.mag.map e_u32))]), (3, .box 224 [.ptr 3 0, .suf 12 0 0]), (12, .buf 0 5 1 (l2.map e_u8))], [.inLoop (cAt (bodyOf Tryz.f127) [1, 1, 1, 1, 0, 1, 0, 0]), .inBlock 0, .code (cAt (bodyOf Tryz.f127) [1, 1, 1, 1, 1])]⟩ := by
        clear hF; intro n_F127_L1
        induction n_F127_L1 with
        | zero => intro v2 l2 hF; cases hF
        | succ n_F127_L1 ih_F127_L1 =>
          intro v2 l2 hF
          rw [F127_L1] at hF
          refine J_adv 7 (J_bool 18 (b := decide (v2 ≥ 0)) (by kernel_rfl) (fun hb9 => ?_) (fun hb9 => ?_))
          · replace hF := ift hb9 hF
            obtain ⟨y12, e12, hF⟩ := bnd hF
            refine J_adv 9 (J_opt1 (o := geti (d0.mag.map e_u32) v2) (e_u32 y12) (by kernel_rfl) (gm e12) ?_)
            obtain ⟨y13, e13, hF⟩ := bnd hF
            refine J_adv 2 (J_callF (xs := [.d (.int .i64 (IntKind.i64.wrap y12))]) [.d (.int .i64 (IntKind.i64.wrap y12))] (.d (.str y13)) (by kernel_rfl) en110 (Res'.refl _) (F110_ok e13) ?_)
            refine J_adv 12 (J_bool 33 (b := decide (v2 < (IntKind.i64.wrap (((d0.mag.map e_u32).length : Int) - 1)))) (by kernel_rfl) (fun hb10 => ?_) (fun hb10 => ?_))
            · replace hF := ift hb10 hF
              obtain ⟨hb11, hF⟩ := assd hF
              refine J_adv 4 (J_opt1 (o := chk (decide (0 ≤ (y13.length : Int)) && decide ((y13.length : Int) ≤ ([48, 48, 48, 48, 48, 48, 48, 48, 48].length : Int)) && decide (([48, 48, 48, 48, 48, 48, 48, 48, 48].length : Int) ≤ [48, 48, 48, 48, 48, 48, 48, 48, 48].length))) [] (by kernel_rfl) (ck hb11) ?_)
              obtain ⟨y14, e14, hF⟩ := bnd hF
              refine J_adv 0 (J_callR (os := [(2000, .box 224 [.ptr 2000 0, .suf 2001 0 0]), (2001, .buf 0 5 1 (l2.map e_u8))]) (xs := [.ptr 2000 0, .d (.str (([48, 48, 48, 48, 48, 48, 48, 48, 48].drop (Int.toNat (y13.length : Int))).take (Int.toNat (([48, 48, 48, 48, 48, 48, 48, 48, 48].length : Int) - (y13.length : Int)))))]) [(3, 2000), (12, 2001)] [.ptr 2000 0, .d (.str (([48, 48, 48, 48, 48, 48, 48, 48, 48].drop (Int.toNat (y13.length : Int))).take (Int.toNat (([48, 48, 48, 48, 48, 48, 48, 48, 48].length : Int) - (y13.length : Int)))))] [(2000, .box 224 [.ptr 2000 0, .suf 2001 1 0]), (2001, .buf 1 5 1 (y14.2.2.map e_u8))] (.tup [.d (.int .i64 y14.1), .d (.ife y14.2.1)]) (by kernel_rfl) (by kernel_rfl) en160 (Res'.refl _) (F160_ok e14) ?_)
              refine J_adv 1 (J_at (S0 := [(1, .ptr 1 0), (3, .ptr 3 0), (4, .d (.int .i64 v2)), (5, .d (.str y13))]) (O0 := [(1, .box 98 [.d (.bool d0.neg), .d (.sl 1 (d0.mag.map e_u32))]), (3, .box 224 [.ptr 3 0, .suf 12 0 0]), (12, .buf 0 5 1 (y14.2.2.map e_u8))]) (T0 := [.code (cAt (bodyOf Tryz.f127) [1, 1, 1, 1, 0, 1, 0, 0, 1, 0, 0, 1, 1]), .inBlock 1, .code (cAt (bodyOf Tryz.f127) [1, 1, 1, 1, 0, 1, 0, 0, 1, 1]), .inLoop (cAt (bodyOf Tryz.f127) [1, 1, 1, 1, 0, 1, 0, 0]), .inBlock 0, .code (cAt (bodyOf Tryz.f127) [1, 1, 1, 1, 1])]) [1, 3, 4, 5] [1, 3, 12] (by kernel_rfl) rfl ?_)
              obtain ⟨y15, e15, hF⟩ := bnd hF
              refine J_adv 2 (J_callR (os := [(2000, .box 224 [.ptr 2000 0, .suf 2001 0 0]), (2001, .buf 0 5 1 (y14.2.2.map e_u8))]) (xs := [.ptr 2000 0, .d (.str y13)]) [(3, 2000), (12, 2001)] [.ptr 2000 0, .d (.str y13)] [(2000, .box 224 [.ptr 2000 0, .suf 2001 1 0]), (2001, .buf 1 5 1 (y15.2.2.map e_u8))] (.tup [.d (.int .i64 y15.1), .d (.ife y15.2.1)]) (by kernel_rfl) (by kernel_rfl) en160 (Res'.refl _) (F160_ok e15) ?_)
              exact J_adv 7 (J_at [1, 3, 4] [1, 3, 12] (T0 := [.inLoop (cAt (bodyOf Tryz.f127) [1, 1, 1, 1, 0, 1, 0, 0]), .inBlock 0, .code (cAt (bodyOf Tryz.f127) [1, 1, 1, 1, 1])]) (by kernel_rfl) rfl (ih_F127_L1 (IntKind.i64.wrap (v2 - 1)) y15.2.2 hF))
            · replace hF := iff' hb10 hF
              obtain ⟨y16, e16, hF⟩ := bnd hF
              refine J_adv 4 (J_callR (os := [(2000, .box 224 [.ptr 2000 0, .suf 2001 0 0]), (2001, .buf 0 5 1 (l2.map e_u8))]) (xs := [.ptr 2000 0, .d (.str y13)]) [(3, 2000), (12, 2001)] [.ptr 2000 0, .d (.str y13)] [(2000, .box 224 [.ptr 2000 0, .suf 2001 1 0]), (2001, .buf 1 5 1 (y16.2.2.map e_u8))] (.tup [.d (.int .i64 y16.1), .d (.ife y16.2.1)]) (by kernel_rfl) (by kernel_rfl) en160 (Res'.refl _) (F160_ok e16) ?_)
              exact J_adv 7 (J_at [1, 3, 4] [1, 3, 12] (T0 := [.inLoop (cAt (bodyOf Tryz.f127) [1, 1, 1, 1, 0, 1, 0, 0]), .inBlock 0, .code (cAt (bodyOf Tryz.f127) [1, 1, 1, 1, 1])]) (by kernel_rfl) rfl (ih_F127_L1 (IntKind.i64.wrap (v2 - 1)) y16.2.2 hF))
          · replace hF := iff' hb9 hF
            obtain ⟨y17, e17, hF⟩ := bnd hF
            refine J_adv 4 (J_callR (os := [(2000, .box 224 [.ptr 2000 0, .suf 2001 0 0]), (2001, .buf 0 5 1 (l2.map e_u8))]) (xs := [.ptr 2000 0]) [(3, 2000), (12, 2001)] [.ptr 2000 0] [(2000, .box 224 [.ptr 2000 0, .suf 2001 0 0]), (2001, .fzs 0 1 (l2.map e_u8))] (.d (.str y17)) (by kernel_rfl) (by kernel_rfl) en161 (Res'.refl _) (F161_ok e17) ?_)
            have hr_ := Option.some.inj hF; subst hr_
            exact J_adv 2 (J_ret (xs := [.d (.str y17)]) [.d (.str y17)] rfl rfl (by kernel_rfl) (Res'.refl _) rfl)
      exact J_adv 12 (J_at [1, 3, 4] [1, 3, 12] (T0 := [.inLoop (cAt (bodyOf Tryz.f127) [1, 1, 1, 1, 0, 1, 0, 0]), .inBlock 0, .code (cAt (bodyOf Tryz.f127) [1, 1, 1, 1, 1])]) (by kernel_rfl) rfl (hF127_L1 fuel (IntKind.i64.wrap (((d0.mag.map e_u32).length : Int) - 1)) y1.2 hF))
    · replace hF := iff' hb2 hF
      refine J_adv 20 (J_bool 18 (b := decide ((IntKind.i64.wrap (((d0.mag.map e_u32).length : Int) - 1)) ≥ 0)) (by kernel_rfl) (fun hb18 => ?_) (fun hb18 => ?_))
      · replace hF := ift hb18 hF
        obtain ⟨y25, e25, hF⟩ := bnd hF
        refine J_adv 9 (J_opt1 (o := geti (d0.mag.map e_u32) (IntKind.i64.wrap (((d0.mag.map e_u32).length : Int) - 1))) (e_u32 y25) (by kernel_rfl) (gm e25) ?_)
        obtain ⟨y26, e26, hF⟩ := bnd hF
        refine J_adv 2 (J_callF (xs := [.d (.int .i64 (IntKind.i64.wrap y25))]) [.d (.int .i64 (IntKind.i64.wrap y25))] (.d (.str y26)) (by kernel_rfl) en110 (Res'.refl _) (F110_ok e26) ?_)
        refine J_adv 12 (J_bool 33 (b := decide ((IntKind.i64.wrap (((d0.mag.map e_u32).length : Int) - 1)) < (IntKind.i64.wrap (((d0.mag.map e_u32).length : Int) - 1)))) (by kernel_rfl) (fun hb19 => ?_) (fun hb19 => ?_))
        · replace hF := ift hb19 hF
          obtain ⟨hb20, hF⟩ := assd hF
          refine J_adv 4 (J_opt1 (o := chk (decide (0 ≤ (y26.length : Int)) && decide ((y26.length : Int) ≤ ([48, 48, 48, 48, 48, 48, 48, 48, 48].length : Int)) && decide (([48, 48, 48, 48, 48, 48, 48, 48, 48].length : Int) ≤ [48, 48, 48, 48, 48, 48, 48, 48, 48].length))) [] (by kernel_rfl) (ck hb20) ?_)
          obtain ⟨y27, e27, hF⟩ := bnd hF
          refine J_adv 0 (J_callR (os := [(2000, .box 224 [.d .nilp, .esl 1])]) (xs := [.ptr 2000 0, .d (.str (([48, 48, 48, 48, 48, 48, 48, 48, 48].drop (Int.toNat (y26.length : Int))).take (Int.toNat (([48, 48, 48, 48, 48, 48, 48, 48, 48].length : Int) - (y26.length : Int)))))]) [(3, 2000), (37, 2001)] [.ptr 2000 0, .d (.str (([48, 48, 48, 48, 48, 48, 48, 48, 48].drop (Int.toNat (y26.length : Int))).take (Int.toNat (([48, 48, 48, 48, 48, 48, 48, 48, 48].length : Int) - (y26.length : Int)))))] [(2000, .box 224 [.ptr 2000 0, .suf 2001 0 0]), (2001, .buf 0 5 1 (y27.2.2.map e_u8))] (.tup [.d (.int .i64 y27.1), .d (.ife y27.2.1)]) (by kernel_rfl) (by kernel_rfl) en160 (Res'.refl _) (F160a_ok e27) ?_)
          obtain ⟨y28, e28, hF⟩ := bnd hF
          refine J_adv 3 (J_callR (os := [(2000, .box 224 [.ptr 2000 0, .suf 2001 0 0]), (2001, .buf 0 5 1 (y27.2.2.map e_u8))]) (xs := [.ptr 2000 0, .d (.str y26)]) [(3, 2000), (37, 2001)] [.ptr 2000 0, .d (.str y26)] [(2000, .box 224 [.ptr 2000 0, .suf 2001 1 0]), (2001, .buf 1 5 1 (y28.2.2.map e_u8))] (.tup [.d (.int .i64 y28.1), .d (.ife y28.2.1)]) (by kernel_rfl) (by kernel_rfl) en160 (Res'.refl _) (F160_ok e28) ?_)
          have hF127_L2 : ∀ (n_F127_L2 : Nat) (v5 : Int) (l5 : List Int), F127_L2 d0 n_F127_L2 v5 l5 = some r → J none Tryz.prog 41 [] (finF Tryz.prog Tryz.f127 (.d (.str r))) ⟨mkT [(1, .ptr 1 0), (3, .ptr 3 0), (4, .d (.int .i64 v5))], [(1, .box 98 [.d (.bool d0.neg), .d (.sl 1 (d0.mag.map e_u32))]), (3, .box 224 [.ptr 3 0, .suf 37 0 0]), (37, .buf 0 5 1 (l5.map e_u8))], [.inLoop (cAt (bodyOf Tryz.f127) [1, 1, 1, 1, 0, 1, 0, 0]), .inBlock 0, .code (cAt (bodyOf Tryz.f127) [1, 1, 1, 1, 1])]⟩ := by
            clear hF; intro n_F127_L2
            induction n_F127_L2 with
            | zero => intro v5 l5 hF; cases hF
            | succ n_F127_L2 ih_F127_L2 =>
              intro v5 l5 hF
              rw [F127_L2] at hF
              refine J_adv 7 (J_bool 18 (b := decide (v5 ≥ 0)) (by kernel_rfl) (fun hb27 => ?_) (fun hb27 => ?_))
              · replace hF := ift hb27 hF
                obtain ⟨y39, e39, hF⟩ := bnd hF
                refine J_adv 9 (J_opt1 (o := geti (d0.mag.map e_u32) v5) (e_u32 y39) (by kernel_rfl) (gm e39) ?_)
                obtain ⟨y40, e40, hF⟩ := bnd hF
                refine J_adv 2 (J_callF (xs := [.d (.int .i64 (IntKind.i64.wrap y39))]) [.d (.int .i64 (IntKind.i64.wrap y39))] (.d (.str y40)) (by kernel_rfl) en110 (Res'.refl _) (F110_ok e40) ?_)
                refine J_adv 12 (J_bool 33 (b := decide (v5 < (IntKind.i64.wrap (((d0.mag.map e_u32).length : Int) - 1)))) (by kernel_rfl) (fun hb28 => ?_) (fun hb28 => ?_))
                · replace hF := ift hb28 hF
                  obtain ⟨hb29, hF⟩ := assd hF
                  refine J_adv 4 (J_opt1 (o := chk (decide (0 ≤ (y40.length : Int)) && decide ((y40.length : Int) ≤ ([48, 48, 48, 48, 48, 48, 48, 48, 48].length : Int)) && decide (([48, 48, 48, 48, 48, 48, 48, 48, 48].length : Int) ≤ [48, 48, 48, 48, 48, 48, 48, 48, 48].length))) [] (by kernel_rfl) (ck hb29) ?_)
                  obtain ⟨y41, e41, hF⟩ := bnd hF
                  refine J_adv 0 (J_callR (os := [(2000, .box 224 [.ptr 2000 0, .suf 2001 0 0]), (2001, .buf 0 5 1 (l5.map e_u8))]) (xs := [.ptr 2000 0, .d (.str (([48, 48, 48, 48, 48, 48, 48, 48, 48].drop (Int.toNat (y40.length : Int))).take (Int.toNat (([48, 48, 48, 48, 48, 48, 48, 48, 48].length : Int) - (y40.length : Int)))))]) [(3, 2000), (37, 2001)] [.ptr 2000 0, .d (.str (([48, 48, 48, 48, 48, 48, 48, 48, 48].drop (Int.toNat (y40.length : Int))).take (Int.toNat (([48, 48, 48, 48, 48, 48, 48, 48, 48].length : Int) - (y40.length : Int)))))] [(2000, .box 224 [.ptr 2000 0, .suf 2001 1 0]), (2001, .buf 1 5 1 (y41.2.2.map e_u8))] (.tup [.d (.int .i64 y41.1), .d (.ife y41.2.1)]) (by kernel_rfl) (by kernel_rfl) en160 (Res'.refl _) (F160_ok e41) ?_)
                  refine J_adv 1 (J_at (S0 := [(1, .ptr 1 0), (3, .ptr 3 0), (4, .d (.int .i64 v5)), (5, .d (.str y40))]) (O0 := [(1, .box 98 [.d (.bool d0.neg), .d (.sl 1 (d0.mag.map e_u32))]), (3, .box 224 [.ptr 3 0, .suf 37 0 0]), (37, .buf 0 5 1 (y41.2.2.map e_u8))]) (T0 := [.code (cAt (bodyOf Tryz.f127) [1, 1, 1, 1, 0, 1, 0, 0, 1, 0, 0, 1, 1]), .inBlock 1, .code (cAt (bodyOf Tryz.f127) [1, 1, 1, 1, 0, 1, 0, 0, 1, 1]), .inLoop (cAt (bodyOf Tryz.f127) [1, 1, 1, 1, 0, 1, 0, 0]), .inBlock 0, .code (cAt (bodyOf Tryz.f127) [1, 1, 1, 1, 1])]) [1, 3, 4, 5] [1, 3, 37] (by kernel_rfl) rfl ?_)
                  obtain ⟨y42, e42, hF⟩ := bnd hF
                  refine J_adv 2 (J_callR (os := [(2000, .box 224 [.ptr 2000 0, .suf 2001 0 0]), (2001, .buf 0 5 1 (y41.2.2.map e_u8))]) (xs := [.ptr 2000 0, .d (.str y40)]) [(3, 2000), (37, 2001)] [.ptr 2000 0, .d (.str y40)] [(2000, .box 224 [.ptr 2000 0, .suf 2001 1 0]), (2001, .buf 1 5 1 (y42.2.2.map e_u8))] (.tup [.d (.int .i64 y42.1), .d (.ife y42.2.1)]) (by kernel_rfl) (by kernel_rfl) en160 (Res'.refl _) (F160_ok e42) ?_)
                  exact J_adv 7 (J_at [1, 3, 4] [1, 3, 37] (T0 := [.inLoop (cAt (bodyOf Tryz.f127) [1, 1, 1, 1, 0, 1, 0, 0]), .inBlock 0, .code (cAt (bodyOf Tryz.f127) [1, 1, 1, 1, 1])]) (by kernel_rfl) rfl (ih_F127_L2 (IntKind.i64.wrap (v5 - 1)) y42.2.2 hF))
                · replace hF := iff' hb28 hF
                  obtain ⟨y43, e43, hF⟩ := bnd hF
                  refine J_adv 4 (J_callR (os := [(2000, .box 224 [.ptr 2000 0, .suf 2001 0 0]), (2001, .buf 0 5 1 (l5.map e_u8))]) (xs := [.ptr 2000 0, .d (.str y40)]) [(3, 2000), (37, 2001)] [.ptr 2000 0, .d (.str y40)] [(2000, .box 224 [.ptr 2000 0, .suf 2001 1 0]), (2001, .buf 1 5 1 (y43.2.2.map e_u8))] (.tup [.d (.int .i64 y43.1), .d (.ife y43.2.1)]) (by kernel_rfl) (by kernel_rfl) en160 (Res'.refl _) (F160_ok e43) ?_)
                  exact J_adv 7 (J_at [1, 3, 4] [1, 3, 37] (T0 := [.inLoop (cAt (bodyOf Tryz.f127) [1, 1, 1, 1, 0, 1, 0, 0]), .inBlock 0, .code (cAt (bodyOf Tryz.f127) [1, 1, 1, 1, 1])]) (by kernel_rfl) rfl (ih_F127_L2 (IntKind.i64.wrap (v5 - 1)) y43.2.2 hF))
              · replace hF := iff' hb27 hF
                obtain ⟨y44, e44, hF⟩ := bnd hF
                refine J_adv 4 (J_callR (os := [(2000, .box 224 [.ptr 2000 0, .suf 2001 0 0]), (2001, .buf 0 5 1 (l5.map e_u8))]) (xs := [.ptr 2000 0]) [(3, 2000), (37, 2001)] [.ptr 2000 0] [(2000, .box 224 [.ptr 2000 0, .suf 2001 0 0]), (2001, .fzs 0 1 (l5.map e_u8))] (.d (.str y44)) (by kernel_rfl) (by kernel_rfl) en161 (Res'.refl _) (F161_ok e44) ?_)
                have hr_ := Option.some.inj hF; subst hr_
                exact J_adv 2 (J_ret (xs := [.d (.str y44)]) [.d (.str y44)] rfl rfl (by kernel_rfl) (Res'.refl _) rfl)
          exact J_adv 7 (J_at [1, 3, 4] [1, 3, 37] (T0 := [.inLoop (cAt (bodyOf Tryz.f127) [1, 1, 1, 1, 0, 1, 0, 0]), .inBlock 0, .code (cAt (bodyOf Tryz.f127) [1, 1, 1, 1, 1])]) (by kernel_rfl) rfl (hF127_L2 fuel (IntKind.i64.wrap ((IntKind.i64.wrap (((d0.mag.map e_u32).length : Int) - 1)) - 1)) y28.2.2 hF))
        · replace hF := iff' hb19 hF
          obtain ⟨y45, e45, hF⟩ := bnd hF
          refine J_adv 4 (J_callR (os := [(2000, .box 224 [.d .nilp, .esl 1])]) (xs := [.ptr 2000 0, .d (.str y26)]) [(3, 2000), (39, 2001)] [.ptr 2000 0, .d (.str y26)] [(2000, .box 224 [.ptr 2000 0, .suf 2001 0 0]), (2001, .buf 0 5 1 (y45.2.2.map e_u8))] (.tup [.d (.int .i64 y45.1), .d (.ife y45.2.1)]) (by kernel_rfl) (by kernel_rfl) en160 (Res'.refl _) (F160a_ok e45) ?_)
          have hF127_L3 : ∀ (n_F127_L3 : Nat) (v7 : Int) (l7 : List Int), F127_L3 d0 n_F127_L3 v7 l7 = some r → J none Tryz.prog 41 [] (finF Tryz.prog Tryz.f127 (.d (.str r))) ⟨mkT [(1, .ptr 1 0), (3, .ptr 3 0), (4, .d (.int .i64 v7))], [(1, .box 98 [.d (.bool d0.neg), .d (.sl 1 (d0.mag.map e_u32))]), (3, .box 224 [.ptr 3 0, .suf 39 0 0]), (39, .buf 0 5 1 (l7.map e_u8))], [.inLoop (cAt (bodyOf Tryz.f127) [1, 1, 1, 1, 0, 1, 0, 0]), .inBlock 0, .code (cAt (bodyOf Tryz.f127) [1, 1, 1, 1, 1])]⟩ := by
            clear hF; intro n_F127_L3
            induction n_F127_L3 with
            | zero => intro v7 l7 hF; cases hF
            | succ n_F127_L3 ih_F127_L3 =>
              intro v7 l7 hF
              rw [F127_L3] at hF
              refine J_adv 7 (J_bool 18 (b := decide (v7 ≥ 0)) (by kernel_rfl) (fun hb36 => ?_) (fun hb36 => ?_))
              · replace hF := ift hb36 hF
                obtain ⟨y56, e56, hF⟩ := bnd hF
                refine J_adv 9 (J_opt1 (o := geti (d0.mag.map e_u32) v7) (e_u32 y56) (by kernel_rfl) (gm e56) ?_)
                obtain ⟨y57, e57, hF⟩ := bnd hF
                refine J_adv 2 (J_callF (xs := [.d (.int .i64 (IntKind.i64.wrap y56))]) [.d (.int .i64 (IntKind.i64.wrap y56))] (.d (.str y57)) (by kernel_rfl) en110 (Res'.refl _) (F110_ok e57) ?_)
                refine J_adv 12 (J_bool 33 (b := decide (v7 < (IntKind.i64.wrap (((d0.mag.map e_u32).length : Int) - 1)))) (by kernel_rfl) (fun hb37 => ?_) (fun hb37 => ?_))
                · replace hF := ift hb37 hF
                  obtain ⟨hb38, hF⟩ := assd hF
                  refine J_adv 4 (J_opt1 (o := chk (decide (0 ≤ (y57.length : Int)) && decide ((y57.length : Int) ≤ ([48, 48, 48, 48, 48, 48, 48, 48, 48].length : Int)) && decide (([48, 48, 48, 48, 48, 48, 48, 48, 48].length : Int) ≤ [48, 48, 48, 48, 48, 48, 48, 48, 48].length))) [] (by kernel_rfl) (ck hb38) ?_)
                  obtain ⟨y58, e58, hF⟩ := bnd hF
                  refine J_adv 0 (J_callR (os := [(2000, .box 224 [.ptr 2000 0, .suf 2001 0 0]), (2001, .buf 0 5 1 (l7.map e_u8))]) (xs := [.ptr 2000 0, .d (.str (([48, 48, 48, 48, 48, 48, 48, 48, 48].drop (Int.toNat (y57.length : Int))).take (Int.toNat (([48, 48, 48, 48, 48, 48, 48, 48, 48].length : Int) - (y57.length : Int)))))]) [(3, 2000), (39, 2001)] [.ptr 2000 0, .d (.str (([48, 48, 48, 48, 48, 48, 48, 48, 48].drop (Int.toNat (y57.length : Int))).take (Int.toNat (([48, 48, 48, 48, 48, 48, 48, 48, 48].length : Int) - (y57.length : Int)))))] [(2000, .box 224 [.ptr 2000 0, .suf 2001 1 0]), (2001, .buf 1 5 1 (y58.2.2.map e_u8))] (.tup [.d (.int .i64 y58.1), .d (.ife y58.2.1)]) (by kernel_rfl) (by kernel_rfl) en160 (Res'.refl _) (F160_ok e58) ?_)
                  refine J_adv 1 (J_at (S0 := [(1, .ptr 1 0), (3, .ptr 3 0), (4, .d (.int .i64 v7)), (5, .d (.str y57))]) (O0 := [(1, .box 98 [.d (.bool d0.neg), .d (.sl 1 (d0.mag.map e_u32))]), (3, .box 224 [.ptr 3 0, .suf 39 0 0]), (39, .buf 0 5 1 (y58.2.2.map e_u8))]) (T0 := [.code (cAt (bodyOf Tryz.f127) [1, 1, 1, 1, 0, 1, 0, 0, 1, 0, 0, 1, 1]), .inBlock 1, .code (cAt (bodyOf Tryz.f127) [1, 1, 1, 1, 0, 1, 0, 0, 1, 1]), .inLoop (cAt (bodyOf Tryz.f127) [1, 1, 1, 1, 0, 1, 0, 0]), .inBlock 0, .code (cAt (bodyOf Tryz.f127) [1, 1, 1, 1, 1])]) [1, 3, 4, 5] [1, 3, 39] (by kernel_rfl) rfl ?_)
                  obtain ⟨y59, e59, hF⟩ := bnd hF
                  refine J_adv 2 (J_callR (os := [(2000, .box 224 [.ptr 2000 0, .suf 2001 0 0]), (2001, .buf 0 5 1 (y58.2.2.map e_u8))]) (xs := [.ptr 2000 0, .d (.str y57)]) [(3, 2000), (39, 2001)] [.ptr 2000 0, .d (.str y57)] [(2000, .box 224 [.ptr 2000 0, .suf 2001 1 0]), (2001, .buf 1 5 1 (y59.2.2.map e_u8))] (.tup [.d (.int .i64 y59.1), .d (.ife y59.2.1)]) (by kernel_rfl) (by kernel_rfl) en160 (Res'.refl _) (F160_ok e59) ?_)
                  exact J_adv 7 (J_at [1, 3, 4] [1, 3, 39] (T0 := [.inLoop (cAt (bodyOf Tryz.f127) [1, 1, 1, 1, 0, 1, 0, 0]), .inBlock 0, .code (cAt (bodyOf Tryz.f127) [1, 1, 1, 1, 1])]) (by kernel_rfl) rfl (ih_F127_L3 (IntKind.i64.wrap (v7 - 1)) y59.2.2 hF))
                · replace hF := iff' hb37 hF
                  obtain ⟨y60, e60, hF⟩ := bnd hF
                  refine J_adv 4 (J_callR (os := [(2000, .box 224 [.ptr 2000 0, .suf 2001 0 0]), (2001, .buf 0 5 1 (l7.map e_u8))]) (xs := [.ptr 2000 0, .d (.str y57)]) [(3, 2000), (39, 2001)] [.ptr 2000 0, .d (.str y57)] [(2000, .box 224 [.ptr 2000 0, .suf 2001 1 0]), (2001, .buf 1 5 1 (y60.2.2.map e_u8))] (.tup [.d (.int .i64 y60.1), .d (.ife y60.2.1)]) (by kernel_rfl) (by kernel_rfl) en160 (Res'.refl _) (F160_ok e60) ?_)
                  exact J_adv 7 (J_at [1, 3, 4] [1, 3, 39] (T0 := [.inLoop (cAt (bodyOf Tryz.f127) [1, 1, 1, 1, 0, 1, 0, 0]), .inBlock 0, .code (cAt (bodyOf Tryz.f127) [1, 1, 1, 1, 1])]) (by kernel_rfl) rfl (ih_F127_L3 (IntKind.i64.wrap (v7 - 1)) y60.2.2 hF))
              · replace hF := iff' hb36 hF
                obtain ⟨y61, e61, hF⟩ := bnd hF
                refine J_adv 4 (J_callR (os := [(2000, .box 224 [.ptr 2000 0, .suf 2001 0 0]), (2001, .buf 0 5 1 (l7.map e_u8))]) (xs := [.ptr 2000 0]) [(3, 2000), (39, 2001)] [.ptr 2000 0] [(2000, .box 224 [.ptr 2000 0, .suf 2001 0 0]), (2001, .fzs 0 1 (l7.map e_u8))] (.d (.str y61)) (by kernel_rfl) (by kernel_rfl) en161 (Res'.refl _) (F161_ok e61) ?_)
                have hr_ := Option.some.inj hF; subst hr_
                exact J_adv 2 (J_ret (xs := [.d (.str y61)]) [.d (.str y61)] rfl rfl (by kernel_rfl) (Res'.refl _) rfl)
          exact J_adv 7 (J_at [1, 3, 4] [1, 3, 39] (T0 := [.inLoop (cAt (bodyOf Tryz.f127) [1, 1, 1, 1, 0, 1, 0, 0]), .inBlock 0, .code (cAt (bodyOf Tryz.f127) [1, 1, 1, 1, 1])]) (by kernel_rfl) rfl (hF127_L3 fuel (IntKind.i64.wrap ((IntKind.i64.wrap (((d0.mag.map e_u32).length : Int) - 1)) - 1)) y45.2.2 hF))
      · replace hF := iff' hb18 hF
        cases hF
/- (croupier/exact.Whole).Digits -/
def F180 (d0 : T_exact_Whole) : Option Int :=
  bif ((d0.mag.map e_u32).length : Int) == 0 then
    (some 1)
  else
    (Option.bind (geti d0.mag (IntKind.i64.wrap (((d0.mag.map e_u32).length : Int) - 1))) fun y1 =>
    Option.bind (F110 (IntKind.i64.wrap y1)) fun y2 =>
    some (IntKind.i64.wrap ((IntKind.i64.wrap (9 * (IntKind.i64.wrap (((d0.mag.map e_u32).length : Int) - 1)))) + (y2.length : Int))))
theorem F180_ok {d0 : T_exact_Whole} {r : Int} (hF : F180 d0 = some r) :
    CallF Tryz.prog 180 [.agg [.d (.bool d0.neg), .d (.sl 1 (d0.mag.map e_u32))]] (.d (.int .i64 r)) := by
  unfold F180 at hF
  refine callF_of (N := 22) (b := bodyOf Tryz.f180) Tryz.func180 (by kernel_rfl) rfl rfl ?_
  refine J_adv 18 (J_bool 8 (b := ((d0.mag.map e_u32).length : Int) == 0) (by kernel_rfl) (fun hb1 => ?_) (fun hb1 => ?_))
  · replace hF := ift hb1 hF
    have hr_ := Option.some.inj hF; subst hr_
    exact J_adv 5 (J_ret (xs := [.d (.int .i64 1)]) [.d (.int .i64 1)] rfl rfl (by kernel_rfl) (Res'.refl _) rfl)
  · replace hF := iff' hb1 hF
    obtain ⟨y1, e1, hF⟩ := bnd hF
    refine J_adv 11 (J_opt1 (o := geti (d0.mag.map e_u32) (IntKind.i64.wrap (((d0.mag.map e_u32).length : Int) - 1))) (e_u32 y1) (by kernel_rfl) (gm e1) ?_)
    obtain ⟨y2, e2, hF⟩ := bnd hF
    refine J_adv 2 (J_callF (xs := [.d (.int .i64 (IntKind.i64.wrap y1))]) [.d (.int .i64 (IntKind.i64.wrap y1))] (.d (.str y2)) (by kernel_rfl) en110 (Res'.refl _) (F110_ok e2) ?_)
    have hr_ := Option.some.inj hF; subst hr_
    exact J_adv 4 (J_ret (xs := [.d (.int .i64 (IntKind.i64.wrap ((IntKind.i64.wrap (9 * (IntKind.i64.wrap (((d0.mag.map e_u32).length : Int) - 1)))) + (y2.length : Int))))]) [.d (.int .i64 (IntKind.i64.wrap ((IntKind.i64.wrap (9 * (IntKind.i64.wrap (((d0.mag.map e_u32).length : Int) - 1)))) + (y2.length : Int))))] rfl rfl (by kernel_rfl) (Res'.refl _) rfl)
structure T_exact_Num where
  n_ : T_exact_Whole
  d : T_exact_Whole
  deriving DecidableEq
/- strings.Cut -/
def F97 (d0 : List UInt8) (d1 : List UInt8) : Option (List UInt8 × List UInt8 × Bool) := cutF d0 d1
theorem F97_ok {d0 : List UInt8} {d1 : List UInt8} {r : List UInt8 × List UInt8 × Bool} (hF : F97 d0 d1 = some r) : CallF Tryz.prog 97 [.d (.str d0), .d (.str d1)] (.tup [.d (.str r.1), .d (.str r.2.1), .d (.bool r.2.2)]) := cut_callF (List.Mem.head _) Tryz.strings_Cut hF
/- croupier/exact.From -/
def F48 (fuel : Nat) (d0 : List UInt8) : Option T_exact_Num :=
  Option.bind (F97 d0 [47]) fun y1 =>
  bif !y1.2.2 then
    (Option.bind (F98 fuel y1.1) fun y2 =>
    Option.bind (F99 fuel 1) fun y3 =>
    some (⟨y2, y3⟩ : T_exact_Num))
  else
    (Option.bind (F98 fuel y1.1) fun y4 =>
    Option.bind (F98 fuel y1.2.1) fun y5 =>
    some (⟨y4, y5⟩ : T_exact_Num))
theorem F48_ok {fuel : Nat} {d0 : List UInt8} {r : T_exact_Num} (hF : F48 fuel d0 = some r) :
    CallF Tryz.prog 48 [.d (.str d0)] (.agg [.d (.bool r.n_.neg), .d (.sl 1 (r.n_.mag.map e_u32)), .d (.bool r.d.neg), .d (.sl 1 (r.d.mag.map e_u32))]) := by
  unfold F48 at hF
  refine callF_of (N := 23) (b := bodyOf Tryz.f48) Tryz.func48 (by kernel_rfl) rfl rfl ?_
  obtain ⟨y1, e1, hF⟩ := bnd hF
  refine J_adv 7 (J_callF (xs := [.d (.str d0), .d (.str [47])]) [.d (.str d0), .d (.str [47])] (.tup [.d (.str y1.1), .d (.str y1.2.1), .d (.bool y1.2.2)]) (by kernel_rfl) en97 (Res'.refl _) (F97_ok e1) ?_)
  refine J_adv 14 (J_bool 13 (b := !y1.2.2) (by kernel_rfl) (fun hb1 => ?_) (fun hb1 => ?_))
  · replace hF := ift hb1 hF
    obtain ⟨y2, e2, hF⟩ := bnd hF
    refine J_adv 4 (J_callF (xs := [.d (.str y1.1)]) [.d (.str y1.1)] (.agg [.d (.bool y2.neg), .d (.sl 1 (y2.mag.map e_u32))]) (by kernel_rfl) en98 (Res'.refl _) (F98_ok e2) ?_)
    obtain ⟨y3, e3, hF⟩ := bnd hF
    refine J_adv 0 (J_callF (xs := [.d (.int .i64 1)]) [.d (.int .i64 1)] (.agg [.d (.bool y3.neg), .d (.sl 1 (y3.mag.map e_u32))]) (by kernel_rfl) en99 (Res'.refl _) (F99_ok e3) ?_)
    have hr_ := Option.some.inj hF; subst hr_
    exact J_adv 3 (J_ret (xs := [.agg [.d (.bool y2.neg), .d (.sl 1 (y2.mag.map e_u32)), .d (.bool y3.neg), .d (.sl 1 (y3.mag.map e_u32))]]) [.agg [.d (.bool y2.neg), .d (.sl 1 (y2.mag.map e_u32)), .d (.bool y3.neg), .d (.sl 1 (y3.mag.map e_u32))]] rfl rfl (by kernel_rfl) (Res'.refl _) rfl)
  · replace hF := iff' hb1 hF
    obtain ⟨y4, e4, hF⟩ := bnd hF
    refine J_adv 5 (J_callF (xs := [.d (.str y1.1)]) [.d (.str y1.1)] (.agg [.d (.bool y4.neg), .d (.sl 1 (y4.mag.map e_u32))]) (by kernel_rfl) en98 (Res'.refl _) (F98_ok e4) ?_)
    obtain ⟨y5, e5, hF⟩ := bnd hF
    refine J_adv 1 (J_callF (xs := [.d (.str y1.2.1)]) [.d (.str y1.2.1)] (.agg [.d (.bool y5.neg), .d (.sl 1 (y5.mag.map e_u32))]) (by kernel_rfl) en98 (Res'.refl _) (F98_ok e5) ?_)
    have hr_ := Option.some.inj hF; subst hr_
    exact J_adv 3 (J_ret (xs := [.agg [.d (.bool y4.neg), .d (.sl 1 (y4.mag.map e_u32)), .d (.bool y5.neg), .d (.sl 1 (y5.mag.map e_u32))]]) [.agg [.d (.bool y4.neg), .d (.sl 1 (y4.mag.map e_u32)), .d (.bool y5.neg), .d (.sl 1 (y5.mag.map e_u32))]] rfl rfl (by kernel_rfl) (Res'.refl _) rfl)
/- (croupier/exact.Num).Cmp -/
def F50 (fuel : Nat) (d0 : T_exact_Num) (d1 : T_exact_Num) : Option Int :=
  Option.bind (F101 fuel d0.n_ d1.d) fun y1 =>
  Option.bind (F101 fuel d1.n_ d0.d) fun y2 =>
  Option.bind (F102 fuel y1 y2) fun y3 =>
  some y3
theorem F50_ok {fuel : Nat} {d0 : T_exact_Num} {d1 : T_exact_Num} {r : Int} (hF : F50 fuel d0 d1 = some r) :
    CallF Tryz.prog 50 [.agg [.d (.bool d0.n_.neg), .d (.sl 1 (d0.n_.mag.map e_u32)), .d (.bool d0.d.neg), .d (.sl 1 (d0.d.mag.map e_u32))], .agg [.d (.bool d1.n_.neg), .d (.sl 1 (d1.n_.mag.map e_u32)), .d (.bool d1.d.neg), .d (.sl 1 (d1.d.mag.map e_u32))]] (.d (.int .i64 r)) := by
  unfold F50 at hF
  refine callF_of (N := 16) (b := bodyOf Tryz.f50) Tryz.func50 (by kernel_rfl) rfl rfl ?_
  refine J_adv 7 (J_draw (by kernel_rfl) (by kernel_rfl) ?_)
  obtain ⟨y1, e1, hF⟩ := bnd hF
  refine JD_adv 4 (JD_callF (xs := [.agg [.d (.bool d0.n_.neg), .d (.sl 1 (d0.n_.mag.map e_u32))], .agg [.d (.bool d1.d.neg), .d (.sl 1 (d1.d.mag.map e_u32))]]) [.agg [.d (.bool d0.n_.neg), .d (.sl 1 (d0.n_.mag.map e_u32))], .agg [.d (.bool d1.d.neg), .d (.sl 1 (d1.d.mag.map e_u32))]] (.agg [.d (.bool y1.neg), .d (.sl 1 (y1.mag.map e_u32))]) (by kernel_rfl) (by kernel_rfl) en101 (Res'.refl _) (F101_ok e1) ?_)
  obtain ⟨y2, e2, hF⟩ := bnd hF
  refine JD_adv 4 (JD_callF (xs := [.agg [.d (.bool d1.n_.neg), .d (.sl 1 (d1.n_.mag.map e_u32))], .agg [.d (.bool d0.d.neg), .d (.sl 1 (d0.d.mag.map e_u32))]]) [.agg [.d (.bool d1.n_.neg), .d (.sl 1 (d1.n_.mag.map e_u32))], .agg [.d (.bool d0.d.neg), .d (.sl 1 (d0.d.mag.map e_u32))]] (.agg [.d (.bool y2.neg), .d (.sl 1 (y2.mag.map e_u32))]) (by kernel_rfl) (by kernel_rfl) en101 (Res'.refl _) (F101_ok e2) ?_)
  obtain ⟨y3, e3, hF⟩ := bnd hF
  refine JD_adv 0 (JD_callF (xs := [.agg [.d (.bool y1.neg), .d (.sl 1 (y1.mag.map e_u32))], .agg [.d (.bool y2.neg), .d (.sl 1 (y2.mag.map e_u32))]]) [.agg [.d (.bool y1.neg), .d (.sl 1 (y1.mag.map e_u32))], .agg [.d (.bool y2.neg), .d (.sl 1 (y2.mag.map e_u32))]] (.d (.int .i64 y3)) (by kernel_rfl) (by kernel_rfl) en102 (Res'.refl _) (F102_ok e3) ?_)
  refine JD_adv 1 (JD_end (by kernel_rfl) ?_)
  have hr_ := Option.some.inj hF; subst hr_
  exact J_adv 0 (J_ret (xs := [.d (.int .i64 y3)]) [.d (.int .i64 y3)] rfl rfl (by kernel_rfl) (Res'.refl _) rfl)
/- croupier/exact.Make -/
def F103 (fuel : Nat) (d0 : T_exact_Whole) (d1 : T_exact_Whole) : Option T_exact_Num :=
  Option.bind (F135 fuel d0 d1) fun y1 =>
  bif d1.neg then
    (Option.bind (F143 fuel y1) fun y2 =>
    Option.bind (
      bif decide (((y2.mag.map e_u32).length : Int) > 1) then
        (some true)
      else
        (bif y2.neg then
          (some true)
        else
          (Option.bind (geti y2.mag 0) fun y7 =>
          some (y7 != 1)))) fun o1 =>
    bif o1 then
      (Option.bind (F144 fuel d0 y2) fun y5 =>
      Option.bind (F144 fuel d1 y2) fun y6 =>
      some (⟨y5.1, y6.1⟩ : T_exact_Num))
    else
      (some (⟨d0, d1⟩ : T_exact_Num)))
  else
    (Option.bind (
      bif decide (((y1.mag.map e_u32).length : Int) > 1) then
        (some true)
      else
        (bif y1.neg then
          (some true)
        else
          (Option.bind (geti y1.mag 0) fun y12 =>
          some (y12 != 1)))) fun o2 =>
    bif o2 then
      (Option.bind (F144 fuel d0 y1) fun y10 =>
      Option.bind (F144 fuel d1 y1) fun y11 =>
      some (⟨y10.1, y11.1⟩ : T_exact_Num))
    else
      (some (⟨d0, d1⟩ : T_exact_Num)))
theorem F103_ok {fuel : Nat} {d0 : T_exact_Whole} {d1 : T_exact_Whole} {r : T_exact_Num} (hF : F103 fuel d0 d1 = some r) :
    CallF Tryz.prog 103 [.agg [.d (.bool d0.neg), .d (.sl 1 (d0.mag.map e_u32))], .agg [.d (.bool d1.neg), .d (.sl 1 (d1.mag.map e_u32))]] (.agg [.d (.bool r.n_.neg), .d (.sl 1 (r.n_.mag.map e_u32)), .d (.bool r.d.neg), .d (.sl 1 (r.d.mag.map e_u32))]) := by
  unfold F103 at hF
  refine callF_of (N := 43) (b := bodyOf Tryz.f103) Tryz.func103 (by kernel_rfl) rfl rfl ?_
  obtain ⟨y1, e1, hF⟩ := bnd hF
  refine J_adv 10 (J_callF (xs := [.agg [.d (.bool d0.neg), .d (.sl 1 (d0.mag.map e_u32))], .agg [.d (.bool d1.neg), .d (.sl 1 (d1.mag.map e_u32))]]) [.agg [.d (.bool d0.neg), .d (.sl 1 (d0.mag.map e_u32))], .agg [.d (.bool d1.neg), .d (.sl 1 (d1.mag.map e_u32))]] (.agg [.d (.bool y1.neg), .d (.sl 1 (y1.mag.map e_u32))]) (by kernel_rfl) en135 (Res'.refl _) (F135_ok e1) ?_)
  refine J_adv 9 (J_bool 10 (b := d1.neg) (by kernel_rfl) (fun hb1 => ?_) (fun hb1 => ?_))
  · replace hF := ift hb1 hF
    obtain ⟨y2, e2, hF⟩ := bnd hF
    refine J_adv 3 (J_callF (xs := [.agg [.d (.bool y1.neg), .d (.sl 1 (y1.mag.map e_u32))]]) [.agg [.d (.bool y1.neg), .d (.sl 1 (y1.mag.map e_u32))]] (.agg [.d (.bool y2.neg), .d (.sl 1 (y2.mag.map e_u32))]) (by kernel_rfl) en143 (Res'.refl _) (F143_ok e2) ?_)
    obtain ⟨o1, hO, hF⟩ := bnd hF
    have hR1 : J none Tryz.prog 43 [] (finF Tryz.prog Tryz.f103 (.agg [.d (.bool r.n_.neg), .d (.sl 1 (r.n_.mag.map e_u32)), .d (.bool r.d.neg), .d (.sl 1 (r.d.mag.map e_u32))])) ⟨mkT [(2, .ptr 2 0), (3, .ptr 3 0), (4, .ptr 4 0), (5, .ptr 5 0), (27, .d (.bool o1))], [(2, .box 98 [.d (.bool d0.neg), .d (.sl 1 (d0.mag.map e_u32))]), (3, .box 98 [.d (.bool d1.neg), .d (.sl 1 (d1.mag.map e_u32))]), (4, .box 100 [.d (.bool false), .esl 1, .d (.bool false), .esl 1]), (5, .box 98 [.d (.bool y2.neg), .d (.sl 1 (y2.mag.map e_u32))])], [.ops (opsOf (cAt (bodyOf Tryz.f103) [1, 1, 1, 0, 0])) [], .code (cAt (bodyOf Tryz.f103) [1, 1, 1, 0, 1]), .code (cAt (bodyOf Tryz.f103) [1, 1, 1, 1])]⟩ := by
      clear hO
      refine J_adv 1 (J_bool 27 (b := o1) (by kernel_rfl) (fun hb6 => ?_) (fun hb6 => ?_))
      · replace hF := ift hb6 hF
        obtain ⟨y5, e5, hF⟩ := bnd hF
        refine J_adv 5 (J_callF (xs := [.agg [.d (.bool d0.neg), .d (.sl 1 (d0.mag.map e_u32))], .agg [.d (.bool y2.neg), .d (.sl 1 (y2.mag.map e_u32))]]) [.agg [.d (.bool d0.neg), .d (.sl 1 (d0.mag.map e_u32))], .agg [.d (.bool y2.neg), .d (.sl 1 (y2.mag.map e_u32))]] (.tup [.agg [.d (.bool y5.1.neg), .d (.sl 1 (y5.1.mag.map e_u32))], .agg [.d (.bool y5.2.neg), .d (.sl 1 (y5.2.mag.map e_u32))]]) (by kernel_rfl) en144 (Res'.refl _) (F144_ok e5) ?_)
        obtain ⟨y6, e6, hF⟩ := bnd hF
        refine J_adv 8 (J_callF (xs := [.agg [.d (.bool d1.neg), .d (.sl 1 (d1.mag.map e_u32))], .agg [.d (.bool y2.neg), .d (.sl 1 (y2.mag.map e_u32))]]) [.agg [.d (.bool d1.neg), .d (.sl 1 (d1.mag.map e_u32))], .agg [.d (.bool y2.neg), .d (.sl 1 (y2.mag.map e_u32))]] (.tup [.agg [.d (.bool y6.1.neg), .d (.sl 1 (y6.1.mag.map e_u32))], .agg [.d (.bool y6.2.neg), .d (.sl 1 (y6.2.mag.map e_u32))]]) (by kernel_rfl) en144 (Res'.refl _) (F144_ok e6) ?_)
        have hr_ := Option.some.inj hF; subst hr_
        exact J_adv 12 (J_ret (xs := [.agg [.d (.bool y5.1.neg), .d (.sl 1 (y5.1.mag.map e_u32)), .d (.bool y6.1.neg), .d (.sl 1 (y6.1.mag.map e_u32))]]) [.agg [.d (.bool y5.1.neg), .d (.sl 1 (y5.1.mag.map e_u32)), .d (.bool y6.1.neg), .d (.sl 1 (y6.1.mag.map e_u32))]] rfl rfl (by kernel_rfl) (Res'.refl _) rfl)
      · replace hF := iff' hb6 hF
        have hr_ := Option.some.inj hF; subst hr_
        exact J_adv 9 (J_ret (xs := [.agg [.d (.bool d0.neg), .d (.sl 1 (d0.mag.map e_u32)), .d (.bool d1.neg), .d (.sl 1 (d1.mag.map e_u32))]]) [.agg [.d (.bool d0.neg), .d (.sl 1 (d0.mag.map e_u32)), .d (.bool d1.neg), .d (.sl 1 (d1.mag.map e_u32))]] rfl rfl (by kernel_rfl) (Res'.refl _) rfl)
    clear hF; rename _ = some o1 => hF
    refine J_adv 10 (J_bool 17 (b := decide (((y2.mag.map e_u32).length : Int) > 1)) (by kernel_rfl) (fun hb7 => ?_) (fun hb7 => ?_))
    · replace hF := ift hb7 hF
      have hr_ := Option.some.inj hF; subst hr_
      exact J_adv 10 (J_at [2, 3, 4, 5, 27] [2, 3, 4, 5] (T0 := [.ops (opsOf (cAt (bodyOf Tryz.f103) [1, 1, 1, 0, 0])) [], .code (cAt (bodyOf Tryz.f103) [1, 1, 1, 0, 1]), .code (cAt (bodyOf Tryz.f103) [1, 1, 1, 1])]) (by kernel_rfl) rfl hR1)
    · replace hF := iff' hb7 hF
      refine J_adv 4 (J_bool 21 (b := y2.neg) (by kernel_rfl) (fun hb8 => ?_) (fun hb8 => ?_))
      · replace hF := ift hb8 hF
        have hr_ := Option.some.inj hF; subst hr_
        exact J_adv 6 (J_at [2, 3, 4, 5, 27] [2, 3, 4, 5] (T0 := [.ops (opsOf (cAt (bodyOf Tryz.f103) [1, 1, 1, 0, 0])) [], .code (cAt (bodyOf Tryz.f103) [1, 1, 1, 0, 1]), .code (cAt (bodyOf Tryz.f103) [1, 1, 1, 1])]) (by kernel_rfl) rfl hR1)
      · replace hF := iff' hb8 hF
        obtain ⟨y7, e7, hF⟩ := bnd hF
        refine J_adv 2 (J_opt1 (o := geti (y2.mag.map e_u32) 0) (e_u32 y7) (by kernel_rfl) (gm e7) ?_)
        have hr_ := Option.some.inj hF; subst hr_
        exact J_adv 3 (J_at [2, 3, 4, 5, 27] [2, 3, 4, 5] (T0 := [.ops (opsOf (cAt (bodyOf Tryz.f103) [1, 1, 1, 0, 0])) [], .code (cAt (bodyOf Tryz.f103) [1, 1, 1, 0, 1]), .code (cAt (bodyOf Tryz.f103) [1, 1, 1, 1])]) (by kernel_rfl) rfl hR1)
  · replace hF := iff' hb1 hF
    obtain ⟨o2, hO, hF⟩ := bnd hF
    have hR2 : J none Tryz.prog 43 [] (finF Tryz.prog Tryz.f103 (.agg [.d (.bool r.n_.neg), .d (.sl 1 (r.n_.mag.map e_u32)), .d (.bool r.d.neg), .d (.sl 1 (r.d.mag.map e_u32))])) ⟨mkT [(2, .ptr 2 0), (3, .ptr 3 0), (4, .ptr 4 0), (5, .ptr 5 0), (27, .d (.bool o2))], [(2, .box 98 [.d (.bool d0.neg), .d (.sl 1 (d0.mag.map e_u32))]), (3, .box 98 [.d (.bool d1.neg), .d (.sl 1 (d1.mag.map e_u32))]), (4, .box 100 [.d (.bool false), .esl 1, .d (.bool false), .esl 1]), (5, .box 98 [.d (.bool y1.neg), .d (.sl 1 (y1.mag.map e_u32))])], [.ops (opsOf (cAt (bodyOf Tryz.f103) [1, 1, 1, 0, 0])) [], .code (cAt (bodyOf Tryz.f103) [1, 1, 1, 0, 1]), .code (cAt (bodyOf Tryz.f103) [1, 1, 1, 1])]⟩ := by
      clear hO
      refine J_adv 1 (J_bool 27 (b := o2) (by kernel_rfl) (fun hb13 => ?_) (fun hb13 => ?_))
      · replace hF := ift hb13 hF
        obtain ⟨y10, e10, hF⟩ := bnd hF
        refine J_adv 5 (J_callF (xs := [.agg [.d (.bool d0.neg), .d (.sl 1 (d0.mag.map e_u32))], .agg [.d (.bool y1.neg), .d (.sl 1 (y1.mag.map e_u32))]]) [.agg [.d (.bool d0.neg), .d (.sl 1 (d0.mag.map e_u32))], .agg [.d (.bool y1.neg), .d (.sl 1 (y1.mag.map e_u32))]] (.tup [.agg [.d (.bool y10.1.neg), .d (.sl 1 (y10.1.mag.map e_u32))], .agg [.d (.bool y10.2.neg), .d (.sl 1 (y10.2.mag.map e_u32))]]) (by kernel_rfl) en144 (Res'.refl _) (F144_ok e10) ?_)
        obtain ⟨y11, e11, hF⟩ := bnd hF
        refine J_adv 8 (J_callF (xs := [.agg [.d (.bool d1.neg), .d (.sl 1 (d1.mag.map e_u32))], .agg [.d (.bool y1.neg), .d (.sl 1 (y1.mag.map e_u32))]]) [.agg [.d (.bool d1.neg), .d (.sl 1 (d1.mag.map e_u32))], .agg [.d (.bool y1.neg), .d (.sl 1 (y1.mag.map e_u32))]] (.tup [.agg [.d (.bool y11.1.neg), .d (.sl 1 (y11.1.mag.map e_u32))], .agg [.d (.bool y11.2.neg), .d (.sl 1 (y11.2.mag.map e_u32))]]) (by kernel_rfl) en144 (Res'.refl _) (F144_ok e11) ?_)
        have hr_ := Option.some.inj hF; subst hr_
        exact J_adv 12 (J_ret (xs := [.agg [.d (.bool y10.1.neg), .d (.sl 1 (y10.1.mag.map e_u32)), .d (.bool y11.1.neg), .d (.sl 1 (y11.1.mag.map e_u32))]]) [.agg [.d (.bool y10.1.neg), .d (.sl 1 (y10.1.mag.map e_u32)), .d (.bool y11.1.neg), .d (.sl 1 (y11.1.mag.map e_u32))]] rfl rfl (by kernel_rfl) (Res'.refl _) rfl)
      · replace hF := iff' hb13 hF
        have hr_ := Option.some.inj hF; subst hr_
        exact J_adv 9 (J_ret (xs := [.agg [.d (.bool d0.neg), .d (.sl 1 (d0.mag.map e_u32)), .d (.bool d1.neg), .d (.sl 1 (d1.mag.map e_u32))]]) [.agg [.d (.bool d0.neg), .d (.sl 1 (d0.mag.map e_u32)), .d (.bool d1.neg), .d (.sl 1 (d1.mag.map e_u32))]] rfl rfl (by kernel_rfl) (Res'.refl _) rfl)
    clear hF; rename _ = some o2 => hF
    refine J_adv 10 (J_bool 17 (b := decide (((y1.mag.map e_u32).length : Int) > 1)) (by kernel_rfl) (fun hb14 => ?_) (fun hb14 => ?_))
    · replace hF := ift hb14 hF
      have hr_ := Option.some.inj hF; subst hr_
      exact J_adv 10 (J_at [2, 3, 4, 5, 27] [2, 3, 4, 5] (T0 := [.ops (opsOf (cAt (bodyOf Tryz.f103) [1, 1, 1, 0, 0])) [], .code (cAt (bodyOf Tryz.f103) [1, 1, 1, 0, 1]), .code (cAt (bodyOf Tryz.f103) [1, 1, 1, 1])]) (by kernel_rfl) rfl hR2)
    · replace hF := iff' hb14 hF
      refine J_adv 4 (J_bool 21 (b := y1.neg) (by kernel_rfl) (fun hb15 => ?_) (fun hb15 => ?_))
      · replace hF := ift hb15 hF
        have hr_ := Option.some.inj hF; subst hr_
        exact J_adv 6 (J_at [2, 3, 4, 5, 27] [2, 3, 4, 5] (T0 := [.ops (opsOf (cAt (bodyOf Tryz.f103) [1, 1, 1, 0, 0])) [], .code (cAt (bodyOf Tryz.f103) [1, 1, 1, 0, 1]), .code (cAt (bodyOf Tryz.f103) [1, 1, 1, 1])]) (by kernel_rfl) rfl hR2)
      · replace hF := iff' hb15 hF
        obtain ⟨y12, e12, hF⟩ := bnd hF
        refine J_adv 2 (J_opt1 (o := geti (y1.mag.map e_u32) 0) (e_u32 y12) (by kernel_rfl) (gm e12) ?_)
        have hr_ := Option.some.inj hF; subst hr_
        exact J_adv 3 (J_at [2, 3, 4, 5, 27] [2, 3, 4, 5] (T0 := [.ops (opsOf (cAt (bodyOf Tryz.f103) [1, 1, 1, 0, 0])) [], .code (cAt (bodyOf Tryz.f103) [1, 1, 1, 0, 1]), .code (cAt (bodyOf Tryz.f103) [1, 1, 1, 1])]) (by kernel_rfl) rfl hR2)
/- croupier/exact.Of -/
def F51 (fuel : Nat) (d0 : Int) (d1 : Int) : Option T_exact_Num :=
  Option.bind (F99 fuel d0) fun y1 =>
  Option.bind (F99 fuel d1) fun y2 =>
  Option.bind (F103 fuel y1 y2) fun y3 =>
  some y3
theorem F51_ok {fuel : Nat} {d0 : Int} {d1 : Int} {r : T_exact_Num} (hF : F51 fuel d0 d1 = some r) :
    CallF Tryz.prog 51 [.d (.int .i64 d0), .d (.int .i64 d1)] (.agg [.d (.bool r.n_.neg), .d (.sl 1 (r.n_.mag.map e_u32)), .d (.bool r.d.neg), .d (.sl 1 (r.d.mag.map e_u32))]) := by
  unfold F51 at hF
  refine callF_of (N := 10) (b := bodyOf Tryz.f51) Tryz.func51 (by kernel_rfl) rfl rfl ?_
  obtain ⟨y1, e1, hF⟩ := bnd hF
  refine J_adv 7 (J_callF (xs := [.d (.int .i64 d0)]) [.d (.int .i64 d0)] (.agg [.d (.bool y1.neg), .d (.sl 1 (y1.mag.map e_u32))]) (by kernel_rfl) en99 (Res'.refl _) (F99_ok e1) ?_)
  obtain ⟨y2, e2, hF⟩ := bnd hF
  refine J_adv 1 (J_callF (xs := [.d (.int .i64 d1)]) [.d (.int .i64 d1)] (.agg [.d (.bool y2.neg), .d (.sl 1 (y2.mag.map e_u32))]) (by kernel_rfl) en99 (Res'.refl _) (F99_ok e2) ?_)
  obtain ⟨y3, e3, hF⟩ := bnd hF
  refine J_adv 0 (J_callF (xs := [.agg [.d (.bool y1.neg), .d (.sl 1 (y1.mag.map e_u32))], .agg [.d (.bool y2.neg), .d (.sl 1 (y2.mag.map e_u32))]]) [.agg [.d (.bool y1.neg), .d (.sl 1 (y1.mag.map e_u32))], .agg [.d (.bool y2.neg), .d (.sl 1 (y2.mag.map e_u32))]] (.agg [.d (.bool y3.n_.neg), .d (.sl 1 (y3.n_.mag.map e_u32)), .d (.bool y3.d.neg), .d (.sl 1 (y3.d.mag.map e_u32))]) (by kernel_rfl) en103 (Res'.refl _) (F103_ok e3) ?_)
  have hr_ := Option.some.inj hF; subst hr_
  exact J_adv 2 (J_ret (xs := [.agg [.d (.bool y3.n_.neg), .d (.sl 1 (y3.n_.mag.map e_u32)), .d (.bool y3.d.neg), .d (.sl 1 (y3.d.mag.map e_u32))]]) [.agg [.d (.bool y3.n_.neg), .d (.sl 1 (y3.n_.mag.map e_u32)), .d (.bool y3.d.neg), .d (.sl 1 (y3.d.mag.map e_u32))]] rfl rfl (by kernel_rfl) (Res'.refl _) rfl)
/- (croupier/exact.Num).Add -/
def F54 (fuel : Nat) (d0 : T_exact_Num) (d1 : T_exact_Num) : Option T_exact_Num :=
  Option.bind (F101 fuel d0.n_ d1.d) fun y1 =>
  Option.bind (F101 fuel d1.n_ d0.d) fun y2 =>
  Option.bind (F104 fuel y1 y2) fun y3 =>
  Option.bind (F101 fuel d0.d d1.d) fun y4 =>
  Option.bind (F103 fuel y3 y4) fun y5 =>
  some y5
theorem F54_ok {fuel : Nat} {d0 : T_exact_Num} {d1 : T_exact_Num} {r : T_exact_Num} (hF : F54 fuel d0 d1 = some r) :
    CallF Tryz.prog 54 [.agg [.d (.bool d0.n_.neg), .d (.sl 1 (d0.n_.mag.map e_u32)), .d (.bool d0.d.neg), .d (.sl 1 (d0.d.mag.map e_u32))], .agg [.d (.bool d1.n_.neg), .d (.sl 1 (d1.n_.mag.map e_u32)), .d (.bool d1.d.neg), .d (.sl 1 (d1.d.mag.map e_u32))]] (.agg [.d (.bool r.n_.neg), .d (.sl 1 (r.n_.mag.map e_u32)), .d (.bool r.d.neg), .d (.sl 1 (r.d.mag.map e_u32))]) := by
  unfold F54 at hF
  refine callF_of (N := 22) (b := bodyOf Tryz.f54) Tryz.func54 (by kernel_rfl) rfl rfl ?_
  refine J_adv 7 (J_draw (by kernel_rfl) (by kernel_rfl) ?_)
  obtain ⟨y1, e1, hF⟩ := bnd hF
  refine JD_adv 4 (JD_callF (xs := [.agg [.d (.bool d0.n_.neg), .d (.sl 1 (d0.n_.mag.map e_u32))], .agg [.d (.bool d1.d.neg), .d (.sl 1 (d1.d.mag.map e_u32))]]) [.agg [.d (.bool d0.n_.neg), .d (.sl 1 (d0.n_.mag.map e_u32))], .agg [.d (.bool d1.d.neg), .d (.sl 1 (d1.d.mag.map e_u32))]] (.agg [.d (.bool y1.neg), .d (.sl 1 (y1.mag.map e_u32))]) (by kernel_rfl) (by kernel_rfl) en101 (Res'.refl _) (F101_ok e1) ?_)
  obtain ⟨y2, e2, hF⟩ := bnd hF
  refine JD_adv 4 (JD_callF (xs := [.agg [.d (.bool d1.n_.neg), .d (.sl 1 (d1.n_.mag.map e_u32))], .agg [.d (.bool d0.d.neg), .d (.sl 1 (d0.d.mag.map e_u32))]]) [.agg [.d (.bool d1.n_.neg), .d (.sl 1 (d1.n_.mag.map e_u32))], .agg [.d (.bool d0.d.neg), .d (.sl 1 (d0.d.mag.map e_u32))]] (.agg [.d (.bool y2.neg), .d (.sl 1 (y2.mag.map e_u32))]) (by kernel_rfl) (by kernel_rfl) en101 (Res'.refl _) (F101_ok e2) ?_)
  obtain ⟨y3, e3, hF⟩ := bnd hF
  refine JD_adv 0 (JD_callF (xs := [.agg [.d (.bool y1.neg), .d (.sl 1 (y1.mag.map e_u32))], .agg [.d (.bool y2.neg), .d (.sl 1 (y2.mag.map e_u32))]]) [.agg [.d (.bool y1.neg), .d (.sl 1 (y1.mag.map e_u32))], .agg [.d (.bool y2.neg), .d (.sl 1 (y2.mag.map e_u32))]] (.agg [.d (.bool y3.neg), .d (.sl 1 (y3.mag.map e_u32))]) (by kernel_rfl) (by kernel_rfl) en104 (Res'.refl _) (F104_ok e3) ?_)
  obtain ⟨y4, e4, hF⟩ := bnd hF
  refine JD_adv 4 (JD_callF (xs := [.agg [.d (.bool d0.d.neg), .d (.sl 1 (d0.d.mag.map e_u32))], .agg [.d (.bool d1.d.neg), .d (.sl 1 (d1.d.mag.map e_u32))]]) [.agg [.d (.bool d0.d.neg), .d (.sl 1 (d0.d.mag.map e_u32))], .agg [.d (.bool d1.d.neg), .d (.sl 1 (d1.d.mag.map e_u32))]] (.agg [.d (.bool y4.neg), .d (.sl 1 (y4.mag.map e_u32))]) (by kernel_rfl) (by kernel_rfl) en101 (Res'.refl _) (F101_ok e4) ?_)
  obtain ⟨y5, e5, hF⟩ := bnd hF
  refine JD_adv 0 (JD_callF (xs := [.agg [.d (.bool y3.neg), .d (.sl 1 (y3.mag.map e_u32))], .agg [.d (.bool y4.neg), .d (.sl 1 (y4.mag.map e_u32))]]) [.agg [.d (.bool y3.neg), .d (.sl 1 (y3.mag.map e_u32))], .agg [.d (.bool y4.neg), .d (.sl 1 (y4.mag.map e_u32))]] (.agg [.d (.bool y5.n_.neg), .d (.sl 1 (y5.n_.mag.map e_u32)), .d (.bool y5.d.neg), .d (.sl 1 (y5.d.mag.map e_u32))]) (by kernel_rfl) (by kernel_rfl) en103 (Res'.refl _) (F103_ok e5) ?_)
  refine JD_adv 1 (JD_end (by kernel_rfl) ?_)
  have hr_ := Option.some.inj hF; subst hr_
  exact J_adv 0 (J_ret (xs := [.agg [.d (.bool y5.n_.neg), .d (.sl 1 (y5.n_.mag.map e_u32)), .d (.bool y5.d.neg), .d (.sl 1 (y5.d.mag.map e_u32))]]) [.agg [.d (.bool y5.n_.neg), .d (.sl 1 (y5.n_.mag.map e_u32)), .d (.bool y5.d.neg), .d (.sl 1 (y5.d.mag.map e_u32))]] rfl rfl (by kernel_rfl) (Res'.refl _) rfl)
/- (croupier/exact.Num).Mul -/
def F86 (fuel : Nat) (d0 : T_exact_Num) (d1 : T_exact_Num) : Option T_exact_Num :=
  Option.bind (F101 fuel d0.n_ d1.n_) fun y1 =>
  Option.bind (F101 fuel d0.d d1.d) fun y2 =>
  Option.bind (F103 fuel y1 y2) fun y3 =>
  some y3
theorem F86_ok {fuel : Nat} {d0 : T_exact_Num} {d1 : T_exact_Num} {r : T_exact_Num} (hF : F86 fuel d0 d1 = some r) :
    CallF Tryz.prog 86 [.agg [.d (.bool d0.n_.neg), .d (.sl 1 (d0.n_.mag.map e_u32)), .d (.bool d0.d.neg), .d (.sl 1 (d0.d.mag.map e_u32))], .agg [.d (.bool d1.n_.neg), .d (.sl 1 (d1.n_.mag.map e_u32)), .d (.bool d1.d.neg), .d (.sl 1 (d1.d.mag.map e_u32))]] (.agg [.d (.bool r.n_.neg), .d (.sl 1 (r.n_.mag.map e_u32)), .d (.bool r.d.neg), .d (.sl 1 (r.d.mag.map e_u32))]) := by
  unfold F86 at hF
  refine callF_of (N := 16) (b := bodyOf Tryz.f86) Tryz.func86 (by kernel_rfl) rfl rfl ?_
  refine J_adv 7 (J_draw (by kernel_rfl) (by kernel_rfl) ?_)
  obtain ⟨y1, e1, hF⟩ := bnd hF
  refine JD_adv 4 (JD_callF (xs := [.agg [.d (.bool d0.n_.neg), .d (.sl 1 (d0.n_.mag.map e_u32))], .agg [.d (.bool d1.n_.neg), .d (.sl 1 (d1.n_.mag.map e_u32))]]) [.agg [.d (.bool d0.n_.neg), .d (.sl 1 (d0.n_.mag.map e_u32))], .agg [.d (.bool d1.n_.neg), .d (.sl 1 (d1.n_.mag.map e_u32))]] (.agg [.d (.bool y1.neg), .d (.sl 1 (y1.mag.map e_u32))]) (by kernel_rfl) (by kernel_rfl) en101 (Res'.refl _) (F101_ok e1) ?_)
  obtain ⟨y2, e2, hF⟩ := bnd hF
  refine JD_adv 4 (JD_callF (xs := [.agg [.d (.bool d0.d.neg), .d (.sl 1 (d0.d.mag.map e_u32))], .agg [.d (.bool d1.d.neg), .d (.sl 1 (d1.d.mag.map e_u32))]]) [.agg [.d (.bool d0.d.neg), .d (.sl 1 (d0.d.mag.map e_u32))], .agg [.d (.bool d1.d.neg), .d (.sl 1 (d1.d.mag.map e_u32))]] (.agg [.d (.bool y2.neg), .d (.sl 1 (y2.mag.map e_u32))]) (by kernel_rfl) (by kernel_rfl) en101 (Res'.refl _) (F101_ok e2) ?_)
  obtain ⟨y3, e3, hF⟩ := bnd hF
  refine JD_adv 0 (JD_callF (xs := [.agg [.d (.bool y1.neg), .d (.sl 1 (y1.mag.map e_u32))], .agg [.d (.bool y2.neg), .d (.sl 1 (y2.mag.map e_u32))]]) [.agg [.d (.bool y1.neg), .d (.sl 1 (y1.mag.map e_u32))], .agg [.d (.bool y2.neg), .d (.sl 1 (y2.mag.map e_u32))]] (.agg [.d (.bool y3.n_.neg), .d (.sl 1 (y3.n_.mag.map e_u32)), .d (.bool y3.d.neg), .d (.sl 1 (y3.d.mag.map e_u32))]) (by kernel_rfl) (by kernel_rfl) en103 (Res'.refl _) (F103_ok e3) ?_)
  refine JD_adv 1 (JD_end (by kernel_rfl) ?_)
  have hr_ := Option.some.inj hF; subst hr_
  exact J_adv 0 (J_ret (xs := [.agg [.d (.bool y3.n_.neg), .d (.sl 1 (y3.n_.mag.map e_u32)), .d (.bool y3.d.neg), .d (.sl 1 (y3.d.mag.map e_u32))]]) [.agg [.d (.bool y3.n_.neg), .d (.sl 1 (y3.n_.mag.map e_u32)), .d (.bool y3.d.neg), .d (.sl 1 (y3.d.mag.map e_u32))]] rfl rfl (by kernel_rfl) (Res'.refl _) rfl)
/- (croupier/exact.Num).Whole -/
def F126 (d0 : T_exact_Num) : Option Bool :=
  Option.bind (
    bif ((d0.d.mag.map e_u32).length : Int) == 1 then
      (Option.bind (geti d0.d.mag 0) fun y3 =>
      some (y3 == 1))
    else
      (some false)) fun o1 =>
  some o1
theorem F126_ok {d0 : T_exact_Num} {r : Bool} (hF : F126 d0 = some r) :
    CallF Tryz.prog 126 [.agg [.d (.bool d0.n_.neg), .d (.sl 1 (d0.n_.mag.map e_u32)), .d (.bool d0.d.neg), .d (.sl 1 (d0.d.mag.map e_u32))]] (.d (.bool r)) := by
  unfold F126 at hF
  refine callF_of (N := 16) (b := bodyOf Tryz.f126) Tryz.func126 (by kernel_rfl) rfl rfl ?_
  obtain ⟨o1, hO, hF⟩ := bnd hF
  have hR1 : J none Tryz.prog 16 [] (finF Tryz.prog Tryz.f126 (.d (.bool r))) ⟨mkT [(2, .d (.bool o1))], [], [.ops (opsOf (cAt (bodyOf Tryz.f126) [1, 0])) [], .code (cAt (bodyOf Tryz.f126) [1, 1])]⟩ := by
    clear hO
    have hr_ := Option.some.inj hF; subst hr_
    exact J_adv 1 (J_ret (xs := [.d (.bool o1)]) [.d (.bool o1)] rfl rfl (by kernel_rfl) (Res'.refl _) rfl)
  clear hF; rename _ = some o1 => hF
  refine J_adv 13 (J_bool 8 (b := ((d0.d.mag.map e_u32).length : Int) == 1) (by kernel_rfl) (fun hb3 => ?_) (fun hb3 => ?_))
  · replace hF := ift hb3 hF
    obtain ⟨y3, e3, hF⟩ := bnd hF
    refine J_adv 3 (J_opt1 (o := geti (d0.d.mag.map e_u32) 0) (e_u32 y3) (by kernel_rfl) (gm e3) ?_)
    have hr_ := Option.some.inj hF; subst hr_
    exact J_adv 4 (J_at [2] [] (T0 := [.ops (opsOf (cAt (bodyOf Tryz.f126) [1, 0])) [], .code (cAt (bodyOf Tryz.f126) [1, 1])]) (by kernel_rfl) rfl hR1)
  · replace hF := iff' hb3 hF
    have hr_ := Option.some.inj hF; subst hr_
    exact J_adv 8 (J_at [2] [] (T0 := [.ops (opsOf (cAt (bodyOf Tryz.f126) [1, 0])) [], .code (cAt (bodyOf Tryz.f126) [1, 1])]) (by kernel_rfl) rfl hR1)
/- (croupier/exact.Num).Text -/
def F87 (fuel : Nat) (d0 : T_exact_Num) : Option (List UInt8) :=
  Option.bind (F126 d0) fun y1 =>
  bif y1 then
    (Option.bind (F127 fuel d0.n_) fun y2 =>
    some y2)
  else
    (Option.bind (F127 fuel d0.n_) fun y3 =>
    ass (decide (y3.length + [47].length ≤ 4611686018427387904)) <|
    Option.bind (F127 fuel d0.d) fun y4 =>
    ass (decide ((y3 ++ [47]).length + y4.length ≤ 4611686018427387904)) <|
    some ((y3 ++ [47]) ++ y4))
theorem F87_ok {fuel : Nat} {d0 : T_exact_Num} {r : List UInt8} (hF : F87 fuel d0 = some r) :
    CallF Tryz.prog 87 [.agg [.d (.bool d0.n_.neg), .d (.sl 1 (d0.n_.mag.map e_u32)), .d (.bool d0.d.neg), .d (.sl 1 (d0.d.mag.map e_u32))]] (.d (.str r)) := by
  unfold F87 at hF
  refine callF_of (N := 16) (b := bodyOf Tryz.f87) Tryz.func87 (by kernel_rfl) rfl rfl ?_
  obtain ⟨y1, e1, hF⟩ := bnd hF
  refine J_adv 9 (J_callF (xs := [.agg [.d (.bool d0.n_.neg), .d (.sl 1 (d0.n_.mag.map e_u32)), .d (.bool d0.d.neg), .d (.sl 1 (d0.d.mag.map e_u32))]]) [.agg [.d (.bool d0.n_.neg), .d (.sl 1 (d0.n_.mag.map e_u32)), .d (.bool d0.d.neg), .d (.sl 1 (d0.d.mag.map e_u32))]] (.d (.bool y1)) (by kernel_rfl) en126 (Res'.refl _) (F126_ok e1) ?_)
  refine J_adv 1 (J_bool 4 (b := y1) (by kernel_rfl) (fun hb1 => ?_) (fun hb1 => ?_))
  · replace hF := ift hb1 hF
    obtain ⟨y2, e2, hF⟩ := bnd hF
    refine J_adv 5 (J_callF (xs := [.agg [.d (.bool d0.n_.neg), .d (.sl 1 (d0.n_.mag.map e_u32))]]) [.agg [.d (.bool d0.n_.neg), .d (.sl 1 (d0.n_.mag.map e_u32))]] (.d (.str y2)) (by kernel_rfl) en127 (Res'.refl _) (F127_ok e2) ?_)
    have hr_ := Option.some.inj hF; subst hr_
    exact J_adv 2 (J_ret (xs := [.d (.str y2)]) [.d (.str y2)] rfl rfl (by kernel_rfl) (Res'.refl _) rfl)
  · replace hF := iff' hb1 hF
    refine J_adv 3 (J_draw (by kernel_rfl) (by kernel_rfl) ?_)
    obtain ⟨y3, e3, hF⟩ := bnd hF
    refine JD_adv 2 (JD_callF (xs := [.agg [.d (.bool d0.n_.neg), .d (.sl 1 (d0.n_.mag.map e_u32))]]) [.agg [.d (.bool d0.n_.neg), .d (.sl 1 (d0.n_.mag.map e_u32))]] (.d (.str y3)) (by kernel_rfl) (by kernel_rfl) en127 (Res'.refl _) (F127_ok e3) ?_)
    obtain ⟨hb2, hF⟩ := assd hF
    refine JD_adv 0 (JD_opt1 (o := chk (decide (y3.length + [47].length ≤ 4611686018427387904))) [] (by kernel_rfl) (by kernel_rfl) (ck hb2) ?_)
    obtain ⟨y4, e4, hF⟩ := bnd hF
    refine JD_adv 2 (JD_callF (xs := [.agg [.d (.bool d0.d.neg), .d (.sl 1 (d0.d.mag.map e_u32))]]) [.agg [.d (.bool d0.d.neg), .d (.sl 1 (d0.d.mag.map e_u32))]] (.d (.str y4)) (by kernel_rfl) (by kernel_rfl) en127 (Res'.refl _) (F127_ok e4) ?_)
    obtain ⟨hb3, hF⟩ := assd hF
    refine JD_adv 0 (JD_opt1 (o := chk (decide ((y3 ++ [47]).length + y4.length ≤ 4611686018427387904))) [] (by kernel_rfl) (by kernel_rfl) (ck hb3) ?_)
    refine JD_adv 1 (JD_end (by kernel_rfl) ?_)
    have hr_ := Option.some.inj hF; subst hr_
    exact J_adv 0 (J_ret (xs := [.d (.str ((y3 ++ [47]) ++ y4))]) [.d (.str ((y3 ++ [47]) ++ y4))] rfl rfl (by kernel_rfl) (Res'.refl _) rfl)
/- (croupier/exact.Num).Sign -/
def F49 (d0 : T_exact_Num) : Option Int :=
  Option.bind (F100 d0.n_) fun y1 =>
  some y1
theorem F49_ok {d0 : T_exact_Num} {r : Int} (hF : F49 d0 = some r) :
    CallF Tryz.prog 49 [.agg [.d (.bool d0.n_.neg), .d (.sl 1 (d0.n_.mag.map e_u32)), .d (.bool d0.d.neg), .d (.sl 1 (d0.d.mag.map e_u32))]] (.d (.int .i64 r)) := by
  unfold F49 at hF
  refine callF_of (N := 6) (b := bodyOf Tryz.f49) Tryz.func49 (by kernel_rfl) rfl rfl ?_
  obtain ⟨y1, e1, hF⟩ := bnd hF
  refine J_adv 9 (J_callF (xs := [.agg [.d (.bool d0.n_.neg), .d (.sl 1 (d0.n_.mag.map e_u32))]]) [.agg [.d (.bool d0.n_.neg), .d (.sl 1 (d0.n_.mag.map e_u32))]] (.d (.int .i64 y1)) (by kernel_rfl) en100 (Res'.refl _) (F100_ok e1) ?_)
  have hr_ := Option.some.inj hF; subst hr_
  exact J_adv 2 (J_ret (xs := [.d (.int .i64 y1)]) [.d (.int .i64 y1)] rfl rfl (by kernel_rfl) (Res'.refl _) rfl)
/- croupier/whole.Check -/
def F133_A1 (v3 : Int) : Option Int :=
  some v3
def F133_L2 (y1 : List UInt8) : Nat → Int → Option Int
  | 0, _ => none
  | n_F133_L2 + 1, v5 =>
    bif decide (v5 < (((y1.map toI).map e_u8).length : Int)) then
      (Option.bind (geti (y1.map toI) v5) fun y12 =>
      Option.bind (
        bif decide (y12 < 48) then
          (some true)
        else
          (some (decide (y12 > 57)))) fun o8 =>
      bif o8 then
        (F133_A1 5)
      else
        ((F133_L2 y1 n_F133_L2) (IntKind.i64.wrap (v5 + 1))))
    else
      (bif decide ((y1.length : Int) > 2000) then
        (F133_A1 6)
      else
        (F133_A1 0))
def F133 (fuel : Nat) (d0 : List UInt8) : Option Int :=
  Option.bind (F138 d0 [45]) fun y1 =>
  bif d0 == [48] then
    (F133_A1 0)
  else
    (Option.bind (
      bif y1 == [] then
        (some true)
      else
        (Option.bind (geti y1 0) fun y13 =>
        some ((y13.toNat : Int) == 48))) fun o5 =>
    bif o5 then
      (F133_A1 5)
    else
      (F133_L2 y1 fuel 0))
theorem F133_ok {fuel : Nat} {d0 : List UInt8} {r : Int} (hF : F133 fuel d0 = some r) :
    CallF Tryz.prog 133 [.d (.str d0)] (.d (.int .i64 r)) := by
  unfold F133 at hF
  refine callF_of (N := 38) (b := bodyOf Tryz.f133) Tryz.func133 (by kernel_rfl) rfl rfl ?_
  obtain ⟨y1, e1, hF⟩ := bnd hF
  refine J_adv 8 (J_callF (xs := [.d (.str d0), .d (.str [45])]) [.d (.str d0), .d (.str [45])] (.d (.str y1)) (by kernel_rfl) en138 (Res'.refl _) (F138_ok e1) ?_)
  have hF133_A1 : ∀ (v3 : Int), F133_A1 v3 = some r → J none Tryz.prog 38 [] (finF Tryz.prog Tryz.f133 (.d (.int .i64 r))) ⟨mkT [(4, .d (.int .i64 v3))], [], [.code (cAt (bodyOf Tryz.f133) [1, 0, 1, 1, 1, 1]), .inScope]⟩ := by
    intro v3 hF
    unfold F133_A1 at hF
    have hr_ := Option.some.inj hF; subst hr_
    exact J_adv 5 (J_ret (xs := [.d (.int .i64 v3)]) [.d (.int .i64 v3)] rfl rfl (by kernel_rfl) (Res'.refl _) rfl)
  refine J_adv 16 (J_bool 26 (b := d0 == [48]) (by kernel_rfl) (fun hb22 => ?_) (fun hb22 => ?_))
  · replace hF := ift hb22 hF
    exact J_adv 3 (J_at [4] [] (T0 := [.code (cAt (bodyOf Tryz.f133) [1, 0, 1, 1, 1, 1]), .inScope]) (by kernel_rfl) rfl (hF133_A1 0 hF))
  · replace hF := iff' hb22 hF
    obtain ⟨o5, hO, hF⟩ := bnd hF
    have hR5 : J none Tryz.prog 38 [] (finF Tryz.prog Tryz.f133 (.d (.int .i64 r))) ⟨mkT [(3, .d (.str y1)), (4, .d (.int .i64 0)), (29, .d (.bool o5))], [], [.ops (opsOf (cAt (bodyOf Tryz.f133) [1, 0, 1, 1, 1, 0, 0, 1, 1, 0])) [], .code (cAt (bodyOf Tryz.f133) [1, 0, 1, 1, 1, 0, 0, 1, 1, 1]), .inBlock 0, .code (cAt (bodyOf Tryz.f133) [1, 0, 1, 1, 1, 1]), .inScope]⟩ := by
      clear hO
      refine J_adv 1 (J_bool 29 (b := o5) (by kernel_rfl) (fun hb25 => ?_) (fun hb25 => ?_))
      · replace hF := ift hb25 hF
        exact J_adv 5 (J_at [4] [] (T0 := [.code (cAt (bodyOf Tryz.f133) [1, 0, 1, 1, 1, 1]), .inScope]) (by kernel_rfl) rfl (hF133_A1 5 hF))
      · replace hF := iff' hb25 hF
        refine J_adv 5 (J_opt2 (o := some (y1.map byteD)) ((y1.map toI).map e_u8) (by kernel_rfl) (bym (f := e_u8) (fun _ => rfl)) ?_)
        have hF133_L2 : ∀ (n_F133_L2 : Nat) (v5 : Int), F133_L2 y1 n_F133_L2 v5 = some r → J none Tryz.prog 38 [] (finF Tryz.prog Tryz.f133 (.d (.int .i64 r))) ⟨mkT [(3, .d (.str y1)), (4, .d (.int .i64 0)), (10, .d (.sl 1 ((y1.map toI).map e_u8))), (11, .d (.int .i64 (((y1.map toI).map e_u8).length : Int))), (12, .d (.int .i64 v5))], [], [.inLoop (cAt (bodyOf Tryz.f133) [1, 0, 1, 1, 1, 0, 0, 1, 1, 1, 1, 0, 1, 0, 0]), .inBlock 1, .code (cAt (bodyOf Tryz.f133) [1, 0, 1, 1, 1, 0, 0, 1, 1, 1, 1, 1]), .inBlock 0, .code (cAt (bodyOf Tryz.f133) [1, 0, 1, 1, 1, 1]), .inScope]⟩ := by
          clear hF; intro n_F133_L2
          induction n_F133_L2 with
          | zero => intro v5 hF; cases hF
          | succ n_F133_L2 ih_F133_L2 =>
            intro v5 hF
            rw [F133_L2] at hF
            refine J_adv 6 (J_bool 13 (b := decide (v5 < (((y1.map toI).map e_u8).length : Int))) (by kernel_rfl) (fun hb36 => ?_) (fun hb36 => ?_))
            · replace hF := ift hb36 hF
              obtain ⟨y12, e12, hF⟩ := bnd hF
              refine J_adv 6 (J_opt1 (o := geti ((y1.map toI).map e_u8) v5) (e_u8 y12) (by kernel_rfl) (gm e12) ?_)
              obtain ⟨o8, hO, hF⟩ := bnd hF
              have hR8 : J none Tryz.prog 38 [] (finF Tryz.prog Tryz.f133 (.d (.int .i64 r))) ⟨mkT [(3, .d (.str y1)), (4, .d (.int .i64 0)), (10, .d (.sl 1 ((y1.map toI).map e_u8))), (11, .d (.int .i64 (((y1.map toI).map e_u8).length : Int))), (12, .d (.int .i64 v5)), (21, .d (.bool o8))], [], [.ops (opsOf (cAt (bodyOf Tryz.f133) [1, 0, 1, 1, 1, 0, 0, 1, 1, 1, 1, 0, 1, 0, 0, 1, 1, 0, 0, 1, 0])) [], .code (cAt (bodyOf Tryz.f133) [1, 0, 1, 1, 1, 0, 0, 1, 1, 1, 1, 0, 1, 0, 0, 1, 1, 0, 0, 1, 1]), .inBlock 2, .code (cAt (bodyOf Tryz.f133) [1, 0, 1, 1, 1, 0, 0, 1, 1, 1, 1, 0, 1, 0, 0, 1, 1, 1]), .inLoop (cAt (bodyOf Tryz.f133) [1, 0, 1, 1, 1, 0, 0, 1, 1, 1, 1, 0, 1, 0, 0]), .inBlock 1, .code (cAt (bodyOf Tryz.f133) [1, 0, 1, 1, 1, 0, 0, 1, 1, 1, 1, 1]), .inBlock 0, .code (cAt (bodyOf Tryz.f133) [1, 0, 1, 1, 1, 1]), .inScope]⟩ := by
                clear hO
                refine J_adv 1 (J_bool 21 (b := o8) (by kernel_rfl) (fun hb39 => ?_) (fun hb39 => ?_))
                · replace hF := ift hb39 hF
                  exact J_adv 6 (J_at [4] [] (T0 := [.code (cAt (bodyOf Tryz.f133) [1, 0, 1, 1, 1, 1]), .inScope]) (by kernel_rfl) rfl (hF133_A1 5 hF))
                · replace hF := iff' hb39 hF
                  exact J_adv 7 (J_at [3, 4, 10, 11, 12] [] (T0 := [.inLoop (cAt (bodyOf Tryz.f133) [1, 0, 1, 1, 1, 0, 0, 1, 1, 1, 1, 0, 1, 0, 0]), .inBlock 1, .code (cAt (bodyOf Tryz.f133) [1, 0, 1, 1, 1, 0, 0, 1, 1, 1, 1, 1]), .inBlock 0, .code (cAt (bodyOf Tryz.f133) [1, 0, 1, 1, 1, 1]), .inScope]) (by kernel_rfl) rfl (ih_F133_L2 (IntKind.i64.wrap (v5 + 1)) hF))
              clear hF; rename _ = some o8 => hF
              refine J_adv 8 (J_bool 18 (b := decide (y12 < 48)) (by kernel_rfl) (fun hb40 => ?_) (fun hb40 => ?_))
              · replace hF := ift hb40 hF
                have hr_ := Option.some.inj hF; subst hr_
                exact J_adv 3 (J_at [3, 4, 10, 11, 12, 21] [] (T0 := [.ops (opsOf (cAt (bodyOf Tryz.f133) [1, 0, 1, 1, 1, 0, 0, 1, 1, 1, 1, 0, 1, 0, 0, 1, 1, 0, 0, 1, 0])) [], .code (cAt (bodyOf Tryz.f133) [1, 0, 1, 1, 1, 0, 0, 1, 1, 1, 1, 0, 1, 0, 0, 1, 1, 0, 0, 1, 1]), .inBlock 2, .code (cAt (bodyOf Tryz.f133) [1, 0, 1, 1, 1, 0, 0, 1, 1, 1, 1, 0, 1, 0, 0, 1, 1, 1]), .inLoop (cAt (bodyOf Tryz.f133) [1, 0, 1, 1, 1, 0, 0, 1, 1, 1, 1, 0, 1, 0, 0]), .inBlock 1, .code (cAt (bodyOf Tryz.f133) [1, 0, 1, 1, 1, 0, 0, 1, 1, 1, 1, 1]), .inBlock 0, .code (cAt (bodyOf Tryz.f133) [1, 0, 1, 1, 1, 1]), .inScope]) (by kernel_rfl) rfl hR8)
              · replace hF := iff' hb40 hF
                have hr_ := Option.some.inj hF; subst hr_
                exact J_adv 3 (J_at [3, 4, 10, 11, 12, 21] [] (T0 := [.ops (opsOf (cAt (bodyOf Tryz.f133) [1, 0, 1, 1, 1, 0, 0, 1, 1, 1, 1, 0, 1, 0, 0, 1, 1, 0, 0, 1, 0])) [], .code (cAt (bodyOf Tryz.f133) [1, 0, 1, 1, 1, 0, 0, 1, 1, 1, 1, 0, 1, 0, 0, 1, 1, 0, 0, 1, 1]), .inBlock 2, .code (cAt (bodyOf Tryz.f133) [1, 0, 1, 1, 1, 0, 0, 1, 1, 1, 1, 0, 1, 0, 0, 1, 1, 1]), .inLoop (cAt (bodyOf Tryz.f133) [1, 0, 1, 1, 1, 0, 0, 1, 1, 1, 1, 0, 1, 0, 0]), .inBlock 1, .code (cAt (bodyOf Tryz.f133) [1, 0, 1, 1, 1, 0, 0, 1, 1, 1, 1, 1]), .inBlock 0, .code (cAt (bodyOf Tryz.f133) [1, 0, 1, 1, 1, 1]), .inScope]) (by kernel_rfl) rfl hR8)
            · replace hF := iff' hb36 hF
              refine J_adv 8 (J_bool 25 (b := decide ((y1.length : Int) > 2000)) (by kernel_rfl) (fun hb41 => ?_) (fun hb41 => ?_))
              · replace hF := ift hb41 hF
                exact J_adv 5 (J_at [4] [] (T0 := [.code (cAt (bodyOf Tryz.f133) [1, 0, 1, 1, 1, 1]), .inScope]) (by kernel_rfl) rfl (hF133_A1 6 hF))
              · replace hF := iff' hb41 hF
                exact J_adv 3 (J_at [4] [] (T0 := [.code (cAt (bodyOf Tryz.f133) [1, 0, 1, 1, 1, 1]), .inScope]) (by kernel_rfl) rfl (hF133_A1 0 hF))
        exact J_adv 5 (J_at [3, 4, 10, 11, 12] [] (T0 := [.inLoop (cAt (bodyOf Tryz.f133) [1, 0, 1, 1, 1, 0, 0, 1, 1, 1, 1, 0, 1, 0, 0]), .inBlock 1, .code (cAt (bodyOf Tryz.f133) [1, 0, 1, 1, 1, 0, 0, 1, 1, 1, 1, 1]), .inBlock 0, .code (cAt (bodyOf Tryz.f133) [1, 0, 1, 1, 1, 1]), .inScope]) (by kernel_rfl) rfl (hF133_L2 fuel 0 hF))
    clear hF; rename _ = some o5 => hF
    refine J_adv 6 (J_bool 32 (b := y1 == []) (by kernel_rfl) (fun hb42 => ?_) (fun hb42 => ?_))
    · replace hF := ift hb42 hF
      have hr_ := Option.some.inj hF; subst hr_
      exact J_adv 5 (J_at [3, 4, 29] [] (T0 := [.ops (opsOf (cAt (bodyOf Tryz.f133) [1, 0, 1, 1, 1, 0, 0, 1, 1, 0])) [], .code (cAt (bodyOf Tryz.f133) [1, 0, 1, 1, 1, 0, 0, 1, 1, 1]), .inBlock 0, .code (cAt (bodyOf Tryz.f133) [1, 0, 1, 1, 1, 1]), .inScope]) (by kernel_rfl) rfl hR5)
    · replace hF := iff' hb42 hF
      obtain ⟨y13, e13, hF⟩ := bnd hF
      refine J_adv 1 (J_opt1 (o := (match geti y1 0 with | some c => some [.int .u8 c.toNat] | none => none)) [.int .u8 y13.toNat] (by kernel_rfl) (by rw [e13]) ?_)
      have hr_ := Option.some.inj hF; subst hr_
      exact J_adv 3 (J_at [3, 4, 29] [] (T0 := [.ops (opsOf (cAt (bodyOf Tryz.f133) [1, 0, 1, 1, 1, 0, 0, 1, 1, 0])) [], .code (cAt (bodyOf Tryz.f133) [1, 0, 1, 1, 1, 0, 0, 1, 1, 1]), .inBlock 0, .code (cAt (bodyOf Tryz.f133) [1, 0, 1, 1, 1, 1]), .inScope]) (by kernel_rfl) rfl hR5)
/- (croupier/exact.Num).Fits -/
def F136 (d0 : T_exact_Num) (d1 : Int) : Option Bool :=
  Option.bind (
    Option.bind (F180 d0.n_) fun y5 =>
    bif decide (y5 ≤ d1) then
      (Option.bind (F180 d0.d) fun y6 =>
      some (decide (y6 ≤ d1)))
    else
      (some false)) fun o1 =>
  some o1
theorem F136_ok {d0 : T_exact_Num} {d1 : Int} {r : Bool} (hF : F136 d0 d1 = some r) :
    CallF Tryz.prog 136 [.agg [.d (.bool d0.n_.neg), .d (.sl 1 (d0.n_.mag.map e_u32)), .d (.bool d0.d.neg), .d (.sl 1 (d0.d.mag.map e_u32))], .d (.int .i64 d1)] (.d (.bool r)) := by
  unfold F136 at hF
  refine callF_of (N := 17) (b := bodyOf Tryz.f136) Tryz.func136 (by kernel_rfl) rfl rfl ?_
  obtain ⟨o1, hO, hF⟩ := bnd hF
  have hR1 : J none Tryz.prog 17 [] (finF Tryz.prog Tryz.f136 (.d (.bool r))) ⟨mkT [(4, .d (.bool o1))], [], [.ops (opsOf (cAt (bodyOf Tryz.f136) [1, 0])) [], .code (cAt (bodyOf Tryz.f136) [1, 1])]⟩ := by
    clear hO
    have hr_ := Option.some.inj hF; subst hr_
    exact J_adv 1 (J_ret (xs := [.d (.bool o1)]) [.d (.bool o1)] rfl rfl (by kernel_rfl) (Res'.refl _) rfl)
  clear hF; rename _ = some o1 => hF
  obtain ⟨y5, e5, hF⟩ := bnd hF
  refine J_adv 9 (J_callF (xs := [.agg [.d (.bool d0.n_.neg), .d (.sl 1 (d0.n_.mag.map e_u32))]]) [.agg [.d (.bool d0.n_.neg), .d (.sl 1 (d0.n_.mag.map e_u32))]] (.d (.int .i64 y5)) (by kernel_rfl) en180 (Res'.refl _) (F180_ok e5) ?_)
  refine J_adv 3 (J_bool 10 (b := decide (y5 ≤ d1)) (by kernel_rfl) (fun hb3 => ?_) (fun hb3 => ?_))
  · replace hF := ift hb3 hF
    obtain ⟨y6, e6, hF⟩ := bnd hF
    refine J_adv 2 (J_callF (xs := [.agg [.d (.bool d0.d.neg), .d (.sl 1 (d0.d.mag.map e_u32))]]) [.agg [.d (.bool d0.d.neg), .d (.sl 1 (d0.d.mag.map e_u32))]] (.d (.int .i64 y6)) (by kernel_rfl) en180 (Res'.refl _) (F180_ok e6) ?_)
    have hr_ := Option.some.inj hF; subst hr_
    exact J_adv 4 (J_at [4] [] (T0 := [.ops (opsOf (cAt (bodyOf Tryz.f136) [1, 0])) [], .code (cAt (bodyOf Tryz.f136) [1, 1])]) (by kernel_rfl) rfl hR1)
  · replace hF := iff' hb3 hF
    have hr_ := Option.some.inj hF; subst hr_
    exact J_adv 7 (J_at [4] [] (T0 := [.ops (opsOf (cAt (bodyOf Tryz.f136) [1, 0])) [], .code (cAt (bodyOf Tryz.f136) [1, 1])]) (by kernel_rfl) rfl hR1)
structure T_ratio_number where
  Num : T_exact_Num
  e : Int
  deriving DecidableEq
/- (croupier/exact.Num).Parts -/
def F134 (d0 : T_exact_Num) : Option (T_exact_Whole × T_exact_Whole) :=
  some (d0.n_, d0.d)
theorem F134_ok {d0 : T_exact_Num} {r : T_exact_Whole × T_exact_Whole} (hF : F134 d0 = some r) :
    CallF Tryz.prog 134 [.agg [.d (.bool d0.n_.neg), .d (.sl 1 (d0.n_.mag.map e_u32)), .d (.bool d0.d.neg), .d (.sl 1 (d0.d.mag.map e_u32))]] (.tup [.agg [.d (.bool r.1.neg), .d (.sl 1 (r.1.mag.map e_u32))], .agg [.d (.bool r.2.neg), .d (.sl 1 (r.2.mag.map e_u32))]]) := by
  unfold F134 at hF
  refine callF_of (N := 8) (b := bodyOf Tryz.f134) Tryz.func134 (by kernel_rfl) rfl rfl ?_
  refine J_adv 7 (J_draw (by kernel_rfl) (by kernel_rfl) ?_)
  refine JD_adv 6 (JD_end (by kernel_rfl) ?_)
  have hr_ := Option.some.inj hF; subst hr_
  exact J_adv 0 (J_ret (xs := [.agg [.d (.bool d0.n_.neg), .d (.sl 1 (d0.n_.mag.map e_u32))], .agg [.d (.bool d0.d.neg), .d (.sl 1 (d0.d.mag.map e_u32))]]) [.agg [.d (.bool d0.n_.neg), .d (.sl 1 (d0.n_.mag.map e_u32))], .agg [.d (.bool d0.d.neg), .d (.sl 1 (d0.d.mag.map e_u32))]] rfl rfl (by kernel_rfl) (Res'.refl _) rfl)
/- croupier/ratio.read -/
def F96 (fuel : Nat) (d0 : List UInt8) : Option T_ratio_number :=
  Option.bind (F97 d0 [47]) fun y1 =>
  bif !y1.2.2 then
    (Option.bind (
      Option.bind (F133 fuel y1.1) fun y19 =>
      bif y19 == 5 then
        (some true)
      else
        (Option.bind (F133 fuel [49]) fun y20 =>
        some (y20 == 5))) fun o1 =>
    bif o1 then
      (some (⟨(⟨(⟨false, []⟩ : T_exact_Whole), (⟨false, []⟩ : T_exact_Whole)⟩ : T_exact_Num), 5⟩ : T_ratio_number))
    else
      (Option.bind (F48 fuel d0) fun y6 =>
      Option.bind (F134 y6) fun y7 =>
      Option.bind (F99 fuel 1) fun y8 =>
      Option.bind (
        bif y1.2.2 then
          (Option.bind (F102 fuel y7.2 y8) fun y16 =>
          bif decide (y16 ≤ 0) then
            (some true)
          else
            (Option.bind (F135 fuel y7.1 y7.2) fun y17 =>
            Option.bind (F102 fuel y17 y8) fun y18 =>
            some (y18 != 0)))
        else
          (some false)) fun o2 =>
      bif o2 then
        (some (⟨(⟨(⟨false, []⟩ : T_exact_Whole), (⟨false, []⟩ : T_exact_Whole)⟩ : T_exact_Num), 5⟩ : T_ratio_number))
      else
        (Option.bind (F136 y6 2000) fun y15 =>
        bif !y15 then
          (some (⟨(⟨(⟨false, []⟩ : T_exact_Whole), (⟨false, []⟩ : T_exact_Whole)⟩ : T_exact_Num), 6⟩ : T_ratio_number))
        else
          (some (⟨y6, 0⟩ : T_ratio_number)))))
  else
    (Option.bind (
      Option.bind (F133 fuel y1.1) fun y38 =>
      bif y38 == 5 then
        (some true)
      else
        (Option.bind (F133 fuel y1.2.1) fun y39 =>
        some (y39 == 5))) fun o3 =>
    bif o3 then
      (some (⟨(⟨(⟨false, []⟩ : T_exact_Whole), (⟨false, []⟩ : T_exact_Whole)⟩ : T_exact_Num), 5⟩ : T_ratio_number))
    else
      (Option.bind (F48 fuel d0) fun y25 =>
      Option.bind (F134 y25) fun y26 =>
      Option.bind (F99 fuel 1) fun y27 =>
      Option.bind (
        bif y1.2.2 then
          (Option.bind (F102 fuel y26.2 y27) fun y35 =>
          bif decide (y35 ≤ 0) then
            (some true)
          else
            (Option.bind (F135 fuel y26.1 y26.2) fun y36 =>
            Option.bind (F102 fuel y36 y27) fun y37 =>
            some (y37 != 0)))
        else
          (some false)) fun o4 =>
      bif o4 then
        (some (⟨(⟨(⟨false, []⟩ : T_exact_Whole), (⟨false, []⟩ : T_exact_Whole)⟩ : T_exact_Num), 5⟩ : T_ratio_number))
      else
        (Option.bind (F136 y25 2000) fun y34 =>
        bif !y34 then
          (some (⟨(⟨(⟨false, []⟩ : T_exact_Whole), (⟨false, []⟩ : T_exact_Whole)⟩ : T_exact_Num), 6⟩ : T_ratio_number))
        else
          (some (⟨y25, 0⟩ : T_ratio_number)))))
theorem F96_ok {fuel : Nat} {d0 : List UInt8} {r : T_ratio_number} (hF : F96 fuel d0 = some r) :
    CallF Tryz.prog 96 [.d (.str d0)] (.agg [.d (.bool r.Num.n_.neg), .d (.sl 1 (r.Num.n_.mag.map e_u32)), .d (.bool r.Num.d.neg), .d (.sl 1 (r.Num.d.mag.map e_u32)), .d (.int .i64 r.e)]) := by
  unfold F96 at hF
  refine callF_of (N := 61) (b := bodyOf Tryz.f96) Tryz.func96 (by kernel_rfl) rfl rfl ?_
  obtain ⟨y1, e1, hF⟩ := bnd hF
  refine J_adv 7 (J_callF (xs := [.d (.str d0), .d (.str [47])]) [.d (.str d0), .d (.str [47])] (.tup [.d (.str y1.1), .d (.str y1.2.1), .d (.bool y1.2.2)]) (by kernel_rfl) en97 (Res'.refl _) (F97_ok e1) ?_)
  refine J_adv 14 (J_bool 17 (b := !y1.2.2) (by kernel_rfl) (fun hb1 => ?_) (fun hb1 => ?_))
  · replace hF := ift hb1 hF
    obtain ⟨o1, hO, hF⟩ := bnd hF
    have hR1 : J none Tryz.prog 61 [] (finF Tryz.prog Tryz.f96 (.agg [.d (.bool r.Num.n_.neg), .d (.sl 1 (r.Num.n_.mag.map e_u32)), .d (.bool r.Num.d.neg), .d (.sl 1 (r.Num.d.mag.map e_u32)), .d (.int .i64 r.e)])) ⟨mkT [(0, .d (.str d0)), (2, .ptr 2 0), (5, .d (.bool y1.2.2)), (25, .d (.bool o1))], [(2, .box 158 [.d (.bool false), .esl 1, .d (.bool false), .esl 1, .d (.int .i64 0)])], [.ops (opsOf (cAt (bodyOf Tryz.f96) [1, 1, 1, 0, 0])) [], .code (cAt (bodyOf Tryz.f96) [1, 1, 1, 0, 1]), .code (cAt (bodyOf Tryz.f96) [1, 1, 1, 1])]⟩ := by
      clear hO
      refine J_adv 1 (J_bool 25 (b := o1) (by kernel_rfl) (fun hb4 => ?_) (fun hb4 => ?_))
      · replace hF := ift hb4 hF
        have hr_ := Option.some.inj hF; subst hr_
        exact J_adv 6 (J_ret (xs := [.agg [.d (.bool false), .d (.sl 1 ([].map e_u32)), .d (.bool false), .d (.sl 1 ([].map e_u32)), .d (.int .i64 5)]]) [.agg [.d (.bool false), .d (.sl 1 ([].map e_u32)), .d (.bool false), .d (.sl 1 ([].map e_u32)), .d (.int .i64 5)]] rfl rfl (by kernel_rfl) (Res'.refl _) rfl)
      · replace hF := iff' hb4 hF
        obtain ⟨y6, e6, hF⟩ := bnd hF
        refine J_adv 5 (J_callF (xs := [.d (.str d0)]) [.d (.str d0)] (.agg [.d (.bool y6.n_.neg), .d (.sl 1 (y6.n_.mag.map e_u32)), .d (.bool y6.d.neg), .d (.sl 1 (y6.d.mag.map e_u32))]) (by kernel_rfl) en48 (Res'.refl _) (F48_ok e6) ?_)
        obtain ⟨y7, e7, hF⟩ := bnd hF
        refine J_adv 8 (J_callF (xs := [.agg [.d (.bool y6.n_.neg), .d (.sl 1 (y6.n_.mag.map e_u32)), .d (.bool y6.d.neg), .d (.sl 1 (y6.d.mag.map e_u32))]]) [.agg [.d (.bool y6.n_.neg), .d (.sl 1 (y6.n_.mag.map e_u32)), .d (.bool y6.d.neg), .d (.sl 1 (y6.d.mag.map e_u32))]] (.tup [.agg [.d (.bool y7.1.neg), .d (.sl 1 (y7.1.mag.map e_u32))], .agg [.d (.bool y7.2.neg), .d (.sl 1 (y7.2.mag.map e_u32))]]) (by kernel_rfl) en134 (Res'.refl _) (F134_ok e7) ?_)
        obtain ⟨y8, e8, hF⟩ := bnd hF
        refine J_adv 10 (J_callF (xs := [.d (.int .i64 1)]) [.d (.int .i64 1)] (.agg [.d (.bool y8.neg), .d (.sl 1 (y8.mag.map e_u32))]) (by kernel_rfl) en99 (Res'.refl _) (F99_ok e8) ?_)
        obtain ⟨o2, hO, hF⟩ := bnd hF
        have hR2 : J none Tryz.prog 61 [] (finF Tryz.prog Tryz.f96 (.agg [.d (.bool r.Num.n_.neg), .d (.sl 1 (r.Num.n_.mag.map e_u32)), .d (.bool r.Num.d.neg), .d (.sl 1 (r.Num.d.mag.map e_u32)), .d (.int .i64 r.e)])) ⟨mkT [(2, .ptr 2 0), (6, .ptr 6 0), (37, .d (.bool o2))], [(2, .box 158 [.d (.bool false), .esl 1, .d (.bool false), .esl 1, .d (.int .i64 0)]), (6, .box 158 [.d (.bool y6.n_.neg), .d (.sl 1 (y6.n_.mag.map e_u32)), .d (.bool y6.d.neg), .d (.sl 1 (y6.d.mag.map e_u32)), .d (.int .i64 0)])], [.code (cAt (bodyOf Tryz.f96) [1, 1, 1, 1, 1, 1, 1, 0, 0, 1]), .inBlock 0, .code (cAt (bodyOf Tryz.f96) [1, 1, 1, 1, 1, 1, 1, 1])]⟩ := by
          clear hO
          refine J_adv 0 (J_bool 37 (b := o2) (by kernel_rfl) (fun hb9 => ?_) (fun hb9 => ?_))
          · replace hF := ift hb9 hF
            have hr_ := Option.some.inj hF; subst hr_
            exact J_adv 6 (J_ret (xs := [.agg [.d (.bool false), .d (.sl 1 ([].map e_u32)), .d (.bool false), .d (.sl 1 ([].map e_u32)), .d (.int .i64 5)]]) [.agg [.d (.bool false), .d (.sl 1 ([].map e_u32)), .d (.bool false), .d (.sl 1 ([].map e_u32)), .d (.int .i64 5)]] rfl rfl (by kernel_rfl) (Res'.refl _) rfl)
          · replace hF := iff' hb9 hF
            obtain ⟨y15, e15, hF⟩ := bnd hF
            refine J_adv 5 (J_callF (xs := [.agg [.d (.bool y6.n_.neg), .d (.sl 1 (y6.n_.mag.map e_u32)), .d (.bool y6.d.neg), .d (.sl 1 (y6.d.mag.map e_u32))], .d (.int .i64 2000)]) [.agg [.d (.bool y6.n_.neg), .d (.sl 1 (y6.n_.mag.map e_u32)), .d (.bool y6.d.neg), .d (.sl 1 (y6.d.mag.map e_u32))], .d (.int .i64 2000)] (.d (.bool y15)) (by kernel_rfl) en136 (Res'.refl _) (F136_ok e15) ?_)
            refine J_adv 3 (J_bool 54 (b := !y15) (by kernel_rfl) (fun hb10 => ?_) (fun hb10 => ?_))
            · replace hF := ift hb10 hF
              have hr_ := Option.some.inj hF; subst hr_
              exact J_adv 6 (J_ret (xs := [.agg [.d (.bool false), .d (.sl 1 ([].map e_u32)), .d (.bool false), .d (.sl 1 ([].map e_u32)), .d (.int .i64 6)]]) [.agg [.d (.bool false), .d (.sl 1 ([].map e_u32)), .d (.bool false), .d (.sl 1 ([].map e_u32)), .d (.int .i64 6)]] rfl rfl (by kernel_rfl) (Res'.refl _) rfl)
            · replace hF := iff' hb10 hF
              have hr_ := Option.some.inj hF; subst hr_
              exact J_adv 8 (J_ret (xs := [.agg [.d (.bool y6.n_.neg), .d (.sl 1 (y6.n_.mag.map e_u32)), .d (.bool y6.d.neg), .d (.sl 1 (y6.d.mag.map e_u32)), .d (.int .i64 0)]]) [.agg [.d (.bool y6.n_.neg), .d (.sl 1 (y6.n_.mag.map e_u32)), .d (.bool y6.d.neg), .d (.sl 1 (y6.d.mag.map e_u32)), .d (.int .i64 0)]] rfl rfl (by kernel_rfl) (Res'.refl _) rfl)
        clear hF; rename _ = some o2 => hF
        refine J_adv 6 (J_draw (by kernel_rfl) (by kernel_rfl) ?_)
        refine JD_adv 2 (JD_bool 39 (b := y1.2.2) (by kernel_rfl) (fun hb11 => ?_) (fun hb11 => ?_))
        · replace hF := ift hb11 hF
          obtain ⟨y16, e16, hF⟩ := bnd hF
          refine JD_adv 2 (JD_callF (xs := [.agg [.d (.bool y7.2.neg), .d (.sl 1 (y7.2.mag.map e_u32))], .agg [.d (.bool y8.neg), .d (.sl 1 (y8.mag.map e_u32))]]) [.agg [.d (.bool y7.2.neg), .d (.sl 1 (y7.2.mag.map e_u32))], .agg [.d (.bool y8.neg), .d (.sl 1 (y8.mag.map e_u32))]] (.d (.int .i64 y16)) (by kernel_rfl) (by kernel_rfl) en102 (Res'.refl _) (F102_ok e16) ?_)
          refine JD_adv 2 (JD_bool 44 (b := decide (y16 ≤ 0)) (by kernel_rfl) (fun hb12 => ?_) (fun hb12 => ?_))
          · replace hF := ift hb12 hF
            refine JD_adv 9 (JD_end (by kernel_rfl) ?_)
            have hr_ := Option.some.inj hF; subst hr_
            exact J_adv 0 (J_at [2, 6, 37] [2, 6] (T0 := [.code (cAt (bodyOf Tryz.f96) [1, 1, 1, 1, 1, 1, 1, 0, 0, 1]), .inBlock 0, .code (cAt (bodyOf Tryz.f96) [1, 1, 1, 1, 1, 1, 1, 1])]) (by kernel_rfl) rfl hR2)
          · replace hF := iff' hb12 hF
            obtain ⟨y17, e17, hF⟩ := bnd hF
            refine JD_adv 2 (JD_callF (xs := [.agg [.d (.bool y7.1.neg), .d (.sl 1 (y7.1.mag.map e_u32))], .agg [.d (.bool y7.2.neg), .d (.sl 1 (y7.2.mag.map e_u32))]]) [.agg [.d (.bool y7.1.neg), .d (.sl 1 (y7.1.mag.map e_u32))], .agg [.d (.bool y7.2.neg), .d (.sl 1 (y7.2.mag.map e_u32))]] (.agg [.d (.bool y17.neg), .d (.sl 1 (y17.mag.map e_u32))]) (by kernel_rfl) (by kernel_rfl) en135 (Res'.refl _) (F135_ok e17) ?_)
            obtain ⟨y18, e18, hF⟩ := bnd hF
            refine JD_adv 1 (JD_callF (xs := [.agg [.d (.bool y17.neg), .d (.sl 1 (y17.mag.map e_u32))], .agg [.d (.bool y8.neg), .d (.sl 1 (y8.mag.map e_u32))]]) [.agg [.d (.bool y17.neg), .d (.sl 1 (y17.mag.map e_u32))], .agg [.d (.bool y8.neg), .d (.sl 1 (y8.mag.map e_u32))]] (.d (.int .i64 y18)) (by kernel_rfl) (by kernel_rfl) en102 (Res'.refl _) (F102_ok e18) ?_)
            refine JD_adv 4 (JD_end (by kernel_rfl) ?_)
            have hr_ := Option.some.inj hF; subst hr_
            exact J_adv 0 (J_at [2, 6, 37] [2, 6] (T0 := [.code (cAt (bodyOf Tryz.f96) [1, 1, 1, 1, 1, 1, 1, 0, 0, 1]), .inBlock 0, .code (cAt (bodyOf Tryz.f96) [1, 1, 1, 1, 1, 1, 1, 1])]) (by kernel_rfl) rfl hR2)
        · replace hF := iff' hb11 hF
          refine JD_adv 14 (JD_end (by kernel_rfl) ?_)
          have hr_ := Option.some.inj hF; subst hr_
          exact J_adv 0 (J_at [2, 6, 37] [2, 6] (T0 := [.code (cAt (bodyOf Tryz.f96) [1, 1, 1, 1, 1, 1, 1, 0, 0, 1]), .inBlock 0, .code (cAt (bodyOf Tryz.f96) [1, 1, 1, 1, 1, 1, 1, 1])]) (by kernel_rfl) rfl hR2)
    clear hF; rename _ = some o1 => hF
    obtain ⟨y19, e19, hF⟩ := bnd hF
    refine J_adv 8 (J_callF (xs := [.d (.str y1.1)]) [.d (.str y1.1)] (.d (.int .i64 y19)) (by kernel_rfl) en133 (Res'.refl _) (F133_ok e19) ?_)
    refine J_adv 2 (J_bool 21 (b := y19 == 5) (by kernel_rfl) (fun hb13 => ?_) (fun hb13 => ?_))
    · replace hF := ift hb13 hF
      have hr_ := Option.some.inj hF; subst hr_
      exact J_adv 4 (J_at [0, 2, 5, 25] [2] (T0 := [.ops (opsOf (cAt (bodyOf Tryz.f96) [1, 1, 1, 0, 0])) [], .code (cAt (bodyOf Tryz.f96) [1, 1, 1, 0, 1]), .code (cAt (bodyOf Tryz.f96) [1, 1, 1, 1])]) (by kernel_rfl) rfl hR1)
    · replace hF := iff' hb13 hF
      obtain ⟨y20, e20, hF⟩ := bnd hF
      refine J_adv 1 (J_callF (xs := [.d (.str [49])]) [.d (.str [49])] (.d (.int .i64 y20)) (by kernel_rfl) en133 (Res'.refl _) (F133_ok e20) ?_)
      have hr_ := Option.some.inj hF; subst hr_
      exact J_adv 2 (J_at [0, 2, 5, 25] [2] (T0 := [.ops (opsOf (cAt (bodyOf Tryz.f96) [1, 1, 1, 0, 0])) [], .code (cAt (bodyOf Tryz.f96) [1, 1, 1, 0, 1]), .code (cAt (bodyOf Tryz.f96) [1, 1, 1, 1])]) (by kernel_rfl) rfl hR1)
  · replace hF := iff' hb1 hF
    obtain ⟨o3, hO, hF⟩ := bnd hF
    have hR3 : J none Tryz.prog 61 [] (finF Tryz.prog Tryz.f96 (.agg [.d (.bool r.Num.n_.neg), .d (.sl 1 (r.Num.n_.mag.map e_u32)), .d (.bool r.Num.d.neg), .d (.sl 1 (r.Num.d.mag.map e_u32)), .d (.int .i64 r.e)])) ⟨mkT [(0, .d (.str d0)), (2, .ptr 2 0), (5, .d (.bool y1.2.2)), (25, .d (.bool o3))], [(2, .box 158 [.d (.bool false), .esl 1, .d (.bool false), .esl 1, .d (.int .i64 0)])], [.ops (opsOf (cAt (bodyOf Tryz.f96) [1, 1, 1, 0, 0])) [], .code (cAt (bodyOf Tryz.f96) [1, 1, 1, 0, 1]), .code (cAt (bodyOf Tryz.f96) [1, 1, 1, 1])]⟩ := by
      clear hO
      refine J_adv 1 (J_bool 25 (b := o3) (by kernel_rfl) (fun hb16 => ?_) (fun hb16 => ?_))
      · replace hF := ift hb16 hF
        have hr_ := Option.some.inj hF; subst hr_
        exact J_adv 6 (J_ret (xs := [.agg [.d (.bool false), .d (.sl 1 ([].map e_u32)), .d (.bool false), .d (.sl 1 ([].map e_u32)), .d (.int .i64 5)]]) [.agg [.d (.bool false), .d (.sl 1 ([].map e_u32)), .d (.bool false), .d (.sl 1 ([].map e_u32)), .d (.int .i64 5)]] rfl rfl (by kernel_rfl) (Res'.refl _) rfl)
      · replace hF := iff' hb16 hF
        obtain ⟨y25, e25, hF⟩ := bnd hF
        refine J_adv 5 (J_callF (xs := [.d (.str d0)]) [.d (.str d0)] (.agg [.d (.bool y25.n_.neg), .d (.sl 1 (y25.n_.mag.map e_u32)), .d (.bool y25.d.neg), .d (.sl 1 (y25.d.mag.map e_u32))]) (by kernel_rfl) en48 (Res'.refl _) (F48_ok e25) ?_)
        obtain ⟨y26, e26, hF⟩ := bnd hF
        refine J_adv 8 (J_callF (xs := [.agg [.d (.bool y25.n_.neg), .d (.sl 1 (y25.n_.mag.map e_u32)), .d (.bool y25.d.neg), .d (.sl 1 (y25.d.mag.map e_u32))]]) [.agg [.d (.bool y25.n_.neg), .d (.sl 1 (y25.n_.mag.map e_u32)), .d (.bool y25.d.neg), .d (.sl 1 (y25.d.mag.map e_u32))]] (.tup [.agg [.d (.bool y26.1.neg), .d (.sl 1 (y26.1.mag.map e_u32))], .agg [.d (.bool y26.2.neg), .d (.sl 1 (y26.2.mag.map e_u32))]]) (by kernel_rfl) en134 (Res'.refl _) (F134_ok e26) ?_)
        obtain ⟨y27, e27, hF⟩ := bnd hF
        refine J_adv 10 (J_callF (xs := [.d (.int .i64 1)]) [.d (.int .i64 1)] (.agg [.d (.bool y27.neg), .d (.sl 1 (y27.mag.map e_u32))]) (by kernel_rfl) en99 (Res'.refl _) (F99_ok e27) ?_)
        obtain ⟨o4, hO, hF⟩ := bnd hF
        have hR4 : J none Tryz.prog 61 [] (finF Tryz.prog Tryz.f96 (.agg [.d (.bool r.Num.n_.neg), .d (.sl 1 (r.Num.n_.mag.map e_u32)), .d (.bool r.Num.d.neg), .d (.sl 1 (r.Num.d.mag.map e_u32)), .d (.int .i64 r.e)])) ⟨mkT [(2, .ptr 2 0), (6, .ptr 6 0), (37, .d (.bool o4))], [(2, .box 158 [.d (.bool false), .esl 1, .d (.bool false), .esl 1, .d (.int .i64 0)]), (6, .box 158 [.d (.bool y25.n_.neg), .d (.sl 1 (y25.n_.mag.map e_u32)), .d (.bool y25.d.neg), .d (.sl 1 (y25.d.mag.map e_u32)), .d (.int .i64 0)])], [.code (cAt (bodyOf Tryz.f96) [1, 1, 1, 1, 1, 1, 1, 0, 0, 1]), .inBlock 0, .code (cAt (bodyOf Tryz.f96) [1, 1, 1, 1, 1, 1, 1, 1])]⟩ := by
          clear hO
          refine J_adv 0 (J_bool 37 (b := o4) (by kernel_rfl) (fun hb21 => ?_) (fun hb21 => ?_))
          · replace hF := ift hb21 hF
            have hr_ := Option.some.inj hF; subst hr_
            exact J_adv 6 (J_ret (xs := [.agg [.d (.bool false), .d (.sl 1 ([].map e_u32)), .d (.bool false), .d (.sl 1 ([].map e_u32)), .d (.int .i64 5)]]) [.agg [.d (.bool false), .d (.sl 1 ([].map e_u32)), .d (.bool false), .d (.sl 1 ([].map e_u32)), .d (.int .i64 5)]] rfl rfl (by kernel_rfl) (Res'.refl _) rfl)
          · replace hF := iff' hb21 hF
            obtain ⟨y34, e34, hF⟩ := bnd hF
            refine J_adv 5 (J_callF (xs := [.agg [.d (.bool y25.n_.neg), .d (.sl 1 (y25.n_.mag.map e_u32)), .d (.bool y25.d.neg), .d (.sl 1 (y25.d.mag.map e_u32))], .d (.int .i64 2000)]) [.agg [.d (.bool y25.n_.neg), .d (.sl 1 (y25.n_.mag.map e_u32)), .d (.bool y25.d.neg), .d (.sl 1 (y25.d.mag.map e_u32))], .d (.int .i64 2000)] (.d (.bool y34)) (by kernel_rfl) en136 (Res'.refl _) (F136_ok e34) ?_)
            refine J_adv 3 (J_bool 54 (b := !y34) (by kernel_rfl) (fun hb22 => ?_) (fun hb22 => ?_))
            · replace hF := ift hb22 hF
              have hr_ := Option.some.inj hF; subst hr_
              exact J_adv 6 (J_ret (xs := [.agg [.d (.bool false), .d (.sl 1 ([].map e_u32)), .d (.bool false), .d (.sl 1 ([].map e_u32)), .d (.int .i64 6)]]) [.agg [.d (.bool false), .d (.sl 1 ([].map e_u32)), .d (.bool false), .d (.sl 1 ([].map e_u32)), .d (.int .i64 6)]] rfl rfl (by kernel_rfl) (Res'.refl _) rfl)
            · replace hF := iff' hb22 hF
              have hr_ := Option.some.inj hF; subst hr_
              exact J_adv 8 (J_ret (xs := [.agg [.d (.bool y25.n_.neg), .d (.sl 1 (y25.n_.mag.map e_u32)), .d (.bool y25.d.neg), .d (.sl 1 (y25.d.mag.map e_u32)), .d (.int .i64 0)]]) [.agg [.d (.bool y25.n_.neg), .d (.sl 1 (y25.n_.mag.map e_u32)), .d (.bool y25.d.neg), .d (.sl 1 (y25.d.mag.map e_u32)), .d (.int .i64 0)]] rfl rfl (by kernel_rfl) (Res'.refl _) rfl)
        clear hF; rename _ = some o4 => hF
        refine J_adv 6 (J_draw (by kernel_rfl) (by kernel_rfl) ?_)
        refine JD_adv 2 (JD_bool 39 (b := y1.2.2) (by kernel_rfl) (fun hb23 => ?_) (fun hb23 => ?_))
        · replace hF := ift hb23 hF
          obtain ⟨y35, e35, hF⟩ := bnd hF
          refine JD_adv 2 (JD_callF (xs := [.agg [.d (.bool y26.2.neg), .d (.sl 1 (y26.2.mag.map e_u32))], .agg [.d (.bool y27.neg), .d (.sl 1 (y27.mag.map e_u32))]]) [.agg [.d (.bool y26.2.neg), .d (.sl 1 (y26.2.mag.map e_u32))], .agg [.d (.bool y27.neg), .d (.sl 1 (y27.mag.map e_u32))]] (.d (.int .i64 y35)) (by kernel_rfl) (by kernel_rfl) en102 (Res'.refl _) (F102_ok e35) ?_)
          refine JD_adv 2 (JD_bool 44 (b := decide (y35 ≤ 0)) (by kernel_rfl) (fun hb24 => ?_) (fun hb24 => ?_))
          · replace hF := ift hb24 hF
            refine JD_adv 9 (JD_end (by kernel_rfl) ?_)
            have hr_ := Option.some.inj hF; subst hr_
            exact J_adv 0 (J_at [2, 6, 37] [2, 6] (T0 := [.code (cAt (bodyOf Tryz.f96) [1, 1, 1, 1, 1, 1, 1, 0, 0, 1]), .inBlock 0, .code (cAt (bodyOf Tryz.f96) [1, 1, 1, 1, 1, 1, 1, 1])]) (by kernel_rfl) rfl hR4)
          · replace hF := iff' hb24 hF
            obtain ⟨y36, e36, hF⟩ := bnd hF
            refine JD_adv 2 (JD_callF (xs := [.agg [.d (.bool y26.1.neg), .d (.sl 1 (y26.1.mag.map e_u32))], .agg [.d (.bool y26.2.neg), .d (.sl 1 (y26.2.mag.map e_u32))]]) [.agg [.d (.bool y26.1.neg), .d (.sl 1 (y26.1.mag.map e_u32))], .agg [.d (.bool y26.2.neg), .d (.sl 1 (y26.2.mag.map e_u32))]] (.agg [.d (.bool y36.neg), .d (.sl 1 (y36.mag.map e_u32))]) (by kernel_rfl) (by kernel_rfl) en135 (Res'.refl _) (F135_ok e36) ?_)
            obtain ⟨y37, e37, hF⟩ := bnd hF
            refine JD_adv 1 (JD_callF (xs := [.agg [.d (.bool y36.neg), .d (.sl 1 (y36.mag.map e_u32))], .agg [.d (.bool y27.neg), .d (.sl 1 (y27.mag.map e_u32))]]) [.agg [.d (.bool y36.neg), .d (.sl 1 (y36.mag.map e_u32))], .agg [.d (.bool y27.neg), .d (.sl 1 (y27.mag.map e_u32))]] (.d (.int .i64 y37)) (by kernel_rfl) (by kernel_rfl) en102 (Res'.refl _) (F102_ok e37) ?_)
            refine JD_adv 4 (JD_end (by kernel_rfl) ?_)
            have hr_ := Option.some.inj hF; subst hr_
            exact J_adv 0 (J_at [2, 6, 37] [2, 6] (T0 := [.code (cAt (bodyOf Tryz.f96) [1, 1, 1, 1, 1, 1, 1, 0, 0, 1]), .inBlock 0, .code (cAt (bodyOf Tryz.f96) [1, 1, 1, 1, 1, 1, 1, 1])]) (by kernel_rfl) rfl hR4)
        · replace hF := iff' hb23 hF
          refine JD_adv 14 (JD_end (by kernel_rfl) ?_)
          have hr_ := Option.some.inj hF; subst hr_
          exact J_adv 0 (J_at [2, 6, 37] [2, 6] (T0 := [.code (cAt (bodyOf Tryz.f96) [1, 1, 1, 1, 1, 1, 1, 0, 0, 1]), .inBlock 0, .code (cAt (bodyOf Tryz.f96) [1, 1, 1, 1, 1, 1, 1, 1])]) (by kernel_rfl) rfl hR4)
    clear hF; rename _ = some o3 => hF
    obtain ⟨y38, e38, hF⟩ := bnd hF
    refine J_adv 6 (J_callF (xs := [.d (.str y1.1)]) [.d (.str y1.1)] (.d (.int .i64 y38)) (by kernel_rfl) en133 (Res'.refl _) (F133_ok e38) ?_)
    refine J_adv 2 (J_bool 21 (b := y38 == 5) (by kernel_rfl) (fun hb25 => ?_) (fun hb25 => ?_))
    · replace hF := ift hb25 hF
      have hr_ := Option.some.inj hF; subst hr_
      exact J_adv 4 (J_at [0, 2, 5, 25] [2] (T0 := [.ops (opsOf (cAt (bodyOf Tryz.f96) [1, 1, 1, 0, 0])) [], .code (cAt (bodyOf Tryz.f96) [1, 1, 1, 0, 1]), .code (cAt (bodyOf Tryz.f96) [1, 1, 1, 1])]) (by kernel_rfl) rfl hR3)
    · replace hF := iff' hb25 hF
      obtain ⟨y39, e39, hF⟩ := bnd hF
      refine J_adv 1 (J_callF (xs := [.d (.str y1.2.1)]) [.d (.str y1.2.1)] (.d (.int .i64 y39)) (by kernel_rfl) en133 (Res'.refl _) (F133_ok e39) ?_)
      have hr_ := Option.some.inj hF; subst hr_
      exact J_adv 2 (J_at [0, 2, 5, 25] [2] (T0 := [.ops (opsOf (cAt (bodyOf Tryz.f96) [1, 1, 1, 0, 0])) [], .code (cAt (bodyOf Tryz.f96) [1, 1, 1, 0, 1]), .code (cAt (bodyOf Tryz.f96) [1, 1, 1, 1])]) (by kernel_rfl) rfl hR3)
/- croupier/ratio.Check -/
def F47 (fuel : Nat) (d0 : List UInt8) : Option Int :=
  Option.bind (F96 fuel d0) fun y1 =>
  some y1.e
theorem F47_ok {fuel : Nat} {d0 : List UInt8} {r : Int} (hF : F47 fuel d0 = some r) :
    CallF Tryz.prog 47 [.d (.str d0)] (.d (.int .i64 r)) := by
  unfold F47 at hF
  refine callF_of (N := 6) (b := bodyOf Tryz.f47) Tryz.func47 (by kernel_rfl) rfl rfl ?_
  obtain ⟨y1, e1, hF⟩ := bnd hF
  refine J_adv 7 (J_callF (xs := [.d (.str d0)]) [.d (.str d0)] (.agg [.d (.bool y1.Num.n_.neg), .d (.sl 1 (y1.Num.n_.mag.map e_u32)), .d (.bool y1.Num.d.neg), .d (.sl 1 (y1.Num.d.mag.map e_u32)), .d (.int .i64 y1.e)]) (by kernel_rfl) en96 (Res'.refl _) (F96_ok e1) ?_)
  have hr_ := Option.some.inj hF; subst hr_
  exact J_adv 3 (J_ret (xs := [.d (.int .i64 y1.e)]) [.d (.int .i64 y1.e)] rfl rfl (by kernel_rfl) (Res'.refl _) rfl)
/- croupier/ratio.Short -/
def F191 (fuel : Nat) (d0 : List UInt8) : Option Bool :=
  Option.bind (F96 fuel d0) fun y1 =>
  Option.bind (
    bif y1.e == 0 then
      (Option.bind (F136 y1.Num 4) fun y4 =>
      some y4)
    else
      (some false)) fun o1 =>
  some o1
theorem F191_ok {fuel : Nat} {d0 : List UInt8} {r : Bool} (hF : F191 fuel d0 = some r) :
    CallF Tryz.prog 191 [.d (.str d0)] (.d (.bool r)) := by
  unfold F191 at hF
  refine callF_of (N := 14) (b := bodyOf Tryz.f191) Tryz.func191 (by kernel_rfl) rfl rfl ?_
  obtain ⟨y1, e1, hF⟩ := bnd hF
  refine J_adv 7 (J_callF (xs := [.d (.str d0)]) [.d (.str d0)] (.agg [.d (.bool y1.Num.n_.neg), .d (.sl 1 (y1.Num.n_.mag.map e_u32)), .d (.bool y1.Num.d.neg), .d (.sl 1 (y1.Num.d.mag.map e_u32)), .d (.int .i64 y1.e)]) (by kernel_rfl) en96 (Res'.refl _) (F96_ok e1) ?_)
  obtain ⟨o1, hO, hF⟩ := bnd hF
  have hR1 : J none Tryz.prog 14 [] (finF Tryz.prog Tryz.f191 (.d (.bool r))) ⟨mkT [(2, .d (.bool o1))], [], [.ops (opsOf (cAt (bodyOf Tryz.f191) [1, 1, 0])) [], .code (cAt (bodyOf Tryz.f191) [1, 1, 1])]⟩ := by
    clear hO
    have hr_ := Option.some.inj hF; subst hr_
    exact J_adv 1 (J_ret (xs := [.d (.bool o1)]) [.d (.bool o1)] rfl rfl (by kernel_rfl) (Res'.refl _) rfl)
  clear hF; rename _ = some o1 => hF
  refine J_adv 9 (J_bool 9 (b := y1.e == 0) (by kernel_rfl) (fun hb3 => ?_) (fun hb3 => ?_))
  · replace hF := ift hb3 hF
    obtain ⟨y4, e4, hF⟩ := bnd hF
    refine J_adv 2 (J_callF (xs := [.agg [.d (.bool y1.Num.n_.neg), .d (.sl 1 (y1.Num.n_.mag.map e_u32)), .d (.bool y1.Num.d.neg), .d (.sl 1 (y1.Num.d.mag.map e_u32))], .d (.int .i64 4)]) [.agg [.d (.bool y1.Num.n_.neg), .d (.sl 1 (y1.Num.n_.mag.map e_u32)), .d (.bool y1.Num.d.neg), .d (.sl 1 (y1.Num.d.mag.map e_u32))], .d (.int .i64 4)] (.d (.bool y4)) (by kernel_rfl) en136 (Res'.refl _) (F136_ok e4) ?_)
    have hr_ := Option.some.inj hF; subst hr_
    exact J_adv 2 (J_at [2] [] (T0 := [.ops (opsOf (cAt (bodyOf Tryz.f191) [1, 1, 0])) [], .code (cAt (bodyOf Tryz.f191) [1, 1, 1])]) (by kernel_rfl) rfl hR1)
  · replace hF := iff' hb3 hF
    have hr_ := Option.some.inj hF; subst hr_
    exact J_adv 5 (J_at [2] [] (T0 := [.ops (opsOf (cAt (bodyOf Tryz.f191) [1, 1, 0])) [], .code (cAt (bodyOf Tryz.f191) [1, 1, 1])]) (by kernel_rfl) rfl hR1)
/- croupier/ratio.Parts -/
def F251 (fuel : Nat) (d0 : List UInt8) : Option (List UInt8 × List UInt8 × Int) :=
  Option.bind (F96 fuel d0) fun y1 =>
  bif y1.e != 0 then
    (some ([], [], y1.e))
  else
    (Option.bind (F134 y1.Num) fun y2 =>
    Option.bind (F127 fuel y2.1) fun y3 =>
    Option.bind (F127 fuel y2.2) fun y4 =>
    some (y3, y4, 0))
theorem F251_ok {fuel : Nat} {d0 : List UInt8} {r : List UInt8 × List UInt8 × Int} (hF : F251 fuel d0 = some r) :
    CallF Tryz.prog 251 [.d (.str d0)] (.tup [.d (.str r.1), .d (.str r.2.1), .d (.int .i64 r.2.2)]) := by
  unfold F251 at hF
  refine callF_of (N := 25) (b := bodyOf Tryz.f251) Tryz.func251 (by kernel_rfl) rfl rfl ?_
  obtain ⟨y1, e1, hF⟩ := bnd hF
  refine J_adv 9 (J_callF (xs := [.d (.str d0)]) [.d (.str d0)] (.agg [.d (.bool y1.Num.n_.neg), .d (.sl 1 (y1.Num.n_.mag.map e_u32)), .d (.bool y1.Num.d.neg), .d (.sl 1 (y1.Num.d.mag.map e_u32)), .d (.int .i64 y1.e)]) (by kernel_rfl) en96 (Res'.refl _) (F96_ok e1) ?_)
  refine J_adv 10 (J_bool 12 (b := y1.e != 0) (by kernel_rfl) (fun hb1 => ?_) (fun hb1 => ?_))
  · replace hF := ift hb1 hF
    refine J_adv 2 (J_draw (by kernel_rfl) (by kernel_rfl) ?_)
    refine JD_adv 5 (JD_end (by kernel_rfl) ?_)
    have hr_ := Option.some.inj hF; subst hr_
    exact J_adv 0 (J_ret (xs := [.d (.str []), .d (.str []), .d (.int .i64 y1.e)]) [.d (.str []), .d (.str []), .d (.int .i64 y1.e)] rfl rfl (by kernel_rfl) (Res'.refl _) rfl)
  · replace hF := iff' hb1 hF
    obtain ⟨y2, e2, hF⟩ := bnd hF
    refine J_adv 6 (J_callF (xs := [.agg [.d (.bool y1.Num.n_.neg), .d (.sl 1 (y1.Num.n_.mag.map e_u32)), .d (.bool y1.Num.d.neg), .d (.sl 1 (y1.Num.d.mag.map e_u32))]]) [.agg [.d (.bool y1.Num.n_.neg), .d (.sl 1 (y1.Num.n_.mag.map e_u32)), .d (.bool y1.Num.d.neg), .d (.sl 1 (y1.Num.d.mag.map e_u32))]] (.tup [.agg [.d (.bool y2.1.neg), .d (.sl 1 (y2.1.mag.map e_u32))], .agg [.d (.bool y2.2.neg), .d (.sl 1 (y2.2.mag.map e_u32))]]) (by kernel_rfl) en134 (Res'.refl _) (F134_ok e2) ?_)
    refine J_adv 9 (J_draw (by kernel_rfl) (by kernel_rfl) ?_)
    obtain ⟨y3, e3, hF⟩ := bnd hF
    refine JD_adv 1 (JD_callF (xs := [.agg [.d (.bool y2.1.neg), .d (.sl 1 (y2.1.mag.map e_u32))]]) [.agg [.d (.bool y2.1.neg), .d (.sl 1 (y2.1.mag.map e_u32))]] (.d (.str y3)) (by kernel_rfl) (by kernel_rfl) en127 (Res'.refl _) (F127_ok e3) ?_)
    obtain ⟨y4, e4, hF⟩ := bnd hF
    refine JD_adv 1 (JD_callF (xs := [.agg [.d (.bool y2.2.neg), .d (.sl 1 (y2.2.mag.map e_u32))]]) [.agg [.d (.bool y2.2.neg), .d (.sl 1 (y2.2.mag.map e_u32))]] (.d (.str y4)) (by kernel_rfl) (by kernel_rfl) en127 (Res'.refl _) (F127_ok e4) ?_)
    refine JD_adv 3 (JD_end (by kernel_rfl) ?_)
    have hr_ := Option.some.inj hF; subst hr_
    exact J_adv 0 (J_ret (xs := [.d (.str y3), .d (.str y4), .d (.int .i64 0)]) [.d (.str y3), .d (.str y4), .d (.int .i64 0)] rfl rfl (by kernel_rfl) (Res'.refl _) rfl)
end Go.Proofs.YtfgbhfphjmmiaaaGreatDoor
end
