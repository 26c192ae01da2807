import Derived.Test.YtljkgnjmigmcgaaFA
import Derived.KernelRfl
set_option linter.unusedVariables false
set_option maxRecDepth 100000
namespace Go.Proofs.Ytljkgnjmigmcgaa
open Go Go.RowKit Kx

theorem en11 : entersT Try.prog 11 := enters_of Try.func11 (by kernel_rfl) (by kernel_rfl)
theorem en12 : entersT Try.prog 12 := enters_of Try.func12 (by kernel_rfl) (by kernel_rfl)

structure A_a4i8 where
  a0 : Int
  a1 : Int
  a2 : Int
  a3 : Int
  deriving DecidableEq
structure T_croupierref30_Draft where
  Wide : Int
  Rows : List A_a4i8
  C : List Int
  Few : Bool
  deriving DecidableEq
def e_a4i8 (x : A_a4i8) : List Dat := [.int .i8 x.a0, .int .i8 x.a1, .int .i8 x.a2, .int .i8 x.a3]
def e_u8 (x : Int) : List Dat := [.int .u8 x]
def e_i8 (x : Int) : List Dat := [.int .i8 x]
/- (croupier/croupierref30.Draft).Table -/
def F12_L2 (d0 : T_croupierref30_Draft) (l29 : List Int) (l30 : List (List Int)) (v6 : Int) (rec_F12_L1 : Int → (List Int) → (List (List Int)) → Option (List (List Int) × List Int)) : Nat → Int → (List Int) → Option (List (List Int) × List Int)
  | 0, _, _ => none
  | n_F12_L2 + 1, v8, l36 =>
    bif decide (v8 < (IntKind.i64.wrap (1 + (IntKind.i64.wrap (Int.tmod d0.Wide 4))))) then
      (Option.bind (geti d0.Rows v6) fun y19 =>
      Option.bind (geti [y19.a0, y19.a1, y19.a2, y19.a3] v8) fun y20 =>
      bif d0.Few then
        (Option.bind (app l36 [Int.tmod (Int.tmod (IntKind.i64.wrap y20) 100) 3]) fun l37 =>
        (F12_L2 d0 l29 l30 v6 rec_F12_L1 n_F12_L2) (IntKind.i64.wrap (v8 + 1)) l37)
      else
        (Option.bind (app l36 [Int.tmod (IntKind.i64.wrap y20) 100]) fun l38 =>
        (F12_L2 d0 l29 l30 v6 rec_F12_L1 n_F12_L2) (IntKind.i64.wrap (v8 + 1)) l38))
    else
      (Option.bind (app l30 [l36]) fun l39 =>
      bif decide (v6 < ((d0.C.map e_u8).length : Int)) then
        (Option.bind (geti d0.C v6) fun y21 =>
        bif d0.Few then
          (Option.bind (app l29 [Int.tmod (IntKind.i64.wrap (Int.tmod y21 4)) 2]) fun l40 =>
          rec_F12_L1 (IntKind.i64.wrap (v6 + 1)) l40 l39)
        else
          (Option.bind (app l29 [IntKind.i64.wrap (Int.tmod y21 4)]) fun l41 =>
          rec_F12_L1 (IntKind.i64.wrap (v6 + 1)) l41 l39))
      else
        (bif d0.Few then
          (Option.bind (app l29 [Int.tmod 0 2]) fun l42 =>
          rec_F12_L1 (IntKind.i64.wrap (v6 + 1)) l42 l39)
        else
          (Option.bind (app l29 [0]) fun l43 =>
          rec_F12_L1 (IntKind.i64.wrap (v6 + 1)) l43 l39)))
def F12_L1 (fuel : Nat) (d0 : T_croupierref30_Draft) : Nat → Int → (List Int) → (List (List Int)) → Option (List (List Int) × List Int)
  | 0, _, _, _ => none
  | n_F12_L1 + 1, v6, l29, l30 =>
    Option.bind (
      bif decide (v6 < ((d0.Rows.map e_a4i8).length : Int)) then
        (some (decide (v6 < 6)))
      else
        (some false)) fun o3 =>
    bif o3 then
      (F12_L2 d0 l29 l30 v6 (F12_L1 fuel d0 n_F12_L1) fuel 0 [])
    else
      (bif ((l30.map e_li64).length : Int) == 0 then
        (Option.bind (mkL (IntKind.i64.wrap (1 + (IntKind.i64.wrap (Int.tmod d0.Wide 4)))) (IntKind.i64.wrap (1 + (IntKind.i64.wrap (Int.tmod d0.Wide 4)))) 0) fun l44 =>
        some ([l44], [1]))
      else
        (some (l30, l29)))
def F12 (fuel : Nat) (d0 : T_croupierref30_Draft) : Option (List (List Int) × List Int) :=
  F12_L1 fuel d0 fuel 0 [] []
theorem F12_ok {fuel : Nat} {d0 : T_croupierref30_Draft} {r : List (List Int) × List Int} (hF : F12 fuel d0 = some r) :
    CallF Try.prog 12 [.agg [.d (.int .u8 d0.Wide), .d (.sl 4 (d0.Rows.map e_a4i8)), .d (.sl 1 (d0.C.map e_u8)), .d (.bool d0.Few)]] (.tup [.d (.sl 1 (r.1.map e_li64)), .d (.sl 1 (r.2.map e_i64))]) := by
  unfold F12 at hF
  refine callF_of (N := 83) (b := bodyOf Try.f12) Try.func12 (by kernel_rfl) rfl rfl ?_
  have hF12_L1 : ∀ (n_F12_L1 : Nat) (v6 : Int) (l29 : List Int) (l30 : List (List Int)), F12_L1 fuel d0 n_F12_L1 v6 l29 l30 = some r → J none Try.prog 83 [] (finF Try.prog Try.f12 (.tup [.d (.sl 1 (r.1.map e_li64)), .d (.sl 1 (r.2.map e_i64))])) ⟨mkT [(1, .ptr 1 0), (4, .d (.int .i64 (IntKind.i64.wrap (1 + (IntKind.i64.wrap (Int.tmod d0.Wide 4)))))), (5, .suf 53 0 0), (6, .suf 73 0 0), (7, .d (.int .i64 v6))], [(1, .box [.d (.int .u8 d0.Wide), .d (.sl 4 (d0.Rows.map e_a4i8)), .d (.sl 1 (d0.C.map e_u8)), .d (.bool d0.Few)]), (53, .buf 0 31 1 (l30.map e_li64)), (73, .buf 0 3 1 (l29.map e_i64))], [.inLoop (cAt (bodyOf Try.f12) [1, 1, 1, 1, 0, 1, 0, 0]), .inBlock 0, .code (cAt (bodyOf Try.f12) [1, 1, 1, 1, 1])]⟩ := by
    clear hF; intro n_F12_L1
    induction n_F12_L1 with
    | zero => intro v6 l29 l30 hF; cases hF
    | succ n_F12_L1 ih_F12_L1 =>
      intro v6 l29 l30 hF
      rw [F12_L1] at hF
      obtain ⟨o3, hO, hF⟩ := bnd hF
      have hR3 : J none Try.prog 83 [] (finF Try.prog Try.f12 (.tup [.d (.sl 1 (r.1.map e_li64)), .d (.sl 1 (r.2.map e_i64))])) ⟨mkT [(1, .ptr 1 0), (4, .d (.int .i64 (IntKind.i64.wrap (1 + (IntKind.i64.wrap (Int.tmod d0.Wide 4)))))), (5, .suf 53 0 0), (6, .suf 73 0 0), (7, .d (.int .i64 v6)), (25, .d (.bool o3))], [(1, .box [.d (.int .u8 d0.Wide), .d (.sl 4 (d0.Rows.map e_a4i8)), .d (.sl 1 (d0.C.map e_u8)), .d (.bool d0.Few)]), (53, .buf 0 31 1 (l30.map e_li64)), (73, .buf 0 3 1 (l29.map e_i64))], [.ops (opsOf (cAt (bodyOf Try.f12) [1, 1, 1, 1, 0, 1, 0, 0, 0, 0])) [], .code (cAt (bodyOf Try.f12) [1, 1, 1, 1, 0, 1, 0, 0, 0, 1]), .code (cAt (bodyOf Try.f12) [1, 1, 1, 1, 0, 1, 0, 0, 1]), .inLoop (cAt (bodyOf Try.f12) [1, 1, 1, 1, 0, 1, 0, 0]), .inBlock 0, .code (cAt (bodyOf Try.f12) [1, 1, 1, 1, 1])]⟩ := by
        clear hO
        refine J_adv 1 (J_bool 25 (b := o3) (by kernel_rfl) (fun hb29 => ?_) (fun hb29 => ?_))
        · replace hF := ift hb29 hF
          have hF12_L2 : ∀ (n_F12_L2 : Nat) (v8 : Int) (l36 : List Int), F12_L2 d0 l29 l30 v6 (F12_L1 fuel d0 n_F12_L1) n_F12_L2 v8 l36 = some r → J none Try.prog 83 [] (finF Try.prog Try.f12 (.tup [.d (.sl 1 (r.1.map e_li64)), .d (.sl 1 (r.2.map e_i64))])) ⟨mkT [(1, .ptr 1 0), (4, .d (.int .i64 (IntKind.i64.wrap (1 + (IntKind.i64.wrap (Int.tmod d0.Wide 4)))))), (5, .suf 53 0 0), (6, .suf 73 0 0), (7, .d (.int .i64 v6)), (8, .suf 49 0 0), (9, .d (.int .i64 v8))], [(1, .box [.d (.int .u8 d0.Wide), .d (.sl 4 (d0.Rows.map e_a4i8)), .d (.sl 1 (d0.C.map e_u8)), .d (.bool d0.Few)]), (49, .buf 0 3 1 (l36.map e_i64)), (53, .buf 0 31 1 (l30.map e_li64)), (73, .buf 0 3 1 (l29.map e_i64))], [.inLoop (cAt (bodyOf Try.f12) [1, 1, 1, 1, 0, 1, 0, 0, 1, 0, 0, 1, 0, 1, 0, 0]), .inBlock 2, .code (cAt (bodyOf Try.f12) [1, 1, 1, 1, 0, 1, 0, 0, 1, 0, 0, 1, 1]), .inBlock 1, .code (cAt (bodyOf Try.f12) [1, 1, 1, 1, 0, 1, 0, 0, 1, 1]), .inLoop (cAt (bodyOf Try.f12) [1, 1, 1, 1, 0, 1, 0, 0]), .inBlock 0, .code (cAt (bodyOf Try.f12) [1, 1, 1, 1, 1])]⟩ := by
            clear hF; intro n_F12_L2
            induction n_F12_L2 with
            | zero => intro v8 l36 hF; cases hF
            | succ n_F12_L2 ih_F12_L2 =>
              intro v8 l36 hF
              rw [F12_L2] at hF
              refine J_adv 8 (J_bool 30 (b := decide (v8 < (IntKind.i64.wrap (1 + (IntKind.i64.wrap (Int.tmod d0.Wide 4)))))) (by kernel_rfl) (fun hb34 => ?_) (fun hb34 => ?_))
              · replace hF := ift hb34 hF
                obtain ⟨y19, e45, hF⟩ := bnd hF
                refine J_adv 10 (J_opt1 (o := geti (d0.Rows.map e_a4i8) v6) (e_a4i8 y19) (by kernel_rfl) (gm e45) ?_)
                obtain ⟨y20, e46, hF⟩ := bnd hF
                refine J_adv 0 (J_opt1 (o := geti (chunks 1 4 (([.int .i8 y19.a0, .int .i8 y19.a1, .int .i8 y19.a2, .int .i8 y19.a3] : List Dat).drop 0)) v8) (e_i8 y20) (by kernel_rfl) (gm (f := e_i8) e46) ?_)
                refine J_adv 11 (J_bool 43 (b := d0.Few) (by kernel_rfl) (fun hb35 => ?_) (fun hb35 => ?_))
                · replace hF := ift hb35 hF
                  obtain ⟨l37, e47, hF⟩ := bnd hF
                  refine J_adv 10 (J_opt2 (o := app2 ((l36.map e_i64).drop 0) ([Int.tmod (Int.tmod (IntKind.i64.wrap y20) 100) 3].map e_i64)) (l37.map e_i64) (by kernel_rfl) (am e47) ?_)
                  exact J_adv 8 (J_at [1, 4, 5, 6, 7, 8, 9] [1, 49, 53, 73] (T0 := [.inLoop (cAt (bodyOf Try.f12) [1, 1, 1, 1, 0, 1, 0, 0, 1, 0, 0, 1, 0, 1, 0, 0]), .inBlock 2, .code (cAt (bodyOf Try.f12) [1, 1, 1, 1, 0, 1, 0, 0, 1, 0, 0, 1, 1]), .inBlock 1, .code (cAt (bodyOf Try.f12) [1, 1, 1, 1, 0, 1, 0, 0, 1, 1]), .inLoop (cAt (bodyOf Try.f12) [1, 1, 1, 1, 0, 1, 0, 0]), .inBlock 0, .code (cAt (bodyOf Try.f12) [1, 1, 1, 1, 1])]) (by kernel_rfl) rfl (ih_F12_L2 (IntKind.i64.wrap (v8 + 1)) l37 hF))
                · replace hF := iff' hb35 hF
                  obtain ⟨l38, e48, hF⟩ := bnd hF
                  refine J_adv 6 (J_opt2 (o := app2 ((l36.map e_i64).drop 0) ([Int.tmod (IntKind.i64.wrap y20) 100].map e_i64)) (l38.map e_i64) (by kernel_rfl) (am e48) ?_)
                  exact J_adv 8 (J_at [1, 4, 5, 6, 7, 8, 9] [1, 49, 53, 73] (T0 := [.inLoop (cAt (bodyOf Try.f12) [1, 1, 1, 1, 0, 1, 0, 0, 1, 0, 0, 1, 0, 1, 0, 0]), .inBlock 2, .code (cAt (bodyOf Try.f12) [1, 1, 1, 1, 0, 1, 0, 0, 1, 0, 0, 1, 1]), .inBlock 1, .code (cAt (bodyOf Try.f12) [1, 1, 1, 1, 0, 1, 0, 0, 1, 1]), .inLoop (cAt (bodyOf Try.f12) [1, 1, 1, 1, 0, 1, 0, 0]), .inBlock 0, .code (cAt (bodyOf Try.f12) [1, 1, 1, 1, 1])]) (by kernel_rfl) rfl (ih_F12_L2 (IntKind.i64.wrap (v8 + 1)) l38 hF))
              · replace hF := iff' hb34 hF
                obtain ⟨l39, e49, hF⟩ := bnd hF
                refine J_adv 7 (J_opt2 (o := app2 ((l30.map e_li64).drop 0) ([l36].map e_li64)) (l39.map e_li64) (by kernel_rfl) (am e49) ?_)
                refine J_adv 15 (J_bool 58 (b := decide (v6 < ((d0.C.map e_u8).length : Int))) (by kernel_rfl) (fun hb36 => ?_) (fun hb36 => ?_))
                · replace hF := ift hb36 hF
                  obtain ⟨y21, e50, hF⟩ := bnd hF
                  refine J_adv 5 (J_opt1 (o := geti (d0.C.map e_u8) v6) (e_u8 y21) (by kernel_rfl) (gm e50) ?_)
                  refine J_adv 11 (J_bool 67 (b := d0.Few) (by kernel_rfl) (fun hb37 => ?_) (fun hb37 => ?_))
                  · replace hF := ift hb37 hF
                    obtain ⟨l40, e51, hF⟩ := bnd hF
                    refine J_adv 10 (J_opt2 (o := app2 ((l29.map e_i64).drop 0) ([Int.tmod (IntKind.i64.wrap (Int.tmod y21 4)) 2].map e_i64)) (l40.map e_i64) (by kernel_rfl) (am e51) ?_)
                    exact J_adv 8 (J_at [1, 4, 5, 6, 7] [1, 53, 73] (T0 := [.inLoop (cAt (bodyOf Try.f12) [1, 1, 1, 1, 0, 1, 0, 0]), .inBlock 0, .code (cAt (bodyOf Try.f12) [1, 1, 1, 1, 1])]) (by kernel_rfl) rfl (ih_F12_L1 (IntKind.i64.wrap (v6 + 1)) l40 l39 hF))
                  · replace hF := iff' hb37 hF
                    obtain ⟨l41, e52, hF⟩ := bnd hF
                    refine J_adv 6 (J_opt2 (o := app2 ((l29.map e_i64).drop 0) ([IntKind.i64.wrap (Int.tmod y21 4)].map e_i64)) (l41.map e_i64) (by kernel_rfl) (am e52) ?_)
                    exact J_adv 8 (J_at [1, 4, 5, 6, 7] [1, 53, 73] (T0 := [.inLoop (cAt (bodyOf Try.f12) [1, 1, 1, 1, 0, 1, 0, 0]), .inBlock 0, .code (cAt (bodyOf Try.f12) [1, 1, 1, 1, 1])]) (by kernel_rfl) rfl (ih_F12_L1 (IntKind.i64.wrap (v6 + 1)) l41 l39 hF))
                · replace hF := iff' hb36 hF
                  refine J_adv 8 (J_bool 67 (b := d0.Few) (by kernel_rfl) (fun hb38 => ?_) (fun hb38 => ?_))
                  · replace hF := ift hb38 hF
                    obtain ⟨l42, e53, hF⟩ := bnd hF
                    refine J_adv 10 (J_opt2 (o := app2 ((l29.map e_i64).drop 0) ([Int.tmod 0 2].map e_i64)) (l42.map e_i64) (by kernel_rfl) (am e53) ?_)
                    exact J_adv 8 (J_at [1, 4, 5, 6, 7] [1, 53, 73] (T0 := [.inLoop (cAt (bodyOf Try.f12) [1, 1, 1, 1, 0, 1, 0, 0]), .inBlock 0, .code (cAt (bodyOf Try.f12) [1, 1, 1, 1, 1])]) (by kernel_rfl) rfl (ih_F12_L1 (IntKind.i64.wrap (v6 + 1)) l42 l39 hF))
                  · replace hF := iff' hb38 hF
                    obtain ⟨l43, e54, hF⟩ := bnd hF
                    refine J_adv 6 (J_opt2 (o := app2 ((l29.map e_i64).drop 0) ([0].map e_i64)) (l43.map e_i64) (by kernel_rfl) (am e54) ?_)
                    exact J_adv 8 (J_at [1, 4, 5, 6, 7] [1, 53, 73] (T0 := [.inLoop (cAt (bodyOf Try.f12) [1, 1, 1, 1, 0, 1, 0, 0]), .inBlock 0, .code (cAt (bodyOf Try.f12) [1, 1, 1, 1, 1])]) (by kernel_rfl) rfl (ih_F12_L1 (IntKind.i64.wrap (v6 + 1)) l43 l39 hF))
          refine J_adv 15 (J_own (n := 1) 8 49 3 1 (by kernel_rfl) (by kernel_rfl) ?_)
          exact J_adv 0 (J_at [1, 4, 5, 6, 7, 8, 9] [1, 49, 53, 73] (T0 := [.inLoop (cAt (bodyOf Try.f12) [1, 1, 1, 1, 0, 1, 0, 0, 1, 0, 0, 1, 0, 1, 0, 0]), .inBlock 2, .code (cAt (bodyOf Try.f12) [1, 1, 1, 1, 0, 1, 0, 0, 1, 0, 0, 1, 1]), .inBlock 1, .code (cAt (bodyOf Try.f12) [1, 1, 1, 1, 0, 1, 0, 0, 1, 1]), .inLoop (cAt (bodyOf Try.f12) [1, 1, 1, 1, 0, 1, 0, 0]), .inBlock 0, .code (cAt (bodyOf Try.f12) [1, 1, 1, 1, 1])]) (by kernel_rfl) rfl (hF12_L2 fuel 0 [] hF))
        · replace hF := iff' hb29 hF
          refine J_adv 9 (J_bool 76 (b := ((l30.map e_li64).length : Int) == 0) (by kernel_rfl) (fun hb39 => ?_) (fun hb39 => ?_))
          · replace hF := ift hb39 hF
            obtain ⟨l44, e55, hF⟩ := bnd hF
            refine J_adv 4 (J_opt2 (o := mk2 (IntKind.i64.wrap (1 + (IntKind.i64.wrap (Int.tmod d0.Wide 4)))) (IntKind.i64.wrap (1 + (IntKind.i64.wrap (Int.tmod d0.Wide 4)))) (e_i64 0)) (l44.map e_i64) (by kernel_rfl) (mm e55) ?_)
            have hr_ := Option.some.inj hF; subst hr_
            exact J_adv 5 (J_ret (xs := [.d (.sl 1 ([l44].map e_li64)), .d (.sl 1 ([1].map e_i64))]) [.d (.sl 1 ([l44].map e_li64)), .d (.sl 1 ([1].map e_i64))] rfl rfl (by kernel_rfl) (Res'.refl _) rfl)
          · replace hF := iff' hb39 hF
            have hr_ := Option.some.inj hF; subst hr_
            exact J_adv 9 (J_ret (xs := [.d (.sl 1 (l30.map e_li64)), .d (.sl 1 (l29.map e_i64))]) [.d (.sl 1 (l30.map e_li64)), .d (.sl 1 (l29.map e_i64))] rfl rfl (by kernel_rfl) (Res'.refl _) rfl)
      clear hF; rename _ = some o3 => hF
      refine J_adv 10 (J_bool 22 (b := decide (v6 < ((d0.Rows.map e_a4i8).length : Int))) (by kernel_rfl) (fun hb40 => ?_) (fun hb40 => ?_))
      · replace hF := ift hb40 hF
        have hr_ := Option.some.inj hF; subst hr_
        exact J_adv 3 (J_at [1, 4, 5, 6, 7, 25] [1, 53, 73] (T0 := [.ops (opsOf (cAt (bodyOf Try.f12) [1, 1, 1, 1, 0, 1, 0, 0, 0, 0])) [], .code (cAt (bodyOf Try.f12) [1, 1, 1, 1, 0, 1, 0, 0, 0, 1]), .code (cAt (bodyOf Try.f12) [1, 1, 1, 1, 0, 1, 0, 0, 1]), .inLoop (cAt (bodyOf Try.f12) [1, 1, 1, 1, 0, 1, 0, 0]), .inBlock 0, .code (cAt (bodyOf Try.f12) [1, 1, 1, 1, 1])]) (by kernel_rfl) rfl hR3)
      · replace hF := iff' hb40 hF
        have hr_ := Option.some.inj hF; subst hr_
        exact J_adv 3 (J_at [1, 4, 5, 6, 7, 25] [1, 53, 73] (T0 := [.ops (opsOf (cAt (bodyOf Try.f12) [1, 1, 1, 1, 0, 1, 0, 0, 0, 0])) [], .code (cAt (bodyOf Try.f12) [1, 1, 1, 1, 0, 1, 0, 0, 0, 1]), .code (cAt (bodyOf Try.f12) [1, 1, 1, 1, 0, 1, 0, 0, 1]), .inLoop (cAt (bodyOf Try.f12) [1, 1, 1, 1, 0, 1, 0, 0]), .inBlock 0, .code (cAt (bodyOf Try.f12) [1, 1, 1, 1, 1])]) (by kernel_rfl) rfl hR3)
  refine J_adv 30 (J_own (n := 1) 5 53 31 1 (by kernel_rfl) (by kernel_rfl) ?_)
  refine J_adv 0 (J_own (n := 1) 6 73 3 1 (by kernel_rfl) (by kernel_rfl) ?_)
  exact J_adv 0 (J_at [1, 4, 5, 6, 7] [1, 53, 73] (T0 := [.inLoop (cAt (bodyOf Try.f12) [1, 1, 1, 1, 0, 1, 0, 0]), .inBlock 0, .code (cAt (bodyOf Try.f12) [1, 1, 1, 1, 1])]) (by kernel_rfl) rfl (hF12_L1 fuel 0 [] [] hF))

/- croupier/croupierlaw30.RulesTrivial -/
def F8_L2 (fuel : Nat) (d1 : Int) (y2 : List (List Int) × List Int) : Nat → Int → (List Int) → Option Bool
  | 0, _, _ => none
  | n_F8_L2 + 1, v4, l4 =>
    bif decide (v4 < ((y2.1.map e_li64).length : Int)) then
      (Option.bind (app l4 [IntKind.i64.wrap (Int.tmod d1 4)]) fun l5 =>
      (F8_L2 fuel d1 y2 n_F8_L2) (IntKind.i64.wrap (v4 + 1)) l5)
    else
      (Option.bind (F19 fuel y2.1 l4) fun y15 =>
      Option.bind (
        bif y15.2 == 0 then
          (bif ((y15.1.List.map e_T_api_Rule).length : Int) == 0 then
            (some (y15.1.Else == (IntKind.i64.wrap (Int.tmod d1 4))))
          else
            (some false))
        else
          (some false)) fun o4 =>
      some o4)
def F8_L1 (fuel : Nat) (d1 : Int) (y2 : List (List Int) × List Int) : Nat → Bool → Int → Option Bool
  | 0, _, _ => none
  | n_F8_L1 + 1, t3, v2 =>
    bif decide (v2 < ((y2.2.map e_i64).length : Int)) then
      (Option.bind (geti y2.2 v2) fun y10 =>
      Option.bind (
        bif t3 then
          (Option.bind (geti y2.2 0) fun y13 =>
          some (y10 == y13))
        else
          (some false)) fun o2 =>
      (F8_L1 fuel d1 y2 n_F8_L1) o2 (IntKind.i64.wrap (v2 + 1)))
    else
      (Option.bind (F19 fuel y2.1 y2.2) fun y14 =>
      Option.bind (
        bif y14.2 == 0 then
          (some (!((((y14.1.List.map e_T_api_Rule).length : Int) == 0) == t3)))
        else
          (some (!(false == t3)))) fun o3 =>
      bif o3 then
        (some false)
      else
        (F8_L2 fuel d1 y2 fuel 0 []))
def F8 (fuel : Nat) (d0 : T_croupierref30_Draft) (d1 : Int) : Option Bool :=
  Option.bind (F11 fuel) fun y1 =>
  bif !y1 then
    (some false)
  else
    (Option.bind (F12 fuel d0) fun y2 =>
    F8_L1 fuel d1 y2 fuel true 0)
theorem F8_ok {fuel : Nat} {d0 : T_croupierref30_Draft} {d1 : Int} {r : Bool} (hF : F8 fuel d0 d1 = some r) :
    CallF Try.prog 8 [.agg [.d (.int .u8 d0.Wide), .d (.sl 4 (d0.Rows.map e_a4i8)), .d (.sl 1 (d0.C.map e_u8)), .d (.bool d0.Few)], .d (.int .u8 d1)] (.d (.bool r)) := by
  unfold F8 at hF
  refine callF_of (N := 86) (b := bodyOf Try.f8) Try.func8 (by kernel_rfl) rfl rfl ?_
  obtain ⟨y1, e1, hF⟩ := bnd hF
  refine J_adv 8 (J_callF (xs := []) [] (.d (.bool y1)) (by kernel_rfl) en11 (Res'.refl _) (F11_ok e1) ?_)
  refine J_adv 2 (J_bool 16 (b := !y1) (by kernel_rfl) (fun hb1 => ?_) (fun hb1 => ?_))
  · replace hF := ift hb1 hF
    have hr_ := Option.some.inj hF; subst hr_
    exact J_adv 5 (J_ret (xs := [.d (.bool false)]) [.d (.bool false)] rfl rfl (by kernel_rfl) (Res'.refl _) rfl)
  · replace hF := iff' hb1 hF
    obtain ⟨y2, e2, hF⟩ := bnd hF
    refine J_adv 5 (J_callF (xs := [.agg [.d (.int .u8 d0.Wide), .d (.sl 4 (d0.Rows.map e_a4i8)), .d (.sl 1 (d0.C.map e_u8)), .d (.bool d0.Few)]]) [.agg [.d (.int .u8 d0.Wide), .d (.sl 4 (d0.Rows.map e_a4i8)), .d (.sl 1 (d0.C.map e_u8)), .d (.bool d0.Few)]] (.tup [.d (.sl 1 (y2.1.map e_li64)), .d (.sl 1 (y2.2.map e_i64))]) (by kernel_rfl) en12 (Res'.refl _) (F12_ok e2) ?_)
    have hF8_L1 : ∀ (n_F8_L1 : Nat) (t3 : Bool) (v2 : Int), F8_L1 fuel d1 y2 n_F8_L1 t3 v2 = some r → J none Try.prog 86 [] (finF Try.prog Try.f8 (.d (.bool r))) ⟨mkT [(1, .d (.int .u8 d1)), (5, .d (.sl 1 (y2.1.map e_li64))), (6, .d (.sl 1 (y2.2.map e_i64))), (7, .d (.bool t3)), (22, .d (.sl 1 (y2.2.map e_i64))), (23, .d (.int .i64 ((y2.2.map e_i64).length : Int))), (24, .d (.int .i64 v2))], [], [.inLoop (cAt (bodyOf Try.f8) [1, 1, 1, 1, 0, 1, 0, 0]), .inBlock 0, .code (cAt (bodyOf Try.f8) [1, 1, 1, 1, 1])]⟩ := by
      clear hF; intro n_F8_L1
      induction n_F8_L1 with
      | zero => intro t3 v2 hF; cases hF
      | succ n_F8_L1 ih_F8_L1 =>
        intro t3 v2 hF
        rw [F8_L1] at hF
        refine J_adv 6 (J_bool 25 (b := decide (v2 < ((y2.2.map e_i64).length : Int))) (by kernel_rfl) (fun hb7 => ?_) (fun hb7 => ?_))
        · replace hF := ift hb7 hF
          obtain ⟨y10, e10, hF⟩ := bnd hF
          refine J_adv 6 (J_opt1 (o := geti (y2.2.map e_i64) v2) (e_i64 y10) (by kernel_rfl) (gm e10) ?_)
          obtain ⟨o2, hO, hF⟩ := bnd hF
          have hR2 : J none Try.prog 86 [] (finF Try.prog Try.f8 (.d (.bool r))) ⟨mkT [(1, .d (.int .u8 d1)), (5, .d (.sl 1 (y2.1.map e_li64))), (6, .d (.sl 1 (y2.2.map e_i64))), (7, .d (.bool o2)), (22, .d (.sl 1 (y2.2.map e_i64))), (23, .d (.int .i64 ((y2.2.map e_i64).length : Int))), (24, .d (.int .i64 v2))], [], [.ops (opsOf (cAt (bodyOf Try.f8) [1, 1, 1, 1, 0, 1, 0, 0, 1, 1, 0, 0, 1])) [], .inBlock 1, .code (cAt (bodyOf Try.f8) [1, 1, 1, 1, 0, 1, 0, 0, 1, 1, 1]), .inLoop (cAt (bodyOf Try.f8) [1, 1, 1, 1, 0, 1, 0, 0]), .inBlock 0, .code (cAt (bodyOf Try.f8) [1, 1, 1, 1, 1])]⟩ := by
            clear hO
            exact J_adv 6 (J_at [1, 5, 6, 7, 22, 23, 24] [] (T0 := [.inLoop (cAt (bodyOf Try.f8) [1, 1, 1, 1, 0, 1, 0, 0]), .inBlock 0, .code (cAt (bodyOf Try.f8) [1, 1, 1, 1, 1])]) (by kernel_rfl) rfl (ih_F8_L1 o2 (IntKind.i64.wrap (v2 + 1)) hF))
          clear hF; rename _ = some o2 => hF
          refine J_adv 6 (J_bool 29 (b := t3) (by kernel_rfl) (fun hb10 => ?_) (fun hb10 => ?_))
          · replace hF := ift hb10 hF
            obtain ⟨y13, e13, hF⟩ := bnd hF
            refine J_adv 2 (J_opt1 (o := geti (y2.2.map e_i64) 0) (e_i64 y13) (by kernel_rfl) (gm e13) ?_)
            have hr_ := Option.some.inj hF; subst hr_
            exact J_adv 4 (J_at [1, 5, 6, 7, 22, 23, 24] [] (T0 := [.ops (opsOf (cAt (bodyOf Try.f8) [1, 1, 1, 1, 0, 1, 0, 0, 1, 1, 0, 0, 1])) [], .inBlock 1, .code (cAt (bodyOf Try.f8) [1, 1, 1, 1, 0, 1, 0, 0, 1, 1, 1]), .inLoop (cAt (bodyOf Try.f8) [1, 1, 1, 1, 0, 1, 0, 0]), .inBlock 0, .code (cAt (bodyOf Try.f8) [1, 1, 1, 1, 1])]) (by kernel_rfl) rfl hR2)
          · replace hF := iff' hb10 hF
            have hr_ := Option.some.inj hF; subst hr_
            exact J_adv 7 (J_at [1, 5, 6, 7, 22, 23, 24] [] (T0 := [.ops (opsOf (cAt (bodyOf Try.f8) [1, 1, 1, 1, 0, 1, 0, 0, 1, 1, 0, 0, 1])) [], .inBlock 1, .code (cAt (bodyOf Try.f8) [1, 1, 1, 1, 0, 1, 0, 0, 1, 1, 1]), .inLoop (cAt (bodyOf Try.f8) [1, 1, 1, 1, 0, 1, 0, 0]), .inBlock 0, .code (cAt (bodyOf Try.f8) [1, 1, 1, 1, 1])]) (by kernel_rfl) rfl hR2)
        · replace hF := iff' hb7 hF
          obtain ⟨y14, e14, hF⟩ := bnd hF
          refine J_adv 6 (J_callF (xs := [.d (.sl 1 (y2.1.map e_li64)), .d (.sl 1 (y2.2.map e_i64))]) [.d (.sl 1 (y2.1.map e_li64)), .d (.sl 1 (y2.2.map e_i64))] (.tup [.agg [.d (.sl 4 (y14.1.List.map e_T_api_Rule)), .d (.int .i64 y14.1.Else)], .d (.int .i64 y14.2)]) (by kernel_rfl) en19 (Res'.refl _) (F19_ok e14) ?_)
          obtain ⟨o3, hO, hF⟩ := bnd hF
          have hR3 : J none Try.prog 86 [] (finF Try.prog Try.f8 (.d (.bool r))) ⟨mkT [(1, .d (.int .u8 d1)), (5, .d (.sl 1 (y2.1.map e_li64))), (52, .d (.bool o3))], [], [.ops (opsOf (cAt (bodyOf Try.f8) [1, 1, 1, 1, 1, 1, 0, 0])) [], .code (cAt (bodyOf Try.f8) [1, 1, 1, 1, 1, 1, 0, 1]), .code (cAt (bodyOf Try.f8) [1, 1, 1, 1, 1, 1, 1])]⟩ := by
            clear hO
            refine J_adv 1 (J_bool 52 (b := o3) (by kernel_rfl) (fun hb13 => ?_) (fun hb13 => ?_))
            · replace hF := ift hb13 hF
              have hr_ := Option.some.inj hF; subst hr_
              exact J_adv 5 (J_ret (xs := [.d (.bool false)]) [.d (.bool false)] rfl rfl (by kernel_rfl) (Res'.refl _) rfl)
            · replace hF := iff' hb13 hF
              have hF8_L2 : ∀ (n_F8_L2 : Nat) (v4 : Int) (l4 : List Int), F8_L2 fuel d1 y2 n_F8_L2 v4 l4 = some r → J none Try.prog 86 [] (finF Try.prog Try.f8 (.d (.bool r))) ⟨mkT [(1, .d (.int .u8 d1)), (5, .d (.sl 1 (y2.1.map e_li64))), (12, .suf 62 0 0), (54, .d (.int .i64 ((y2.1.map e_li64).length : Int))), (55, .d (.int .i64 v4))], [(62, .buf 0 3 1 (l4.map e_i64))], [.inLoop (cAt (bodyOf Try.f8) [1, 1, 1, 1, 1, 1, 1, 1, 0, 1, 0, 0]), .inBlock 2, .code (cAt (bodyOf Try.f8) [1, 1, 1, 1, 1, 1, 1, 1, 1])]⟩ := by
                clear hF; intro n_F8_L2
                induction n_F8_L2 with
                | zero => intro v4 l4 hF; cases hF
                | succ n_F8_L2 ih_F8_L2 =>
                  intro v4 l4 hF
                  rw [F8_L2] at hF
                  refine J_adv 6 (J_bool 56 (b := decide (v4 < ((y2.1.map e_li64).length : Int))) (by kernel_rfl) (fun hb16 => ?_) (fun hb16 => ?_))
                  · replace hF := ift hb16 hF
                    obtain ⟨l5, e17, hF⟩ := bnd hF
                    refine J_adv 10 (J_opt2 (o := app2 ((l4.map e_i64).drop 0) ([IntKind.i64.wrap (Int.tmod d1 4)].map e_i64)) (l5.map e_i64) (by kernel_rfl) (am e17) ?_)
                    exact J_adv 7 (J_at [1, 5, 12, 54, 55] [62] (T0 := [.inLoop (cAt (bodyOf Try.f8) [1, 1, 1, 1, 1, 1, 1, 1, 0, 1, 0, 0]), .inBlock 2, .code (cAt (bodyOf Try.f8) [1, 1, 1, 1, 1, 1, 1, 1, 1])]) (by kernel_rfl) rfl (ih_F8_L2 (IntKind.i64.wrap (v4 + 1)) l5 hF))
                  · replace hF := iff' hb16 hF
                    obtain ⟨y15, e18, hF⟩ := bnd hF
                    refine J_adv 6 (J_callF (xs := [.d (.sl 1 (y2.1.map e_li64)), .d (.sl 1 (l4.map e_i64))]) [.d (.sl 1 (y2.1.map e_li64)), .d (.sl 1 (l4.map e_i64))] (.tup [.agg [.d (.sl 4 (y15.1.List.map e_T_api_Rule)), .d (.int .i64 y15.1.Else)], .d (.int .i64 y15.2)]) (by kernel_rfl) en19 (Res'.refl _) (F19_ok e18) ?_)
                    obtain ⟨o4, hO, hF⟩ := bnd hF
                    have hR4 : J none Try.prog 86 [] (finF Try.prog Try.f8 (.d (.bool r))) ⟨mkT [(4, .d (.bool o4))], [], [.ops (opsOf (cAt (bodyOf Try.f8) [1, 1, 1, 1, 1, 1, 1, 1, 1, 1, 0])) [], .code (cAt (bodyOf Try.f8) [1, 1, 1, 1, 1, 1, 1, 1, 1, 1, 1])]⟩ := by
                      clear hO
                      have hr_ := Option.some.inj hF; subst hr_
                      exact J_adv 1 (J_ret (xs := [.d (.bool o4)]) [.d (.bool o4)] rfl rfl (by kernel_rfl) (Res'.refl _) rfl)
                    clear hF; rename _ = some o4 => hF
                    refine J_adv 12 (J_bool 72 (b := y15.2 == 0) (by kernel_rfl) (fun hb21 => ?_) (fun hb21 => ?_))
                    · replace hF := ift hb21 hF
                      refine J_adv 6 (J_bool 78 (b := ((y15.1.List.map e_T_api_Rule).length : Int) == 0) (by kernel_rfl) (fun hb22 => ?_) (fun hb22 => ?_))
                      · replace hF := ift hb22 hF
                        have hr_ := Option.some.inj hF; subst hr_
                        exact J_adv 8 (J_at [4] [] (T0 := [.ops (opsOf (cAt (bodyOf Try.f8) [1, 1, 1, 1, 1, 1, 1, 1, 1, 1, 0])) [], .code (cAt (bodyOf Try.f8) [1, 1, 1, 1, 1, 1, 1, 1, 1, 1, 1])]) (by kernel_rfl) rfl hR4)
                      · replace hF := iff' hb22 hF
                        have hr_ := Option.some.inj hF; subst hr_
                        exact J_adv 8 (J_at [4] [] (T0 := [.ops (opsOf (cAt (bodyOf Try.f8) [1, 1, 1, 1, 1, 1, 1, 1, 1, 1, 0])) [], .code (cAt (bodyOf Try.f8) [1, 1, 1, 1, 1, 1, 1, 1, 1, 1, 1])]) (by kernel_rfl) rfl hR4)
                    · replace hF := iff' hb21 hF
                      have hr_ := Option.some.inj hF; subst hr_
                      exact J_adv 14 (J_at [4] [] (T0 := [.ops (opsOf (cAt (bodyOf Try.f8) [1, 1, 1, 1, 1, 1, 1, 1, 1, 1, 0])) [], .code (cAt (bodyOf Try.f8) [1, 1, 1, 1, 1, 1, 1, 1, 1, 1, 1])]) (by kernel_rfl) rfl hR4)
              refine J_adv 15 (J_own (n := 1) 12 62 3 1 (by kernel_rfl) (by kernel_rfl) ?_)
              exact J_adv 0 (J_at [1, 5, 12, 54, 55] [62] (T0 := [.inLoop (cAt (bodyOf Try.f8) [1, 1, 1, 1, 1, 1, 1, 1, 0, 1, 0, 0]), .inBlock 2, .code (cAt (bodyOf Try.f8) [1, 1, 1, 1, 1, 1, 1, 1, 1])]) (by kernel_rfl) rfl (hF8_L2 fuel 0 [] hF))
          clear hF; rename _ = some o3 => hF
          refine J_adv 13 (J_bool 45 (b := y14.2 == 0) (by kernel_rfl) (fun hb23 => ?_) (fun hb23 => ?_))
          · replace hF := ift hb23 hF
            have hr_ := Option.some.inj hF; subst hr_
            exact J_adv 7 (J_at [1, 5, 52] [] (T0 := [.ops (opsOf (cAt (bodyOf Try.f8) [1, 1, 1, 1, 1, 1, 0, 0])) [], .code (cAt (bodyOf Try.f8) [1, 1, 1, 1, 1, 1, 0, 1]), .code (cAt (bodyOf Try.f8) [1, 1, 1, 1, 1, 1, 1])]) (by kernel_rfl) rfl hR3)
          · replace hF := iff' hb23 hF
            have hr_ := Option.some.inj hF; subst hr_
            exact J_adv 7 (J_at [1, 5, 52] [] (T0 := [.ops (opsOf (cAt (bodyOf Try.f8) [1, 1, 1, 1, 1, 1, 0, 0])) [], .code (cAt (bodyOf Try.f8) [1, 1, 1, 1, 1, 1, 0, 1]), .code (cAt (bodyOf Try.f8) [1, 1, 1, 1, 1, 1, 1])]) (by kernel_rfl) rfl hR3)
    exact J_adv 19 (J_at [1, 5, 6, 7, 22, 23, 24] [] (T0 := [.inLoop (cAt (bodyOf Try.f8) [1, 1, 1, 1, 0, 1, 0, 0]), .inBlock 0, .code (cAt (bodyOf Try.f8) [1, 1, 1, 1, 1])]) (by kernel_rfl) rfl (hF8_L1 fuel true 0 hF))

end Go.Proofs.Ytljkgnjmigmcgaa
