/- RulesApplies holds: whatever the input, the call returns true, and what came in reads as it did. No condition. -/
import Derived.Test.YtljkgnjmigmcgaaRows
import Derived.Test.YtljkgnjmigmcgaaFApp
import Derived.Test.YtljkgnjmigmcgaaFA
import Derived.Test.YtljkgnjmigmcgaaFTri
import Derived.Test.YtljkgnjmigmcgaaFCop
import Derived.Test.YtljkgnjmigmcgaaFOrd
import Derived.Test.YtljkgnjmigmcgaaFMin
import Derived.Test.YtljkgnjmigmcgaaFSho
import Derived.Test.YtljkgnjmigmcgaaFRig
import Derived.Test.YtljkgnjmigmcgaaP10
import Derived.Test.YtljkgnjmigmcgaaRz
import Derived.WalkKit
import Derived.ProofKit
import Derived.OpenShut
import Derived.ShutString
import Derived.ChangeOld
import Derived.Below
namespace Go.Proofs.Ytljkgnjmigmcgaa.rulesApplies
open Go.ChangeShapes Go.WideShapes Go.ChangeAt Go.RowKit Kx
open Go.ChangeMaps (open_string shut_string)
set_option linter.unusedVariables false
set_option maxRecDepth 100000


def wf60 (x : Int) : Prop := (Lit.int .i8 x).wf = true
theorem dec60 {n : Nat} {ds : List Dat} (h : Fit Try.prog (n + 1) 60 ds) : ∃ x : Int, ds = [.int .i8 x] ∧ wf60 x := by
  exact Fit_int Try.underlying60 h
def wf61 (x : A_a4i8) : Prop := wf60 x.a0 ∧ wf60 x.a1 ∧ wf60 x.a2 ∧ wf60 x.a3
theorem dec61 {n : Nat} {ds : List Dat} (h : Fit Try.prog (n + 2) 61 ds) : ∃ x : A_a4i8, ds = [.int .i8 x.a0, .int .i8 x.a1, .int .i8 x.a2, .int .i8 x.a3] ∧ wf61 x := by
  have h0 := Fit_array Try.underlying61 h
  obtain ⟨_, r0, rfl, g0, h1⟩ := h0
  obtain ⟨x0, rfl, w0⟩ := dec60 (n := n + 0) g0
  obtain ⟨_, r1, rfl, g1, h2⟩ := h1
  obtain ⟨x1, rfl, w1⟩ := dec60 (n := n + 0) g1
  obtain ⟨_, r2, rfl, g2, h3⟩ := h2
  obtain ⟨x2, rfl, w2⟩ := dec60 (n := n + 0) g2
  obtain ⟨_, r3, rfl, g3, h4⟩ := h3
  obtain ⟨x3, rfl, w3⟩ := dec60 (n := n + 0) g3
  cases (show r3 = [] from h4)
  exact ⟨⟨x0, x1, x2, x3⟩, rfl, ⟨w0, w1, w2, w3⟩⟩
def wf22 (x : List A_a4i8) : Prop := x.length ≤ maxLen ∧ ∀ y ∈ x, wf61 y
theorem dec22 {n : Nat} {ds : List Dat} (h : Fit Try.prog (n + 3) 22 ds) : ∃ x : List A_a4i8, ds = [.sl 4 (x.map e_a4i8)] ∧ wf22 x := by
  obtain ⟨es, rfl, hl, he⟩ := Fit_slice Try.underlying22 (sz := 4) (by kernel_rfl) h
  obtain ⟨l, rfl, hq⟩ := Fit_list (en := e_a4i8) (Q := wf61) (fun x hx => dec61 hx) es he
  exact ⟨l, rfl, by simpa using hl, hq⟩
def wf5 (x : Int) : Prop := (Lit.int .u8 x).wf = true
theorem dec5 {n : Nat} {ds : List Dat} (h : Fit Try.prog (n + 1) 5 ds) : ∃ x : Int, ds = [.int .u8 x] ∧ wf5 x := by
  exact Fit_int Try.underlying5 h
def wf24 (x : T_croupierref30_Wish) : Prop := wf22 x.L ∧ wf5 x.Else
theorem dec24 {n : Nat} {ds : List Dat} (h : Fit Try.prog (n + 4) 24 ds) : ∃ x : T_croupierref30_Wish, ds = [.sl 4 (x.L.map e_a4i8), .int .u8 x.Else] ∧ wf24 x := by
  have h0 := Fit_struct Try.underlying24 h
  obtain ⟨_, r0, rfl, g0, h1⟩ := h0
  obtain ⟨x0, rfl, w0⟩ := dec22 (n := n + 0) g0
  obtain ⟨_, r1, rfl, g1, h2⟩ := h1
  obtain ⟨x1, rfl, w1⟩ := dec5 (n := n + 2) g1
  cases (show r1 = [] from h2)
  exact ⟨⟨x0, x1⟩, rfl, ⟨w0, w1⟩⟩
def wf3 (x : Int) : Prop := (Lit.int .i64 x).wf = true
theorem dec3 {n : Nat} {ds : List Dat} (h : Fit Try.prog (n + 1) 3 ds) : ∃ x : Int, ds = [.int .i64 x] ∧ wf3 x := by
  exact Fit_int Try.underlying3 h
def wf26 (x : T_croupierlaw30_Bend) : Prop := wf5 x.What ∧ wf5 x.At ∧ wf3 x.N
theorem dec26 {n : Nat} {ds : List Dat} (h : Fit Try.prog (n + 2) 26 ds) : ∃ x : T_croupierlaw30_Bend, ds = [.int .u8 x.What, .int .u8 x.At, .int .i64 x.N] ∧ wf26 x := by
  have h0 := Fit_struct Try.underlying26 h
  obtain ⟨_, r0, rfl, g0, h1⟩ := h0
  obtain ⟨x0, rfl, w0⟩ := dec5 (n := n + 0) g0
  obtain ⟨_, r1, rfl, g1, h2⟩ := h1
  obtain ⟨x1, rfl, w1⟩ := dec5 (n := n + 0) g1
  obtain ⟨_, r2, rfl, g2, h3⟩ := h2
  obtain ⟨x2, rfl, w2⟩ := dec3 (n := n + 0) g2
  cases (show r2 = [] from h3)
  exact ⟨⟨x0, x1, x2⟩, rfl, ⟨w0, w1, w2⟩⟩
def wf66 (x : T_api_Rule) : Prop := wf3 x.Var ∧ wf3 x.Test ∧ wf3 x.Val ∧ wf3 x.Then
theorem dec66 {n : Nat} {ds : List Dat} (h : Fit Try.prog (n + 2) 66 ds) : ∃ x : T_api_Rule, ds = [.int .i64 x.Var, .int .i64 x.Test, .int .i64 x.Val, .int .i64 x.Then] ∧ wf66 x := by
  have h0 := Fit_struct Try.underlying66 h
  obtain ⟨_, r0, rfl, g0, h1⟩ := h0
  obtain ⟨x0, rfl, w0⟩ := dec3 (n := n + 0) g0
  obtain ⟨_, r1, rfl, g1, h2⟩ := h1
  obtain ⟨x1, rfl, w1⟩ := dec3 (n := n + 0) g1
  obtain ⟨_, r2, rfl, g2, h3⟩ := h2
  obtain ⟨x2, rfl, w2⟩ := dec3 (n := n + 0) g2
  obtain ⟨_, r3, rfl, g3, h4⟩ := h3
  obtain ⟨x3, rfl, w3⟩ := dec3 (n := n + 0) g3
  cases (show r3 = [] from h4)
  exact ⟨⟨x0, x1, x2, x3⟩, rfl, ⟨w0, w1, w2, w3⟩⟩
def wf35 (x : List T_api_Rule) : Prop := x.length ≤ maxLen ∧ ∀ y ∈ x, wf66 y
theorem dec35 {n : Nat} {ds : List Dat} (h : Fit Try.prog (n + 3) 35 ds) : ∃ x : List T_api_Rule, ds = [.sl 4 (x.map e_T_api_Rule)] ∧ wf35 x := by
  obtain ⟨es, rfl, hl, he⟩ := Fit_slice Try.underlying35 (sz := 4) (by kernel_rfl) h
  obtain ⟨l, rfl, hq⟩ := Fit_list (en := e_T_api_Rule) (Q := wf66) (fun x hx => dec66 hx) es he
  exact ⟨l, rfl, by simpa using hl, hq⟩
def wf37 (x : T_api_Rules) : Prop := wf35 x.List ∧ wf3 x.Else
theorem dec37 {n : Nat} {ds : List Dat} (h : Fit Try.prog (n + 4) 37 ds) : ∃ x : T_api_Rules, ds = [.sl 4 (x.List.map e_T_api_Rule), .int .i64 x.Else] ∧ wf37 x := by
  have h0 := Fit_struct Try.underlying37 h
  obtain ⟨_, r0, rfl, g0, h1⟩ := h0
  obtain ⟨x0, rfl, w0⟩ := dec35 (n := n + 0) g0
  obtain ⟨_, r1, rfl, g1, h2⟩ := h1
  obtain ⟨x1, rfl, w1⟩ := dec3 (n := n + 2) g1
  cases (show r1 = [] from h2)
  exact ⟨⟨x0, x1⟩, rfl, ⟨w0, w1⟩⟩
def wf31 (x : List Int) : Prop := x.length ≤ maxLen ∧ ∀ y ∈ x, wf3 y
theorem dec31 {n : Nat} {ds : List Dat} (h : Fit Try.prog (n + 2) 31 ds) : ∃ x : List Int, ds = [.sl 1 (x.map e_i64)] ∧ wf31 x := by
  obtain ⟨es, rfl, hl, he⟩ := Fit_slice Try.underlying31 (sz := 1) (by kernel_rfl) h
  obtain ⟨l, rfl, hq⟩ := Fit_list (en := e_i64) (Q := wf3) (fun x hx => dec3 hx) es he
  exact ⟨l, rfl, by simpa using hl, hq⟩

theorem law (x0 : T_croupierref30_Wish) (x1 : T_croupierlaw30_Bend) (x2 : T_api_Rules) (x3 : Int) (x4 : List Int) (x5 : A_a4i8) (h0 : wf24 x0) (h1 : wf26 x1) (h2 : wf37 x2) (h3 : wf5 x3) (h4 : wf31 x4) (h5 : wf61 x5) : ∃ fuel, F9 fuel x0 x1 x2 x3 x4 x5 = some true :=
  ⟨10000, F9_true x2 x4 x5 (bounds_u8 h0.2).1 ⟨(bounds_u8 h1.2.1).1, by have := (bounds_u8 h1.2.1).2; omega⟩ (bounds_u8 h3).1⟩

theorem own : ownKnob Try.prog.godebug = none := by kernel_rfl
theorem laidOut : laidOutB Try.prog = true := by kernel_rfl

theorem lifted (os : Os) (started : os.Started) (H : Type) (enc : TypeId × Value → H) :
    ReturnsInHanded {} Try.checked os 9 .any (Rows.rulesAppliesSpec.pre6 enc Try.prog Try.f9 Rows.rulesAppliesRow.domain false) (Rows.rulesAppliesSpec.post enc Try.prog Try.f9 false true false false) := by
  refine returnsInHanded_of_change (C := Try.checked) own started (by kernel_rfl) Try.func9
    (ChangeSpec.witness6 (enc := enc) (C := Try.checked) false ⟨#[], #[.agg #[.slice none 0 0, .int .u8 0], .agg #[.int .u8 0, .int .u8 0, .int .i64 0], .agg #[.slice none 0 0, .int .i64 0], .int .u8 0, .slice none 0 0, .agg #[.int .i8 0, .int .i8 0, .int .i8 0, .int .i8 0]], []⟩ 8 (by kernel_rfl) (by kernel_rfl) (by kernel_rfl) (by kernel_rfl)) ?_
  intro W base args ds gs before hval0 hW hcnd _
  have hval : ∀ (j : Nat) t v, Try.f9.params[j]? = some t → args[j]? = some v → Value.okWide Try.prog W .any base t v := hval0
  have hW' := hW
  obtain ⟨p, q, hA0, hV, rfl, hfz, hnd⟩ := hW
  have hA : DataW.TrodAll enc Try.prog W 0 (fun _ => true) true Try.f9.params.toList args.toList ds p := hA0
  rw [Try.params9] at hA hval
  obtain ⟨v0, vs0, d0, ds0, p0, q0, hargs, rfl, rfl, h0, r0⟩ := trodAll_cons hA
  obtain ⟨v1, vs1, d1, ds1, p1, q1, rfl, rfl, rfl, h1, r1⟩ := trodAll_cons r0
  obtain ⟨v2, vs2, d2, ds2, p2, q2, rfl, rfl, rfl, h2, r2⟩ := trodAll_cons r1
  obtain ⟨v3, vs3, d3, ds3, p3, q3, rfl, rfl, rfl, h3, r3⟩ := trodAll_cons r2
  obtain ⟨v4, vs4, d4, ds4, p4, q4, rfl, rfl, rfl, h4, r4⟩ := trodAll_cons r3
  obtain ⟨v5, vs5, d5, ds5, p5, q5, rfl, rfl, rfl, h5, r5⟩ := trodAll_cons r4
  obtain ⟨rfl, rfl, rfl⟩ := trodAll_nil r5
  obtain rfl : args = #[v0, v1, v2, v3, v4, v5] := by cases args; simp_all
  obtain ⟨rfl, rfl⟩ := trodVars_none hV
  have k0 := h0
  have lt0 : ∀ x ∈ p0, x.block < W.heap.size := by obtain ⟨m, hm⟩ := k0; exact DataW.trod_lt m _ _ _ hm
  obtain ⟨c0, rfl⟩ := okAggS Try.underlying24 (hval 0 24 v0 rfl rfl)
  obtain ⟨m0, hm0⟩ := k0
  obtain ⟨ds0, hr0, hf0⟩ := trod_rel 4 24 m0 _ _ (by kernel_rfl) hm0
  obtain ⟨x0, rfl, wf0_⟩ := dec24 (n := 0) hf0
  have rel0 : RelV (HeapM W) noR (.agg (dV [.sl 4 (x0.L.map e_a4i8), .int .u8 x0.Else])) _ := relV_agg' hr0
  have k1 := h1
  have lt1 : ∀ x ∈ p1, x.block < W.heap.size := by obtain ⟨m, hm⟩ := k1; exact DataW.trod_lt m _ _ _ hm
  obtain ⟨c1, rfl⟩ := okAggS Try.underlying26 (hval 1 26 v1 rfl rfl)
  obtain ⟨m1, hm1⟩ := k1
  obtain ⟨ds1, hr1, hf1⟩ := trod_rel 2 26 m1 _ _ (by kernel_rfl) hm1
  obtain ⟨x1, rfl, wf1_⟩ := dec26 (n := 0) hf1
  have rel1 : RelV (HeapM W) noR (.agg (dV [.int .u8 x1.What, .int .u8 x1.At, .int .i64 x1.N])) _ := relV_agg' hr1
  have k2 := h2
  have lt2 : ∀ x ∈ p2, x.block < W.heap.size := by obtain ⟨m, hm⟩ := k2; exact DataW.trod_lt m _ _ _ hm
  obtain ⟨c2, rfl⟩ := okAggS Try.underlying37 (hval 2 37 v2 rfl rfl)
  obtain ⟨m2, hm2⟩ := k2
  obtain ⟨ds2, hr2, hf2⟩ := trod_rel 4 37 m2 _ _ (by kernel_rfl) hm2
  obtain ⟨x2, rfl, wf2_⟩ := dec37 (n := 0) hf2
  have rel2 : RelV (HeapM W) noR (.agg (dV [.sl 4 (x2.List.map e_T_api_Rule), .int .i64 x2.Else])) _ := relV_agg' hr2
  have k3 := h3
  have lt3 : ∀ x ∈ p3, x.block < W.heap.size := by obtain ⟨m, hm⟩ := k3; exact DataW.trod_lt m _ _ _ hm
  obtain ⟨a3, rfl, rfl, rfl, w3⟩ := open_int Try.underlying5 (hval 3 5 v3 rfl rfl) h3
  obtain ⟨m3, hm3⟩ := k3
  obtain ⟨ds3, hr3, hf3⟩ := trod_rel 1 5 m3 _ _ (by kernel_rfl) hm3
  obtain ⟨x3, rfl, wf3_⟩ := dec5 (n := 0) hf3
  have rel3 : RelV (HeapM W) noR (.d (.int .u8 x3)) _ := relV_one hr3
  have k4 := h4
  have lt4 : ∀ x ∈ p4, x.block < W.heap.size := by obtain ⟨m, hm⟩ := k4; exact DataW.trod_lt m _ _ _ hm
  obtain ⟨a4, len4, cap4, rfl⟩ := okWide_slice Try.underlying31 (hval 4 31 v4 rfl rfl)
  obtain ⟨m4, hm4⟩ := k4
  obtain ⟨ds4, hr4, hf4⟩ := trod_rel 2 31 m4 _ _ (by kernel_rfl) hm4
  obtain ⟨x4, rfl, wf4_⟩ := dec31 (n := 0) hf4
  have rel4 : RelV (HeapM W) noR (.d (.sl 1 (x4.map e_i64))) _ := relV_one hr4
  have k5 := h5
  have lt5 : ∀ x ∈ p5, x.block < W.heap.size := by obtain ⟨m, hm⟩ := k5; exact DataW.trod_lt m _ _ _ hm
  obtain ⟨c5, rfl⟩ := okAggA Try.underlying61 (hval 5 61 v5 rfl rfl)
  obtain ⟨m5, hm5⟩ := k5
  obtain ⟨ds5, hr5, hf5⟩ := trod_rel 2 61 m5 _ _ (by kernel_rfl) hm5
  obtain ⟨x5, rfl, wf5_⟩ := dec61 (n := 0) hf5
  have rel5 : RelV (HeapM W) noR (.agg (dV [.int .i8 x5.a0, .int .i8 x5.a1, .int .i8 x5.a2, .int .i8 x5.a3])) _ := relV_agg' hr5
  obtain ⟨fuel, hF⟩ := law x0 x1 x2 x3 x4 x5 wf0_ wf1_ wf2_ wf3_ wf4_ wf5_
  clear hA0 hval0
  refine (F9_ok hF (HeapM W) W [_, _, _, _, _, _] (HeapM_sits W) (by simp only [RelVs]; exact ⟨_, _, rfl, rel0, ⟨_, _, rfl, rel1, ⟨_, _, rfl, rel2, ⟨_, _, rfl, rel3, ⟨_, _, rfl, rel4, ⟨_, _, rfl, rel5, rfl⟩⟩⟩⟩⟩⟩)).mono fun e W' hE => ?_
  obtain ⟨u, M', rfl, hext, hv⟩ := hE
  have bel := hext.below
  have hv := relV_d hv
  cases hv
  exact ⟨_, rfl, _, _, _, [], _, [], hW', trodAll_mk1 (shut_bool Try.underlying4 _), (trodAll_cons_mk (Below.trod laidOut (by kernel_rfl) (of_decide_eq_true (by kernel_rfl)) ⟨_, hm0⟩ bel lt0) (trodAll_cons_mk (Below.trod laidOut (by kernel_rfl) (of_decide_eq_true (by kernel_rfl)) ⟨_, hm1⟩ bel lt1) (trodAll_cons_mk (Below.trod laidOut (by kernel_rfl) (of_decide_eq_true (by kernel_rfl)) ⟨_, hm2⟩ bel lt2) (trodAll_cons_mk (Below.trod laidOut (by kernel_rfl) (of_decide_eq_true (by kernel_rfl)) ⟨_, hm3⟩ bel lt3) (trodAll_cons_mk (Below.trod laidOut (by kernel_rfl) (of_decide_eq_true (by kernel_rfl)) ⟨_, hm4⟩ bel lt4) (trodAll_cons_mk (Below.trod laidOut (by kernel_rfl) (of_decide_eq_true (by kernel_rfl)) ⟨_, hm5⟩ bel lt5) trodAll_mk0)))))), rfl, bel.frame _, fun h => by cases h⟩

theorem over : Rows.rulesAppliesRow.holds Try.pinned (OpenSpec.ofChange Rows.rulesAppliesSpec) :=
  OpenClaim.holds_of_wide 9 Try.f9 rfl rfl rfl rfl rfl rfl rfl ⟨rfl, rfl, rfl, rfl, rfl⟩ rfl rfl rfl rfl rfl (by kernel_rfl) Try.func9 (by kernel_rfl)
    (of_decide_eq_true (by kernel_rfl)) (by unfold Func.isWrapper; first | (rw [if_pos (by decide +kernel)]; kernel_rfl) | (rw [if_neg (by decide +kernel)]; exact ⟨rfl, rfl⟩))
    (fun os started H enc _ => lifted os started H enc)

/-- The statement. -/
theorem proved : Rows.RulesAppliesSaid := over
#print axioms proved
end Go.Proofs.Ytljkgnjmigmcgaa.rulesApplies
