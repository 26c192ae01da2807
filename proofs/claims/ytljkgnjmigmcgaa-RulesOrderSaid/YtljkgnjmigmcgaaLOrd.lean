/- RulesOrder holds: whatever the input, the call returns true, and what came in reads as it did. No condition. -/
import Derived.Test.YtljkgnjmigmcgaaRows
import Derived.Test.YtljkgnjmigmcgaaFOrd
import Derived.Test.YtljkgnjmigmcgaaFA
import Derived.Test.YtljkgnjmigmcgaaFTri
import Derived.Test.YtljkgnjmigmcgaaFCop
import Derived.Test.YtljkgnjmigmcgaaP7
import Derived.Test.YtljkgnjmigmcgaaRz
import Derived.WalkKit
import Derived.ProofKit
import Derived.OpenShut
import Derived.ShutString
import Derived.ChangeOld
import Derived.Below
namespace Go.Proofs.Ytljkgnjmigmcgaa.rulesOrder
open Go.ChangeShapes Go.WideShapes Go.ChangeAt Go.RowKit Kx
open Go.ChangeMaps (open_string shut_string)
set_option linter.unusedVariables false
set_option maxRecDepth 100000


def wf5 (x : Int) : Prop := (Lit.int .u8 x).wf = true
theorem dec5 {n : Nat} {ds : List Dat} (h : Fit Try.prog (n + 1) 5 ds) : ∃ x : Int, ds = [.int .u8 x] ∧ wf5 x := by
  exact Fit_int Try.underlying5 h
def wf60 (x : Int) : Prop := (Lit.int .i8 x).wf = true
theorem dec60 {n : Nat} {ds : List Dat} (h : Fit Try.prog (n + 1) 60 ds) : ∃ x : Int, ds = [.int .i8 x] ∧ wf60 x := by
  exact Fit_int Try.underlying60 h
def wf61 (x : A_a4i8) : Prop := wf60 x.a0 ∧ wf60 x.a1 ∧ wf60 x.a2 ∧ wf60 x.a3
theorem dec61 {n : Nat} {ds : List Dat} (h : Fit Try.prog (n + 2) 61 ds) : ∃ x : A_a4i8, ds = [.int .i8 x.a0, .int .i8 x.a1, .int .i8 x.a2, .int .i8 x.a3] ∧ wf61 x := by
  have h0 := Fit_array Try.underlying61 h
  obtain ⟨_, r0, rfl, g0, h1⟩ := h0
  obtain ⟨x0, rfl, w0⟩ := dec60 (n := n + 0) g0
  obtain ⟨_, r1, rfl, g1, h2⟩ := h1
  obtain ⟨x1, rfl, w1⟩ := dec60 (n := n + 0) g1
  obtain ⟨_, r2, rfl, g2, h3⟩ := h2
  obtain ⟨x2, rfl, w2⟩ := dec60 (n := n + 0) g2
  obtain ⟨_, r3, rfl, g3, h4⟩ := h3
  obtain ⟨x3, rfl, w3⟩ := dec60 (n := n + 0) g3
  cases (show r3 = [] from h4)
  exact ⟨⟨x0, x1, x2, x3⟩, rfl, ⟨w0, w1, w2, w3⟩⟩
def wf22 (x : List A_a4i8) : Prop := x.length ≤ maxLen ∧ ∀ y ∈ x, wf61 y
theorem dec22 {n : Nat} {ds : List Dat} (h : Fit Try.prog (n + 3) 22 ds) : ∃ x : List A_a4i8, ds = [.sl 4 (x.map e_a4i8)] ∧ wf22 x := by
  obtain ⟨es, rfl, hl, he⟩ := Fit_slice Try.underlying22 (sz := 4) (by kernel_rfl) h
  obtain ⟨l, rfl, hq⟩ := Fit_list (en := e_a4i8) (Q := wf61) (fun x hx => dec61 hx) es he
  exact ⟨l, rfl, by simpa using hl, hq⟩
def wf27 (x : List Int) : Prop := x.length ≤ maxLen ∧ ∀ y ∈ x, wf5 y
theorem dec27 {n : Nat} {ds : List Dat} (h : Fit Try.prog (n + 2) 27 ds) : ∃ x : List Int, ds = [.sl 1 (x.map e_u8)] ∧ wf27 x := by
  obtain ⟨es, rfl, hl, he⟩ := Fit_slice Try.underlying27 (sz := 1) (by kernel_rfl) h
  obtain ⟨l, rfl, hq⟩ := Fit_list (en := e_u8) (Q := wf5) (fun x hx => dec5 hx) es he
  exact ⟨l, rfl, by simpa using hl, hq⟩
def wf4 (x : Bool) : Prop := True
theorem dec4 {n : Nat} {ds : List Dat} (h : Fit Try.prog (n + 1) 4 ds) : ∃ x : Bool, ds = [.bool x] ∧ wf4 x := by
  obtain ⟨b, e⟩ := Fit_bool Try.underlying4 h; exact ⟨b, e, trivial⟩
def wf29 (x : T_croupierref30_Draft) : Prop := wf5 x.Wide ∧ wf22 x.Rows ∧ wf27 x.C ∧ wf4 x.Few
theorem dec29 {n : Nat} {ds : List Dat} (h : Fit Try.prog (n + 4) 29 ds) : ∃ x : T_croupierref30_Draft, ds = [.int .u8 x.Wide, .sl 4 (x.Rows.map e_a4i8), .sl 1 (x.C.map e_u8), .bool x.Few] ∧ wf29 x := by
  have h0 := Fit_struct Try.underlying29 h
  obtain ⟨_, r0, rfl, g0, h1⟩ := h0
  obtain ⟨x0, rfl, w0⟩ := dec5 (n := n + 2) g0
  obtain ⟨_, r1, rfl, g1, h2⟩ := h1
  obtain ⟨x1, rfl, w1⟩ := dec22 (n := n + 0) g1
  obtain ⟨_, r2, rfl, g2, h3⟩ := h2
  obtain ⟨x2, rfl, w2⟩ := dec27 (n := n + 1) g2
  obtain ⟨_, r3, rfl, g3, h4⟩ := h3
  obtain ⟨x3, rfl, w3⟩ := dec4 (n := n + 2) g3
  cases (show r3 = [] from h4)
  exact ⟨⟨x0, x1, x2, x3⟩, rfl, ⟨w0, w1, w2, w3⟩⟩

theorem law (x0 : T_croupierref30_Draft) (x1 : Int) (h0 : wf29 x0) (h1 : wf5 x1) : ∃ fuel, F6 fuel x0 x1 = some true :=
  ⟨10000, F6_true ⟨(bounds_u8 h0.1).1, fun x hx => (bounds_u8 (h0.2.2.1.2 x hx)).1⟩ (bounds_u8 h1).1 (bounds_u8 h1).2⟩

theorem own : ownKnob Try.prog.godebug = none := by kernel_rfl
theorem laidOut : laidOutB Try.prog = true := by kernel_rfl

theorem lifted (os : Os) (started : os.Started) (H : Type) (enc : TypeId × Value → H) :
    ReturnsInHanded {} Try.checked os 6 .any (Rows.rulesOrderSpec.pre6 enc Try.prog Try.f6 Rows.rulesOrderRow.domain false) (Rows.rulesOrderSpec.post enc Try.prog Try.f6 false true false false) := by
  refine returnsInHanded_of_change (C := Try.checked) own started (by kernel_rfl) Try.func6
    (ChangeSpec.witness6 (enc := enc) (C := Try.checked) false ⟨#[], #[.agg #[.int .u8 0, .slice none 0 0, .slice none 0 0, .bool false], .int .u8 0], []⟩ 8 (by kernel_rfl) (by kernel_rfl) (by kernel_rfl) (by kernel_rfl)) ?_
  intro W base args ds gs before hval0 hW hcnd _
  have hval : ∀ (j : Nat) t v, Try.f6.params[j]? = some t → args[j]? = some v → Value.okWide Try.prog W .any base t v := hval0
  have hW' := hW
  obtain ⟨p, q, hA0, hV, rfl, hfz, hnd⟩ := hW
  have hA : DataW.TrodAll enc Try.prog W 0 (fun _ => true) true Try.f6.params.toList args.toList ds p := hA0
  rw [Try.params6] at hA hval
  obtain ⟨v0, vs0, d0, ds0, p0, q0, hargs, rfl, rfl, h0, r0⟩ := trodAll_cons hA
  obtain ⟨v1, vs1, d1, ds1, p1, q1, rfl, rfl, rfl, h1, r1⟩ := trodAll_cons r0
  obtain ⟨rfl, rfl, rfl⟩ := trodAll_nil r1
  obtain rfl : args = #[v0, v1] := by cases args; simp_all
  obtain ⟨rfl, rfl⟩ := trodVars_none hV
  have k0 := h0
  have lt0 : ∀ x ∈ p0, x.block < W.heap.size := by obtain ⟨m, hm⟩ := k0; exact DataW.trod_lt m _ _ _ hm
  obtain ⟨c0, rfl⟩ := okAggS Try.underlying29 (hval 0 29 v0 rfl rfl)
  obtain ⟨m0, hm0⟩ := k0
  obtain ⟨ds0, hr0, hf0⟩ := trod_rel 4 29 m0 _ _ (by kernel_rfl) hm0
  obtain ⟨x0, rfl, wf0_⟩ := dec29 (n := 0) hf0
  have rel0 : RelV (HeapM W) noR (.agg (dV [.int .u8 x0.Wide, .sl 4 (x0.Rows.map e_a4i8), .sl 1 (x0.C.map e_u8), .bool x0.Few])) _ := relV_agg' hr0
  have k1 := h1
  have lt1 : ∀ x ∈ p1, x.block < W.heap.size := by obtain ⟨m, hm⟩ := k1; exact DataW.trod_lt m _ _ _ hm
  obtain ⟨a1, rfl, rfl, rfl, w1⟩ := open_int Try.underlying5 (hval 1 5 v1 rfl rfl) h1
  obtain ⟨m1, hm1⟩ := k1
  obtain ⟨ds1, hr1, hf1⟩ := trod_rel 1 5 m1 _ _ (by kernel_rfl) hm1
  obtain ⟨x1, rfl, wf1_⟩ := dec5 (n := 0) hf1
  have rel1 : RelV (HeapM W) noR (.d (.int .u8 x1)) _ := relV_one hr1
  obtain ⟨fuel, hF⟩ := law x0 x1 wf0_ wf1_
  clear hA0 hval0
  refine (F6_ok hF (HeapM W) W [_, _] (HeapM_sits W) (by simp only [RelVs]; exact ⟨_, _, rfl, rel0, ⟨_, _, rfl, rel1, rfl⟩⟩)).mono fun e W' hE => ?_
  obtain ⟨u, M', rfl, hext, hv⟩ := hE
  have bel := hext.below
  have hv := relV_d hv
  cases hv
  exact ⟨_, rfl, _, _, _, [], _, [], hW', trodAll_mk1 (shut_bool Try.underlying4 _), (trodAll_cons_mk (Below.trod laidOut (by kernel_rfl) (of_decide_eq_true (by kernel_rfl)) ⟨_, hm0⟩ bel lt0) (trodAll_cons_mk (Below.trod laidOut (by kernel_rfl) (of_decide_eq_true (by kernel_rfl)) ⟨_, hm1⟩ bel lt1) trodAll_mk0)), rfl, bel.frame _, fun h => by cases h⟩

theorem over : Rows.rulesOrderRow.holds Try.pinned (OpenSpec.ofChange Rows.rulesOrderSpec) :=
  OpenClaim.holds_of_wide 6 Try.f6 rfl rfl rfl rfl rfl rfl rfl ⟨rfl, rfl, rfl, rfl, rfl⟩ rfl rfl rfl rfl rfl (by kernel_rfl) Try.func6 (by kernel_rfl)
    (of_decide_eq_true (by kernel_rfl)) (by unfold Func.isWrapper; first | (rw [if_pos (by decide +kernel)]; kernel_rfl) | (rw [if_neg (by decide +kernel)]; exact ⟨rfl, rfl⟩))
    (fun os started H enc _ => lifted os started H enc)

/-- The statement. -/
theorem proved : Rows.RulesOrderSaid := over
#print axioms proved
end Go.Proofs.Ytljkgnjmigmcgaa.rulesOrder
