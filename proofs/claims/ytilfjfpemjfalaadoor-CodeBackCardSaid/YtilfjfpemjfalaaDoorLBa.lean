/- CodeBack holds: whatever the input, the call returns true, and what came in reads as it did. No condition. -/
import Derived.Test.YtilfjfpemjfalaaDoorRows
import Derived.Test.YtilfjfpemjfalaaDoorFBa
import Derived.Test.YtilfjfpemjfalaaDoorFA
import Derived.Test.YtilfjfpemjfalaaDoorFCo
import Derived.Test.YtilfjfpemjfalaaDoorFWa
import Derived.Test.YtilfjfpemjfalaaDoorFTr
import Derived.Test.YtilfjfpemjfalaaDoorC1
import Derived.Test.YtilfjfpemjfalaaDoorC3
import Derived.Test.YtilfjfpemjfalaaDoorC8
import Derived.Test.YtilfjfpemjfalaaDoorC10
import Derived.Test.YtilfjfpemjfalaaDoorC11
import Derived.Test.YtilfjfpemjfalaaDoorC12
import Derived.Test.YtilfjfpemjfalaaDoorRzc
import Derived.Test.YtilfjfpemjfalaaDoorTie
import Derived.Test.YtilfjfpemjfalaaDoorCards
import Derived.SevenTiedAt
import Derived.WalkKit
import Derived.ProofKit
import Derived.OpenShut
import Derived.ShutString
import Derived.ChangeOld
import Derived.Below
namespace Go.Proofs.YtilfjfpemjfalaaDoor.codeBack
open Go.ChangeShapes Go.WideShapes Go.ChangeAt Go.RowKit Kx
open Go.ChangeMaps (open_string shut_string)
set_option linter.unusedVariables false
set_option maxRecDepth 100000


def wf43 (x : Int) : Prop := (Lit.int .i8 x).wf = true
theorem dec43 {n : Nat} {ds : List Dat} (h : Fit Tryd.prog (n + 1) 43 ds) : ∃ x : Int, ds = [.int .i8 x] ∧ wf43 x := by
  exact Fit_int Tryd.underlying43 h
def wf44 (x : A_a4i8) : Prop := wf43 x.a0 ∧ wf43 x.a1 ∧ wf43 x.a2 ∧ wf43 x.a3
theorem dec44 {n : Nat} {ds : List Dat} (h : Fit Tryd.prog (n + 2) 44 ds) : ∃ x : A_a4i8, ds = [.int .i8 x.a0, .int .i8 x.a1, .int .i8 x.a2, .int .i8 x.a3] ∧ wf44 x := by
  have h0 := Fit_array Tryd.underlying44 h
  obtain ⟨_, r0, rfl, g0, h1⟩ := h0
  obtain ⟨x0, rfl, w0⟩ := dec43 (n := n + 0) g0
  obtain ⟨_, r1, rfl, g1, h2⟩ := h1
  obtain ⟨x1, rfl, w1⟩ := dec43 (n := n + 0) g1
  obtain ⟨_, r2, rfl, g2, h3⟩ := h2
  obtain ⟨x2, rfl, w2⟩ := dec43 (n := n + 0) g2
  obtain ⟨_, r3, rfl, g3, h4⟩ := h3
  obtain ⟨x3, rfl, w3⟩ := dec43 (n := n + 0) g3
  cases (show r3 = [] from h4)
  exact ⟨⟨x0, x1, x2, x3⟩, rfl, ⟨w0, w1, w2, w3⟩⟩
def wf22 (x : List A_a4i8) : Prop := x.length ≤ maxLen ∧ ∀ y ∈ x, wf44 y
theorem dec22 {n : Nat} {ds : List Dat} (h : Fit Tryd.prog (n + 3) 22 ds) : ∃ x : List A_a4i8, ds = [.sl 4 (x.map e_a4i8)] ∧ wf22 x := by
  obtain ⟨es, rfl, hl, he⟩ := Fit_slice Tryd.underlying22 (sz := 4) (by kernel_rfl) h
  obtain ⟨l, rfl, hq⟩ := Fit_list (en := e_a4i8) (Q := wf44) (fun x hx => dec44 hx) es he
  exact ⟨l, rfl, by simpa using hl, hq⟩
def wf37 (x : Int) : Prop := (Lit.int .u16 x).wf = true
theorem dec37 {n : Nat} {ds : List Dat} (h : Fit Tryd.prog (n + 1) 37 ds) : ∃ x : Int, ds = [.int .u16 x] ∧ wf37 x := by
  exact Fit_int Tryd.underlying37 h

theorem law (x0 : List A_a4i8) (x1 : Int) (h0 : wf22 x0) (h1 : wf37 x1) : ∃ fuel, F4 fuel x0 x1 = some true :=
  ⟨4000, law31Back x0 x1 (bounds_u16 h1)⟩

theorem own : ownKnob Tryd.prog.godebug = none := by kernel_rfl
theorem laidOut : laidOutB Tryd.prog = true := by kernel_rfl

theorem glok {W : World} (h0 : laidMetH Tryd.prog Rows.codeBackRow.laid W) (hs : W.ShapedOpen Tryd.prog) : GlA (HeapM W) W := by
  have h : laidMet Tryd.prog Rows.codeBackRow.laid W := by
    rw [MakeChecks.laidMetH_plain _ _ _ (by kernel_rfl)] at h0
    exact h0
  have all : ∀ n cs, gl n = some cs → (∃ us, Cells (HeapM W) n 0 us ∧ RelDs (HeapM W) cs us) ∧ ∃ c e z, W.heap[n]? = some (.cells c e z) ∧ c.size = cs.length := fun n cs e => by
    refine glIn_all (Q := fun n cs => (∃ us, Cells (HeapM W) n 0 us ∧ RelDs (HeapM W) cs us) ∧ ∃ c e z, W.heap[n]? = some (.cells c e z) ∧ c.size = cs.length) ?_ e
    show _ ∧ _ ∧ _ ∧ _ ∧ True
    exact ⟨gl_arr h 6 (g := 0) (t := 70) (e := 9) rfl (by kernel_rfl) (by kernel_rfl) Tryd.underlying70 (by kernel_rfl) (by kernel_rfl) (by kernel_rfl) (by kernel_rfl),
      gl_arr h 2 (g := 1) (t := 127) (e := 117) rfl (by kernel_rfl) (by kernel_rfl) Tryd.underlying127 (by kernel_rfl) (by kernel_rfl) (by kernel_rfl) (by kernel_rfl),
      gl_one h 5 (g := 3) (t := 67) rfl (by kernel_rfl) (by kernel_rfl) (by kernel_rfl) rfl,
      gl_one h 4 (g := 4) (t := 67) rfl (by kernel_rfl) (by kernel_rfl) (by kernel_rfl) rfl,
      trivial⟩
  refine ⟨⟨fun n cs e => (all n cs e).1, fun n k e => ?_⟩, fun n cs e => (all n cs e).2⟩
  · simp only [gxT, List.mem_cons, List.mem_nil_iff, or_false, Prod.mk.injEq] at e
    obtain ⟨rfl, rfl⟩ := e
    exact gl_x hs (zero := #[.int .i64 0]) (t := 3) (of_decide_eq_true (by kernel_rfl)) (by kernel_rfl) (by kernel_rfl) (by kernel_rfl) Tryd.underlying3 (by kernel_rfl)

theorem lifted (os : Os) (started : os.Started) (H : Type) (enc : TypeId × Value → H) :
    ReturnsInHanded {} Tryd.checked os 4 .any (fun w args => (Rows.codeBackSpec.pre enc Tryd.prog Tryd.f4 Rows.codeBackRow.domain false w args ∧ laidMetH Tryd.prog Rows.codeBackRow.laid w) ∧ sizedMet enc Tryd.prog Tryd.f4 (OpenSpec.ofChange Rows.codeBackSpec) false w args)
      (Rows.codeBackSpec.post enc Tryd.prog Tryd.f4 false true false false) := by
  refine returns_of_change_open (C := Tryd.checked) (X := fun w _ => laidMetH Tryd.prog Rows.codeBackRow.laid w) (fun _ _ _ hh h => h.of_heap hh) own started (by kernel_rfl) Tryd.func4
    (ChangeSpec.witness_shaped (enc := enc) (C := Tryd.checked) (os := os) (X := fun w _ => laidMetH Tryd.prog Rows.codeBackRow.laid w) false (World.laidAll Tryd.prog os Rows.codeBackRow.laid) #[.slice none 0 0, .int .u16 0] 8 (World.laidAll_os _ _ _)
      (World.shaped_of_ZipB (by kernel_rfl) (by kernel_rfl)) (by kernel_rfl) (by kernel_rfl) (by kernel_rfl)
      (by rw [MakeChecks.laidMetH_plain _ _ _ (by kernel_rfl)]; exact laidMet_laidAll _ (by kernel_rfl) (by kernel_rfl))) ?_
  intro W base args ds gs before hval0 hW hcnd hlaid hshape
  have hgl : GlA (HeapM W) W := glok hlaid hshape
  have hval : ∀ (j : Nat) t v, Tryd.f4.params[j]? = some t → args[j]? = some v → Value.okWide Tryd.prog W .any base t v := hval0
  have hW' := hW
  obtain ⟨p, q, hA0, hV, rfl, hfz, hnd⟩ := hW
  have hA : DataW.TrodAll enc Tryd.prog W 0 (fun _ => true) true Tryd.f4.params.toList args.toList ds p := hA0
  rw [Tryd.params4] at hA hval
  obtain ⟨v0, vs0, d0, ds0, p0, q0, hargs, rfl, rfl, h0, r0⟩ := trodAll_cons hA
  obtain ⟨v1, vs1, d1, ds1, p1, q1, rfl, rfl, rfl, h1, r1⟩ := trodAll_cons r0
  obtain ⟨rfl, rfl, rfl⟩ := trodAll_nil r1
  obtain rfl : args = #[v0, v1] := by cases args; simp_all
  obtain ⟨rfl, rfl⟩ := trodVars_none hV
  have k0 := h0
  have lt0 : ∀ x ∈ p0, x.block < W.heap.size := by obtain ⟨m, hm⟩ := k0; exact DataW.trod_lt m _ _ _ hm
  obtain ⟨a0, len0, cap0, rfl⟩ := okWide_slice Tryd.underlying22 (hval 0 22 v0 rfl rfl)
  obtain ⟨m0, hm0⟩ := k0
  obtain ⟨ds0, hr0, hf0⟩ := trod_rel 3 22 m0 _ _ (by kernel_rfl) hm0
  obtain ⟨x0, rfl, wf0_⟩ := dec22 (n := 0) hf0
  have rel0 : RelV (HeapM W) noR (.d (.sl 4 (x0.map e_a4i8))) _ := relV_one hr0
  have k1 := h1
  have lt1 : ∀ x ∈ p1, x.block < W.heap.size := by obtain ⟨m, hm⟩ := k1; exact DataW.trod_lt m _ _ _ hm
  obtain ⟨a1, rfl, rfl, rfl, w1⟩ := open_int Tryd.underlying37 (hval 1 37 v1 rfl rfl) h1
  obtain ⟨m1, hm1⟩ := k1
  obtain ⟨ds1, hr1, hf1⟩ := trod_rel 1 37 m1 _ _ (by kernel_rfl) hm1
  obtain ⟨x1, rfl, wf1_⟩ := dec37 (n := 0) hf1
  have rel1 : RelV (HeapM W) noR (.d (.int .u16 x1)) _ := relV_one hr1
  obtain ⟨fuel, hF⟩ := law x0 x1 wf0_ wf1_
  clear hA0 hval0
  refine (F4_ok hF (HeapM W) W [_, _] (HeapM_sits W) hgl (by simp only [RelVs]; exact ⟨_, _, rfl, rel0, ⟨_, _, rfl, rel1, rfl⟩⟩)).mono fun e W' hE => ?_
  obtain ⟨u, M', rfl, hext, hv⟩ := hE
  have bel := hext.below
  have hv := relV_d hv
  cases hv
  exact ⟨_, rfl, _, _, _, [], _, [], hW', trodAll_mk1 (shut_bool Tryd.underlying4 _), (trodAll_cons_mk (Below.trod laidOut (by kernel_rfl) (of_decide_eq_true (by kernel_rfl)) ⟨_, hm0⟩ bel lt0) (trodAll_cons_mk (Below.trod laidOut (by kernel_rfl) (of_decide_eq_true (by kernel_rfl)) ⟨_, hm1⟩ bel lt1) trodAll_mk0)), rfl, bel.frame _, fun h => by cases h⟩

theorem over : Rows.codeBackRow.holds Tryd.pinned (OpenSpec.ofChange Rows.codeBackSpec) :=
  OpenClaim.holds_of_wide 4 Tryd.f4 rfl rfl rfl rfl rfl rfl rfl ⟨rfl, rfl, rfl, rfl, rfl⟩ rfl rfl rfl rfl rfl (by kernel_rfl) Tryd.func4 (by kernel_rfl)
    (of_decide_eq_true (by kernel_rfl)) (by unfold Func.isWrapper; first | (rw [if_pos (by decide +kernel)]; kernel_rfl) | (rw [if_neg (by decide +kernel)]; exact ⟨rfl, rfl⟩))
    (fun os started H enc _ => lifted os started H enc)

/-- The statement. -/
theorem proved : Rows.CodeBackCardSaid :=
  Claim7.holds_tied_plain_at .later [] [.data, .data, .data, .data, .sentinel, .sentinel, .widerDeep, .pinned] true (true, "e3e9303c59680a8ae5ad61c06e78f4c92347388a7ca248ceb90172cbdaf66d55") true over (fun _ h => by cases h) (by kernel_rfl) (fun _ h => by cases h) codeBack_row_tie rfl ⟨rfl, rfl⟩ (by kernel_rfl) rfl
    (fun f fn hf hfn => by
      obtain rfl : f = 4 := Option.some.inj ((show Tryd.prog.funcNamed "croupier/croupierlaw31.CodeBack" = some 4 by kernel_rfl).symm.trans hf) |>.symm
      obtain rfl : fn = Tryd.f4 := (Option.some.inj (Tryd.func4.symm.trans hfn)).symm
      exact ⟨by kernel_rfl, fun j t ht => by
        rw [Tryd.params4] at ht
        have hm : t ∈ [22, 37] := by simpa using Array.mem_of_getElem? ht
        have hall : ([22, 37].all fun u => !Tryd.prog.wantsStandIn u) = true := by kernel_rfl
        exact (show Tryd.prog.wantsStandIn t = false by simpa using List.all_eq_true.1 hall t hm)⟩)
    (by kernel_rfl)
#print axioms proved
end Go.Proofs.YtilfjfpemjfalaaDoor.codeBack
