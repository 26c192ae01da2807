/- CodeParses holds: whatever the input, the call returns true, and what came in reads as it did. No condition. -/
import Derived.Test.YtilfjfpemjfalaaGreatDoorRows
import Derived.Test.YtilfjfpemjfalaaGreatDoorFPa
import Derived.Test.YtilfjfpemjfalaaGreatDoorFA
import Derived.Test.YtilfjfpemjfalaaGreatDoorFSe
import Derived.Test.YtilfjfpemjfalaaGreatDoorFRu
import Derived.Test.YtilfjfpemjfalaaGreatDoorFCh
import Derived.Test.YtilfjfpemjfalaaGreatDoorC1
import Derived.Test.YtilfjfpemjfalaaGreatDoorC3
import Derived.Test.YtilfjfpemjfalaaGreatDoorC6
import Derived.Test.YtilfjfpemjfalaaGreatDoorC8
import Derived.Test.YtilfjfpemjfalaaGreatDoorC13
import Derived.Test.YtilfjfpemjfalaaGreatDoorRzc
import Derived.Test.YtilfjfpemjfalaaGreatDoorTie
import Derived.Test.YtilfjfpemjfalaaGreatDoorCards
import Derived.SevenTiedAt
import Derived.WalkKit
import Derived.ProofKit
import Derived.OpenShut
import Derived.ShutString
import Derived.ChangeOld
import Derived.Below
namespace Go.Proofs.YtilfjfpemjfalaaGreatDoor.codeParses
open Go.ChangeShapes Go.WideShapes Go.ChangeAt Go.RowKit Kx
open Go.ChangeMaps (open_string shut_string)
set_option linter.unusedVariables false
set_option maxRecDepth 100000


def wf26 (x : Int) : Prop := (Lit.int .i8 x).wf = true
theorem dec26 {n : Nat} {ds : List Dat} (h : Fit Tryz.prog (n + 1) 26 ds) : ∃ x : Int, ds = [.int .i8 x] ∧ wf26 x := by
  exact Fit_int Tryz.underlying26 h
def wf27 (x : A_a4i8) : Prop := wf26 x.a0 ∧ wf26 x.a1 ∧ wf26 x.a2 ∧ wf26 x.a3
theorem dec27 {n : Nat} {ds : List Dat} (h : Fit Tryz.prog (n + 2) 27 ds) : ∃ x : A_a4i8, ds = [.int .i8 x.a0, .int .i8 x.a1, .int .i8 x.a2, .int .i8 x.a3] ∧ wf27 x := by
  have h0 := Fit_array Tryz.underlying27 h
  obtain ⟨_, r0, rfl, g0, h1⟩ := h0
  obtain ⟨x0, rfl, w0⟩ := dec26 (n := n + 0) g0
  obtain ⟨_, r1, rfl, g1, h2⟩ := h1
  obtain ⟨x1, rfl, w1⟩ := dec26 (n := n + 0) g1
  obtain ⟨_, r2, rfl, g2, h3⟩ := h2
  obtain ⟨x2, rfl, w2⟩ := dec26 (n := n + 0) g2
  obtain ⟨_, r3, rfl, g3, h4⟩ := h3
  obtain ⟨x3, rfl, w3⟩ := dec26 (n := n + 0) g3
  cases (show r3 = [] from h4)
  exact ⟨⟨x0, x1, x2, x3⟩, rfl, ⟨w0, w1, w2, w3⟩⟩
def wf22 (x : List A_a4i8) : Prop := x.length ≤ maxLen ∧ ∀ y ∈ x, wf27 y
theorem dec22 {n : Nat} {ds : List Dat} (h : Fit Tryz.prog (n + 3) 22 ds) : ∃ x : List A_a4i8, ds = [.sl 4 (x.map e_a4i8)] ∧ wf22 x := by
  obtain ⟨es, rfl, hl, he⟩ := Fit_slice Tryz.underlying22 (sz := 4) (by kernel_rfl) h
  obtain ⟨l, rfl, hq⟩ := Fit_list (en := e_a4i8) (Q := wf27) (fun x hx => dec27 hx) es he
  exact ⟨l, rfl, by simpa using hl, hq⟩
def wf38 (x : Int) : Prop := (Lit.int .u16 x).wf = true
theorem dec38 {n : Nat} {ds : List Dat} (h : Fit Tryz.prog (n + 1) 38 ds) : ∃ x : Int, ds = [.int .u16 x] ∧ wf38 x := by
  exact Fit_int Tryz.underlying38 h
def wf5 (x : Int) : Prop := (Lit.int .u8 x).wf = true
theorem dec5 {n : Nat} {ds : List Dat} (h : Fit Tryz.prog (n + 1) 5 ds) : ∃ x : Int, ds = [.int .u8 x] ∧ wf5 x := by
  exact Fit_int Tryz.underlying5 h
def wf9 (x : List UInt8) : Prop := x.length ≤ maxLen
theorem dec9 {n : Nat} {ds : List Dat} (h : Fit Tryz.prog (n + 1) 9 ds) : ∃ x : List UInt8, ds = [.str x] ∧ wf9 x := by
  exact Fit_str Tryz.underlying9 h
def wf40 (x : T_croupierlaw31_Edit) : Prop := wf38 x.At ∧ wf5 x.Less ∧ wf9 x.Text
theorem dec40 {n : Nat} {ds : List Dat} (h : Fit Tryz.prog (n + 2) 40 ds) : ∃ x : T_croupierlaw31_Edit, ds = [.int .u16 x.At, .int .u8 x.Less, .str x.Text] ∧ wf40 x := by
  have h0 := Fit_struct Tryz.underlying40 h
  obtain ⟨_, r0, rfl, g0, h1⟩ := h0
  obtain ⟨x0, rfl, w0⟩ := dec38 (n := n + 0) g0
  obtain ⟨_, r1, rfl, g1, h2⟩ := h1
  obtain ⟨x1, rfl, w1⟩ := dec5 (n := n + 0) g1
  obtain ⟨_, r2, rfl, g2, h3⟩ := h2
  obtain ⟨x2, rfl, w2⟩ := dec9 (n := n + 0) g2
  cases (show r2 = [] from h3)
  exact ⟨⟨x0, x1, x2⟩, rfl, ⟨w0, w1, w2⟩⟩

theorem law (x0 : List A_a4i8) (x1 : T_croupierlaw31_Edit) (x2 : T_croupierlaw31_Edit) (x3 : List UInt8) (h0 : wf22 x0) (h1 : wf40 x1) (h2 : wf40 x2) (h3 : wf9 x3) : ∃ fuel, F4 fuel x0 x1 x2 x3 = some true :=
  ⟨4000, law31Parses x0 x1 x2 x3 (bounds_u16 h1.1) (bounds_u8 h1.2.1).1 (bounds_u16 h2.1) (bounds_u8 h2.2.1).1⟩

theorem own : ownKnob Tryz.prog.godebug = none := by kernel_rfl
theorem laidOut : laidOutB Tryz.prog = true := by kernel_rfl

theorem glok {W : World} (h0 : laidMetH Tryz.prog Rows.codeParsesRow.laid W) (hs : W.ShapedOpen Tryz.prog) : GlA (HeapM W) W := by
  have h : laidMet Tryz.prog Rows.codeParsesRow.laid W := by
    rw [MakeChecks.laidMetH_plain _ _ _ (by kernel_rfl)] at h0
    exact h0
  have all : ∀ n cs, gl n = some cs → (∃ us, Cells (HeapM W) n 0 us ∧ RelDs (HeapM W) cs us) ∧ ∃ c e z, W.heap[n]? = some (.cells c e z) ∧ c.size = cs.length := fun n cs e => by
    refine glIn_all (Q := fun n cs => (∃ us, Cells (HeapM W) n 0 us ∧ RelDs (HeapM W) cs us) ∧ ∃ c e z, W.heap[n]? = some (.cells c e z) ∧ c.size = cs.length) ?_ e
    show _ ∧ _ ∧ _ ∧ _ ∧ True
    exact ⟨gl_arr h 6 (g := 0) (t := 106) (e := 9) rfl (by kernel_rfl) (by kernel_rfl) Tryz.underlying106 (by kernel_rfl) (by kernel_rfl) (by kernel_rfl) (by kernel_rfl),
      gl_arr h 2 (g := 2) (t := 186) (e := 149) rfl (by kernel_rfl) (by kernel_rfl) Tryz.underlying186 (by kernel_rfl) (by kernel_rfl) (by kernel_rfl) (by kernel_rfl),
      gl_one h 5 (g := 3) (t := 103) rfl (by kernel_rfl) (by kernel_rfl) (by kernel_rfl) rfl,
      gl_one h 4 (g := 4) (t := 103) rfl (by kernel_rfl) (by kernel_rfl) (by kernel_rfl) rfl,
      trivial⟩
  refine ⟨⟨fun n cs e => (all n cs e).1, fun n k e => ?_⟩, fun n cs e => (all n cs e).2⟩
  · simp only [gxT, List.mem_cons, List.mem_nil_iff, or_false, Prod.mk.injEq] at e
    obtain ⟨rfl, rfl⟩ := e
    exact gl_x hs (zero := #[.int .i64 0]) (t := 3) (of_decide_eq_true (by kernel_rfl)) (by kernel_rfl) (by kernel_rfl) (by kernel_rfl) Tryz.underlying3 (by kernel_rfl)

theorem lifted (os : Os) (started : os.Started) (H : Type) (enc : TypeId × Value → H) :
    ReturnsInHanded {} Tryz.checked os 4 .any (fun w args => (Rows.codeParsesSpec.pre enc Tryz.prog Tryz.f4 Rows.codeParsesRow.domain false w args ∧ laidMetH Tryz.prog Rows.codeParsesRow.laid w) ∧ sizedMet enc Tryz.prog Tryz.f4 (OpenSpec.ofChange Rows.codeParsesSpec) false w args)
      (Rows.codeParsesSpec.post enc Tryz.prog Tryz.f4 false true false false) := by
  refine returns_of_change_open (C := Tryz.checked) (X := fun w _ => laidMetH Tryz.prog Rows.codeParsesRow.laid w) (fun _ _ _ hh h => h.of_heap hh) own started (by kernel_rfl) Tryz.func4
    (ChangeSpec.witness_shaped (enc := enc) (C := Tryz.checked) (os := os) (X := fun w _ => laidMetH Tryz.prog Rows.codeParsesRow.laid w) false (World.laidAll Tryz.prog os Rows.codeParsesRow.laid) #[.slice none 0 0, .agg #[.int .u16 0, .int .u8 0, .string ByteArray.empty], .agg #[.int .u16 0, .int .u8 0, .string ByteArray.empty], .string ByteArray.empty] 8 (World.laidAll_os _ _ _)
      (World.shaped_of_ZipB (by kernel_rfl) (by kernel_rfl)) (by kernel_rfl) (by kernel_rfl) (by kernel_rfl)
      (by rw [MakeChecks.laidMetH_plain _ _ _ (by kernel_rfl)]; exact laidMet_laidAll _ (by kernel_rfl) (by kernel_rfl))) ?_
  intro W base args ds gs before hval0 hW hcnd hlaid hshape
  have hgl : GlA (HeapM W) W := glok hlaid hshape
  have hval : ∀ (j : Nat) t v, Tryz.f4.params[j]? = some t → args[j]? = some v → Value.okWide Tryz.prog W .any base t v := hval0
  have hW' := hW
  obtain ⟨p, q, hA0, hV, rfl, hfz, hnd⟩ := hW
  have hA : DataW.TrodAll enc Tryz.prog W 0 (fun _ => true) true Tryz.f4.params.toList args.toList ds p := hA0
  rw [Tryz.params4] at hA hval
  obtain ⟨v0, vs0, d0, ds0, p0, q0, hargs, rfl, rfl, h0, r0⟩ := trodAll_cons hA
  obtain ⟨v1, vs1, d1, ds1, p1, q1, rfl, rfl, rfl, h1, r1⟩ := trodAll_cons r0
  obtain ⟨v2, vs2, d2, ds2, p2, q2, rfl, rfl, rfl, h2, r2⟩ := trodAll_cons r1
  obtain ⟨v3, vs3, d3, ds3, p3, q3, rfl, rfl, rfl, h3, r3⟩ := trodAll_cons r2
  obtain ⟨rfl, rfl, rfl⟩ := trodAll_nil r3
  obtain rfl : args = #[v0, v1, v2, v3] := by cases args; simp_all
  obtain ⟨rfl, rfl⟩ := trodVars_none hV
  have k0 := h0
  have lt0 : ∀ x ∈ p0, x.block < W.heap.size := by obtain ⟨m, hm⟩ := k0; exact DataW.trod_lt m _ _ _ hm
  obtain ⟨a0, len0, cap0, rfl⟩ := okWide_slice Tryz.underlying22 (hval 0 22 v0 rfl rfl)
  obtain ⟨m0, hm0⟩ := k0
  obtain ⟨ds0, hr0, hf0⟩ := trod_rel 3 22 m0 _ _ (by kernel_rfl) hm0
  obtain ⟨x0, rfl, wf0_⟩ := dec22 (n := 0) hf0
  have rel0 : RelV (HeapM W) noR (.d (.sl 4 (x0.map e_a4i8))) _ := relV_one hr0
  have k1 := h1
  have lt1 : ∀ x ∈ p1, x.block < W.heap.size := by obtain ⟨m, hm⟩ := k1; exact DataW.trod_lt m _ _ _ hm
  obtain ⟨c1, rfl⟩ := okAggS Tryz.underlying40 (hval 1 40 v1 rfl rfl)
  obtain ⟨m1, hm1⟩ := k1
  obtain ⟨ds1, hr1, hf1⟩ := trod_rel 2 40 m1 _ _ (by kernel_rfl) hm1
  obtain ⟨x1, rfl, wf1_⟩ := dec40 (n := 0) hf1
  have rel1 : RelV (HeapM W) noR (.agg (dV [.int .u16 x1.At, .int .u8 x1.Less, .str x1.Text])) _ := relV_agg' hr1
  have k2 := h2
  have lt2 : ∀ x ∈ p2, x.block < W.heap.size := by obtain ⟨m, hm⟩ := k2; exact DataW.trod_lt m _ _ _ hm
  obtain ⟨c2, rfl⟩ := okAggS Tryz.underlying40 (hval 2 40 v2 rfl rfl)
  obtain ⟨m2, hm2⟩ := k2
  obtain ⟨ds2, hr2, hf2⟩ := trod_rel 2 40 m2 _ _ (by kernel_rfl) hm2
  obtain ⟨x2, rfl, wf2_⟩ := dec40 (n := 0) hf2
  have rel2 : RelV (HeapM W) noR (.agg (dV [.int .u16 x2.At, .int .u8 x2.Less, .str x2.Text])) _ := relV_agg' hr2
  have k3 := h3
  have lt3 : ∀ x ∈ p3, x.block < W.heap.size := by obtain ⟨m, hm⟩ := k3; exact DataW.trod_lt m _ _ _ hm
  obtain ⟨a3, rfl, rfl, rfl, w3⟩ := open_string Tryz.underlying9 (hval 3 9 v3 rfl rfl) h3
  obtain ⟨m3, hm3⟩ := k3
  obtain ⟨ds3, hr3, hf3⟩ := trod_rel 1 9 m3 _ _ (by kernel_rfl) hm3
  obtain ⟨x3, rfl, wf3_⟩ := dec9 (n := 0) hf3
  have rel3 : RelV (HeapM W) noR (.d (.str x3)) _ := relV_one hr3
  obtain ⟨fuel, hF⟩ := law x0 x1 x2 x3 wf0_ wf1_ wf2_ wf3_
  clear hA0 hval0
  refine (F4_ok hF (HeapM W) W [_, _, _, _] (HeapM_sits W) hgl (by simp only [RelVs]; exact ⟨_, _, rfl, rel0, ⟨_, _, rfl, rel1, ⟨_, _, rfl, rel2, ⟨_, _, rfl, rel3, rfl⟩⟩⟩⟩)).mono fun e W' hE => ?_
  obtain ⟨u, M', rfl, hext, hv⟩ := hE
  have bel := hext.below
  have hv := relV_d hv
  cases hv
  exact ⟨_, rfl, _, _, _, [], _, [], hW', trodAll_mk1 (shut_bool Tryz.underlying4 _), (trodAll_cons_mk (Below.trod laidOut (by kernel_rfl) (of_decide_eq_true (by kernel_rfl)) ⟨_, hm0⟩ bel lt0) (trodAll_cons_mk (Below.trod laidOut (by kernel_rfl) (of_decide_eq_true (by kernel_rfl)) ⟨_, hm1⟩ bel lt1) (trodAll_cons_mk (Below.trod laidOut (by kernel_rfl) (of_decide_eq_true (by kernel_rfl)) ⟨_, hm2⟩ bel lt2) (trodAll_cons_mk (Below.trod laidOut (by kernel_rfl) (of_decide_eq_true (by kernel_rfl)) ⟨_, hm3⟩ bel lt3) trodAll_mk0)))), rfl, bel.frame _, fun h => by cases h⟩

theorem over : Rows.codeParsesRow.holds Tryz.pinned (OpenSpec.ofChange Rows.codeParsesSpec) :=
  OpenClaim.holds_of_wide 4 Tryz.f4 rfl rfl rfl rfl rfl rfl rfl ⟨rfl, rfl, rfl, rfl, rfl⟩ rfl rfl rfl rfl rfl (by kernel_rfl) Tryz.func4 (by kernel_rfl)
    (of_decide_eq_true (by kernel_rfl)) (by unfold Func.isWrapper; first | (rw [if_pos (by decide +kernel)]; kernel_rfl) | (rw [if_neg (by decide +kernel)]; exact ⟨rfl, rfl⟩))
    (fun os started H enc _ => lifted os started H enc)

/-- The statement. -/
theorem proved : Rows.CodeParsesCardSaid :=
  Claim7.holds_tied_plain_at .later [] [.data, .data, .data, .data, .sentinel, .sentinel, .widerDeep, .pinned] true (true, "2dba993e631bf072170a6193a4f32c8a648ded246287199cb37cfc8f12e2c566") true over (fun _ h => by cases h) (by kernel_rfl) (fun _ h => by cases h) codeParses_row_tie rfl ⟨rfl, rfl⟩ (by kernel_rfl) rfl
    (fun f fn hf hfn => by
      obtain rfl : f = 4 := Option.some.inj ((show Tryz.prog.funcNamed "croupier/croupierlaw31.CodeParses" = some 4 by kernel_rfl).symm.trans hf) |>.symm
      obtain rfl : fn = Tryz.f4 := (Option.some.inj (Tryz.func4.symm.trans hfn)).symm
      exact ⟨by kernel_rfl, fun j t ht => by
        rw [Tryz.params4] at ht
        have hm : t ∈ [22, 40, 40, 9] := by simpa using Array.mem_of_getElem? ht
        have hall : ([22, 40, 40, 9].all fun u => !Tryz.prog.wantsStandIn u) = true := by kernel_rfl
        exact (show Tryz.prog.wantsStandIn t = false by simpa using List.all_eq_true.1 hall t hm)⟩)
    (by kernel_rfl)
#print axioms proved
end Go.Proofs.YtilfjfpemjfalaaGreatDoor.codeParses
