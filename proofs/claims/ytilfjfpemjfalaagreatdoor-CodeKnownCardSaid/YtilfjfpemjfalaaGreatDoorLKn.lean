/- CodeKnown holds: whatever the input, the call returns true, and what came in reads as it did. No condition. -/
import Derived.Test.YtilfjfpemjfalaaGreatDoorRows
import Derived.Test.YtilfjfpemjfalaaGreatDoorFKn
import Derived.Test.YtilfjfpemjfalaaGreatDoorFA
import Derived.Test.YtilfjfpemjfalaaGreatDoorFSe
import Derived.Test.YtilfjfpemjfalaaGreatDoorFRu
import Derived.Test.YtilfjfpemjfalaaGreatDoorFCh
import Derived.Test.YtilfjfpemjfalaaGreatDoorRzc
import Derived.Test.YtilfjfpemjfalaaGreatDoorTie
import Derived.Test.YtilfjfpemjfalaaGreatDoorCards
import Derived.SevenTiedAt
import Derived.WalkKit
import Derived.ProofKit
import Derived.OpenShut
import Derived.ShutString
import Derived.ChangeOld
import Derived.Below
namespace Go.Proofs.YtilfjfpemjfalaaGreatDoor.codeKnown
open Go.ChangeShapes Go.WideShapes Go.ChangeAt Go.RowKit Kx
open Go.ChangeMaps (open_string shut_string)
set_option linter.unusedVariables false
set_option maxRecDepth 100000




theorem law : ∃ fuel, F7 fuel = some true := ⟨4000, by kernel_rfl⟩

theorem own : ownKnob Tryz.prog.godebug = none := by kernel_rfl
theorem laidOut : laidOutB Tryz.prog = true := by kernel_rfl

theorem glok {W : World} (h0 : laidMetH Tryz.prog Rows.codeKnownRow.laid W) (hs : W.ShapedOpen Tryz.prog) : GlA (HeapM W) W := by
  have h : laidMet Tryz.prog Rows.codeKnownRow.laid W := by
    rw [MakeChecks.laidMetH_plain _ _ _ (by kernel_rfl)] at h0
    exact h0
  have all : ∀ n cs, gl n = some cs → (∃ us, Cells (HeapM W) n 0 us ∧ RelDs (HeapM W) cs us) ∧ ∃ c e z, W.heap[n]? = some (.cells c e z) ∧ c.size = cs.length := fun n cs e => by
    refine glIn_all (Q := fun n cs => (∃ us, Cells (HeapM W) n 0 us ∧ RelDs (HeapM W) cs us) ∧ ∃ c e z, W.heap[n]? = some (.cells c e z) ∧ c.size = cs.length) ?_ e
    show _ ∧ _ ∧ _ ∧ _ ∧ True
    exact ⟨gl_arr h 6 (g := 0) (t := 106) (e := 9) rfl (by kernel_rfl) (by kernel_rfl) Tryz.underlying106 (by kernel_rfl) (by kernel_rfl) (by kernel_rfl) (by kernel_rfl),
      gl_arr h 2 (g := 2) (t := 186) (e := 149) rfl (by kernel_rfl) (by kernel_rfl) Tryz.underlying186 (by kernel_rfl) (by kernel_rfl) (by kernel_rfl) (by kernel_rfl),
      gl_one h 5 (g := 3) (t := 103) rfl (by kernel_rfl) (by kernel_rfl) (by kernel_rfl) rfl,
      gl_one h 4 (g := 4) (t := 103) rfl (by kernel_rfl) (by kernel_rfl) (by kernel_rfl) rfl,
      trivial⟩
  refine ⟨⟨fun n cs e => (all n cs e).1, fun n k e => ?_⟩, fun n cs e => (all n cs e).2⟩
  · simp only [gxT, List.mem_cons, List.mem_nil_iff, or_false, Prod.mk.injEq] at e
    obtain ⟨rfl, rfl⟩ := e
    exact gl_x hs (zero := #[.int .i64 0]) (t := 3) (of_decide_eq_true (by kernel_rfl)) (by kernel_rfl) (by kernel_rfl) (by kernel_rfl) Tryz.underlying3 (by kernel_rfl)

theorem lifted (os : Os) (started : os.Started) (H : Type) (enc : TypeId × Value → H) :
    ReturnsInHanded {} Tryz.checked os 7 .any (fun w args => (Rows.codeKnownSpec.pre enc Tryz.prog Tryz.f7 Rows.codeKnownRow.domain false w args ∧ laidMetH Tryz.prog Rows.codeKnownRow.laid w) ∧ sizedMet enc Tryz.prog Tryz.f7 (OpenSpec.ofChange Rows.codeKnownSpec) false w args)
      (Rows.codeKnownSpec.post enc Tryz.prog Tryz.f7 false true false false) := by
  refine returns_of_change_open (C := Tryz.checked) (X := fun w _ => laidMetH Tryz.prog Rows.codeKnownRow.laid w) (fun _ _ _ hh h => h.of_heap hh) own started (by kernel_rfl) Tryz.func7
    (ChangeSpec.witness_shaped (enc := enc) (C := Tryz.checked) (os := os) (X := fun w _ => laidMetH Tryz.prog Rows.codeKnownRow.laid w) false (World.laidAll Tryz.prog os Rows.codeKnownRow.laid) #[] 8 (World.laidAll_os _ _ _)
      (World.shaped_of_ZipB (by kernel_rfl) (by kernel_rfl)) (by kernel_rfl) (by kernel_rfl) (by kernel_rfl)
      (by rw [MakeChecks.laidMetH_plain _ _ _ (by kernel_rfl)]; exact laidMet_laidAll _ (by kernel_rfl) (by kernel_rfl))) ?_
  intro W base args ds gs before hval0 hW hcnd hlaid hshape
  have hgl : GlA (HeapM W) W := glok hlaid hshape
  have hval : ∀ (j : Nat) t v, Tryz.f7.params[j]? = some t → args[j]? = some v → Value.okWide Tryz.prog W .any base t v := hval0
  have hW' := hW
  obtain ⟨p, q, hA0, hV, rfl, hfz, hnd⟩ := hW
  have hA : DataW.TrodAll enc Tryz.prog W 0 (fun _ => true) true Tryz.f7.params.toList args.toList ds p := hA0
  rw [Tryz.params7] at hA hval
  obtain ⟨rfl, rfl, rfl⟩ := trodAll_none hA
  obtain ⟨rfl, rfl⟩ := trodVars_none hV
  obtain ⟨fuel, hF⟩ := law  
  clear hA0 hval0
  refine (F7_ok hF (HeapM W) W [] (HeapM_sits W) hgl (by simp only [RelVs])).mono fun e W' hE => ?_
  obtain ⟨u, M', rfl, hext, hv⟩ := hE
  have bel := hext.below
  have hv := relV_d hv
  cases hv
  exact ⟨_, rfl, _, _, _, [], _, [], hW', trodAll_mk1 (shut_bool Tryz.underlying4 _), trodAll_mk0, rfl, bel.frame _, fun h => by cases h⟩

theorem over : Rows.codeKnownRow.holds Tryz.pinned (OpenSpec.ofChange Rows.codeKnownSpec) :=
  OpenClaim.holds_of_wide 7 Tryz.f7 rfl rfl rfl rfl rfl rfl rfl ⟨rfl, rfl, rfl, rfl, rfl⟩ rfl rfl rfl rfl rfl (by kernel_rfl) Tryz.func7 (by kernel_rfl)
    (of_decide_eq_true (by kernel_rfl)) (by unfold Func.isWrapper; first | (rw [if_pos (by decide +kernel)]; kernel_rfl) | (rw [if_neg (by decide +kernel)]; exact ⟨rfl, rfl⟩))
    (fun os started H enc _ => lifted os started H enc)

/-- The statement. -/
theorem proved : Rows.CodeKnownCardSaid :=
  Claim7.holds_tied_plain_at .later [] [.data, .data, .data, .data, .sentinel, .sentinel, .widerDeep, .pinned] true (true, "2dba993e631bf072170a6193a4f32c8a648ded246287199cb37cfc8f12e2c566") true over (fun _ h => by cases h) (by kernel_rfl) (fun _ h => by cases h) codeKnown_row_tie rfl ⟨rfl, rfl⟩ (by kernel_rfl) rfl
    (fun f fn hf hfn => by
      obtain rfl : f = 7 := Option.some.inj ((show Tryz.prog.funcNamed "croupier/croupierlaw31.CodeKnown" = some 7 by kernel_rfl).symm.trans hf) |>.symm
      obtain rfl : fn = Tryz.f7 := (Option.some.inj (Tryz.func7.symm.trans hfn)).symm
      exact ⟨by kernel_rfl, fun j t ht => by
        rw [Tryz.params7] at ht
        simp at ht⟩)
    (by kernel_rfl)
#print axioms proved
end Go.Proofs.YtilfjfpemjfalaaGreatDoor.codeKnown
