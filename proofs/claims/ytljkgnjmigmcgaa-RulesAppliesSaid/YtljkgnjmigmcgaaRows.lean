/-
  No cell of these rows narrows 'for every input' (looked for: loops, veiled, ifaces, maps, wideKeys, modest, calm, conditions, laid).
  DERIVED. THE GIVEN ROWS OF THIS SEAT. 8 by the template 'for every input the law returns true; each argument reads behind the call as it read before'; 0 by the template 'total and deterministic' (their statements: YtljkgnjmigmcgaaTotals.lean).
  GIVEN WITH THE SEED: the statements are not yours to turn. If you find one false, say at which input.
  Laid BY PROGRAM, IN A SANDBOX (cutbox-rows.mjs): the forced cells as the released guide's own fill.sh prints them over the translation 1e5b1ae33438955a… (all of the seat's roots in one cut). By AI agents, Wed Nov 11 2026. No macro, syntax, notation, axiom, sorry.
-/
import Derived.Test.YtljkgnjmigmcgaaChecked
import GoSem.Claim
import GoSem.ClaimJoined
import GoSem.ClaimMapViews
import Derived.JoinedTies
import Derived.KernelRfl
namespace Go.Proofs.Ytljkgnjmigmcgaa
/- THE CELL 'sum', in the pinned program and in every row, IS THE sha256 OF THE DUMP (.gsa) THAT YtljkgnjmigmcgaaProg.lean LOADS. Nothing in Lean hashes anything: it is a label: what it is worth is what the hold of that sum in a sandbox is worth. -/
noncomputable def Try.pinned : Pinned := { name := "ytljkgnjmigmcgaa", sum := "1e5b1ae33438955acb92eecfa36674b7aa897f4dfba367d2ef7ad48ba8a1dd78", checked := Try.checked }
namespace Rows
def none {H : Type} : Left H := { results := [], args := [] }

/-- 'croupierlaw30.RulesRights': WHATEVER THE INPUT: true; the input reads as it did. -/
def rulesRightsSpec : ChangeSpec := { name := "rulesRights", fn := fun _ => fun
  | [d1, d2, d3, d4, d5] => { results := [.lit (.bool true)], args := [d1, d2, d3, d4, d5] }
  | _ => none }
def rulesRightsRow : OpenClaim := { program := "ytljkgnjmigmcgaa", sum := "1e5b1ae33438955acb92eecfa36674b7aa897f4dfba367d2ef7ad48ba8a1dd78", func := "croupier/croupierlaw30.RulesRights", spec := "rulesRights", unfollowed := true, recurses := true, apart := false }
def RulesRightsSaid : Prop := rulesRightsRow.holds Try.pinned (OpenSpec.ofChange rulesRightsSpec)

/-- ITS FALSE NEIGHBOUR: 'it returns false'. Refute it at one input. -/
def rulesRightsWrong : ChangeSpec := { name := "rulesRights", fn := fun _ => fun
  | [d1, d2, d3, d4, d5] => { results := [.lit (.bool false)], args := [d1, d2, d3, d4, d5] }
  | _ => none }
def RulesRightsWrongFalsely : Prop := rulesRightsRow.holds Try.pinned (OpenSpec.ofChange rulesRightsWrong)

/-- 'croupierlaw30.RulesShortest': WHATEVER THE INPUT: true; the input reads as it did. -/
def rulesShortestSpec : ChangeSpec := { name := "rulesShortest", fn := fun _ => fun
  | [d1, d2, d3] => { results := [.lit (.bool true)], args := [d1, d2, d3] }
  | _ => none }
def rulesShortestRow : OpenClaim := { program := "ytljkgnjmigmcgaa", sum := "1e5b1ae33438955acb92eecfa36674b7aa897f4dfba367d2ef7ad48ba8a1dd78", func := "croupier/croupierlaw30.RulesShortest", spec := "rulesShortest", unfollowed := true, recurses := true, apart := false }
def RulesShortestSaid : Prop := rulesShortestRow.holds Try.pinned (OpenSpec.ofChange rulesShortestSpec)

/-- ITS FALSE NEIGHBOUR: 'it returns false'. Refute it at one input. -/
def rulesShortestWrong : ChangeSpec := { name := "rulesShortest", fn := fun _ => fun
  | [d1, d2, d3] => { results := [.lit (.bool false)], args := [d1, d2, d3] }
  | _ => none }
def RulesShortestWrongFalsely : Prop := rulesShortestRow.holds Try.pinned (OpenSpec.ofChange rulesShortestWrong)

/-- 'croupierlaw30.RulesMine': WHATEVER THE INPUT: true; the input reads as it did. -/
def rulesMineSpec : ChangeSpec := { name := "rulesMine", fn := fun _ => fun
  | [d1, d2] => { results := [.lit (.bool true)], args := [d1, d2] }
  | _ => none }
def rulesMineRow : OpenClaim := { program := "ytljkgnjmigmcgaa", sum := "1e5b1ae33438955acb92eecfa36674b7aa897f4dfba367d2ef7ad48ba8a1dd78", func := "croupier/croupierlaw30.RulesMine", spec := "rulesMine", unfollowed := true, recurses := true, apart := false }
def RulesMineSaid : Prop := rulesMineRow.holds Try.pinned (OpenSpec.ofChange rulesMineSpec)

/-- ITS FALSE NEIGHBOUR: 'it returns false'. Refute it at one input. -/
def rulesMineWrong : ChangeSpec := { name := "rulesMine", fn := fun _ => fun
  | [d1, d2] => { results := [.lit (.bool false)], args := [d1, d2] }
  | _ => none }
def RulesMineWrongFalsely : Prop := rulesMineRow.holds Try.pinned (OpenSpec.ofChange rulesMineWrong)

/-- 'croupierlaw30.RulesOrder': WHATEVER THE INPUT: true; the input reads as it did. -/
def rulesOrderSpec : ChangeSpec := { name := "rulesOrder", fn := fun _ => fun
  | [d1, d2] => { results := [.lit (.bool true)], args := [d1, d2] }
  | _ => none }
def rulesOrderRow : OpenClaim := { program := "ytljkgnjmigmcgaa", sum := "1e5b1ae33438955acb92eecfa36674b7aa897f4dfba367d2ef7ad48ba8a1dd78", func := "croupier/croupierlaw30.RulesOrder", spec := "rulesOrder", unfollowed := true, recurses := true, apart := false }
def RulesOrderSaid : Prop := rulesOrderRow.holds Try.pinned (OpenSpec.ofChange rulesOrderSpec)

/-- ITS FALSE NEIGHBOUR: 'it returns false'. Refute it at one input. -/
def rulesOrderWrong : ChangeSpec := { name := "rulesOrder", fn := fun _ => fun
  | [d1, d2] => { results := [.lit (.bool false)], args := [d1, d2] }
  | _ => none }
def RulesOrderWrongFalsely : Prop := rulesOrderRow.holds Try.pinned (OpenSpec.ofChange rulesOrderWrong)

/-- 'croupierlaw30.RulesCopies': WHATEVER THE INPUT: true; the input reads as it did. -/
def rulesCopiesSpec : ChangeSpec := { name := "rulesCopies", fn := fun _ => fun
  | [d1, d2] => { results := [.lit (.bool true)], args := [d1, d2] }
  | _ => none }
def rulesCopiesRow : OpenClaim := { program := "ytljkgnjmigmcgaa", sum := "1e5b1ae33438955acb92eecfa36674b7aa897f4dfba367d2ef7ad48ba8a1dd78", func := "croupier/croupierlaw30.RulesCopies", spec := "rulesCopies", unfollowed := true, recurses := true, apart := false }
def RulesCopiesSaid : Prop := rulesCopiesRow.holds Try.pinned (OpenSpec.ofChange rulesCopiesSpec)

/-- ITS FALSE NEIGHBOUR: 'it returns false'. Refute it at one input. -/
def rulesCopiesWrong : ChangeSpec := { name := "rulesCopies", fn := fun _ => fun
  | [d1, d2] => { results := [.lit (.bool false)], args := [d1, d2] }
  | _ => none }
def RulesCopiesWrongFalsely : Prop := rulesCopiesRow.holds Try.pinned (OpenSpec.ofChange rulesCopiesWrong)

/-- 'croupierlaw30.RulesTrivial': WHATEVER THE INPUT: true; the input reads as it did. -/
def rulesTrivialSpec : ChangeSpec := { name := "rulesTrivial", fn := fun _ => fun
  | [d1, d2] => { results := [.lit (.bool true)], args := [d1, d2] }
  | _ => none }
def rulesTrivialRow : OpenClaim := { program := "ytljkgnjmigmcgaa", sum := "1e5b1ae33438955acb92eecfa36674b7aa897f4dfba367d2ef7ad48ba8a1dd78", func := "croupier/croupierlaw30.RulesTrivial", spec := "rulesTrivial", unfollowed := true, recurses := true, apart := false }
def RulesTrivialSaid : Prop := rulesTrivialRow.holds Try.pinned (OpenSpec.ofChange rulesTrivialSpec)

/-- ITS FALSE NEIGHBOUR: 'it returns false'. Refute it at one input. -/
def rulesTrivialWrong : ChangeSpec := { name := "rulesTrivial", fn := fun _ => fun
  | [d1, d2] => { results := [.lit (.bool false)], args := [d1, d2] }
  | _ => none }
def RulesTrivialWrongFalsely : Prop := rulesTrivialRow.holds Try.pinned (OpenSpec.ofChange rulesTrivialWrong)

/-- 'croupierlaw30.RulesApplies': WHATEVER THE INPUT: true; the input reads as it did. -/
def rulesAppliesSpec : ChangeSpec := { name := "rulesApplies", fn := fun _ => fun
  | [d1, d2, d3, d4, d5, d6] => { results := [.lit (.bool true)], args := [d1, d2, d3, d4, d5, d6] }
  | _ => none }
def rulesAppliesRow : OpenClaim := { program := "ytljkgnjmigmcgaa", sum := "1e5b1ae33438955acb92eecfa36674b7aa897f4dfba367d2ef7ad48ba8a1dd78", func := "croupier/croupierlaw30.RulesApplies", spec := "rulesApplies", unfollowed := true, recurses := true, apart := false }
def RulesAppliesSaid : Prop := rulesAppliesRow.holds Try.pinned (OpenSpec.ofChange rulesAppliesSpec)

/-- ITS FALSE NEIGHBOUR: 'it returns false'. Refute it at one input. -/
def rulesAppliesWrong : ChangeSpec := { name := "rulesApplies", fn := fun _ => fun
  | [d1, d2, d3, d4, d5, d6] => { results := [.lit (.bool false)], args := [d1, d2, d3, d4, d5, d6] }
  | _ => none }
def RulesAppliesWrongFalsely : Prop := rulesAppliesRow.holds Try.pinned (OpenSpec.ofChange rulesAppliesWrong)

/-- 'croupierlaw30.RulesKnown': WHATEVER THE INPUT: true; the input reads as it did. -/
def rulesKnownSpec : ChangeSpec := { name := "rulesKnown", fn := fun _ => fun
  | [] => { results := [.lit (.bool true)], args := [] }
  | _ => none }
def rulesKnownRow : OpenClaim := { program := "ytljkgnjmigmcgaa", sum := "1e5b1ae33438955acb92eecfa36674b7aa897f4dfba367d2ef7ad48ba8a1dd78", func := "croupier/croupierlaw30.RulesKnown", spec := "rulesKnown", unfollowed := true, recurses := true, apart := false }
def RulesKnownSaid : Prop := rulesKnownRow.holds Try.pinned (OpenSpec.ofChange rulesKnownSpec)

/-- ITS FALSE NEIGHBOUR: 'it returns false'. Refute it at one input. -/
def rulesKnownWrong : ChangeSpec := { name := "rulesKnown", fn := fun _ => fun
  | [] => { results := [.lit (.bool false)], args := [] }
  | _ => none }
def RulesKnownWrongFalsely : Prop := rulesKnownRow.holds Try.pinned (OpenSpec.ofChange rulesKnownWrong)

/- THE SECOND FORM. 'bulk': how many values and letters a reading holds, each counted each time it is reached (what is shared counts as often as it is met; a slice's spare places count too). A statement '..UptoSaid' is the law's where the arguments, and the package variables that the reading takes, are together of bulk at most 1048576: NARROWER than '..Said'. Prove '..Said' where nothing that the law and all that it calls make is longer than what came in: it says more and counts as full. Else prove '..UptoSaid'. A law counts once. -/
mutual
def uptoBulk {H : Type} : DataW H → Nat
  | .lit (.string bytes) => bytes.length + 1
  | .lit _ => 1
  | .nil => 1
  | .ptr d => uptoBulk d + 1
  | .slice elems spare => uptoBulkAll elems + uptoBulkAll spare + 1
  | .agg parts => uptoBulkAll parts + 1
  | .iface _ d => uptoBulk d + 1
  | .map entries => uptoBulkEntries entries + 1
  | .held _ => 1
def uptoBulkAll {H : Type} : List (DataW H) → Nat
  | [] => 0
  | d :: r => uptoBulk d + uptoBulkAll r
def uptoBulkEntries {H : Type} : List (Lit × DataW H) → Nat
  | [] => 0
  | x :: r => uptoBulkEntry x + uptoBulkEntries r
def uptoBulkEntry {H : Type} : Lit × DataW H → Nat
  | (.string bytes, d) => bytes.length + uptoBulk d + 1
  | (_, d) => uptoBulk d + 1
 end
def uptoSmall : (H : Type) → List (DataW H) → Bool := fun _ ds => decide (uptoBulkAll ds ≤ 1048576)
def OpenSpec.upto (s : _root_.Go.ChangeSpec) : _root_.Go.OpenSpec := { _root_.Go.OpenSpec.ofChange s with cond := some uptoSmall }

/-- 'croupierlaw30.RulesRights', WHERE WHAT IT READS IS OF BULK AT MOST 1048576: true; the input reads as it did. -/
def rulesRightsUptoRow : OpenClaim := { program := "ytljkgnjmigmcgaa", sum := "1e5b1ae33438955acb92eecfa36674b7aa897f4dfba367d2ef7ad48ba8a1dd78", func := "croupier/croupierlaw30.RulesRights", spec := "rulesRights", unfollowed := true, recurses := true, apart := false, narrowed := true }
def RulesRightsUptoSaid : Prop := rulesRightsUptoRow.holds Try.pinned (OpenSpec.upto rulesRightsSpec)

/-- 'croupierlaw30.RulesShortest', WHERE WHAT IT READS IS OF BULK AT MOST 1048576: true; the input reads as it did. -/
def rulesShortestUptoRow : OpenClaim := { program := "ytljkgnjmigmcgaa", sum := "1e5b1ae33438955acb92eecfa36674b7aa897f4dfba367d2ef7ad48ba8a1dd78", func := "croupier/croupierlaw30.RulesShortest", spec := "rulesShortest", unfollowed := true, recurses := true, apart := false, narrowed := true }
def RulesShortestUptoSaid : Prop := rulesShortestUptoRow.holds Try.pinned (OpenSpec.upto rulesShortestSpec)

/-- 'croupierlaw30.RulesMine', WHERE WHAT IT READS IS OF BULK AT MOST 1048576: true; the input reads as it did. -/
def rulesMineUptoRow : OpenClaim := { program := "ytljkgnjmigmcgaa", sum := "1e5b1ae33438955acb92eecfa36674b7aa897f4dfba367d2ef7ad48ba8a1dd78", func := "croupier/croupierlaw30.RulesMine", spec := "rulesMine", unfollowed := true, recurses := true, apart := false, narrowed := true }
def RulesMineUptoSaid : Prop := rulesMineUptoRow.holds Try.pinned (OpenSpec.upto rulesMineSpec)

/-- 'croupierlaw30.RulesOrder', WHERE WHAT IT READS IS OF BULK AT MOST 1048576: true; the input reads as it did. -/
def rulesOrderUptoRow : OpenClaim := { program := "ytljkgnjmigmcgaa", sum := "1e5b1ae33438955acb92eecfa36674b7aa897f4dfba367d2ef7ad48ba8a1dd78", func := "croupier/croupierlaw30.RulesOrder", spec := "rulesOrder", unfollowed := true, recurses := true, apart := false, narrowed := true }
def RulesOrderUptoSaid : Prop := rulesOrderUptoRow.holds Try.pinned (OpenSpec.upto rulesOrderSpec)

/-- 'croupierlaw30.RulesCopies', WHERE WHAT IT READS IS OF BULK AT MOST 1048576: true; the input reads as it did. -/
def rulesCopiesUptoRow : OpenClaim := { program := "ytljkgnjmigmcgaa", sum := "1e5b1ae33438955acb92eecfa36674b7aa897f4dfba367d2ef7ad48ba8a1dd78", func := "croupier/croupierlaw30.RulesCopies", spec := "rulesCopies", unfollowed := true, recurses := true, apart := false, narrowed := true }
def RulesCopiesUptoSaid : Prop := rulesCopiesUptoRow.holds Try.pinned (OpenSpec.upto rulesCopiesSpec)

/-- 'croupierlaw30.RulesTrivial', WHERE WHAT IT READS IS OF BULK AT MOST 1048576: true; the input reads as it did. -/
def rulesTrivialUptoRow : OpenClaim := { program := "ytljkgnjmigmcgaa", sum := "1e5b1ae33438955acb92eecfa36674b7aa897f4dfba367d2ef7ad48ba8a1dd78", func := "croupier/croupierlaw30.RulesTrivial", spec := "rulesTrivial", unfollowed := true, recurses := true, apart := false, narrowed := true }
def RulesTrivialUptoSaid : Prop := rulesTrivialUptoRow.holds Try.pinned (OpenSpec.upto rulesTrivialSpec)

/-- 'croupierlaw30.RulesApplies', WHERE WHAT IT READS IS OF BULK AT MOST 1048576: true; the input reads as it did. -/
def rulesAppliesUptoRow : OpenClaim := { program := "ytljkgnjmigmcgaa", sum := "1e5b1ae33438955acb92eecfa36674b7aa897f4dfba367d2ef7ad48ba8a1dd78", func := "croupier/croupierlaw30.RulesApplies", spec := "rulesApplies", unfollowed := true, recurses := true, apart := false, narrowed := true }
def RulesAppliesUptoSaid : Prop := rulesAppliesUptoRow.holds Try.pinned (OpenSpec.upto rulesAppliesSpec)

/-- 'croupierlaw30.RulesKnown', WHERE WHAT IT READS IS OF BULK AT MOST 1048576: true; the input reads as it did. -/
def rulesKnownUptoRow : OpenClaim := { program := "ytljkgnjmigmcgaa", sum := "1e5b1ae33438955acb92eecfa36674b7aa897f4dfba367d2ef7ad48ba8a1dd78", func := "croupier/croupierlaw30.RulesKnown", spec := "rulesKnown", unfollowed := true, recurses := true, apart := false, narrowed := true }
def RulesKnownUptoSaid : Prop := rulesKnownUptoRow.holds Try.pinned (OpenSpec.upto rulesKnownSpec)

end Rows
end Go.Proofs.Ytljkgnjmigmcgaa
