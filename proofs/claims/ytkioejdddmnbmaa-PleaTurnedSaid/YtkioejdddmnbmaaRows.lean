/-
  No cell of these rows narrows 'for every input' (looked for: loops, veiled, ifaces, maps, wideKeys, modest, calm, conditions, laid).
  DERIVED. THE GIVEN ROWS OF THIS SEAT. 14 by the template 'for every input the law returns true; each argument reads behind the call as it read before'; 0 by the template 'total and deterministic' (their statements: YtkioejdddmnbmaaTotals.lean).
  GIVEN WITH THE SEED: the statements are not yours to turn. If you find one false, say at which input.
  Laid BY PROGRAM, IN A SANDBOX (cutbox-rows.mjs): the forced cells as the released guide's own fill.sh prints them over the translation a41552ce1369c167… (all of the seat's roots in one cut). By AI agents, Wed Nov 11 2026. No macro, syntax, notation, axiom, sorry.
-/
import Derived.Test.YtkioejdddmnbmaaChecked
import GoSem.Claim
import GoSem.ClaimJoined
import GoSem.ClaimMapViews
import Derived.JoinedTies
import Derived.KernelRfl
namespace Go.Proofs.Ytkioejdddmnbmaa
/- THE CELL 'sum', in the pinned program and in every row, IS THE sha256 OF THE DUMP (.gsa) THAT YtkioejdddmnbmaaProg.lean LOADS. Nothing in Lean hashes anything: it is a label: what it is worth is what the hold of that sum in a sandbox is worth. -/
noncomputable def Try.pinned : Pinned := { name := "ytkioejdddmnbmaa", sum := "a41552ce1369c167acfadd6b52531cb1d8978d91176583f97423b95d417a922d", checked := Try.checked }
namespace Rows
def none {H : Type} : Left H := { results := [], args := [] }

/-- 'pennyfalllaw09.PleaCases': WHATEVER THE INPUT: true; the input reads as it did. -/
def pleaCasesSpec : ChangeSpec := { name := "pleaCases", fn := fun _ => fun
  | [d1, d2] => { results := [.lit (.bool true)], args := [d1, d2] }
  | _ => none }
def pleaCasesRow : OpenClaim := { program := "ytkioejdddmnbmaa", sum := "a41552ce1369c167acfadd6b52531cb1d8978d91176583f97423b95d417a922d", func := "pennyfall/pennyfalllaw09.PleaCases", spec := "pleaCases", unfollowed := true, recurses := true, plainKeys := false, apart := false }
def PleaCasesSaid : Prop := pleaCasesRow.holds Try.pinned (OpenSpec.ofChange pleaCasesSpec)

/-- ITS FALSE NEIGHBOUR: 'it returns false'. Refute it at one input. -/
def pleaCasesWrong : ChangeSpec := { name := "pleaCases", fn := fun _ => fun
  | [d1, d2] => { results := [.lit (.bool false)], args := [d1, d2] }
  | _ => none }
def PleaCasesWrongFalsely : Prop := pleaCasesRow.holds Try.pinned (OpenSpec.ofChange pleaCasesWrong)

/-- 'pennyfalllaw09.PleaVerdicts': WHATEVER THE INPUT: true; the input reads as it did. -/
def pleaVerdictsSpec : ChangeSpec := { name := "pleaVerdicts", fn := fun _ => fun
  | [d1, d2] => { results := [.lit (.bool true)], args := [d1, d2] }
  | _ => none }
def pleaVerdictsRow : OpenClaim := { program := "ytkioejdddmnbmaa", sum := "a41552ce1369c167acfadd6b52531cb1d8978d91176583f97423b95d417a922d", func := "pennyfall/pennyfalllaw09.PleaVerdicts", spec := "pleaVerdicts", unfollowed := true, recurses := true, plainKeys := false, apart := false }
def PleaVerdictsSaid : Prop := pleaVerdictsRow.holds Try.pinned (OpenSpec.ofChange pleaVerdictsSpec)

/-- ITS FALSE NEIGHBOUR: 'it returns false'. Refute it at one input. -/
def pleaVerdictsWrong : ChangeSpec := { name := "pleaVerdicts", fn := fun _ => fun
  | [d1, d2] => { results := [.lit (.bool false)], args := [d1, d2] }
  | _ => none }
def PleaVerdictsWrongFalsely : Prop := pleaVerdictsRow.holds Try.pinned (OpenSpec.ofChange pleaVerdictsWrong)

/-- 'pennyfalllaw09.PleaSteps': WHATEVER THE INPUT: true; the input reads as it did. -/
def pleaStepsSpec : ChangeSpec := { name := "pleaSteps", fn := fun _ => fun
  | [d1, d2, d3] => { results := [.lit (.bool true)], args := [d1, d2, d3] }
  | _ => none }
def pleaStepsRow : OpenClaim := { program := "ytkioejdddmnbmaa", sum := "a41552ce1369c167acfadd6b52531cb1d8978d91176583f97423b95d417a922d", func := "pennyfall/pennyfalllaw09.PleaSteps", spec := "pleaSteps", unfollowed := true, recurses := true, plainKeys := false, apart := false }
def PleaStepsSaid : Prop := pleaStepsRow.holds Try.pinned (OpenSpec.ofChange pleaStepsSpec)

/-- ITS FALSE NEIGHBOUR: 'it returns false'. Refute it at one input. -/
def pleaStepsWrong : ChangeSpec := { name := "pleaSteps", fn := fun _ => fun
  | [d1, d2, d3] => { results := [.lit (.bool false)], args := [d1, d2, d3] }
  | _ => none }
def PleaStepsWrongFalsely : Prop := pleaStepsRow.holds Try.pinned (OpenSpec.ofChange pleaStepsWrong)

/-- 'pennyfalllaw09.PleaFewest': WHATEVER THE INPUT: true; the input reads as it did. -/
def pleaFewestSpec : ChangeSpec := { name := "pleaFewest", fn := fun _ => fun
  | [d1, d2, d3] => { results := [.lit (.bool true)], args := [d1, d2, d3] }
  | _ => none }
def pleaFewestRow : OpenClaim := { program := "ytkioejdddmnbmaa", sum := "a41552ce1369c167acfadd6b52531cb1d8978d91176583f97423b95d417a922d", func := "pennyfall/pennyfalllaw09.PleaFewest", spec := "pleaFewest", unfollowed := true, recurses := true, plainKeys := false, apart := false }
def PleaFewestSaid : Prop := pleaFewestRow.holds Try.pinned (OpenSpec.ofChange pleaFewestSpec)

/-- ITS FALSE NEIGHBOUR: 'it returns false'. Refute it at one input. -/
def pleaFewestWrong : ChangeSpec := { name := "pleaFewest", fn := fun _ => fun
  | [d1, d2, d3] => { results := [.lit (.bool false)], args := [d1, d2, d3] }
  | _ => none }
def PleaFewestWrongFalsely : Prop := pleaFewestRow.holds Try.pinned (OpenSpec.ofChange pleaFewestWrong)

/-- 'pennyfalllaw09.PleaProved': WHATEVER THE INPUT: true; the input reads as it did. -/
def pleaProvedSpec : ChangeSpec := { name := "pleaProved", fn := fun _ => fun
  | [d1, d2, d3] => { results := [.lit (.bool true)], args := [d1, d2, d3] }
  | _ => none }
def pleaProvedRow : OpenClaim := { program := "ytkioejdddmnbmaa", sum := "a41552ce1369c167acfadd6b52531cb1d8978d91176583f97423b95d417a922d", func := "pennyfall/pennyfalllaw09.PleaProved", spec := "pleaProved", unfollowed := true, recurses := true, plainKeys := false, apart := false }
def PleaProvedSaid : Prop := pleaProvedRow.holds Try.pinned (OpenSpec.ofChange pleaProvedSpec)

/-- ITS FALSE NEIGHBOUR: 'it returns false'. Refute it at one input. -/
def pleaProvedWrong : ChangeSpec := { name := "pleaProved", fn := fun _ => fun
  | [d1, d2, d3] => { results := [.lit (.bool false)], args := [d1, d2, d3] }
  | _ => none }
def PleaProvedWrongFalsely : Prop := pleaProvedRow.holds Try.pinned (OpenSpec.ofChange pleaProvedWrong)

/-- 'pennyfalllaw09.PleaEither': WHATEVER THE INPUT: true; the input reads as it did. -/
def pleaEitherSpec : ChangeSpec := { name := "pleaEither", fn := fun _ => fun
  | [d1, d2] => { results := [.lit (.bool true)], args := [d1, d2] }
  | _ => none }
def pleaEitherRow : OpenClaim := { program := "ytkioejdddmnbmaa", sum := "a41552ce1369c167acfadd6b52531cb1d8978d91176583f97423b95d417a922d", func := "pennyfall/pennyfalllaw09.PleaEither", spec := "pleaEither", unfollowed := true, recurses := true, plainKeys := false, apart := false }
def PleaEitherSaid : Prop := pleaEitherRow.holds Try.pinned (OpenSpec.ofChange pleaEitherSpec)

/-- ITS FALSE NEIGHBOUR: 'it returns false'. Refute it at one input. -/
def pleaEitherWrong : ChangeSpec := { name := "pleaEither", fn := fun _ => fun
  | [d1, d2] => { results := [.lit (.bool false)], args := [d1, d2] }
  | _ => none }
def PleaEitherWrongFalsely : Prop := pleaEitherRow.holds Try.pinned (OpenSpec.ofChange pleaEitherWrong)

/-- 'pennyfalllaw09.PleaRefused': WHATEVER THE INPUT: true; the input reads as it did. -/
def pleaRefusedSpec : ChangeSpec := { name := "pleaRefused", fn := fun _ => fun
  | [d1, d2] => { results := [.lit (.bool true)], args := [d1, d2] }
  | _ => none }
def pleaRefusedRow : OpenClaim := { program := "ytkioejdddmnbmaa", sum := "a41552ce1369c167acfadd6b52531cb1d8978d91176583f97423b95d417a922d", func := "pennyfall/pennyfalllaw09.PleaRefused", spec := "pleaRefused", unfollowed := true, recurses := true, plainKeys := false, apart := false }
def PleaRefusedSaid : Prop := pleaRefusedRow.holds Try.pinned (OpenSpec.ofChange pleaRefusedSpec)

/-- ITS FALSE NEIGHBOUR: 'it returns false'. Refute it at one input. -/
def pleaRefusedWrong : ChangeSpec := { name := "pleaRefused", fn := fun _ => fun
  | [d1, d2] => { results := [.lit (.bool false)], args := [d1, d2] }
  | _ => none }
def PleaRefusedWrongFalsely : Prop := pleaRefusedRow.holds Try.pinned (OpenSpec.ofChange pleaRefusedWrong)

/-- 'pennyfalllaw09.PleaBoth': WHATEVER THE INPUT: true; the input reads as it did. -/
def pleaBothSpec : ChangeSpec := { name := "pleaBoth", fn := fun _ => fun
  | [d1, d2, d3] => { results := [.lit (.bool true)], args := [d1, d2, d3] }
  | _ => none }
def pleaBothRow : OpenClaim := { program := "ytkioejdddmnbmaa", sum := "a41552ce1369c167acfadd6b52531cb1d8978d91176583f97423b95d417a922d", func := "pennyfall/pennyfalllaw09.PleaBoth", spec := "pleaBoth", unfollowed := true, recurses := true, plainKeys := false, apart := false }
def PleaBothSaid : Prop := pleaBothRow.holds Try.pinned (OpenSpec.ofChange pleaBothSpec)

/-- ITS FALSE NEIGHBOUR: 'it returns false'. Refute it at one input. -/
def pleaBothWrong : ChangeSpec := { name := "pleaBoth", fn := fun _ => fun
  | [d1, d2, d3] => { results := [.lit (.bool false)], args := [d1, d2, d3] }
  | _ => none }
def PleaBothWrongFalsely : Prop := pleaBothRow.holds Try.pinned (OpenSpec.ofChange pleaBothWrong)

/-- 'pennyfalllaw09.PleaMore': WHATEVER THE INPUT: true; the input reads as it did. -/
def pleaMoreSpec : ChangeSpec := { name := "pleaMore", fn := fun _ => fun
  | [d1, d2, d3, d4] => { results := [.lit (.bool true)], args := [d1, d2, d3, d4] }
  | _ => none }
def pleaMoreRow : OpenClaim := { program := "ytkioejdddmnbmaa", sum := "a41552ce1369c167acfadd6b52531cb1d8978d91176583f97423b95d417a922d", func := "pennyfall/pennyfalllaw09.PleaMore", spec := "pleaMore", unfollowed := true, recurses := true, plainKeys := false, apart := false }
def PleaMoreSaid : Prop := pleaMoreRow.holds Try.pinned (OpenSpec.ofChange pleaMoreSpec)

/-- ITS FALSE NEIGHBOUR: 'it returns false'. Refute it at one input. -/
def pleaMoreWrong : ChangeSpec := { name := "pleaMore", fn := fun _ => fun
  | [d1, d2, d3, d4] => { results := [.lit (.bool false)], args := [d1, d2, d3, d4] }
  | _ => none }
def PleaMoreWrongFalsely : Prop := pleaMoreRow.holds Try.pinned (OpenSpec.ofChange pleaMoreWrong)

/-- 'pennyfalllaw09.PleaIdle': WHATEVER THE INPUT: true; the input reads as it did. -/
def pleaIdleSpec : ChangeSpec := { name := "pleaIdle", fn := fun _ => fun
  | [d1, d2, d3] => { results := [.lit (.bool true)], args := [d1, d2, d3] }
  | _ => none }
def pleaIdleRow : OpenClaim := { program := "ytkioejdddmnbmaa", sum := "a41552ce1369c167acfadd6b52531cb1d8978d91176583f97423b95d417a922d", func := "pennyfall/pennyfalllaw09.PleaIdle", spec := "pleaIdle", unfollowed := true, recurses := true, plainKeys := false, apart := false }
def PleaIdleSaid : Prop := pleaIdleRow.holds Try.pinned (OpenSpec.ofChange pleaIdleSpec)

/-- ITS FALSE NEIGHBOUR: 'it returns false'. Refute it at one input. -/
def pleaIdleWrong : ChangeSpec := { name := "pleaIdle", fn := fun _ => fun
  | [d1, d2, d3] => { results := [.lit (.bool false)], args := [d1, d2, d3] }
  | _ => none }
def PleaIdleWrongFalsely : Prop := pleaIdleRow.holds Try.pinned (OpenSpec.ofChange pleaIdleWrong)

/-- 'pennyfalllaw09.PleaNeeded': WHATEVER THE INPUT: true; the input reads as it did. -/
def pleaNeededSpec : ChangeSpec := { name := "pleaNeeded", fn := fun _ => fun
  | [d1, d2, d3] => { results := [.lit (.bool true)], args := [d1, d2, d3] }
  | _ => none }
def pleaNeededRow : OpenClaim := { program := "ytkioejdddmnbmaa", sum := "a41552ce1369c167acfadd6b52531cb1d8978d91176583f97423b95d417a922d", func := "pennyfall/pennyfalllaw09.PleaNeeded", spec := "pleaNeeded", unfollowed := true, recurses := true, plainKeys := false, apart := false }
def PleaNeededSaid : Prop := pleaNeededRow.holds Try.pinned (OpenSpec.ofChange pleaNeededSpec)

/-- ITS FALSE NEIGHBOUR: 'it returns false'. Refute it at one input. -/
def pleaNeededWrong : ChangeSpec := { name := "pleaNeeded", fn := fun _ => fun
  | [d1, d2, d3] => { results := [.lit (.bool false)], args := [d1, d2, d3] }
  | _ => none }
def PleaNeededWrongFalsely : Prop := pleaNeededRow.holds Try.pinned (OpenSpec.ofChange pleaNeededWrong)

/-- 'pennyfalllaw09.PleaWrong': WHATEVER THE INPUT: true; the input reads as it did. -/
def pleaWrongSpec : ChangeSpec := { name := "pleaWrong", fn := fun _ => fun
  | [d1, d2] => { results := [.lit (.bool true)], args := [d1, d2] }
  | _ => none }
def pleaWrongRow : OpenClaim := { program := "ytkioejdddmnbmaa", sum := "a41552ce1369c167acfadd6b52531cb1d8978d91176583f97423b95d417a922d", func := "pennyfall/pennyfalllaw09.PleaWrong", spec := "pleaWrong", unfollowed := true, recurses := true, plainKeys := false, apart := false }
def PleaWrongSaid : Prop := pleaWrongRow.holds Try.pinned (OpenSpec.ofChange pleaWrongSpec)

/-- ITS FALSE NEIGHBOUR: 'it returns false'. Refute it at one input. -/
def pleaWrongWrong : ChangeSpec := { name := "pleaWrong", fn := fun _ => fun
  | [d1, d2] => { results := [.lit (.bool false)], args := [d1, d2] }
  | _ => none }
def PleaWrongWrongFalsely : Prop := pleaWrongRow.holds Try.pinned (OpenSpec.ofChange pleaWrongWrong)

/-- 'pennyfalllaw09.PleaTurned': WHATEVER THE INPUT: true; the input reads as it did. -/
def pleaTurnedSpec : ChangeSpec := { name := "pleaTurned", fn := fun _ => fun
  | [d1, d2, d3, d4] => { results := [.lit (.bool true)], args := [d1, d2, d3, d4] }
  | _ => none }
def pleaTurnedRow : OpenClaim := { program := "ytkioejdddmnbmaa", sum := "a41552ce1369c167acfadd6b52531cb1d8978d91176583f97423b95d417a922d", func := "pennyfall/pennyfalllaw09.PleaTurned", spec := "pleaTurned", unfollowed := true, recurses := true, plainKeys := false, apart := false }
def PleaTurnedSaid : Prop := pleaTurnedRow.holds Try.pinned (OpenSpec.ofChange pleaTurnedSpec)

/-- ITS FALSE NEIGHBOUR: 'it returns false'. Refute it at one input. -/
def pleaTurnedWrong : ChangeSpec := { name := "pleaTurned", fn := fun _ => fun
  | [d1, d2, d3, d4] => { results := [.lit (.bool false)], args := [d1, d2, d3, d4] }
  | _ => none }
def PleaTurnedWrongFalsely : Prop := pleaTurnedRow.holds Try.pinned (OpenSpec.ofChange pleaTurnedWrong)

/-- 'pennyfalllaw09.PleaKnown': WHATEVER THE INPUT: true; the input reads as it did. -/
def pleaKnownSpec : ChangeSpec := { name := "pleaKnown", fn := fun _ => fun
  | [] => { results := [.lit (.bool true)], args := [] }
  | _ => none }
def pleaKnownRow : OpenClaim := { program := "ytkioejdddmnbmaa", sum := "a41552ce1369c167acfadd6b52531cb1d8978d91176583f97423b95d417a922d", func := "pennyfall/pennyfalllaw09.PleaKnown", spec := "pleaKnown", unfollowed := true, recurses := true, plainKeys := false, apart := false }
def PleaKnownSaid : Prop := pleaKnownRow.holds Try.pinned (OpenSpec.ofChange pleaKnownSpec)

/-- ITS FALSE NEIGHBOUR: 'it returns false'. Refute it at one input. -/
def pleaKnownWrong : ChangeSpec := { name := "pleaKnown", fn := fun _ => fun
  | [] => { results := [.lit (.bool false)], args := [] }
  | _ => none }
def PleaKnownWrongFalsely : Prop := pleaKnownRow.holds Try.pinned (OpenSpec.ofChange pleaKnownWrong)

/- THE SECOND FORM. 'bulk': how many values and letters a reading holds, each counted each time it is reached (what is shared counts as often as it is met; a slice's spare places count too). A statement '..UptoSaid' is the law's where the arguments, and the package variables that the reading takes, are together of bulk at most 1048576: NARROWER than '..Said'. Prove '..Said' where nothing that the law and all that it calls make is longer than what came in: it says more and counts as full. Else prove '..UptoSaid'. A law counts once. -/
mutual
def uptoBulk {H : Type} : DataW H → Nat
  | .lit (.string bytes) => bytes.length + 1
  | .lit _ => 1
  | .nil => 1
  | .ptr d => uptoBulk d + 1
  | .slice elems spare => uptoBulkAll elems + uptoBulkAll spare + 1
  | .agg parts => uptoBulkAll parts + 1
  | .iface _ d => uptoBulk d + 1
  | .map entries => uptoBulkEntries entries + 1
  | .held _ => 1
def uptoBulkAll {H : Type} : List (DataW H) → Nat
  | [] => 0
  | d :: r => uptoBulk d + uptoBulkAll r
def uptoBulkEntries {H : Type} : List (Lit × DataW H) → Nat
  | [] => 0
  | x :: r => uptoBulkEntry x + uptoBulkEntries r
def uptoBulkEntry {H : Type} : Lit × DataW H → Nat
  | (.string bytes, d) => bytes.length + uptoBulk d + 1
  | (_, d) => uptoBulk d + 1
 end
def uptoSmall : (H : Type) → List (DataW H) → Bool := fun _ ds => decide (uptoBulkAll ds ≤ 1048576)
def OpenSpec.upto (s : _root_.Go.ChangeSpec) : _root_.Go.OpenSpec := { _root_.Go.OpenSpec.ofChange s with cond := some uptoSmall }

/-- 'pennyfalllaw09.PleaCases', WHERE WHAT IT READS IS OF BULK AT MOST 1048576: true; the input reads as it did. -/
def pleaCasesUptoRow : OpenClaim := { program := "ytkioejdddmnbmaa", sum := "a41552ce1369c167acfadd6b52531cb1d8978d91176583f97423b95d417a922d", func := "pennyfall/pennyfalllaw09.PleaCases", spec := "pleaCases", unfollowed := true, recurses := true, plainKeys := false, apart := false, narrowed := true }
def PleaCasesUptoSaid : Prop := pleaCasesUptoRow.holds Try.pinned (OpenSpec.upto pleaCasesSpec)

/-- 'pennyfalllaw09.PleaVerdicts', WHERE WHAT IT READS IS OF BULK AT MOST 1048576: true; the input reads as it did. -/
def pleaVerdictsUptoRow : OpenClaim := { program := "ytkioejdddmnbmaa", sum := "a41552ce1369c167acfadd6b52531cb1d8978d91176583f97423b95d417a922d", func := "pennyfall/pennyfalllaw09.PleaVerdicts", spec := "pleaVerdicts", unfollowed := true, recurses := true, plainKeys := false, apart := false, narrowed := true }
def PleaVerdictsUptoSaid : Prop := pleaVerdictsUptoRow.holds Try.pinned (OpenSpec.upto pleaVerdictsSpec)

/-- 'pennyfalllaw09.PleaSteps', WHERE WHAT IT READS IS OF BULK AT MOST 1048576: true; the input reads as it did. -/
def pleaStepsUptoRow : OpenClaim := { program := "ytkioejdddmnbmaa", sum := "a41552ce1369c167acfadd6b52531cb1d8978d91176583f97423b95d417a922d", func := "pennyfall/pennyfalllaw09.PleaSteps", spec := "pleaSteps", unfollowed := true, recurses := true, plainKeys := false, apart := false, narrowed := true }
def PleaStepsUptoSaid : Prop := pleaStepsUptoRow.holds Try.pinned (OpenSpec.upto pleaStepsSpec)

/-- 'pennyfalllaw09.PleaFewest', WHERE WHAT IT READS IS OF BULK AT MOST 1048576: true; the input reads as it did. -/
def pleaFewestUptoRow : OpenClaim := { program := "ytkioejdddmnbmaa", sum := "a41552ce1369c167acfadd6b52531cb1d8978d91176583f97423b95d417a922d", func := "pennyfall/pennyfalllaw09.PleaFewest", spec := "pleaFewest", unfollowed := true, recurses := true, plainKeys := false, apart := false, narrowed := true }
def PleaFewestUptoSaid : Prop := pleaFewestUptoRow.holds Try.pinned (OpenSpec.upto pleaFewestSpec)

/-- 'pennyfalllaw09.PleaProved', WHERE WHAT IT READS IS OF BULK AT MOST 1048576: true; the input reads as it did. -/
def pleaProvedUptoRow : OpenClaim := { program := "ytkioejdddmnbmaa", sum := "a41552ce1369c167acfadd6b52531cb1d8978d91176583f97423b95d417a922d", func := "pennyfall/pennyfalllaw09.PleaProved", spec := "pleaProved", unfollowed := true, recurses := true, plainKeys := false, apart := false, narrowed := true }
def PleaProvedUptoSaid : Prop := pleaProvedUptoRow.holds Try.pinned (OpenSpec.upto pleaProvedSpec)

/-- 'pennyfalllaw09.PleaEither', WHERE WHAT IT READS IS OF BULK AT MOST 1048576: true; the input reads as it did. -/
def pleaEitherUptoRow : OpenClaim := { program := "ytkioejdddmnbmaa", sum := "a41552ce1369c167acfadd6b52531cb1d8978d91176583f97423b95d417a922d", func := "pennyfall/pennyfalllaw09.PleaEither", spec := "pleaEither", unfollowed := true, recurses := true, plainKeys := false, apart := false, narrowed := true }
def PleaEitherUptoSaid : Prop := pleaEitherUptoRow.holds Try.pinned (OpenSpec.upto pleaEitherSpec)

/-- 'pennyfalllaw09.PleaRefused', WHERE WHAT IT READS IS OF BULK AT MOST 1048576: true; the input reads as it did. -/
def pleaRefusedUptoRow : OpenClaim := { program := "ytkioejdddmnbmaa", sum := "a41552ce1369c167acfadd6b52531cb1d8978d91176583f97423b95d417a922d", func := "pennyfall/pennyfalllaw09.PleaRefused", spec := "pleaRefused", unfollowed := true, recurses := true, plainKeys := false, apart := false, narrowed := true }
def PleaRefusedUptoSaid : Prop := pleaRefusedUptoRow.holds Try.pinned (OpenSpec.upto pleaRefusedSpec)

/-- 'pennyfalllaw09.PleaBoth', WHERE WHAT IT READS IS OF BULK AT MOST 1048576: true; the input reads as it did. -/
def pleaBothUptoRow : OpenClaim := { program := "ytkioejdddmnbmaa", sum := "a41552ce1369c167acfadd6b52531cb1d8978d91176583f97423b95d417a922d", func := "pennyfall/pennyfalllaw09.PleaBoth", spec := "pleaBoth", unfollowed := true, recurses := true, plainKeys := false, apart := false, narrowed := true }
def PleaBothUptoSaid : Prop := pleaBothUptoRow.holds Try.pinned (OpenSpec.upto pleaBothSpec)

/-- 'pennyfalllaw09.PleaMore', WHERE WHAT IT READS IS OF BULK AT MOST 1048576: true; the input reads as it did. -/
def pleaMoreUptoRow : OpenClaim := { program := "ytkioejdddmnbmaa", sum := "a41552ce1369c167acfadd6b52531cb1d8978d91176583f97423b95d417a922d", func := "pennyfall/pennyfalllaw09.PleaMore", spec := "pleaMore", unfollowed := true, recurses := true, plainKeys := false, apart := false, narrowed := true }
def PleaMoreUptoSaid : Prop := pleaMoreUptoRow.holds Try.pinned (OpenSpec.upto pleaMoreSpec)

/-- 'pennyfalllaw09.PleaIdle', WHERE WHAT IT READS IS OF BULK AT MOST 1048576: true; the input reads as it did. -/
def pleaIdleUptoRow : OpenClaim := { program := "ytkioejdddmnbmaa", sum := "a41552ce1369c167acfadd6b52531cb1d8978d91176583f97423b95d417a922d", func := "pennyfall/pennyfalllaw09.PleaIdle", spec := "pleaIdle", unfollowed := true, recurses := true, plainKeys := false, apart := false, narrowed := true }
def PleaIdleUptoSaid : Prop := pleaIdleUptoRow.holds Try.pinned (OpenSpec.upto pleaIdleSpec)

/-- 'pennyfalllaw09.PleaNeeded', WHERE WHAT IT READS IS OF BULK AT MOST 1048576: true; the input reads as it did. -/
def pleaNeededUptoRow : OpenClaim := { program := "ytkioejdddmnbmaa", sum := "a41552ce1369c167acfadd6b52531cb1d8978d91176583f97423b95d417a922d", func := "pennyfall/pennyfalllaw09.PleaNeeded", spec := "pleaNeeded", unfollowed := true, recurses := true, plainKeys := false, apart := false, narrowed := true }
def PleaNeededUptoSaid : Prop := pleaNeededUptoRow.holds Try.pinned (OpenSpec.upto pleaNeededSpec)

/-- 'pennyfalllaw09.PleaWrong', WHERE WHAT IT READS IS OF BULK AT MOST 1048576: true; the input reads as it did. -/
def pleaWrongUptoRow : OpenClaim := { program := "ytkioejdddmnbmaa", sum := "a41552ce1369c167acfadd6b52531cb1d8978d91176583f97423b95d417a922d", func := "pennyfall/pennyfalllaw09.PleaWrong", spec := "pleaWrong", unfollowed := true, recurses := true, plainKeys := false, apart := false, narrowed := true }
def PleaWrongUptoSaid : Prop := pleaWrongUptoRow.holds Try.pinned (OpenSpec.upto pleaWrongSpec)

/-- 'pennyfalllaw09.PleaTurned', WHERE WHAT IT READS IS OF BULK AT MOST 1048576: true; the input reads as it did. -/
def pleaTurnedUptoRow : OpenClaim := { program := "ytkioejdddmnbmaa", sum := "a41552ce1369c167acfadd6b52531cb1d8978d91176583f97423b95d417a922d", func := "pennyfall/pennyfalllaw09.PleaTurned", spec := "pleaTurned", unfollowed := true, recurses := true, plainKeys := false, apart := false, narrowed := true }
def PleaTurnedUptoSaid : Prop := pleaTurnedUptoRow.holds Try.pinned (OpenSpec.upto pleaTurnedSpec)

/-- 'pennyfalllaw09.PleaKnown', WHERE WHAT IT READS IS OF BULK AT MOST 1048576: true; the input reads as it did. -/
def pleaKnownUptoRow : OpenClaim := { program := "ytkioejdddmnbmaa", sum := "a41552ce1369c167acfadd6b52531cb1d8978d91176583f97423b95d417a922d", func := "pennyfall/pennyfalllaw09.PleaKnown", spec := "pleaKnown", unfollowed := true, recurses := true, plainKeys := false, apart := false, narrowed := true }
def PleaKnownUptoSaid : Prop := pleaKnownUptoRow.holds Try.pinned (OpenSpec.upto pleaKnownSpec)

end Rows
end Go.Proofs.Ytkioejdddmnbmaa
