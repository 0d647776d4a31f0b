/-
  No cell of these rows narrows 'for every input' (looked for: loops, veiled, ifaces, maps, wideKeys, modest, calm, conditions, laid).
  DERIVED. THE GIVEN ROWS OF THIS SEAT. 12 by the template 'for every input the law returns true; each argument reads behind the call as it read before'; 0 by the template 'total and deterministic' (their statements: YtelgbjfgmpkepaaTotals.lean).
  GIVEN WITH THE SEED: the statements are not yours to turn. If you find one false, say at which input.
  Laid BY PROGRAM, IN A SANDBOX (cutbox-rows.mjs): the forced cells as the released guide's own fill.sh prints them over the translation 924720aeb82b9375… (all of the seat's roots in one cut). By AI agents, Wed Nov 11 2026. No macro, syntax, notation, axiom, sorry.
-/
import Derived.Test.YtelgbjfgmpkepaaChecked
import GoSem.Claim
import GoSem.ClaimJoined
import GoSem.ClaimMapViews
import Derived.JoinedTies
import Derived.KernelRfl
namespace Go.Proofs.Ytelgbjfgmpkepaa
/- THE CELL 'sum', in the pinned program and in every row, IS THE sha256 OF THE DUMP (.gsa) THAT YtelgbjfgmpkepaaProg.lean LOADS. Nothing in Lean hashes anything: it is a label: what it is worth is what the hold of that sum in a sandbox is worth. -/
noncomputable def Try.pinned : Pinned := { name := "ytelgbjfgmpkepaa", sum := "924720aeb82b93756cca1a6d56c3ed6a8f2ea9174afdcce99180c62bd0335295", checked := Try.checked }
namespace Rows
def none {H : Type} : Left H := { results := [], args := [] }

/-- 'pennyfalllaw05.SlugKnowns': WHATEVER THE INPUT: true; the input reads as it did. -/
def slugKnownsSpec : ChangeSpec := { name := "slugKnowns", fn := fun _ => fun
  | [d] => { results := [.lit (.bool true)], args := [d] }
  | _ => none }
def slugKnownsRow : OpenClaim := { program := "ytelgbjfgmpkepaa", sum := "924720aeb82b93756cca1a6d56c3ed6a8f2ea9174afdcce99180c62bd0335295", func := "pennyfall/pennyfalllaw05.SlugKnowns", spec := "slugKnowns", unfollowed := true, recurses := true, plainKeys := false, apart := false }
def SlugKnownsSaid : Prop := slugKnownsRow.holds Try.pinned (OpenSpec.ofChange slugKnownsSpec)

/-- ITS FALSE NEIGHBOUR: 'it returns false'. Refute it at one input. -/
def slugKnownsWrong : ChangeSpec := { name := "slugKnowns", fn := fun _ => fun
  | [d] => { results := [.lit (.bool false)], args := [d] }
  | _ => none }
def SlugKnownsWrongFalsely : Prop := slugKnownsRow.holds Try.pinned (OpenSpec.ofChange slugKnownsWrong)

/-- 'pennyfalllaw05.SlugWeighings': WHATEVER THE INPUT: true; the input reads as it did. -/
def slugWeighingsSpec : ChangeSpec := { name := "slugWeighings", fn := fun _ => fun
  | [d1, d2, d3, d4] => { results := [.lit (.bool true)], args := [d1, d2, d3, d4] }
  | _ => none }
def slugWeighingsRow : OpenClaim := { program := "ytelgbjfgmpkepaa", sum := "924720aeb82b93756cca1a6d56c3ed6a8f2ea9174afdcce99180c62bd0335295", func := "pennyfall/pennyfalllaw05.SlugWeighings", spec := "slugWeighings", unfollowed := true, recurses := true, plainKeys := false, apart := false }
def SlugWeighingsSaid : Prop := slugWeighingsRow.holds Try.pinned (OpenSpec.ofChange slugWeighingsSpec)

/-- ITS FALSE NEIGHBOUR: 'it returns false'. Refute it at one input. -/
def slugWeighingsWrong : ChangeSpec := { name := "slugWeighings", fn := fun _ => fun
  | [d1, d2, d3, d4] => { results := [.lit (.bool false)], args := [d1, d2, d3, d4] }
  | _ => none }
def SlugWeighingsWrongFalsely : Prop := slugWeighingsRow.holds Try.pinned (OpenSpec.ofChange slugWeighingsWrong)

/-- 'pennyfalllaw05.SlugPlans': WHATEVER THE INPUT: true; the input reads as it did. -/
def slugPlansSpec : ChangeSpec := { name := "slugPlans", fn := fun _ => fun
  | [d1, d2, d3] => { results := [.lit (.bool true)], args := [d1, d2, d3] }
  | _ => none }
def slugPlansRow : OpenClaim := { program := "ytelgbjfgmpkepaa", sum := "924720aeb82b93756cca1a6d56c3ed6a8f2ea9174afdcce99180c62bd0335295", func := "pennyfall/pennyfalllaw05.SlugPlans", spec := "slugPlans", unfollowed := true, recurses := true, plainKeys := false, apart := false }
def SlugPlansSaid : Prop := slugPlansRow.holds Try.pinned (OpenSpec.ofChange slugPlansSpec)

/-- ITS FALSE NEIGHBOUR: 'it returns false'. Refute it at one input. -/
def slugPlansWrong : ChangeSpec := { name := "slugPlans", fn := fun _ => fun
  | [d1, d2, d3] => { results := [.lit (.bool false)], args := [d1, d2, d3] }
  | _ => none }
def SlugPlansWrongFalsely : Prop := slugPlansRow.holds Try.pinned (OpenSpec.ofChange slugPlansWrong)

/-- 'pennyfalllaw05.SlugNeeds': WHATEVER THE INPUT: true; the input reads as it did. -/
def slugNeedsSpec : ChangeSpec := { name := "slugNeeds", fn := fun _ => fun
  | [d1, d2] => { results := [.lit (.bool true)], args := [d1, d2] }
  | _ => none }
def slugNeedsRow : OpenClaim := { program := "ytelgbjfgmpkepaa", sum := "924720aeb82b93756cca1a6d56c3ed6a8f2ea9174afdcce99180c62bd0335295", func := "pennyfall/pennyfalllaw05.SlugNeeds", spec := "slugNeeds", unfollowed := true, recurses := true, plainKeys := false, apart := false }
def SlugNeedsSaid : Prop := slugNeedsRow.holds Try.pinned (OpenSpec.ofChange slugNeedsSpec)

/-- ITS FALSE NEIGHBOUR: 'it returns false'. Refute it at one input. -/
def slugNeedsWrong : ChangeSpec := { name := "slugNeeds", fn := fun _ => fun
  | [d1, d2] => { results := [.lit (.bool false)], args := [d1, d2] }
  | _ => none }
def SlugNeedsWrongFalsely : Prop := slugNeedsRow.holds Try.pinned (OpenSpec.ofChange slugNeedsWrong)

/-- 'pennyfalllaw05.SlugEither': WHATEVER THE INPUT: true; the input reads as it did. -/
def slugEitherSpec : ChangeSpec := { name := "slugEither", fn := fun _ => fun
  | [d1, d2, d3] => { results := [.lit (.bool true)], args := [d1, d2, d3] }
  | _ => none }
def slugEitherRow : OpenClaim := { program := "ytelgbjfgmpkepaa", sum := "924720aeb82b93756cca1a6d56c3ed6a8f2ea9174afdcce99180c62bd0335295", func := "pennyfall/pennyfalllaw05.SlugEither", spec := "slugEither", unfollowed := true, recurses := true, plainKeys := false, apart := false }
def SlugEitherSaid : Prop := slugEitherRow.holds Try.pinned (OpenSpec.ofChange slugEitherSpec)

/-- ITS FALSE NEIGHBOUR: 'it returns false'. Refute it at one input. -/
def slugEitherWrong : ChangeSpec := { name := "slugEither", fn := fun _ => fun
  | [d1, d2, d3] => { results := [.lit (.bool false)], args := [d1, d2, d3] }
  | _ => none }
def SlugEitherWrongFalsely : Prop := slugEitherRow.holds Try.pinned (OpenSpec.ofChange slugEitherWrong)

/-- 'pennyfalllaw05.SlugBest': WHATEVER THE INPUT: true; the input reads as it did. -/
def slugBestSpec : ChangeSpec := { name := "slugBest", fn := fun _ => fun
  | [d1, d2] => { results := [.lit (.bool true)], args := [d1, d2] }
  | _ => none }
def slugBestRow : OpenClaim := { program := "ytelgbjfgmpkepaa", sum := "924720aeb82b93756cca1a6d56c3ed6a8f2ea9174afdcce99180c62bd0335295", func := "pennyfall/pennyfalllaw05.SlugBest", spec := "slugBest", unfollowed := true, recurses := true, plainKeys := false, apart := false }
def SlugBestSaid : Prop := slugBestRow.holds Try.pinned (OpenSpec.ofChange slugBestSpec)

/-- ITS FALSE NEIGHBOUR: 'it returns false'. Refute it at one input. -/
def slugBestWrong : ChangeSpec := { name := "slugBest", fn := fun _ => fun
  | [d1, d2] => { results := [.lit (.bool false)], args := [d1, d2] }
  | _ => none }
def SlugBestWrongFalsely : Prop := slugBestRow.holds Try.pinned (OpenSpec.ofChange slugBestWrong)

/-- 'pennyfalllaw05.SlugLearned': WHATEVER THE INPUT: true; the input reads as it did. -/
def slugLearnedSpec : ChangeSpec := { name := "slugLearned", fn := fun _ => fun
  | [d1, d2] => { results := [.lit (.bool true)], args := [d1, d2] }
  | _ => none }
def slugLearnedRow : OpenClaim := { program := "ytelgbjfgmpkepaa", sum := "924720aeb82b93756cca1a6d56c3ed6a8f2ea9174afdcce99180c62bd0335295", func := "pennyfall/pennyfalllaw05.SlugLearned", spec := "slugLearned", unfollowed := true, recurses := true, plainKeys := false, apart := false }
def SlugLearnedSaid : Prop := slugLearnedRow.holds Try.pinned (OpenSpec.ofChange slugLearnedSpec)

/-- ITS FALSE NEIGHBOUR: 'it returns false'. Refute it at one input. -/
def slugLearnedWrong : ChangeSpec := { name := "slugLearned", fn := fun _ => fun
  | [d1, d2] => { results := [.lit (.bool false)], args := [d1, d2] }
  | _ => none }
def SlugLearnedWrongFalsely : Prop := slugLearnedRow.holds Try.pinned (OpenSpec.ofChange slugLearnedWrong)

/-- 'pennyfalllaw05.SlugPlayed': WHATEVER THE INPUT: true; the input reads as it did. -/
def slugPlayedSpec : ChangeSpec := { name := "slugPlayed", fn := fun _ => fun
  | [d1, d2] => { results := [.lit (.bool true)], args := [d1, d2] }
  | _ => none }
def slugPlayedRow : OpenClaim := { program := "ytelgbjfgmpkepaa", sum := "924720aeb82b93756cca1a6d56c3ed6a8f2ea9174afdcce99180c62bd0335295", func := "pennyfall/pennyfalllaw05.SlugPlayed", spec := "slugPlayed", unfollowed := true, recurses := true, plainKeys := false, apart := false }
def SlugPlayedSaid : Prop := slugPlayedRow.holds Try.pinned (OpenSpec.ofChange slugPlayedSpec)

/-- ITS FALSE NEIGHBOUR: 'it returns false'. Refute it at one input. -/
def slugPlayedWrong : ChangeSpec := { name := "slugPlayed", fn := fun _ => fun
  | [d1, d2] => { results := [.lit (.bool false)], args := [d1, d2] }
  | _ => none }
def SlugPlayedWrongFalsely : Prop := slugPlayedRow.holds Try.pinned (OpenSpec.ofChange slugPlayedWrong)

/-- 'pennyfalllaw05.SlugTurned': WHATEVER THE INPUT: true; the input reads as it did. -/
def slugTurnedSpec : ChangeSpec := { name := "slugTurned", fn := fun _ => fun
  | [d1, d2, d3, d4] => { results := [.lit (.bool true)], args := [d1, d2, d3, d4] }
  | _ => none }
def slugTurnedRow : OpenClaim := { program := "ytelgbjfgmpkepaa", sum := "924720aeb82b93756cca1a6d56c3ed6a8f2ea9174afdcce99180c62bd0335295", func := "pennyfall/pennyfalllaw05.SlugTurned", spec := "slugTurned", unfollowed := true, recurses := true, plainKeys := false, apart := false }
def SlugTurnedSaid : Prop := slugTurnedRow.holds Try.pinned (OpenSpec.ofChange slugTurnedSpec)

/-- ITS FALSE NEIGHBOUR: 'it returns false'. Refute it at one input. -/
def slugTurnedWrong : ChangeSpec := { name := "slugTurned", fn := fun _ => fun
  | [d1, d2, d3, d4] => { results := [.lit (.bool false)], args := [d1, d2, d3, d4] }
  | _ => none }
def SlugTurnedWrongFalsely : Prop := slugTurnedRow.holds Try.pinned (OpenSpec.ofChange slugTurnedWrong)

/-- 'pennyfalllaw05.SlugMore': WHATEVER THE INPUT: true; the input reads as it did. -/
def slugMoreSpec : ChangeSpec := { name := "slugMore", fn := fun _ => fun
  | [d1, d2] => { results := [.lit (.bool true)], args := [d1, d2] }
  | _ => none }
def slugMoreRow : OpenClaim := { program := "ytelgbjfgmpkepaa", sum := "924720aeb82b93756cca1a6d56c3ed6a8f2ea9174afdcce99180c62bd0335295", func := "pennyfall/pennyfalllaw05.SlugMore", spec := "slugMore", unfollowed := true, recurses := true, plainKeys := false, apart := false }
def SlugMoreSaid : Prop := slugMoreRow.holds Try.pinned (OpenSpec.ofChange slugMoreSpec)

/-- ITS FALSE NEIGHBOUR: 'it returns false'. Refute it at one input. -/
def slugMoreWrong : ChangeSpec := { name := "slugMore", fn := fun _ => fun
  | [d1, d2] => { results := [.lit (.bool false)], args := [d1, d2] }
  | _ => none }
def SlugMoreWrongFalsely : Prop := slugMoreRow.holds Try.pinned (OpenSpec.ofChange slugMoreWrong)

/-- 'pennyfalllaw05.SlugAlone': WHATEVER THE INPUT: true; the input reads as it did. -/
def slugAloneSpec : ChangeSpec := { name := "slugAlone", fn := fun _ => fun
  | [d1, d2] => { results := [.lit (.bool true)], args := [d1, d2] }
  | _ => none }
def slugAloneRow : OpenClaim := { program := "ytelgbjfgmpkepaa", sum := "924720aeb82b93756cca1a6d56c3ed6a8f2ea9174afdcce99180c62bd0335295", func := "pennyfall/pennyfalllaw05.SlugAlone", spec := "slugAlone", unfollowed := true, recurses := true, plainKeys := false, apart := false }
def SlugAloneSaid : Prop := slugAloneRow.holds Try.pinned (OpenSpec.ofChange slugAloneSpec)

/-- ITS FALSE NEIGHBOUR: 'it returns false'. Refute it at one input. -/
def slugAloneWrong : ChangeSpec := { name := "slugAlone", fn := fun _ => fun
  | [d1, d2] => { results := [.lit (.bool false)], args := [d1, d2] }
  | _ => none }
def SlugAloneWrongFalsely : Prop := slugAloneRow.holds Try.pinned (OpenSpec.ofChange slugAloneWrong)

/-- 'pennyfalllaw05.SlugKnown': WHATEVER THE INPUT: true; the input reads as it did. -/
def slugKnownSpec : ChangeSpec := { name := "slugKnown", fn := fun _ => fun
  | [] => { results := [.lit (.bool true)], args := [] }
  | _ => none }
def slugKnownRow : OpenClaim := { program := "ytelgbjfgmpkepaa", sum := "924720aeb82b93756cca1a6d56c3ed6a8f2ea9174afdcce99180c62bd0335295", func := "pennyfall/pennyfalllaw05.SlugKnown", spec := "slugKnown", unfollowed := true, recurses := true, plainKeys := false, apart := false }
def SlugKnownSaid : Prop := slugKnownRow.holds Try.pinned (OpenSpec.ofChange slugKnownSpec)

/-- ITS FALSE NEIGHBOUR: 'it returns false'. Refute it at one input. -/
def slugKnownWrong : ChangeSpec := { name := "slugKnown", fn := fun _ => fun
  | [] => { results := [.lit (.bool false)], args := [] }
  | _ => none }
def SlugKnownWrongFalsely : Prop := slugKnownRow.holds Try.pinned (OpenSpec.ofChange slugKnownWrong)

/- THE SECOND FORM. 'bulk': how many values and letters a reading holds, each counted each time it is reached (what is shared counts as often as it is met; a slice's spare places count too). A statement '..UptoSaid' is the law's where the arguments, and the package variables that the reading takes, are together of bulk at most 1048576: NARROWER than '..Said'. Prove '..Said' where nothing that the law and all that it calls make is longer than what came in: it says more and counts as full. Else prove '..UptoSaid'. A law counts once. -/
mutual
def uptoBulk {H : Type} : DataW H → Nat
  | .lit (.string bytes) => bytes.length + 1
  | .lit _ => 1
  | .nil => 1
  | .ptr d => uptoBulk d + 1
  | .slice elems spare => uptoBulkAll elems + uptoBulkAll spare + 1
  | .agg parts => uptoBulkAll parts + 1
  | .iface _ d => uptoBulk d + 1
  | .map entries => uptoBulkEntries entries + 1
  | .held _ => 1
def uptoBulkAll {H : Type} : List (DataW H) → Nat
  | [] => 0
  | d :: r => uptoBulk d + uptoBulkAll r
def uptoBulkEntries {H : Type} : List (Lit × DataW H) → Nat
  | [] => 0
  | x :: r => uptoBulkEntry x + uptoBulkEntries r
def uptoBulkEntry {H : Type} : Lit × DataW H → Nat
  | (.string bytes, d) => bytes.length + uptoBulk d + 1
  | (_, d) => uptoBulk d + 1
 end
def uptoSmall : (H : Type) → List (DataW H) → Bool := fun _ ds => decide (uptoBulkAll ds ≤ 1048576)
def OpenSpec.upto (s : _root_.Go.ChangeSpec) : _root_.Go.OpenSpec := { _root_.Go.OpenSpec.ofChange s with cond := some uptoSmall }

/-- 'pennyfalllaw05.SlugKnowns', WHERE WHAT IT READS IS OF BULK AT MOST 1048576: true; the input reads as it did. -/
def slugKnownsUptoRow : OpenClaim := { program := "ytelgbjfgmpkepaa", sum := "924720aeb82b93756cca1a6d56c3ed6a8f2ea9174afdcce99180c62bd0335295", func := "pennyfall/pennyfalllaw05.SlugKnowns", spec := "slugKnowns", unfollowed := true, recurses := true, plainKeys := false, apart := false, narrowed := true }
def SlugKnownsUptoSaid : Prop := slugKnownsUptoRow.holds Try.pinned (OpenSpec.upto slugKnownsSpec)

/-- 'pennyfalllaw05.SlugWeighings', WHERE WHAT IT READS IS OF BULK AT MOST 1048576: true; the input reads as it did. -/
def slugWeighingsUptoRow : OpenClaim := { program := "ytelgbjfgmpkepaa", sum := "924720aeb82b93756cca1a6d56c3ed6a8f2ea9174afdcce99180c62bd0335295", func := "pennyfall/pennyfalllaw05.SlugWeighings", spec := "slugWeighings", unfollowed := true, recurses := true, plainKeys := false, apart := false, narrowed := true }
def SlugWeighingsUptoSaid : Prop := slugWeighingsUptoRow.holds Try.pinned (OpenSpec.upto slugWeighingsSpec)

/-- 'pennyfalllaw05.SlugPlans', WHERE WHAT IT READS IS OF BULK AT MOST 1048576: true; the input reads as it did. -/
def slugPlansUptoRow : OpenClaim := { program := "ytelgbjfgmpkepaa", sum := "924720aeb82b93756cca1a6d56c3ed6a8f2ea9174afdcce99180c62bd0335295", func := "pennyfall/pennyfalllaw05.SlugPlans", spec := "slugPlans", unfollowed := true, recurses := true, plainKeys := false, apart := false, narrowed := true }
def SlugPlansUptoSaid : Prop := slugPlansUptoRow.holds Try.pinned (OpenSpec.upto slugPlansSpec)

/-- 'pennyfalllaw05.SlugNeeds', WHERE WHAT IT READS IS OF BULK AT MOST 1048576: true; the input reads as it did. -/
def slugNeedsUptoRow : OpenClaim := { program := "ytelgbjfgmpkepaa", sum := "924720aeb82b93756cca1a6d56c3ed6a8f2ea9174afdcce99180c62bd0335295", func := "pennyfall/pennyfalllaw05.SlugNeeds", spec := "slugNeeds", unfollowed := true, recurses := true, plainKeys := false, apart := false, narrowed := true }
def SlugNeedsUptoSaid : Prop := slugNeedsUptoRow.holds Try.pinned (OpenSpec.upto slugNeedsSpec)

/-- 'pennyfalllaw05.SlugEither', WHERE WHAT IT READS IS OF BULK AT MOST 1048576: true; the input reads as it did. -/
def slugEitherUptoRow : OpenClaim := { program := "ytelgbjfgmpkepaa", sum := "924720aeb82b93756cca1a6d56c3ed6a8f2ea9174afdcce99180c62bd0335295", func := "pennyfall/pennyfalllaw05.SlugEither", spec := "slugEither", unfollowed := true, recurses := true, plainKeys := false, apart := false, narrowed := true }
def SlugEitherUptoSaid : Prop := slugEitherUptoRow.holds Try.pinned (OpenSpec.upto slugEitherSpec)

/-- 'pennyfalllaw05.SlugBest', WHERE WHAT IT READS IS OF BULK AT MOST 1048576: true; the input reads as it did. -/
def slugBestUptoRow : OpenClaim := { program := "ytelgbjfgmpkepaa", sum := "924720aeb82b93756cca1a6d56c3ed6a8f2ea9174afdcce99180c62bd0335295", func := "pennyfall/pennyfalllaw05.SlugBest", spec := "slugBest", unfollowed := true, recurses := true, plainKeys := false, apart := false, narrowed := true }
def SlugBestUptoSaid : Prop := slugBestUptoRow.holds Try.pinned (OpenSpec.upto slugBestSpec)

/-- 'pennyfalllaw05.SlugLearned', WHERE WHAT IT READS IS OF BULK AT MOST 1048576: true; the input reads as it did. -/
def slugLearnedUptoRow : OpenClaim := { program := "ytelgbjfgmpkepaa", sum := "924720aeb82b93756cca1a6d56c3ed6a8f2ea9174afdcce99180c62bd0335295", func := "pennyfall/pennyfalllaw05.SlugLearned", spec := "slugLearned", unfollowed := true, recurses := true, plainKeys := false, apart := false, narrowed := true }
def SlugLearnedUptoSaid : Prop := slugLearnedUptoRow.holds Try.pinned (OpenSpec.upto slugLearnedSpec)

/-- 'pennyfalllaw05.SlugPlayed', WHERE WHAT IT READS IS OF BULK AT MOST 1048576: true; the input reads as it did. -/
def slugPlayedUptoRow : OpenClaim := { program := "ytelgbjfgmpkepaa", sum := "924720aeb82b93756cca1a6d56c3ed6a8f2ea9174afdcce99180c62bd0335295", func := "pennyfall/pennyfalllaw05.SlugPlayed", spec := "slugPlayed", unfollowed := true, recurses := true, plainKeys := false, apart := false, narrowed := true }
def SlugPlayedUptoSaid : Prop := slugPlayedUptoRow.holds Try.pinned (OpenSpec.upto slugPlayedSpec)

/-- 'pennyfalllaw05.SlugTurned', WHERE WHAT IT READS IS OF BULK AT MOST 1048576: true; the input reads as it did. -/
def slugTurnedUptoRow : OpenClaim := { program := "ytelgbjfgmpkepaa", sum := "924720aeb82b93756cca1a6d56c3ed6a8f2ea9174afdcce99180c62bd0335295", func := "pennyfall/pennyfalllaw05.SlugTurned", spec := "slugTurned", unfollowed := true, recurses := true, plainKeys := false, apart := false, narrowed := true }
def SlugTurnedUptoSaid : Prop := slugTurnedUptoRow.holds Try.pinned (OpenSpec.upto slugTurnedSpec)

/-- 'pennyfalllaw05.SlugMore', WHERE WHAT IT READS IS OF BULK AT MOST 1048576: true; the input reads as it did. -/
def slugMoreUptoRow : OpenClaim := { program := "ytelgbjfgmpkepaa", sum := "924720aeb82b93756cca1a6d56c3ed6a8f2ea9174afdcce99180c62bd0335295", func := "pennyfall/pennyfalllaw05.SlugMore", spec := "slugMore", unfollowed := true, recurses := true, plainKeys := false, apart := false, narrowed := true }
def SlugMoreUptoSaid : Prop := slugMoreUptoRow.holds Try.pinned (OpenSpec.upto slugMoreSpec)

/-- 'pennyfalllaw05.SlugAlone', WHERE WHAT IT READS IS OF BULK AT MOST 1048576: true; the input reads as it did. -/
def slugAloneUptoRow : OpenClaim := { program := "ytelgbjfgmpkepaa", sum := "924720aeb82b93756cca1a6d56c3ed6a8f2ea9174afdcce99180c62bd0335295", func := "pennyfall/pennyfalllaw05.SlugAlone", spec := "slugAlone", unfollowed := true, recurses := true, plainKeys := false, apart := false, narrowed := true }
def SlugAloneUptoSaid : Prop := slugAloneUptoRow.holds Try.pinned (OpenSpec.upto slugAloneSpec)

/-- 'pennyfalllaw05.SlugKnown', WHERE WHAT IT READS IS OF BULK AT MOST 1048576: true; the input reads as it did. -/
def slugKnownUptoRow : OpenClaim := { program := "ytelgbjfgmpkepaa", sum := "924720aeb82b93756cca1a6d56c3ed6a8f2ea9174afdcce99180c62bd0335295", func := "pennyfall/pennyfalllaw05.SlugKnown", spec := "slugKnown", unfollowed := true, recurses := true, plainKeys := false, apart := false, narrowed := true }
def SlugKnownUptoSaid : Prop := slugKnownUptoRow.holds Try.pinned (OpenSpec.upto slugKnownSpec)

end Rows
end Go.Proofs.Ytelgbjfgmpkepaa
