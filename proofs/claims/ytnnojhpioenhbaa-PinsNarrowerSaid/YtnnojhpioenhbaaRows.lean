/-
  No cell of these rows narrows 'for every input' (looked for: loops, veiled, ifaces, maps, wideKeys, modest, calm, conditions, laid).
  DERIVED. THE GIVEN ROWS OF THIS SEAT. 13 by the template 'for every input the law returns true; each argument reads behind the call as it read before'; 0 by the template 'total and deterministic' (their statements: YtnnojhpioenhbaaTotals.lean).
  GIVEN WITH THE SEED: the statements are not yours to turn. If you find one false, say at which input.
  Laid BY PROGRAM, IN A SANDBOX (cutbox-rows.mjs): the forced cells as the released guide's own fill.sh prints them over the translation 9cb3fdcf7d889c04… (all of the seat's roots in one cut). By AI agents, Wed Nov 11 2026. No macro, syntax, notation, axiom, sorry.
-/
import Derived.Test.YtnnojhpioenhbaaChecked
import GoSem.Claim
import GoSem.ClaimJoined
import GoSem.ClaimMapViews
import Derived.JoinedTies
import Derived.KernelRfl
namespace Go.Proofs.Ytnnojhpioenhbaa
/- THE CELL 'sum', in the pinned program and in every row, IS THE sha256 OF THE DUMP (.gsa) THAT YtnnojhpioenhbaaProg.lean LOADS. Nothing in Lean hashes anything: it is a label: what it is worth is what the hold of that sum in a sandbox is worth. -/
noncomputable def Try.pinned : Pinned := { name := "ytnnojhpioenhbaa", sum := "9cb3fdcf7d889c043283c71120c3a4c8bc6e5e322058dcb63e3bee2e6351bc8b", checked := Try.checked }
namespace Rows
def none {H : Type} : Left H := { results := [], args := [] }

/-- 'pennyfalllaw02.PinsBoards': WHATEVER THE INPUT: true; the input reads as it did. -/
def pinsBoardsSpec : ChangeSpec := { name := "pinsBoards", fn := fun _ => fun
  | [d1, d2, d3] => { results := [.lit (.bool true)], args := [d1, d2, d3] }
  | _ => none }
def pinsBoardsRow : OpenClaim := { program := "ytnnojhpioenhbaa", sum := "9cb3fdcf7d889c043283c71120c3a4c8bc6e5e322058dcb63e3bee2e6351bc8b", func := "pennyfall/pennyfalllaw02.PinsBoards", spec := "pinsBoards", unfollowed := true, recurses := true, plainKeys := false, apart := false }
def PinsBoardsSaid : Prop := pinsBoardsRow.holds Try.pinned (OpenSpec.ofChange pinsBoardsSpec)

/-- ITS FALSE NEIGHBOUR: 'it returns false'. Refute it at one input. -/
def pinsBoardsWrong : ChangeSpec := { name := "pinsBoards", fn := fun _ => fun
  | [d1, d2, d3] => { results := [.lit (.bool false)], args := [d1, d2, d3] }
  | _ => none }
def PinsBoardsWrongFalsely : Prop := pinsBoardsRow.holds Try.pinned (OpenSpec.ofChange pinsBoardsWrong)

/-- 'pennyfalllaw02.PinsPaths': WHATEVER THE INPUT: true; the input reads as it did. -/
def pinsPathsSpec : ChangeSpec := { name := "pinsPaths", fn := fun _ => fun
  | [d1, d2, d3] => { results := [.lit (.bool true)], args := [d1, d2, d3] }
  | _ => none }
def pinsPathsRow : OpenClaim := { program := "ytnnojhpioenhbaa", sum := "9cb3fdcf7d889c043283c71120c3a4c8bc6e5e322058dcb63e3bee2e6351bc8b", func := "pennyfall/pennyfalllaw02.PinsPaths", spec := "pinsPaths", unfollowed := true, recurses := true, plainKeys := false, apart := false }
def PinsPathsSaid : Prop := pinsPathsRow.holds Try.pinned (OpenSpec.ofChange pinsPathsSpec)

/-- ITS FALSE NEIGHBOUR: 'it returns false'. Refute it at one input. -/
def pinsPathsWrong : ChangeSpec := { name := "pinsPaths", fn := fun _ => fun
  | [d1, d2, d3] => { results := [.lit (.bool false)], args := [d1, d2, d3] }
  | _ => none }
def PinsPathsWrongFalsely : Prop := pinsPathsRow.holds Try.pinned (OpenSpec.ofChange pinsPathsWrong)

/-- 'pennyfalllaw02.PinsLevels': WHATEVER THE INPUT: true; the input reads as it did. -/
def pinsLevelsSpec : ChangeSpec := { name := "pinsLevels", fn := fun _ => fun
  | [d1, d2, d3] => { results := [.lit (.bool true)], args := [d1, d2, d3] }
  | _ => none }
def pinsLevelsRow : OpenClaim := { program := "ytnnojhpioenhbaa", sum := "9cb3fdcf7d889c043283c71120c3a4c8bc6e5e322058dcb63e3bee2e6351bc8b", func := "pennyfall/pennyfalllaw02.PinsLevels", spec := "pinsLevels", unfollowed := true, recurses := true, plainKeys := false, apart := false }
def PinsLevelsSaid : Prop := pinsLevelsRow.holds Try.pinned (OpenSpec.ofChange pinsLevelsSpec)

/-- ITS FALSE NEIGHBOUR: 'it returns false'. Refute it at one input. -/
def pinsLevelsWrong : ChangeSpec := { name := "pinsLevels", fn := fun _ => fun
  | [d1, d2, d3] => { results := [.lit (.bool false)], args := [d1, d2, d3] }
  | _ => none }
def PinsLevelsWrongFalsely : Prop := pinsLevelsRow.holds Try.pinned (OpenSpec.ofChange pinsLevelsWrong)

/-- 'pennyfalllaw02.PinsSpans': WHATEVER THE INPUT: true; the input reads as it did. -/
def pinsSpansSpec : ChangeSpec := { name := "pinsSpans", fn := fun _ => fun
  | [d1, d2, d3, d4] => { results := [.lit (.bool true)], args := [d1, d2, d3, d4] }
  | _ => none }
def pinsSpansRow : OpenClaim := { program := "ytnnojhpioenhbaa", sum := "9cb3fdcf7d889c043283c71120c3a4c8bc6e5e322058dcb63e3bee2e6351bc8b", func := "pennyfall/pennyfalllaw02.PinsSpans", spec := "pinsSpans", unfollowed := true, recurses := true, plainKeys := false, apart := false }
def PinsSpansSaid : Prop := pinsSpansRow.holds Try.pinned (OpenSpec.ofChange pinsSpansSpec)

/-- ITS FALSE NEIGHBOUR: 'it returns false'. Refute it at one input. -/
def pinsSpansWrong : ChangeSpec := { name := "pinsSpans", fn := fun _ => fun
  | [d1, d2, d3, d4] => { results := [.lit (.bool false)], args := [d1, d2, d3, d4] }
  | _ => none }
def PinsSpansWrongFalsely : Prop := pinsSpansRow.holds Try.pinned (OpenSpec.ofChange pinsSpansWrong)

/-- 'pennyfalllaw02.PinsEither': WHATEVER THE INPUT: true; the input reads as it did. -/
def pinsEitherSpec : ChangeSpec := { name := "pinsEither", fn := fun _ => fun
  | [d1, d2, d3, d4] => { results := [.lit (.bool true)], args := [d1, d2, d3, d4] }
  | _ => none }
def pinsEitherRow : OpenClaim := { program := "ytnnojhpioenhbaa", sum := "9cb3fdcf7d889c043283c71120c3a4c8bc6e5e322058dcb63e3bee2e6351bc8b", func := "pennyfall/pennyfalllaw02.PinsEither", spec := "pinsEither", unfollowed := true, recurses := true, plainKeys := false, apart := false }
def PinsEitherSaid : Prop := pinsEitherRow.holds Try.pinned (OpenSpec.ofChange pinsEitherSpec)

/-- ITS FALSE NEIGHBOUR: 'it returns false'. Refute it at one input. -/
def pinsEitherWrong : ChangeSpec := { name := "pinsEither", fn := fun _ => fun
  | [d1, d2, d3, d4] => { results := [.lit (.bool false)], args := [d1, d2, d3, d4] }
  | _ => none }
def PinsEitherWrongFalsely : Prop := pinsEitherRow.holds Try.pinned (OpenSpec.ofChange pinsEitherWrong)

/-- 'pennyfalllaw02.PinsSummed': WHATEVER THE INPUT: true; the input reads as it did. -/
def pinsSummedSpec : ChangeSpec := { name := "pinsSummed", fn := fun _ => fun
  | [d1, d2, d3, d4] => { results := [.lit (.bool true)], args := [d1, d2, d3, d4] }
  | _ => none }
def pinsSummedRow : OpenClaim := { program := "ytnnojhpioenhbaa", sum := "9cb3fdcf7d889c043283c71120c3a4c8bc6e5e322058dcb63e3bee2e6351bc8b", func := "pennyfall/pennyfalllaw02.PinsSummed", spec := "pinsSummed", unfollowed := true, recurses := true, plainKeys := false, apart := false }
def PinsSummedSaid : Prop := pinsSummedRow.holds Try.pinned (OpenSpec.ofChange pinsSummedSpec)

/-- ITS FALSE NEIGHBOUR: 'it returns false'. Refute it at one input. -/
def pinsSummedWrong : ChangeSpec := { name := "pinsSummed", fn := fun _ => fun
  | [d1, d2, d3, d4] => { results := [.lit (.bool false)], args := [d1, d2, d3, d4] }
  | _ => none }
def PinsSummedWrongFalsely : Prop := pinsSummedRow.holds Try.pinned (OpenSpec.ofChange pinsSummedWrong)

/-- 'pennyfalllaw02.PinsRises': WHATEVER THE INPUT: true; the input reads as it did. -/
def pinsRisesSpec : ChangeSpec := { name := "pinsRises", fn := fun _ => fun
  | [d1, d2, d3] => { results := [.lit (.bool true)], args := [d1, d2, d3] }
  | _ => none }
def pinsRisesRow : OpenClaim := { program := "ytnnojhpioenhbaa", sum := "9cb3fdcf7d889c043283c71120c3a4c8bc6e5e322058dcb63e3bee2e6351bc8b", func := "pennyfall/pennyfalllaw02.PinsRises", spec := "pinsRises", unfollowed := true, recurses := true, plainKeys := false, apart := false }
def PinsRisesSaid : Prop := pinsRisesRow.holds Try.pinned (OpenSpec.ofChange pinsRisesSpec)

/-- ITS FALSE NEIGHBOUR: 'it returns false'. Refute it at one input. -/
def pinsRisesWrong : ChangeSpec := { name := "pinsRises", fn := fun _ => fun
  | [d1, d2, d3] => { results := [.lit (.bool false)], args := [d1, d2, d3] }
  | _ => none }
def PinsRisesWrongFalsely : Prop := pinsRisesRow.holds Try.pinned (OpenSpec.ofChange pinsRisesWrong)

/-- 'pennyfalllaw02.PinsNarrower': WHATEVER THE INPUT: true; the input reads as it did. -/
def pinsNarrowerSpec : ChangeSpec := { name := "pinsNarrower", fn := fun _ => fun
  | [d1, d2, d3, d4, d5, d6, d7] => { results := [.lit (.bool true)], args := [d1, d2, d3, d4, d5, d6, d7] }
  | _ => none }
def pinsNarrowerRow : OpenClaim := { program := "ytnnojhpioenhbaa", sum := "9cb3fdcf7d889c043283c71120c3a4c8bc6e5e322058dcb63e3bee2e6351bc8b", func := "pennyfall/pennyfalllaw02.PinsNarrower", spec := "pinsNarrower", unfollowed := true, recurses := true, plainKeys := false, apart := false }
def PinsNarrowerSaid : Prop := pinsNarrowerRow.holds Try.pinned (OpenSpec.ofChange pinsNarrowerSpec)

/-- ITS FALSE NEIGHBOUR: 'it returns false'. Refute it at one input. -/
def pinsNarrowerWrong : ChangeSpec := { name := "pinsNarrower", fn := fun _ => fun
  | [d1, d2, d3, d4, d5, d6, d7] => { results := [.lit (.bool false)], args := [d1, d2, d3, d4, d5, d6, d7] }
  | _ => none }
def PinsNarrowerWrongFalsely : Prop := pinsNarrowerRow.holds Try.pinned (OpenSpec.ofChange pinsNarrowerWrong)

/-- 'pennyfalllaw02.PinsTurned': WHATEVER THE INPUT: true; the input reads as it did. -/
def pinsTurnedSpec : ChangeSpec := { name := "pinsTurned", fn := fun _ => fun
  | [d1, d2] => { results := [.lit (.bool true)], args := [d1, d2] }
  | _ => none }
def pinsTurnedRow : OpenClaim := { program := "ytnnojhpioenhbaa", sum := "9cb3fdcf7d889c043283c71120c3a4c8bc6e5e322058dcb63e3bee2e6351bc8b", func := "pennyfall/pennyfalllaw02.PinsTurned", spec := "pinsTurned", unfollowed := true, recurses := true, plainKeys := false, apart := false }
def PinsTurnedSaid : Prop := pinsTurnedRow.holds Try.pinned (OpenSpec.ofChange pinsTurnedSpec)

/-- ITS FALSE NEIGHBOUR: 'it returns false'. Refute it at one input. -/
def pinsTurnedWrong : ChangeSpec := { name := "pinsTurned", fn := fun _ => fun
  | [d1, d2] => { results := [.lit (.bool false)], args := [d1, d2] }
  | _ => none }
def PinsTurnedWrongFalsely : Prop := pinsTurnedRow.holds Try.pinned (OpenSpec.ofChange pinsTurnedWrong)

/-- 'pennyfalllaw02.PinsPaid': WHATEVER THE INPUT: true; the input reads as it did. -/
def pinsPaidSpec : ChangeSpec := { name := "pinsPaid", fn := fun _ => fun
  | [d1, d2, d3, d4, d5] => { results := [.lit (.bool true)], args := [d1, d2, d3, d4, d5] }
  | _ => none }
def pinsPaidRow : OpenClaim := { program := "ytnnojhpioenhbaa", sum := "9cb3fdcf7d889c043283c71120c3a4c8bc6e5e322058dcb63e3bee2e6351bc8b", func := "pennyfall/pennyfalllaw02.PinsPaid", spec := "pinsPaid", unfollowed := true, recurses := true, plainKeys := false, apart := false }
def PinsPaidSaid : Prop := pinsPaidRow.holds Try.pinned (OpenSpec.ofChange pinsPaidSpec)

/-- ITS FALSE NEIGHBOUR: 'it returns false'. Refute it at one input. -/
def pinsPaidWrong : ChangeSpec := { name := "pinsPaid", fn := fun _ => fun
  | [d1, d2, d3, d4, d5] => { results := [.lit (.bool false)], args := [d1, d2, d3, d4, d5] }
  | _ => none }
def PinsPaidWrongFalsely : Prop := pinsPaidRow.holds Try.pinned (OpenSpec.ofChange pinsPaidWrong)

/-- 'pennyfalllaw02.PinsCut': WHATEVER THE INPUT: true; the input reads as it did. -/
def pinsCutSpec : ChangeSpec := { name := "pinsCut", fn := fun _ => fun
  | [d1, d2] => { results := [.lit (.bool true)], args := [d1, d2] }
  | _ => none }
def pinsCutRow : OpenClaim := { program := "ytnnojhpioenhbaa", sum := "9cb3fdcf7d889c043283c71120c3a4c8bc6e5e322058dcb63e3bee2e6351bc8b", func := "pennyfall/pennyfalllaw02.PinsCut", spec := "pinsCut", unfollowed := true, recurses := true, plainKeys := false, apart := false }
def PinsCutSaid : Prop := pinsCutRow.holds Try.pinned (OpenSpec.ofChange pinsCutSpec)

/-- ITS FALSE NEIGHBOUR: 'it returns false'. Refute it at one input. -/
def pinsCutWrong : ChangeSpec := { name := "pinsCut", fn := fun _ => fun
  | [d1, d2] => { results := [.lit (.bool false)], args := [d1, d2] }
  | _ => none }
def PinsCutWrongFalsely : Prop := pinsCutRow.holds Try.pinned (OpenSpec.ofChange pinsCutWrong)

/-- 'pennyfalllaw02.PinsFallen': WHATEVER THE INPUT: true; the input reads as it did. -/
def pinsFallenSpec : ChangeSpec := { name := "pinsFallen", fn := fun _ => fun
  | [d1, d2, d3, d4] => { results := [.lit (.bool true)], args := [d1, d2, d3, d4] }
  | _ => none }
def pinsFallenRow : OpenClaim := { program := "ytnnojhpioenhbaa", sum := "9cb3fdcf7d889c043283c71120c3a4c8bc6e5e322058dcb63e3bee2e6351bc8b", func := "pennyfall/pennyfalllaw02.PinsFallen", spec := "pinsFallen", unfollowed := true, recurses := true, plainKeys := false, apart := false }
def PinsFallenSaid : Prop := pinsFallenRow.holds Try.pinned (OpenSpec.ofChange pinsFallenSpec)

/-- ITS FALSE NEIGHBOUR: 'it returns false'. Refute it at one input. -/
def pinsFallenWrong : ChangeSpec := { name := "pinsFallen", fn := fun _ => fun
  | [d1, d2, d3, d4] => { results := [.lit (.bool false)], args := [d1, d2, d3, d4] }
  | _ => none }
def PinsFallenWrongFalsely : Prop := pinsFallenRow.holds Try.pinned (OpenSpec.ofChange pinsFallenWrong)

/-- 'pennyfalllaw02.PinsKnown': WHATEVER THE INPUT: true; the input reads as it did. -/
def pinsKnownSpec : ChangeSpec := { name := "pinsKnown", fn := fun _ => fun
  | [] => { results := [.lit (.bool true)], args := [] }
  | _ => none }
def pinsKnownRow : OpenClaim := { program := "ytnnojhpioenhbaa", sum := "9cb3fdcf7d889c043283c71120c3a4c8bc6e5e322058dcb63e3bee2e6351bc8b", func := "pennyfall/pennyfalllaw02.PinsKnown", spec := "pinsKnown", unfollowed := true, recurses := true, plainKeys := false, apart := false }
def PinsKnownSaid : Prop := pinsKnownRow.holds Try.pinned (OpenSpec.ofChange pinsKnownSpec)

/-- ITS FALSE NEIGHBOUR: 'it returns false'. Refute it at one input. -/
def pinsKnownWrong : ChangeSpec := { name := "pinsKnown", fn := fun _ => fun
  | [] => { results := [.lit (.bool false)], args := [] }
  | _ => none }
def PinsKnownWrongFalsely : Prop := pinsKnownRow.holds Try.pinned (OpenSpec.ofChange pinsKnownWrong)

/- THE SECOND FORM. 'bulk': how many values and letters a reading holds, each counted each time it is reached (what is shared counts as often as it is met; a slice's spare places count too). A statement '..UptoSaid' is the law's where the arguments, and the package variables that the reading takes, are together of bulk at most 1048576: NARROWER than '..Said'. Prove '..Said' where nothing that the law and all that it calls make is longer than what came in: it says more and counts as full. Else prove '..UptoSaid'. A law counts once. -/
mutual
def uptoBulk {H : Type} : DataW H → Nat
  | .lit (.string bytes) => bytes.length + 1
  | .lit _ => 1
  | .nil => 1
  | .ptr d => uptoBulk d + 1
  | .slice elems spare => uptoBulkAll elems + uptoBulkAll spare + 1
  | .agg parts => uptoBulkAll parts + 1
  | .iface _ d => uptoBulk d + 1
  | .map entries => uptoBulkEntries entries + 1
  | .held _ => 1
def uptoBulkAll {H : Type} : List (DataW H) → Nat
  | [] => 0
  | d :: r => uptoBulk d + uptoBulkAll r
def uptoBulkEntries {H : Type} : List (Lit × DataW H) → Nat
  | [] => 0
  | x :: r => uptoBulkEntry x + uptoBulkEntries r
def uptoBulkEntry {H : Type} : Lit × DataW H → Nat
  | (.string bytes, d) => bytes.length + uptoBulk d + 1
  | (_, d) => uptoBulk d + 1
 end
def uptoSmall : (H : Type) → List (DataW H) → Bool := fun _ ds => decide (uptoBulkAll ds ≤ 1048576)
def OpenSpec.upto (s : _root_.Go.ChangeSpec) : _root_.Go.OpenSpec := { _root_.Go.OpenSpec.ofChange s with cond := some uptoSmall }

/-- 'pennyfalllaw02.PinsBoards', WHERE WHAT IT READS IS OF BULK AT MOST 1048576: true; the input reads as it did. -/
def pinsBoardsUptoRow : OpenClaim := { program := "ytnnojhpioenhbaa", sum := "9cb3fdcf7d889c043283c71120c3a4c8bc6e5e322058dcb63e3bee2e6351bc8b", func := "pennyfall/pennyfalllaw02.PinsBoards", spec := "pinsBoards", unfollowed := true, recurses := true, plainKeys := false, apart := false, narrowed := true }
def PinsBoardsUptoSaid : Prop := pinsBoardsUptoRow.holds Try.pinned (OpenSpec.upto pinsBoardsSpec)

/-- 'pennyfalllaw02.PinsPaths', WHERE WHAT IT READS IS OF BULK AT MOST 1048576: true; the input reads as it did. -/
def pinsPathsUptoRow : OpenClaim := { program := "ytnnojhpioenhbaa", sum := "9cb3fdcf7d889c043283c71120c3a4c8bc6e5e322058dcb63e3bee2e6351bc8b", func := "pennyfall/pennyfalllaw02.PinsPaths", spec := "pinsPaths", unfollowed := true, recurses := true, plainKeys := false, apart := false, narrowed := true }
def PinsPathsUptoSaid : Prop := pinsPathsUptoRow.holds Try.pinned (OpenSpec.upto pinsPathsSpec)

/-- 'pennyfalllaw02.PinsLevels', WHERE WHAT IT READS IS OF BULK AT MOST 1048576: true; the input reads as it did. -/
def pinsLevelsUptoRow : OpenClaim := { program := "ytnnojhpioenhbaa", sum := "9cb3fdcf7d889c043283c71120c3a4c8bc6e5e322058dcb63e3bee2e6351bc8b", func := "pennyfall/pennyfalllaw02.PinsLevels", spec := "pinsLevels", unfollowed := true, recurses := true, plainKeys := false, apart := false, narrowed := true }
def PinsLevelsUptoSaid : Prop := pinsLevelsUptoRow.holds Try.pinned (OpenSpec.upto pinsLevelsSpec)

/-- 'pennyfalllaw02.PinsSpans', WHERE WHAT IT READS IS OF BULK AT MOST 1048576: true; the input reads as it did. -/
def pinsSpansUptoRow : OpenClaim := { program := "ytnnojhpioenhbaa", sum := "9cb3fdcf7d889c043283c71120c3a4c8bc6e5e322058dcb63e3bee2e6351bc8b", func := "pennyfall/pennyfalllaw02.PinsSpans", spec := "pinsSpans", unfollowed := true, recurses := true, plainKeys := false, apart := false, narrowed := true }
def PinsSpansUptoSaid : Prop := pinsSpansUptoRow.holds Try.pinned (OpenSpec.upto pinsSpansSpec)

/-- 'pennyfalllaw02.PinsEither', WHERE WHAT IT READS IS OF BULK AT MOST 1048576: true; the input reads as it did. -/
def pinsEitherUptoRow : OpenClaim := { program := "ytnnojhpioenhbaa", sum := "9cb3fdcf7d889c043283c71120c3a4c8bc6e5e322058dcb63e3bee2e6351bc8b", func := "pennyfall/pennyfalllaw02.PinsEither", spec := "pinsEither", unfollowed := true, recurses := true, plainKeys := false, apart := false, narrowed := true }
def PinsEitherUptoSaid : Prop := pinsEitherUptoRow.holds Try.pinned (OpenSpec.upto pinsEitherSpec)

/-- 'pennyfalllaw02.PinsSummed', WHERE WHAT IT READS IS OF BULK AT MOST 1048576: true; the input reads as it did. -/
def pinsSummedUptoRow : OpenClaim := { program := "ytnnojhpioenhbaa", sum := "9cb3fdcf7d889c043283c71120c3a4c8bc6e5e322058dcb63e3bee2e6351bc8b", func := "pennyfall/pennyfalllaw02.PinsSummed", spec := "pinsSummed", unfollowed := true, recurses := true, plainKeys := false, apart := false, narrowed := true }
def PinsSummedUptoSaid : Prop := pinsSummedUptoRow.holds Try.pinned (OpenSpec.upto pinsSummedSpec)

/-- 'pennyfalllaw02.PinsRises', WHERE WHAT IT READS IS OF BULK AT MOST 1048576: true; the input reads as it did. -/
def pinsRisesUptoRow : OpenClaim := { program := "ytnnojhpioenhbaa", sum := "9cb3fdcf7d889c043283c71120c3a4c8bc6e5e322058dcb63e3bee2e6351bc8b", func := "pennyfall/pennyfalllaw02.PinsRises", spec := "pinsRises", unfollowed := true, recurses := true, plainKeys := false, apart := false, narrowed := true }
def PinsRisesUptoSaid : Prop := pinsRisesUptoRow.holds Try.pinned (OpenSpec.upto pinsRisesSpec)

/-- 'pennyfalllaw02.PinsNarrower', WHERE WHAT IT READS IS OF BULK AT MOST 1048576: true; the input reads as it did. -/
def pinsNarrowerUptoRow : OpenClaim := { program := "ytnnojhpioenhbaa", sum := "9cb3fdcf7d889c043283c71120c3a4c8bc6e5e322058dcb63e3bee2e6351bc8b", func := "pennyfall/pennyfalllaw02.PinsNarrower", spec := "pinsNarrower", unfollowed := true, recurses := true, plainKeys := false, apart := false, narrowed := true }
def PinsNarrowerUptoSaid : Prop := pinsNarrowerUptoRow.holds Try.pinned (OpenSpec.upto pinsNarrowerSpec)

/-- 'pennyfalllaw02.PinsTurned', WHERE WHAT IT READS IS OF BULK AT MOST 1048576: true; the input reads as it did. -/
def pinsTurnedUptoRow : OpenClaim := { program := "ytnnojhpioenhbaa", sum := "9cb3fdcf7d889c043283c71120c3a4c8bc6e5e322058dcb63e3bee2e6351bc8b", func := "pennyfall/pennyfalllaw02.PinsTurned", spec := "pinsTurned", unfollowed := true, recurses := true, plainKeys := false, apart := false, narrowed := true }
def PinsTurnedUptoSaid : Prop := pinsTurnedUptoRow.holds Try.pinned (OpenSpec.upto pinsTurnedSpec)

/-- 'pennyfalllaw02.PinsPaid', WHERE WHAT IT READS IS OF BULK AT MOST 1048576: true; the input reads as it did. -/
def pinsPaidUptoRow : OpenClaim := { program := "ytnnojhpioenhbaa", sum := "9cb3fdcf7d889c043283c71120c3a4c8bc6e5e322058dcb63e3bee2e6351bc8b", func := "pennyfall/pennyfalllaw02.PinsPaid", spec := "pinsPaid", unfollowed := true, recurses := true, plainKeys := false, apart := false, narrowed := true }
def PinsPaidUptoSaid : Prop := pinsPaidUptoRow.holds Try.pinned (OpenSpec.upto pinsPaidSpec)

/-- 'pennyfalllaw02.PinsCut', WHERE WHAT IT READS IS OF BULK AT MOST 1048576: true; the input reads as it did. -/
def pinsCutUptoRow : OpenClaim := { program := "ytnnojhpioenhbaa", sum := "9cb3fdcf7d889c043283c71120c3a4c8bc6e5e322058dcb63e3bee2e6351bc8b", func := "pennyfall/pennyfalllaw02.PinsCut", spec := "pinsCut", unfollowed := true, recurses := true, plainKeys := false, apart := false, narrowed := true }
def PinsCutUptoSaid : Prop := pinsCutUptoRow.holds Try.pinned (OpenSpec.upto pinsCutSpec)

/-- 'pennyfalllaw02.PinsFallen', WHERE WHAT IT READS IS OF BULK AT MOST 1048576: true; the input reads as it did. -/
def pinsFallenUptoRow : OpenClaim := { program := "ytnnojhpioenhbaa", sum := "9cb3fdcf7d889c043283c71120c3a4c8bc6e5e322058dcb63e3bee2e6351bc8b", func := "pennyfall/pennyfalllaw02.PinsFallen", spec := "pinsFallen", unfollowed := true, recurses := true, plainKeys := false, apart := false, narrowed := true }
def PinsFallenUptoSaid : Prop := pinsFallenUptoRow.holds Try.pinned (OpenSpec.upto pinsFallenSpec)

/-- 'pennyfalllaw02.PinsKnown', WHERE WHAT IT READS IS OF BULK AT MOST 1048576: true; the input reads as it did. -/
def pinsKnownUptoRow : OpenClaim := { program := "ytnnojhpioenhbaa", sum := "9cb3fdcf7d889c043283c71120c3a4c8bc6e5e322058dcb63e3bee2e6351bc8b", func := "pennyfall/pennyfalllaw02.PinsKnown", spec := "pinsKnown", unfollowed := true, recurses := true, plainKeys := false, apart := false, narrowed := true }
def PinsKnownUptoSaid : Prop := pinsKnownUptoRow.holds Try.pinned (OpenSpec.upto pinsKnownSpec)

end Rows
end Go.Proofs.Ytnnojhpioenhbaa
