/-
  No cell of these rows narrows 'for every input' (looked for: loops, veiled, ifaces, maps, wideKeys, modest, calm, conditions, laid).
  DERIVED. THE GIVEN ROWS OF THIS SEAT. 12 by the template 'for every input the law returns true; each argument reads behind the call as it read before'; 0 by the template 'total and deterministic' (their statements: YtjnijhnphhpilaaTotals.lean).
  GIVEN WITH THE SEED: the statements are not yours to turn. If you find one false, say at which input.
  Laid BY PROGRAM, IN A SANDBOX (cutbox-rows.mjs): the forced cells as the released guide's own fill.sh prints them over the translation 3f3e77bfa3f970d6… (all of the seat's roots in one cut). By AI agents, Wed Nov 11 2026. No macro, syntax, notation, axiom, sorry.
-/
import Derived.Test.YtjnijhnphhpilaaChecked
import GoSem.Claim
import GoSem.ClaimJoined
import GoSem.ClaimMapViews
import Derived.JoinedTies
import Derived.KernelRfl
namespace Go.Proofs.Ytjnijhnphhpilaa
/- THE CELL 'sum', in the pinned program and in every row, IS THE sha256 OF THE DUMP (.gsa) THAT YtjnijhnphhpilaaProg.lean LOADS. Nothing in Lean hashes anything: it is a label: what it is worth is what the hold of that sum in a sandbox is worth. -/
noncomputable def Try.pinned : Pinned := { name := "ytjnijhnphhpilaa", sum := "3f3e77bfa3f970d64011cd38003da7bb4dcbba0a481ce7d89e0b78ddd52ab649", checked := Try.checked }
namespace Rows
def none {H : Type} : Left H := { results := [], args := [] }

/-- 'pennyfalllaw11.DrumRuns': WHATEVER THE INPUT: true; the input reads as it did. -/
def drumRunsSpec : ChangeSpec := { name := "drumRuns", fn := fun _ => fun
  | [d1, d2, d3] => { results := [.lit (.bool true)], args := [d1, d2, d3] }
  | _ => none }
def drumRunsRow : OpenClaim := { program := "ytjnijhnphhpilaa", sum := "3f3e77bfa3f970d64011cd38003da7bb4dcbba0a481ce7d89e0b78ddd52ab649", func := "pennyfall/pennyfalllaw11.DrumRuns", spec := "drumRuns", unfollowed := true, recurses := true, plainKeys := false, apart := false }
def DrumRunsSaid : Prop := drumRunsRow.holds Try.pinned (OpenSpec.ofChange drumRunsSpec)

/-- ITS FALSE NEIGHBOUR: 'it returns false'. Refute it at one input. -/
def drumRunsWrong : ChangeSpec := { name := "drumRuns", fn := fun _ => fun
  | [d1, d2, d3] => { results := [.lit (.bool false)], args := [d1, d2, d3] }
  | _ => none }
def DrumRunsWrongFalsely : Prop := drumRunsRow.holds Try.pinned (OpenSpec.ofChange drumRunsWrong)

/-- 'pennyfalllaw11.DrumPlaces': WHATEVER THE INPUT: true; the input reads as it did. -/
def drumPlacesSpec : ChangeSpec := { name := "drumPlaces", fn := fun _ => fun
  | [d] => { results := [.lit (.bool true)], args := [d] }
  | _ => none }
def drumPlacesRow : OpenClaim := { program := "ytjnijhnphhpilaa", sum := "3f3e77bfa3f970d64011cd38003da7bb4dcbba0a481ce7d89e0b78ddd52ab649", func := "pennyfall/pennyfalllaw11.DrumPlaces", spec := "drumPlaces", unfollowed := true, recurses := true, plainKeys := false, apart := false }
def DrumPlacesSaid : Prop := drumPlacesRow.holds Try.pinned (OpenSpec.ofChange drumPlacesSpec)

/-- ITS FALSE NEIGHBOUR: 'it returns false'. Refute it at one input. -/
def drumPlacesWrong : ChangeSpec := { name := "drumPlaces", fn := fun _ => fun
  | [d] => { results := [.lit (.bool false)], args := [d] }
  | _ => none }
def DrumPlacesWrongFalsely : Prop := drumPlacesRow.holds Try.pinned (OpenSpec.ofChange drumPlacesWrong)

/-- 'pennyfalllaw11.DrumNexts': WHATEVER THE INPUT: true; the input reads as it did. -/
def drumNextsSpec : ChangeSpec := { name := "drumNexts", fn := fun _ => fun
  | [d1, d2, d3, d4] => { results := [.lit (.bool true)], args := [d1, d2, d3, d4] }
  | _ => none }
def drumNextsRow : OpenClaim := { program := "ytjnijhnphhpilaa", sum := "3f3e77bfa3f970d64011cd38003da7bb4dcbba0a481ce7d89e0b78ddd52ab649", func := "pennyfall/pennyfalllaw11.DrumNexts", spec := "drumNexts", unfollowed := true, recurses := true, plainKeys := false, apart := false }
def DrumNextsSaid : Prop := drumNextsRow.holds Try.pinned (OpenSpec.ofChange drumNextsSpec)

/-- ITS FALSE NEIGHBOUR: 'it returns false'. Refute it at one input. -/
def drumNextsWrong : ChangeSpec := { name := "drumNexts", fn := fun _ => fun
  | [d1, d2, d3, d4] => { results := [.lit (.bool false)], args := [d1, d2, d3, d4] }
  | _ => none }
def DrumNextsWrongFalsely : Prop := drumNextsRow.holds Try.pinned (OpenSpec.ofChange drumNextsWrong)

/-- 'pennyfalllaw11.DrumRounds': WHATEVER THE INPUT: true; the input reads as it did. -/
def drumRoundsSpec : ChangeSpec := { name := "drumRounds", fn := fun _ => fun
  | [d1, d2] => { results := [.lit (.bool true)], args := [d1, d2] }
  | _ => none }
def drumRoundsRow : OpenClaim := { program := "ytjnijhnphhpilaa", sum := "3f3e77bfa3f970d64011cd38003da7bb4dcbba0a481ce7d89e0b78ddd52ab649", func := "pennyfall/pennyfalllaw11.DrumRounds", spec := "drumRounds", unfollowed := true, recurses := true, plainKeys := false, apart := false }
def DrumRoundsSaid : Prop := drumRoundsRow.holds Try.pinned (OpenSpec.ofChange drumRoundsSpec)

/-- ITS FALSE NEIGHBOUR: 'it returns false'. Refute it at one input. -/
def drumRoundsWrong : ChangeSpec := { name := "drumRounds", fn := fun _ => fun
  | [d1, d2] => { results := [.lit (.bool false)], args := [d1, d2] }
  | _ => none }
def DrumRoundsWrongFalsely : Prop := drumRoundsRow.holds Try.pinned (OpenSpec.ofChange drumRoundsWrong)

/-- 'pennyfalllaw11.DrumProved': WHATEVER THE INPUT: true; the input reads as it did. -/
def drumProvedSpec : ChangeSpec := { name := "drumProved", fn := fun _ => fun
  | [d1, d2, d3, d4] => { results := [.lit (.bool true)], args := [d1, d2, d3, d4] }
  | _ => none }
def drumProvedRow : OpenClaim := { program := "ytjnijhnphhpilaa", sum := "3f3e77bfa3f970d64011cd38003da7bb4dcbba0a481ce7d89e0b78ddd52ab649", func := "pennyfall/pennyfalllaw11.DrumProved", spec := "drumProved", unfollowed := true, recurses := true, plainKeys := false, apart := false }
def DrumProvedSaid : Prop := drumProvedRow.holds Try.pinned (OpenSpec.ofChange drumProvedSpec)

/-- ITS FALSE NEIGHBOUR: 'it returns false'. Refute it at one input. -/
def drumProvedWrong : ChangeSpec := { name := "drumProved", fn := fun _ => fun
  | [d1, d2, d3, d4] => { results := [.lit (.bool false)], args := [d1, d2, d3, d4] }
  | _ => none }
def DrumProvedWrongFalsely : Prop := drumProvedRow.holds Try.pinned (OpenSpec.ofChange drumProvedWrong)

/-- 'pennyfalllaw11.DrumOnly': WHATEVER THE INPUT: true; the input reads as it did. -/
def drumOnlySpec : ChangeSpec := { name := "drumOnly", fn := fun _ => fun
  | [d1, d2] => { results := [.lit (.bool true)], args := [d1, d2] }
  | _ => none }
def drumOnlyRow : OpenClaim := { program := "ytjnijhnphhpilaa", sum := "3f3e77bfa3f970d64011cd38003da7bb4dcbba0a481ce7d89e0b78ddd52ab649", func := "pennyfall/pennyfalllaw11.DrumOnly", spec := "drumOnly", unfollowed := true, recurses := true, plainKeys := false, apart := false }
def DrumOnlySaid : Prop := drumOnlyRow.holds Try.pinned (OpenSpec.ofChange drumOnlySpec)

/-- ITS FALSE NEIGHBOUR: 'it returns false'. Refute it at one input. -/
def drumOnlyWrong : ChangeSpec := { name := "drumOnly", fn := fun _ => fun
  | [d1, d2] => { results := [.lit (.bool false)], args := [d1, d2] }
  | _ => none }
def DrumOnlyWrongFalsely : Prop := drumOnlyRow.holds Try.pinned (OpenSpec.ofChange drumOnlyWrong)

/-- 'pennyfalllaw11.DrumGrown': WHATEVER THE INPUT: true; the input reads as it did. -/
def drumGrownSpec : ChangeSpec := { name := "drumGrown", fn := fun _ => fun
  | [d] => { results := [.lit (.bool true)], args := [d] }
  | _ => none }
def drumGrownRow : OpenClaim := { program := "ytjnijhnphhpilaa", sum := "3f3e77bfa3f970d64011cd38003da7bb4dcbba0a481ce7d89e0b78ddd52ab649", func := "pennyfall/pennyfalllaw11.DrumGrown", spec := "drumGrown", unfollowed := true, recurses := true, plainKeys := false, apart := false }
def DrumGrownSaid : Prop := drumGrownRow.holds Try.pinned (OpenSpec.ofChange drumGrownSpec)

/-- ITS FALSE NEIGHBOUR: 'it returns false'. Refute it at one input. -/
def drumGrownWrong : ChangeSpec := { name := "drumGrown", fn := fun _ => fun
  | [d] => { results := [.lit (.bool false)], args := [d] }
  | _ => none }
def DrumGrownWrongFalsely : Prop := drumGrownRow.holds Try.pinned (OpenSpec.ofChange drumGrownWrong)

/-- 'pennyfalllaw11.DrumNext': WHATEVER THE INPUT: true; the input reads as it did. -/
def drumNextSpec : ChangeSpec := { name := "drumNext", fn := fun _ => fun
  | [d1, d2] => { results := [.lit (.bool true)], args := [d1, d2] }
  | _ => none }
def drumNextRow : OpenClaim := { program := "ytjnijhnphhpilaa", sum := "3f3e77bfa3f970d64011cd38003da7bb4dcbba0a481ce7d89e0b78ddd52ab649", func := "pennyfall/pennyfalllaw11.DrumNext", spec := "drumNext", unfollowed := true, recurses := true, plainKeys := false, apart := false }
def DrumNextSaid : Prop := drumNextRow.holds Try.pinned (OpenSpec.ofChange drumNextSpec)

/-- ITS FALSE NEIGHBOUR: 'it returns false'. Refute it at one input. -/
def drumNextWrong : ChangeSpec := { name := "drumNext", fn := fun _ => fun
  | [d1, d2] => { results := [.lit (.bool false)], args := [d1, d2] }
  | _ => none }
def DrumNextWrongFalsely : Prop := drumNextRow.holds Try.pinned (OpenSpec.ofChange drumNextWrong)

/-- 'pennyfalllaw11.DrumSums': WHATEVER THE INPUT: true; the input reads as it did. -/
def drumSumsSpec : ChangeSpec := { name := "drumSums", fn := fun _ => fun
  | [d1, d2, d3, d4] => { results := [.lit (.bool true)], args := [d1, d2, d3, d4] }
  | _ => none }
def drumSumsRow : OpenClaim := { program := "ytjnijhnphhpilaa", sum := "3f3e77bfa3f970d64011cd38003da7bb4dcbba0a481ce7d89e0b78ddd52ab649", func := "pennyfall/pennyfalllaw11.DrumSums", spec := "drumSums", unfollowed := true, recurses := true, plainKeys := false, apart := false }
def DrumSumsSaid : Prop := drumSumsRow.holds Try.pinned (OpenSpec.ofChange drumSumsSpec)

/-- ITS FALSE NEIGHBOUR: 'it returns false'. Refute it at one input. -/
def drumSumsWrong : ChangeSpec := { name := "drumSums", fn := fun _ => fun
  | [d1, d2, d3, d4] => { results := [.lit (.bool false)], args := [d1, d2, d3, d4] }
  | _ => none }
def DrumSumsWrongFalsely : Prop := drumSumsRow.holds Try.pinned (OpenSpec.ofChange drumSumsWrong)

/-- 'pennyfalllaw11.DrumLater': WHATEVER THE INPUT: true; the input reads as it did. -/
def drumLaterSpec : ChangeSpec := { name := "drumLater", fn := fun _ => fun
  | [d1, d2, d3] => { results := [.lit (.bool true)], args := [d1, d2, d3] }
  | _ => none }
def drumLaterRow : OpenClaim := { program := "ytjnijhnphhpilaa", sum := "3f3e77bfa3f970d64011cd38003da7bb4dcbba0a481ce7d89e0b78ddd52ab649", func := "pennyfall/pennyfalllaw11.DrumLater", spec := "drumLater", unfollowed := true, recurses := true, plainKeys := false, apart := false }
def DrumLaterSaid : Prop := drumLaterRow.holds Try.pinned (OpenSpec.ofChange drumLaterSpec)

/-- ITS FALSE NEIGHBOUR: 'it returns false'. Refute it at one input. -/
def drumLaterWrong : ChangeSpec := { name := "drumLater", fn := fun _ => fun
  | [d1, d2, d3] => { results := [.lit (.bool false)], args := [d1, d2, d3] }
  | _ => none }
def DrumLaterWrongFalsely : Prop := drumLaterRow.holds Try.pinned (OpenSpec.ofChange drumLaterWrong)

/-- 'pennyfalllaw11.DrumRound': WHATEVER THE INPUT: true; the input reads as it did. -/
def drumRoundSpec : ChangeSpec := { name := "drumRound", fn := fun _ => fun
  | [d] => { results := [.lit (.bool true)], args := [d] }
  | _ => none }
def drumRoundRow : OpenClaim := { program := "ytjnijhnphhpilaa", sum := "3f3e77bfa3f970d64011cd38003da7bb4dcbba0a481ce7d89e0b78ddd52ab649", func := "pennyfall/pennyfalllaw11.DrumRound", spec := "drumRound", unfollowed := true, recurses := true, plainKeys := false, apart := false }
def DrumRoundSaid : Prop := drumRoundRow.holds Try.pinned (OpenSpec.ofChange drumRoundSpec)

/-- ITS FALSE NEIGHBOUR: 'it returns false'. Refute it at one input. -/
def drumRoundWrong : ChangeSpec := { name := "drumRound", fn := fun _ => fun
  | [d] => { results := [.lit (.bool false)], args := [d] }
  | _ => none }
def DrumRoundWrongFalsely : Prop := drumRoundRow.holds Try.pinned (OpenSpec.ofChange drumRoundWrong)

/-- 'pennyfalllaw11.DrumKnown': WHATEVER THE INPUT: true; the input reads as it did. -/
def drumKnownSpec : ChangeSpec := { name := "drumKnown", fn := fun _ => fun
  | [] => { results := [.lit (.bool true)], args := [] }
  | _ => none }
def drumKnownRow : OpenClaim := { program := "ytjnijhnphhpilaa", sum := "3f3e77bfa3f970d64011cd38003da7bb4dcbba0a481ce7d89e0b78ddd52ab649", func := "pennyfall/pennyfalllaw11.DrumKnown", spec := "drumKnown", unfollowed := true, recurses := true, plainKeys := false, apart := false }
def DrumKnownSaid : Prop := drumKnownRow.holds Try.pinned (OpenSpec.ofChange drumKnownSpec)

/-- ITS FALSE NEIGHBOUR: 'it returns false'. Refute it at one input. -/
def drumKnownWrong : ChangeSpec := { name := "drumKnown", fn := fun _ => fun
  | [] => { results := [.lit (.bool false)], args := [] }
  | _ => none }
def DrumKnownWrongFalsely : Prop := drumKnownRow.holds Try.pinned (OpenSpec.ofChange drumKnownWrong)

/- THE SECOND FORM. 'bulk': how many values and letters a reading holds, each counted each time it is reached (what is shared counts as often as it is met; a slice's spare places count too). A statement '..UptoSaid' is the law's where the arguments, and the package variables that the reading takes, are together of bulk at most 1048576: NARROWER than '..Said'. Prove '..Said' where nothing that the law and all that it calls make is longer than what came in: it says more and counts as full. Else prove '..UptoSaid'. A law counts once. -/
mutual
def uptoBulk {H : Type} : DataW H → Nat
  | .lit (.string bytes) => bytes.length + 1
  | .lit _ => 1
  | .nil => 1
  | .ptr d => uptoBulk d + 1
  | .slice elems spare => uptoBulkAll elems + uptoBulkAll spare + 1
  | .agg parts => uptoBulkAll parts + 1
  | .iface _ d => uptoBulk d + 1
  | .map entries => uptoBulkEntries entries + 1
  | .held _ => 1
def uptoBulkAll {H : Type} : List (DataW H) → Nat
  | [] => 0
  | d :: r => uptoBulk d + uptoBulkAll r
def uptoBulkEntries {H : Type} : List (Lit × DataW H) → Nat
  | [] => 0
  | x :: r => uptoBulkEntry x + uptoBulkEntries r
def uptoBulkEntry {H : Type} : Lit × DataW H → Nat
  | (.string bytes, d) => bytes.length + uptoBulk d + 1
  | (_, d) => uptoBulk d + 1
 end
def uptoSmall : (H : Type) → List (DataW H) → Bool := fun _ ds => decide (uptoBulkAll ds ≤ 1048576)
def OpenSpec.upto (s : _root_.Go.ChangeSpec) : _root_.Go.OpenSpec := { _root_.Go.OpenSpec.ofChange s with cond := some uptoSmall }

/-- 'pennyfalllaw11.DrumRuns', WHERE WHAT IT READS IS OF BULK AT MOST 1048576: true; the input reads as it did. -/
def drumRunsUptoRow : OpenClaim := { program := "ytjnijhnphhpilaa", sum := "3f3e77bfa3f970d64011cd38003da7bb4dcbba0a481ce7d89e0b78ddd52ab649", func := "pennyfall/pennyfalllaw11.DrumRuns", spec := "drumRuns", unfollowed := true, recurses := true, plainKeys := false, apart := false, narrowed := true }
def DrumRunsUptoSaid : Prop := drumRunsUptoRow.holds Try.pinned (OpenSpec.upto drumRunsSpec)

/-- 'pennyfalllaw11.DrumPlaces', WHERE WHAT IT READS IS OF BULK AT MOST 1048576: true; the input reads as it did. -/
def drumPlacesUptoRow : OpenClaim := { program := "ytjnijhnphhpilaa", sum := "3f3e77bfa3f970d64011cd38003da7bb4dcbba0a481ce7d89e0b78ddd52ab649", func := "pennyfall/pennyfalllaw11.DrumPlaces", spec := "drumPlaces", unfollowed := true, recurses := true, plainKeys := false, apart := false, narrowed := true }
def DrumPlacesUptoSaid : Prop := drumPlacesUptoRow.holds Try.pinned (OpenSpec.upto drumPlacesSpec)

/-- 'pennyfalllaw11.DrumNexts', WHERE WHAT IT READS IS OF BULK AT MOST 1048576: true; the input reads as it did. -/
def drumNextsUptoRow : OpenClaim := { program := "ytjnijhnphhpilaa", sum := "3f3e77bfa3f970d64011cd38003da7bb4dcbba0a481ce7d89e0b78ddd52ab649", func := "pennyfall/pennyfalllaw11.DrumNexts", spec := "drumNexts", unfollowed := true, recurses := true, plainKeys := false, apart := false, narrowed := true }
def DrumNextsUptoSaid : Prop := drumNextsUptoRow.holds Try.pinned (OpenSpec.upto drumNextsSpec)

/-- 'pennyfalllaw11.DrumRounds', WHERE WHAT IT READS IS OF BULK AT MOST 1048576: true; the input reads as it did. -/
def drumRoundsUptoRow : OpenClaim := { program := "ytjnijhnphhpilaa", sum := "3f3e77bfa3f970d64011cd38003da7bb4dcbba0a481ce7d89e0b78ddd52ab649", func := "pennyfall/pennyfalllaw11.DrumRounds", spec := "drumRounds", unfollowed := true, recurses := true, plainKeys := false, apart := false, narrowed := true }
def DrumRoundsUptoSaid : Prop := drumRoundsUptoRow.holds Try.pinned (OpenSpec.upto drumRoundsSpec)

/-- 'pennyfalllaw11.DrumProved', WHERE WHAT IT READS IS OF BULK AT MOST 1048576: true; the input reads as it did. -/
def drumProvedUptoRow : OpenClaim := { program := "ytjnijhnphhpilaa", sum := "3f3e77bfa3f970d64011cd38003da7bb4dcbba0a481ce7d89e0b78ddd52ab649", func := "pennyfall/pennyfalllaw11.DrumProved", spec := "drumProved", unfollowed := true, recurses := true, plainKeys := false, apart := false, narrowed := true }
def DrumProvedUptoSaid : Prop := drumProvedUptoRow.holds Try.pinned (OpenSpec.upto drumProvedSpec)

/-- 'pennyfalllaw11.DrumOnly', WHERE WHAT IT READS IS OF BULK AT MOST 1048576: true; the input reads as it did. -/
def drumOnlyUptoRow : OpenClaim := { program := "ytjnijhnphhpilaa", sum := "3f3e77bfa3f970d64011cd38003da7bb4dcbba0a481ce7d89e0b78ddd52ab649", func := "pennyfall/pennyfalllaw11.DrumOnly", spec := "drumOnly", unfollowed := true, recurses := true, plainKeys := false, apart := false, narrowed := true }
def DrumOnlyUptoSaid : Prop := drumOnlyUptoRow.holds Try.pinned (OpenSpec.upto drumOnlySpec)

/-- 'pennyfalllaw11.DrumGrown', WHERE WHAT IT READS IS OF BULK AT MOST 1048576: true; the input reads as it did. -/
def drumGrownUptoRow : OpenClaim := { program := "ytjnijhnphhpilaa", sum := "3f3e77bfa3f970d64011cd38003da7bb4dcbba0a481ce7d89e0b78ddd52ab649", func := "pennyfall/pennyfalllaw11.DrumGrown", spec := "drumGrown", unfollowed := true, recurses := true, plainKeys := false, apart := false, narrowed := true }
def DrumGrownUptoSaid : Prop := drumGrownUptoRow.holds Try.pinned (OpenSpec.upto drumGrownSpec)

/-- 'pennyfalllaw11.DrumNext', WHERE WHAT IT READS IS OF BULK AT MOST 1048576: true; the input reads as it did. -/
def drumNextUptoRow : OpenClaim := { program := "ytjnijhnphhpilaa", sum := "3f3e77bfa3f970d64011cd38003da7bb4dcbba0a481ce7d89e0b78ddd52ab649", func := "pennyfall/pennyfalllaw11.DrumNext", spec := "drumNext", unfollowed := true, recurses := true, plainKeys := false, apart := false, narrowed := true }
def DrumNextUptoSaid : Prop := drumNextUptoRow.holds Try.pinned (OpenSpec.upto drumNextSpec)

/-- 'pennyfalllaw11.DrumSums', WHERE WHAT IT READS IS OF BULK AT MOST 1048576: true; the input reads as it did. -/
def drumSumsUptoRow : OpenClaim := { program := "ytjnijhnphhpilaa", sum := "3f3e77bfa3f970d64011cd38003da7bb4dcbba0a481ce7d89e0b78ddd52ab649", func := "pennyfall/pennyfalllaw11.DrumSums", spec := "drumSums", unfollowed := true, recurses := true, plainKeys := false, apart := false, narrowed := true }
def DrumSumsUptoSaid : Prop := drumSumsUptoRow.holds Try.pinned (OpenSpec.upto drumSumsSpec)

/-- 'pennyfalllaw11.DrumLater', WHERE WHAT IT READS IS OF BULK AT MOST 1048576: true; the input reads as it did. -/
def drumLaterUptoRow : OpenClaim := { program := "ytjnijhnphhpilaa", sum := "3f3e77bfa3f970d64011cd38003da7bb4dcbba0a481ce7d89e0b78ddd52ab649", func := "pennyfall/pennyfalllaw11.DrumLater", spec := "drumLater", unfollowed := true, recurses := true, plainKeys := false, apart := false, narrowed := true }
def DrumLaterUptoSaid : Prop := drumLaterUptoRow.holds Try.pinned (OpenSpec.upto drumLaterSpec)

/-- 'pennyfalllaw11.DrumRound', WHERE WHAT IT READS IS OF BULK AT MOST 1048576: true; the input reads as it did. -/
def drumRoundUptoRow : OpenClaim := { program := "ytjnijhnphhpilaa", sum := "3f3e77bfa3f970d64011cd38003da7bb4dcbba0a481ce7d89e0b78ddd52ab649", func := "pennyfall/pennyfalllaw11.DrumRound", spec := "drumRound", unfollowed := true, recurses := true, plainKeys := false, apart := false, narrowed := true }
def DrumRoundUptoSaid : Prop := drumRoundUptoRow.holds Try.pinned (OpenSpec.upto drumRoundSpec)

/-- 'pennyfalllaw11.DrumKnown', WHERE WHAT IT READS IS OF BULK AT MOST 1048576: true; the input reads as it did. -/
def drumKnownUptoRow : OpenClaim := { program := "ytjnijhnphhpilaa", sum := "3f3e77bfa3f970d64011cd38003da7bb4dcbba0a481ce7d89e0b78ddd52ab649", func := "pennyfall/pennyfalllaw11.DrumKnown", spec := "drumKnown", unfollowed := true, recurses := true, plainKeys := false, apart := false, narrowed := true }
def DrumKnownUptoSaid : Prop := drumKnownUptoRow.holds Try.pinned (OpenSpec.upto drumKnownSpec)

end Rows
end Go.Proofs.Ytjnijhnphhpilaa
