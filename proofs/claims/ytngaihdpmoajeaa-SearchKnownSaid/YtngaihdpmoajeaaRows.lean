/-
  No cell of these rows narrows 'for every input' (looked for: loops, veiled, ifaces, maps, wideKeys, modest, calm, conditions, laid).
  DERIVED. THE GIVEN ROWS OF THIS SEAT. 7 by the template 'for every input the law returns true; each argument reads behind the call as it read before'; 0 by the template 'total and deterministic' (their statements: YtngaihdpmoajeaaTotals.lean).
  GIVEN WITH THE SEED: the statements are not yours to turn. If you find one false, say at which input.
  Laid BY PROGRAM, IN A SANDBOX (cutbox-rows.mjs): the forced cells as the released guide's own fill.sh prints them over the translation 4429ee2b43c64c14… (all of the seat's roots in one cut). By AI agents, Wed Nov 11 2026. No macro, syntax, notation, axiom, sorry.
-/
import Derived.Test.YtngaihdpmoajeaaChecked
import GoSem.Claim
import GoSem.ClaimJoined
import GoSem.ClaimMapViews
import Derived.JoinedTies
import Derived.KernelRfl
namespace Go.Proofs.Ytngaihdpmoajeaa
/- THE CELL 'sum', in the pinned program and in every row, IS THE sha256 OF THE DUMP (.gsa) THAT YtngaihdpmoajeaaProg.lean LOADS. Nothing in Lean hashes anything: it is a label: what it is worth is what the hold of that sum in a sandbox is worth. -/
noncomputable def Try.pinned : Pinned := { name := "ytngaihdpmoajeaa", sum := "4429ee2b43c64c144522c9c12db6dc83e9694d6b2470a4a36a414da5e953c609", checked := Try.checked }
namespace Rows
def none {H : Type} : Left H := { results := [], args := [] }

/-- 'majordomolaw08.SearchCounts': WHATEVER THE INPUT: true; the input reads as it did. -/
def searchCountsSpec : ChangeSpec := { name := "searchCounts", fn := fun _ => fun
  | [d1, d2, d3] => { results := [.lit (.bool true)], args := [d1, d2, d3] }
  | _ => none }
def searchCountsRow : OpenClaim := { program := "ytngaihdpmoajeaa", sum := "4429ee2b43c64c144522c9c12db6dc83e9694d6b2470a4a36a414da5e953c609", func := "majordomo/majordomolaw08.SearchCounts", spec := "searchCounts", unfollowed := true, recurses := true, apart := false }
def SearchCountsSaid : Prop := searchCountsRow.holds Try.pinned (OpenSpec.ofChange searchCountsSpec)

/-- ITS FALSE NEIGHBOUR: 'it returns false'. Refute it at one input. -/
def searchCountsWrong : ChangeSpec := { name := "searchCounts", fn := fun _ => fun
  | [d1, d2, d3] => { results := [.lit (.bool false)], args := [d1, d2, d3] }
  | _ => none }
def SearchCountsWrongFalsely : Prop := searchCountsRow.holds Try.pinned (OpenSpec.ofChange searchCountsWrong)

/-- 'majordomolaw08.SearchBest': WHATEVER THE INPUT: true; the input reads as it did. -/
def searchBestSpec : ChangeSpec := { name := "searchBest", fn := fun _ => fun
  | [d] => { results := [.lit (.bool true)], args := [d] }
  | _ => none }
def searchBestRow : OpenClaim := { program := "ytngaihdpmoajeaa", sum := "4429ee2b43c64c144522c9c12db6dc83e9694d6b2470a4a36a414da5e953c609", func := "majordomo/majordomolaw08.SearchBest", spec := "searchBest", unfollowed := true, recurses := true, apart := false }
def SearchBestSaid : Prop := searchBestRow.holds Try.pinned (OpenSpec.ofChange searchBestSpec)

/-- ITS FALSE NEIGHBOUR: 'it returns false'. Refute it at one input. -/
def searchBestWrong : ChangeSpec := { name := "searchBest", fn := fun _ => fun
  | [d] => { results := [.lit (.bool false)], args := [d] }
  | _ => none }
def SearchBestWrongFalsely : Prop := searchBestRow.holds Try.pinned (OpenSpec.ofChange searchBestWrong)

/-- 'majordomolaw08.SearchBound': WHATEVER THE INPUT: true; the input reads as it did. -/
def searchBoundSpec : ChangeSpec := { name := "searchBound", fn := fun _ => fun
  | [d1, d2] => { results := [.lit (.bool true)], args := [d1, d2] }
  | _ => none }
def searchBoundRow : OpenClaim := { program := "ytngaihdpmoajeaa", sum := "4429ee2b43c64c144522c9c12db6dc83e9694d6b2470a4a36a414da5e953c609", func := "majordomo/majordomolaw08.SearchBound", spec := "searchBound", unfollowed := true, recurses := true, apart := false }
def SearchBoundSaid : Prop := searchBoundRow.holds Try.pinned (OpenSpec.ofChange searchBoundSpec)

/-- ITS FALSE NEIGHBOUR: 'it returns false'. Refute it at one input. -/
def searchBoundWrong : ChangeSpec := { name := "searchBound", fn := fun _ => fun
  | [d1, d2] => { results := [.lit (.bool false)], args := [d1, d2] }
  | _ => none }
def SearchBoundWrongFalsely : Prop := searchBoundRow.holds Try.pinned (OpenSpec.ofChange searchBoundWrong)

/-- 'majordomolaw08.SearchChecks': WHATEVER THE INPUT: true; the input reads as it did. -/
def searchChecksSpec : ChangeSpec := { name := "searchChecks", fn := fun _ => fun
  | [d1, d2, d3] => { results := [.lit (.bool true)], args := [d1, d2, d3] }
  | _ => none }
def searchChecksRow : OpenClaim := { program := "ytngaihdpmoajeaa", sum := "4429ee2b43c64c144522c9c12db6dc83e9694d6b2470a4a36a414da5e953c609", func := "majordomo/majordomolaw08.SearchChecks", spec := "searchChecks", unfollowed := true, recurses := true, apart := false }
def SearchChecksSaid : Prop := searchChecksRow.holds Try.pinned (OpenSpec.ofChange searchChecksSpec)

/-- ITS FALSE NEIGHBOUR: 'it returns false'. Refute it at one input. -/
def searchChecksWrong : ChangeSpec := { name := "searchChecks", fn := fun _ => fun
  | [d1, d2, d3] => { results := [.lit (.bool false)], args := [d1, d2, d3] }
  | _ => none }
def SearchChecksWrongFalsely : Prop := searchChecksRow.holds Try.pinned (OpenSpec.ofChange searchChecksWrong)

/-- 'majordomolaw08.SearchSolves': WHATEVER THE INPUT: true; the input reads as it did. -/
def searchSolvesSpec : ChangeSpec := { name := "searchSolves", fn := fun _ => fun
  | [d] => { results := [.lit (.bool true)], args := [d] }
  | _ => none }
def searchSolvesRow : OpenClaim := { program := "ytngaihdpmoajeaa", sum := "4429ee2b43c64c144522c9c12db6dc83e9694d6b2470a4a36a414da5e953c609", func := "majordomo/majordomolaw08.SearchSolves", spec := "searchSolves", unfollowed := true, recurses := true, apart := false }
def SearchSolvesSaid : Prop := searchSolvesRow.holds Try.pinned (OpenSpec.ofChange searchSolvesSpec)

/-- ITS FALSE NEIGHBOUR: 'it returns false'. Refute it at one input. -/
def searchSolvesWrong : ChangeSpec := { name := "searchSolves", fn := fun _ => fun
  | [d] => { results := [.lit (.bool false)], args := [d] }
  | _ => none }
def SearchSolvesWrongFalsely : Prop := searchSolvesRow.holds Try.pinned (OpenSpec.ofChange searchSolvesWrong)

/-- 'majordomolaw08.SearchFewer': WHATEVER THE INPUT: true; the input reads as it did. -/
def searchFewerSpec : ChangeSpec := { name := "searchFewer", fn := fun _ => fun
  | [d1, d2] => { results := [.lit (.bool true)], args := [d1, d2] }
  | _ => none }
def searchFewerRow : OpenClaim := { program := "ytngaihdpmoajeaa", sum := "4429ee2b43c64c144522c9c12db6dc83e9694d6b2470a4a36a414da5e953c609", func := "majordomo/majordomolaw08.SearchFewer", spec := "searchFewer", unfollowed := true, recurses := true, apart := false }
def SearchFewerSaid : Prop := searchFewerRow.holds Try.pinned (OpenSpec.ofChange searchFewerSpec)

/-- ITS FALSE NEIGHBOUR: 'it returns false'. Refute it at one input. -/
def searchFewerWrong : ChangeSpec := { name := "searchFewer", fn := fun _ => fun
  | [d1, d2] => { results := [.lit (.bool false)], args := [d1, d2] }
  | _ => none }
def SearchFewerWrongFalsely : Prop := searchFewerRow.holds Try.pinned (OpenSpec.ofChange searchFewerWrong)

/-- 'majordomolaw08.SearchKnown': WHATEVER THE INPUT: true; the input reads as it did. -/
def searchKnownSpec : ChangeSpec := { name := "searchKnown", fn := fun _ => fun
  | [] => { results := [.lit (.bool true)], args := [] }
  | _ => none }
def searchKnownRow : OpenClaim := { program := "ytngaihdpmoajeaa", sum := "4429ee2b43c64c144522c9c12db6dc83e9694d6b2470a4a36a414da5e953c609", func := "majordomo/majordomolaw08.SearchKnown", spec := "searchKnown", unfollowed := true, recurses := true, apart := false }
def SearchKnownSaid : Prop := searchKnownRow.holds Try.pinned (OpenSpec.ofChange searchKnownSpec)

/-- ITS FALSE NEIGHBOUR: 'it returns false'. Refute it at one input. -/
def searchKnownWrong : ChangeSpec := { name := "searchKnown", fn := fun _ => fun
  | [] => { results := [.lit (.bool false)], args := [] }
  | _ => none }
def SearchKnownWrongFalsely : Prop := searchKnownRow.holds Try.pinned (OpenSpec.ofChange searchKnownWrong)

/- THE SECOND FORM. 'bulk': how many values and letters a reading holds, each counted each time it is reached (what is shared counts as often as it is met; a slice's spare places count too). A statement '..UptoSaid' is the law's where the arguments, and the package variables that the reading takes, are together of bulk at most 1048576: NARROWER than '..Said'. Prove '..Said' where nothing that the law and all that it calls make is longer than what came in: it says more and counts as full. Else prove '..UptoSaid'. A law counts once. -/
mutual
def uptoBulk {H : Type} : DataW H → Nat
  | .lit (.string bytes) => bytes.length + 1
  | .lit _ => 1
  | .nil => 1
  | .ptr d => uptoBulk d + 1
  | .slice elems spare => uptoBulkAll elems + uptoBulkAll spare + 1
  | .agg parts => uptoBulkAll parts + 1
  | .iface _ d => uptoBulk d + 1
  | .map entries => uptoBulkEntries entries + 1
  | .held _ => 1
def uptoBulkAll {H : Type} : List (DataW H) → Nat
  | [] => 0
  | d :: r => uptoBulk d + uptoBulkAll r
def uptoBulkEntries {H : Type} : List (Lit × DataW H) → Nat
  | [] => 0
  | x :: r => uptoBulkEntry x + uptoBulkEntries r
def uptoBulkEntry {H : Type} : Lit × DataW H → Nat
  | (.string bytes, d) => bytes.length + uptoBulk d + 1
  | (_, d) => uptoBulk d + 1
 end
def uptoSmall : (H : Type) → List (DataW H) → Bool := fun _ ds => decide (uptoBulkAll ds ≤ 1048576)
def OpenSpec.upto (s : _root_.Go.ChangeSpec) : _root_.Go.OpenSpec := { _root_.Go.OpenSpec.ofChange s with cond := some uptoSmall }

/-- 'majordomolaw08.SearchCounts', WHERE WHAT IT READS IS OF BULK AT MOST 1048576: true; the input reads as it did. -/
def searchCountsUptoRow : OpenClaim := { program := "ytngaihdpmoajeaa", sum := "4429ee2b43c64c144522c9c12db6dc83e9694d6b2470a4a36a414da5e953c609", func := "majordomo/majordomolaw08.SearchCounts", spec := "searchCounts", unfollowed := true, recurses := true, apart := false, narrowed := true }
def SearchCountsUptoSaid : Prop := searchCountsUptoRow.holds Try.pinned (OpenSpec.upto searchCountsSpec)

/-- 'majordomolaw08.SearchBest', WHERE WHAT IT READS IS OF BULK AT MOST 1048576: true; the input reads as it did. -/
def searchBestUptoRow : OpenClaim := { program := "ytngaihdpmoajeaa", sum := "4429ee2b43c64c144522c9c12db6dc83e9694d6b2470a4a36a414da5e953c609", func := "majordomo/majordomolaw08.SearchBest", spec := "searchBest", unfollowed := true, recurses := true, apart := false, narrowed := true }
def SearchBestUptoSaid : Prop := searchBestUptoRow.holds Try.pinned (OpenSpec.upto searchBestSpec)

/-- 'majordomolaw08.SearchBound', WHERE WHAT IT READS IS OF BULK AT MOST 1048576: true; the input reads as it did. -/
def searchBoundUptoRow : OpenClaim := { program := "ytngaihdpmoajeaa", sum := "4429ee2b43c64c144522c9c12db6dc83e9694d6b2470a4a36a414da5e953c609", func := "majordomo/majordomolaw08.SearchBound", spec := "searchBound", unfollowed := true, recurses := true, apart := false, narrowed := true }
def SearchBoundUptoSaid : Prop := searchBoundUptoRow.holds Try.pinned (OpenSpec.upto searchBoundSpec)

/-- 'majordomolaw08.SearchChecks', WHERE WHAT IT READS IS OF BULK AT MOST 1048576: true; the input reads as it did. -/
def searchChecksUptoRow : OpenClaim := { program := "ytngaihdpmoajeaa", sum := "4429ee2b43c64c144522c9c12db6dc83e9694d6b2470a4a36a414da5e953c609", func := "majordomo/majordomolaw08.SearchChecks", spec := "searchChecks", unfollowed := true, recurses := true, apart := false, narrowed := true }
def SearchChecksUptoSaid : Prop := searchChecksUptoRow.holds Try.pinned (OpenSpec.upto searchChecksSpec)

/-- 'majordomolaw08.SearchSolves', WHERE WHAT IT READS IS OF BULK AT MOST 1048576: true; the input reads as it did. -/
def searchSolvesUptoRow : OpenClaim := { program := "ytngaihdpmoajeaa", sum := "4429ee2b43c64c144522c9c12db6dc83e9694d6b2470a4a36a414da5e953c609", func := "majordomo/majordomolaw08.SearchSolves", spec := "searchSolves", unfollowed := true, recurses := true, apart := false, narrowed := true }
def SearchSolvesUptoSaid : Prop := searchSolvesUptoRow.holds Try.pinned (OpenSpec.upto searchSolvesSpec)

/-- 'majordomolaw08.SearchFewer', WHERE WHAT IT READS IS OF BULK AT MOST 1048576: true; the input reads as it did. -/
def searchFewerUptoRow : OpenClaim := { program := "ytngaihdpmoajeaa", sum := "4429ee2b43c64c144522c9c12db6dc83e9694d6b2470a4a36a414da5e953c609", func := "majordomo/majordomolaw08.SearchFewer", spec := "searchFewer", unfollowed := true, recurses := true, apart := false, narrowed := true }
def SearchFewerUptoSaid : Prop := searchFewerUptoRow.holds Try.pinned (OpenSpec.upto searchFewerSpec)

/-- 'majordomolaw08.SearchKnown', WHERE WHAT IT READS IS OF BULK AT MOST 1048576: true; the input reads as it did. -/
def searchKnownUptoRow : OpenClaim := { program := "ytngaihdpmoajeaa", sum := "4429ee2b43c64c144522c9c12db6dc83e9694d6b2470a4a36a414da5e953c609", func := "majordomo/majordomolaw08.SearchKnown", spec := "searchKnown", unfollowed := true, recurses := true, apart := false, narrowed := true }
def SearchKnownUptoSaid : Prop := searchKnownUptoRow.holds Try.pinned (OpenSpec.upto searchKnownSpec)

end Rows
end Go.Proofs.Ytngaihdpmoajeaa
