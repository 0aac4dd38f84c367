/-
  NARROWER THAN 'FOR EVERY INPUT', by the rows' own cells (each row's printed sentence says how): CoreKnown: laid · CoreDual: laid · CoreLists: laid · CoreIrreducible: laid · CoreSorted: laid · CoreOrdinary: laid · CoreTables: laid · CoreHits: laid.
  DERIVED. THE GIVEN ROWS OF THIS SEAT. 8 by the template 'for every input the law returns true; each argument reads behind the call as it read before'; 0 by the template 'total and deterministic' (their statements: YtjljigccgaadaaaDoorTotals.lean).
  GIVEN WITH THE SEED: the statements are not yours to turn. If you find one false, say at which input.
  Laid BY PROGRAM, IN A SANDBOX (cutbox-rows.mjs): the forced cells as the released guide's own fill.sh prints them over the translation 1bf9934abcc6c539… (all of the seat's roots in one cut). By AI agents, Wed Nov 11 2026. No macro, syntax, notation, axiom, sorry.
-/
import Derived.Test.YtjljigccgaadaaaDoorChecked
import GoSem.Claim
import GoSem.ClaimJoined
import GoSem.ClaimMapViews
import Derived.JoinedTies
import Derived.KernelRfl
namespace Go.Proofs.YtjljigccgaadaaaDoor
/- THE CELL 'sum', in the pinned program and in every row, IS THE sha256 OF THE DUMP (.gsa) THAT YtjljigccgaadaaaDoorProg.lean LOADS. Nothing in Lean hashes anything: it is a label: what it is worth is what the hold of that sum in a sandbox is worth. -/
noncomputable def Tryd.pinned : Pinned := { name := "ytjljigccgaadaaadoor", sum := "1bf9934abcc6c539e906365cdde2a188e63d36377f7ddca06b8b842a88492b58", checked := Tryd.checked }
namespace Rows
def none {H : Type} : Left H := { results := [], args := [] }

/- WHAT THE LISTED PACKAGE-LEVEL VARIABLES READ AS WHEN THE CALL BEGINS. Each datum BY PROGRAM (the guide's laid-datum.mjs) off the statement by which the dump's own 'gosem.cut.vars' lays the variable. In a bare row this is a premise. The card (YtjljigccgaadaaaDoorCards.lean) ties it to the program's text. -/
def laid_math_bits_deBruijn64tab {H : Type} : DataW H := .agg [.lit (.int .u8 0), .lit (.int .u8 1), .lit (.int .u8 56), .lit (.int .u8 2), .lit (.int .u8 57), .lit (.int .u8 49), .lit (.int .u8 28), .lit (.int .u8 3), .lit (.int .u8 61), .lit (.int .u8 58), .lit (.int .u8 42), .lit (.int .u8 50), .lit (.int .u8 38), .lit (.int .u8 29), .lit (.int .u8 17), .lit (.int .u8 4), .lit (.int .u8 62), .lit (.int .u8 47), .lit (.int .u8 59), .lit (.int .u8 36), .lit (.int .u8 45), .lit (.int .u8 43), .lit (.int .u8 51), .lit (.int .u8 22), .lit (.int .u8 53), .lit (.int .u8 39), .lit (.int .u8 33), .lit (.int .u8 30), .lit (.int .u8 24), .lit (.int .u8 18), .lit (.int .u8 12), .lit (.int .u8 5), .lit (.int .u8 63), .lit (.int .u8 55), .lit (.int .u8 48), .lit (.int .u8 27), .lit (.int .u8 60), .lit (.int .u8 41), .lit (.int .u8 37), .lit (.int .u8 16), .lit (.int .u8 46), .lit (.int .u8 35), .lit (.int .u8 44), .lit (.int .u8 21), .lit (.int .u8 52), .lit (.int .u8 32), .lit (.int .u8 23), .lit (.int .u8 11), .lit (.int .u8 54), .lit (.int .u8 26), .lit (.int .u8 40), .lit (.int .u8 15), .lit (.int .u8 34), .lit (.int .u8 20), .lit (.int .u8 31), .lit (.int .u8 10), .lit (.int .u8 25), .lit (.int .u8 14), .lit (.int .u8 19), .lit (.int .u8 9), .lit (.int .u8 13), .lit (.int .u8 8), .lit (.int .u8 7), .lit (.int .u8 6)]

/-- 'majordomolaw09.CoreKnown': WHATEVER THE INPUT: true; the input reads as it did. -/
def coreKnownSpec : ChangeSpec := { name := "coreKnown", fn := fun _ => fun
  | [] => { results := [.lit (.bool true)], args := [] }
  | _ => none }
def coreKnownRow : OpenClaim := { program := "ytjljigccgaadaaadoor", sum := "1bf9934abcc6c539e906365cdde2a188e63d36377f7ddca06b8b842a88492b58", func := "majordomo/majordomolaw09.CoreKnown", spec := "coreKnown", unfollowed := true, recurses := true, named := ["math/bits.deBruijn64tab"], apart := false, laid := [("math/bits.deBruijn64tab", laid_math_bits_deBruijn64tab)] }
def CoreKnownSaid : Prop := coreKnownRow.holds Tryd.pinned (OpenSpec.ofChange coreKnownSpec)

/-- ITS FALSE NEIGHBOUR: 'it returns false'. Refute it at one input. -/
def coreKnownWrong : ChangeSpec := { name := "coreKnown", fn := fun _ => fun
  | [] => { results := [.lit (.bool false)], args := [] }
  | _ => none }
def CoreKnownWrongFalsely : Prop := coreKnownRow.holds Tryd.pinned (OpenSpec.ofChange coreKnownWrong)

/-- 'majordomolaw09.CoreDual': WHATEVER THE INPUT: true; the input reads as it did. -/
def coreDualSpec : ChangeSpec := { name := "coreDual", fn := fun _ => fun
  | [d1, d2, d3] => { results := [.lit (.bool true)], args := [d1, d2, d3] }
  | _ => none }
def coreDualRow : OpenClaim := { program := "ytjljigccgaadaaadoor", sum := "1bf9934abcc6c539e906365cdde2a188e63d36377f7ddca06b8b842a88492b58", func := "majordomo/majordomolaw09.CoreDual", spec := "coreDual", unfollowed := true, recurses := true, named := ["math/bits.deBruijn64tab"], apart := false, laid := [("math/bits.deBruijn64tab", laid_math_bits_deBruijn64tab)] }
def CoreDualSaid : Prop := coreDualRow.holds Tryd.pinned (OpenSpec.ofChange coreDualSpec)

/-- ITS FALSE NEIGHBOUR: 'it returns false'. Refute it at one input. -/
def coreDualWrong : ChangeSpec := { name := "coreDual", fn := fun _ => fun
  | [d1, d2, d3] => { results := [.lit (.bool false)], args := [d1, d2, d3] }
  | _ => none }
def CoreDualWrongFalsely : Prop := coreDualRow.holds Tryd.pinned (OpenSpec.ofChange coreDualWrong)

/-- 'majordomolaw09.CoreLists': WHATEVER THE INPUT: true; the input reads as it did. -/
def coreListsSpec : ChangeSpec := { name := "coreLists", fn := fun _ => fun
  | [d1, d2, d3] => { results := [.lit (.bool true)], args := [d1, d2, d3] }
  | _ => none }
def coreListsRow : OpenClaim := { program := "ytjljigccgaadaaadoor", sum := "1bf9934abcc6c539e906365cdde2a188e63d36377f7ddca06b8b842a88492b58", func := "majordomo/majordomolaw09.CoreLists", spec := "coreLists", unfollowed := true, recurses := true, named := ["math/bits.deBruijn64tab"], apart := false, laid := [("math/bits.deBruijn64tab", laid_math_bits_deBruijn64tab)] }
def CoreListsSaid : Prop := coreListsRow.holds Tryd.pinned (OpenSpec.ofChange coreListsSpec)

/-- ITS FALSE NEIGHBOUR: 'it returns false'. Refute it at one input. -/
def coreListsWrong : ChangeSpec := { name := "coreLists", fn := fun _ => fun
  | [d1, d2, d3] => { results := [.lit (.bool false)], args := [d1, d2, d3] }
  | _ => none }
def CoreListsWrongFalsely : Prop := coreListsRow.holds Tryd.pinned (OpenSpec.ofChange coreListsWrong)

/-- 'majordomolaw09.CoreIrreducible': WHATEVER THE INPUT: true; the input reads as it did. -/
def coreIrreducibleSpec : ChangeSpec := { name := "coreIrreducible", fn := fun _ => fun
  | [d1, d2] => { results := [.lit (.bool true)], args := [d1, d2] }
  | _ => none }
def coreIrreducibleRow : OpenClaim := { program := "ytjljigccgaadaaadoor", sum := "1bf9934abcc6c539e906365cdde2a188e63d36377f7ddca06b8b842a88492b58", func := "majordomo/majordomolaw09.CoreIrreducible", spec := "coreIrreducible", unfollowed := true, recurses := true, named := ["math/bits.deBruijn64tab"], apart := false, laid := [("math/bits.deBruijn64tab", laid_math_bits_deBruijn64tab)] }
def CoreIrreducibleSaid : Prop := coreIrreducibleRow.holds Tryd.pinned (OpenSpec.ofChange coreIrreducibleSpec)

/-- ITS FALSE NEIGHBOUR: 'it returns false'. Refute it at one input. -/
def coreIrreducibleWrong : ChangeSpec := { name := "coreIrreducible", fn := fun _ => fun
  | [d1, d2] => { results := [.lit (.bool false)], args := [d1, d2] }
  | _ => none }
def CoreIrreducibleWrongFalsely : Prop := coreIrreducibleRow.holds Tryd.pinned (OpenSpec.ofChange coreIrreducibleWrong)

/-- 'majordomolaw09.CoreSorted': WHATEVER THE INPUT: true; the input reads as it did. -/
def coreSortedSpec : ChangeSpec := { name := "coreSorted", fn := fun _ => fun
  | [d1, d2] => { results := [.lit (.bool true)], args := [d1, d2] }
  | _ => none }
def coreSortedRow : OpenClaim := { program := "ytjljigccgaadaaadoor", sum := "1bf9934abcc6c539e906365cdde2a188e63d36377f7ddca06b8b842a88492b58", func := "majordomo/majordomolaw09.CoreSorted", spec := "coreSorted", unfollowed := true, recurses := true, named := ["math/bits.deBruijn64tab"], apart := false, laid := [("math/bits.deBruijn64tab", laid_math_bits_deBruijn64tab)] }
def CoreSortedSaid : Prop := coreSortedRow.holds Tryd.pinned (OpenSpec.ofChange coreSortedSpec)

/-- ITS FALSE NEIGHBOUR: 'it returns false'. Refute it at one input. -/
def coreSortedWrong : ChangeSpec := { name := "coreSorted", fn := fun _ => fun
  | [d1, d2] => { results := [.lit (.bool false)], args := [d1, d2] }
  | _ => none }
def CoreSortedWrongFalsely : Prop := coreSortedRow.holds Tryd.pinned (OpenSpec.ofChange coreSortedWrong)

/-- 'majordomolaw09.CoreOrdinary': WHATEVER THE INPUT: true; the input reads as it did. -/
def coreOrdinarySpec : ChangeSpec := { name := "coreOrdinary", fn := fun _ => fun
  | [d1, d2] => { results := [.lit (.bool true)], args := [d1, d2] }
  | _ => none }
def coreOrdinaryRow : OpenClaim := { program := "ytjljigccgaadaaadoor", sum := "1bf9934abcc6c539e906365cdde2a188e63d36377f7ddca06b8b842a88492b58", func := "majordomo/majordomolaw09.CoreOrdinary", spec := "coreOrdinary", inPlace := ["slices.overlaps[[]int]"], unfollowed := true, recurses := true, named := ["math/bits.deBruijn64tab"], apart := false, laid := [("math/bits.deBruijn64tab", laid_math_bits_deBruijn64tab)] }
def CoreOrdinarySaid : Prop := coreOrdinaryRow.holds Tryd.pinned (OpenSpec.ofChange coreOrdinarySpec)

/-- ITS FALSE NEIGHBOUR: 'it returns false'. Refute it at one input. -/
def coreOrdinaryWrong : ChangeSpec := { name := "coreOrdinary", fn := fun _ => fun
  | [d1, d2] => { results := [.lit (.bool false)], args := [d1, d2] }
  | _ => none }
def CoreOrdinaryWrongFalsely : Prop := coreOrdinaryRow.holds Tryd.pinned (OpenSpec.ofChange coreOrdinaryWrong)

/-- 'majordomolaw09.CoreTables': WHATEVER THE INPUT: true; the input reads as it did. -/
def coreTablesSpec : ChangeSpec := { name := "coreTables", fn := fun _ => fun
  | [d1, d2, d3] => { results := [.lit (.bool true)], args := [d1, d2, d3] }
  | _ => none }
def coreTablesRow : OpenClaim := { program := "ytjljigccgaadaaadoor", sum := "1bf9934abcc6c539e906365cdde2a188e63d36377f7ddca06b8b842a88492b58", func := "majordomo/majordomolaw09.CoreTables", spec := "coreTables", inPlace := ["slices.overlaps[[]int]"], unfollowed := true, recurses := true, named := ["math/bits.deBruijn64tab"], apart := false, laid := [("math/bits.deBruijn64tab", laid_math_bits_deBruijn64tab)] }
def CoreTablesSaid : Prop := coreTablesRow.holds Tryd.pinned (OpenSpec.ofChange coreTablesSpec)

/-- ITS FALSE NEIGHBOUR: 'it returns false'. Refute it at one input. -/
def coreTablesWrong : ChangeSpec := { name := "coreTables", fn := fun _ => fun
  | [d1, d2, d3] => { results := [.lit (.bool false)], args := [d1, d2, d3] }
  | _ => none }
def CoreTablesWrongFalsely : Prop := coreTablesRow.holds Tryd.pinned (OpenSpec.ofChange coreTablesWrong)

/-- 'majordomolaw09.CoreHits': WHATEVER THE INPUT: true; the input reads as it did. -/
def coreHitsSpec : ChangeSpec := { name := "coreHits", fn := fun _ => fun
  | [d1, d2] => { results := [.lit (.bool true)], args := [d1, d2] }
  | _ => none }
def coreHitsRow : OpenClaim := { program := "ytjljigccgaadaaadoor", sum := "1bf9934abcc6c539e906365cdde2a188e63d36377f7ddca06b8b842a88492b58", func := "majordomo/majordomolaw09.CoreHits", spec := "coreHits", inPlace := ["slices.overlaps[[]int]"], unfollowed := true, recurses := true, named := ["math/bits.deBruijn64tab"], apart := false, laid := [("math/bits.deBruijn64tab", laid_math_bits_deBruijn64tab)] }
def CoreHitsSaid : Prop := coreHitsRow.holds Tryd.pinned (OpenSpec.ofChange coreHitsSpec)

/-- ITS FALSE NEIGHBOUR: 'it returns false'. Refute it at one input. -/
def coreHitsWrong : ChangeSpec := { name := "coreHits", fn := fun _ => fun
  | [d1, d2] => { results := [.lit (.bool false)], args := [d1, d2] }
  | _ => none }
def CoreHitsWrongFalsely : Prop := coreHitsRow.holds Tryd.pinned (OpenSpec.ofChange coreHitsWrong)

/- THE SECOND FORM. 'bulk': how many values and letters a reading holds, each counted each time it is reached (what is shared counts as often as it is met; a slice's spare places count too). A statement '..UptoSaid' is the law's where the arguments, and the package variables that the reading takes, are together of bulk at most 1048576: NARROWER than '..Said'. Prove '..Said' where nothing that the law and all that it calls make is longer than what came in: it says more and counts as full. Else prove '..UptoSaid'. A law counts once. -/
mutual
def uptoBulk {H : Type} : DataW H → Nat
  | .lit (.string bytes) => bytes.length + 1
  | .lit _ => 1
  | .nil => 1
  | .ptr d => uptoBulk d + 1
  | .slice elems spare => uptoBulkAll elems + uptoBulkAll spare + 1
  | .agg parts => uptoBulkAll parts + 1
  | .iface _ d => uptoBulk d + 1
  | .map entries => uptoBulkEntries entries + 1
  | .held _ => 1
def uptoBulkAll {H : Type} : List (DataW H) → Nat
  | [] => 0
  | d :: r => uptoBulk d + uptoBulkAll r
def uptoBulkEntries {H : Type} : List (Lit × DataW H) → Nat
  | [] => 0
  | x :: r => uptoBulkEntry x + uptoBulkEntries r
def uptoBulkEntry {H : Type} : Lit × DataW H → Nat
  | (.string bytes, d) => bytes.length + uptoBulk d + 1
  | (_, d) => uptoBulk d + 1
 end
def uptoSmall : (H : Type) → List (DataW H) → Bool := fun _ ds => decide (uptoBulkAll ds ≤ 1048576)
def OpenSpec.upto (s : _root_.Go.ChangeSpec) : _root_.Go.OpenSpec := { _root_.Go.OpenSpec.ofChange s with cond := some uptoSmall }

/-- 'majordomolaw09.CoreKnown', WHERE WHAT IT READS IS OF BULK AT MOST 1048576: true; the input reads as it did. -/
def coreKnownUptoRow : OpenClaim := { program := "ytjljigccgaadaaadoor", sum := "1bf9934abcc6c539e906365cdde2a188e63d36377f7ddca06b8b842a88492b58", func := "majordomo/majordomolaw09.CoreKnown", spec := "coreKnown", unfollowed := true, recurses := true, named := ["math/bits.deBruijn64tab"], apart := false, laid := [("math/bits.deBruijn64tab", laid_math_bits_deBruijn64tab)], narrowed := true }
def CoreKnownUptoSaid : Prop := coreKnownUptoRow.holds Tryd.pinned (OpenSpec.upto coreKnownSpec)

/-- 'majordomolaw09.CoreDual', WHERE WHAT IT READS IS OF BULK AT MOST 1048576: true; the input reads as it did. -/
def coreDualUptoRow : OpenClaim := { program := "ytjljigccgaadaaadoor", sum := "1bf9934abcc6c539e906365cdde2a188e63d36377f7ddca06b8b842a88492b58", func := "majordomo/majordomolaw09.CoreDual", spec := "coreDual", unfollowed := true, recurses := true, named := ["math/bits.deBruijn64tab"], apart := false, laid := [("math/bits.deBruijn64tab", laid_math_bits_deBruijn64tab)], narrowed := true }
def CoreDualUptoSaid : Prop := coreDualUptoRow.holds Tryd.pinned (OpenSpec.upto coreDualSpec)

/-- 'majordomolaw09.CoreLists', WHERE WHAT IT READS IS OF BULK AT MOST 1048576: true; the input reads as it did. -/
def coreListsUptoRow : OpenClaim := { program := "ytjljigccgaadaaadoor", sum := "1bf9934abcc6c539e906365cdde2a188e63d36377f7ddca06b8b842a88492b58", func := "majordomo/majordomolaw09.CoreLists", spec := "coreLists", unfollowed := true, recurses := true, named := ["math/bits.deBruijn64tab"], apart := false, laid := [("math/bits.deBruijn64tab", laid_math_bits_deBruijn64tab)], narrowed := true }
def CoreListsUptoSaid : Prop := coreListsUptoRow.holds Tryd.pinned (OpenSpec.upto coreListsSpec)

/-- 'majordomolaw09.CoreIrreducible', WHERE WHAT IT READS IS OF BULK AT MOST 1048576: true; the input reads as it did. -/
def coreIrreducibleUptoRow : OpenClaim := { program := "ytjljigccgaadaaadoor", sum := "1bf9934abcc6c539e906365cdde2a188e63d36377f7ddca06b8b842a88492b58", func := "majordomo/majordomolaw09.CoreIrreducible", spec := "coreIrreducible", unfollowed := true, recurses := true, named := ["math/bits.deBruijn64tab"], apart := false, laid := [("math/bits.deBruijn64tab", laid_math_bits_deBruijn64tab)], narrowed := true }
def CoreIrreducibleUptoSaid : Prop := coreIrreducibleUptoRow.holds Tryd.pinned (OpenSpec.upto coreIrreducibleSpec)

/-- 'majordomolaw09.CoreSorted', WHERE WHAT IT READS IS OF BULK AT MOST 1048576: true; the input reads as it did. -/
def coreSortedUptoRow : OpenClaim := { program := "ytjljigccgaadaaadoor", sum := "1bf9934abcc6c539e906365cdde2a188e63d36377f7ddca06b8b842a88492b58", func := "majordomo/majordomolaw09.CoreSorted", spec := "coreSorted", unfollowed := true, recurses := true, named := ["math/bits.deBruijn64tab"], apart := false, laid := [("math/bits.deBruijn64tab", laid_math_bits_deBruijn64tab)], narrowed := true }
def CoreSortedUptoSaid : Prop := coreSortedUptoRow.holds Tryd.pinned (OpenSpec.upto coreSortedSpec)

/-- 'majordomolaw09.CoreOrdinary', WHERE WHAT IT READS IS OF BULK AT MOST 1048576: true; the input reads as it did. -/
def coreOrdinaryUptoRow : OpenClaim := { program := "ytjljigccgaadaaadoor", sum := "1bf9934abcc6c539e906365cdde2a188e63d36377f7ddca06b8b842a88492b58", func := "majordomo/majordomolaw09.CoreOrdinary", spec := "coreOrdinary", inPlace := ["slices.overlaps[[]int]"], unfollowed := true, recurses := true, named := ["math/bits.deBruijn64tab"], apart := false, laid := [("math/bits.deBruijn64tab", laid_math_bits_deBruijn64tab)], narrowed := true }
def CoreOrdinaryUptoSaid : Prop := coreOrdinaryUptoRow.holds Tryd.pinned (OpenSpec.upto coreOrdinarySpec)

/-- 'majordomolaw09.CoreTables', WHERE WHAT IT READS IS OF BULK AT MOST 1048576: true; the input reads as it did. -/
def coreTablesUptoRow : OpenClaim := { program := "ytjljigccgaadaaadoor", sum := "1bf9934abcc6c539e906365cdde2a188e63d36377f7ddca06b8b842a88492b58", func := "majordomo/majordomolaw09.CoreTables", spec := "coreTables", inPlace := ["slices.overlaps[[]int]"], unfollowed := true, recurses := true, named := ["math/bits.deBruijn64tab"], apart := false, laid := [("math/bits.deBruijn64tab", laid_math_bits_deBruijn64tab)], narrowed := true }
def CoreTablesUptoSaid : Prop := coreTablesUptoRow.holds Tryd.pinned (OpenSpec.upto coreTablesSpec)

/-- 'majordomolaw09.CoreHits', WHERE WHAT IT READS IS OF BULK AT MOST 1048576: true; the input reads as it did. -/
def coreHitsUptoRow : OpenClaim := { program := "ytjljigccgaadaaadoor", sum := "1bf9934abcc6c539e906365cdde2a188e63d36377f7ddca06b8b842a88492b58", func := "majordomo/majordomolaw09.CoreHits", spec := "coreHits", inPlace := ["slices.overlaps[[]int]"], unfollowed := true, recurses := true, named := ["math/bits.deBruijn64tab"], apart := false, laid := [("math/bits.deBruijn64tab", laid_math_bits_deBruijn64tab)], narrowed := true }
def CoreHitsUptoSaid : Prop := coreHitsUptoRow.holds Tryd.pinned (OpenSpec.upto coreHitsSpec)

end Rows
end Go.Proofs.YtjljigccgaadaaaDoor
