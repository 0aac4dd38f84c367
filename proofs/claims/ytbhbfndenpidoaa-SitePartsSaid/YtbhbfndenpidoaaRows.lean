/-
  No cell of these rows narrows 'for every input' (looked for: loops, veiled, ifaces, maps, wideKeys, modest, calm, conditions, laid).
  DERIVED. THE GIVEN ROWS OF THIS SEAT. 5 by the template 'for every input the law returns true; each argument reads behind the call as it read before'; 0 by the template 'total and deterministic' (their statements: YtbhbfndenpidoaaTotals.lean).
  GIVEN WITH THE SEED: the statements are not yours to turn. If you find one false, say at which input.
  Laid BY PROGRAM, IN A SANDBOX (cutbox-rows.mjs): the forced cells as the released guide's own fill.sh prints them over the translation 2f3098c1035ef1f3… (all of the seat's roots in one cut). By AI agents, Wed Nov 11 2026. No macro, syntax, notation, axiom, sorry.
-/
import Derived.Test.YtbhbfndenpidoaaChecked
import GoSem.Claim
import GoSem.ClaimJoined
import GoSem.ClaimMapViews
import Derived.JoinedTies
import Derived.KernelRfl
namespace Go.Proofs.Ytbhbfndenpidoaa
/- THE CELL 'sum', in the pinned program and in every row, IS THE sha256 OF THE DUMP (.gsa) THAT YtbhbfndenpidoaaProg.lean LOADS. Nothing in Lean hashes anything: it is a label: what it is worth is what the hold of that sum in a sandbox is worth. -/
noncomputable def Try.pinned : Pinned := { name := "ytbhbfndenpidoaa", sum := "2f3098c1035ef1f3ebd50b8cddf9d5cf2aee0c0b74947fa35c8b2c320ca7e370", checked := Try.checked }
namespace Rows
def none {H : Type} : Left H := { results := [], args := [] }

/-- 'majordomolaw12.SiteValid': WHATEVER THE INPUT: true; the input reads as it did. -/
def siteValidSpec : ChangeSpec := { name := "siteValid", fn := fun _ => fun
  | [d1, d2] => { results := [.lit (.bool true)], args := [d1, d2] }
  | _ => none }
def siteValidRow : OpenClaim := { program := "ytbhbfndenpidoaa", sum := "2f3098c1035ef1f3ebd50b8cddf9d5cf2aee0c0b74947fa35c8b2c320ca7e370", func := "majordomo/majordomolaw12.SiteValid", spec := "siteValid", unfollowed := true, recurses := true, apart := false }
def SiteValidSaid : Prop := siteValidRow.holds Try.pinned (OpenSpec.ofChange siteValidSpec)

/-- ITS FALSE NEIGHBOUR: 'it returns false'. Refute it at one input. -/
def siteValidWrong : ChangeSpec := { name := "siteValid", fn := fun _ => fun
  | [d1, d2] => { results := [.lit (.bool false)], args := [d1, d2] }
  | _ => none }
def SiteValidWrongFalsely : Prop := siteValidRow.holds Try.pinned (OpenSpec.ofChange siteValidWrong)

/-- 'majordomolaw12.SiteDomains': WHATEVER THE INPUT: true; the input reads as it did. -/
def siteDomainsSpec : ChangeSpec := { name := "siteDomains", fn := fun _ => fun
  | [d1, d2, d3, d4] => { results := [.lit (.bool true)], args := [d1, d2, d3, d4] }
  | _ => none }
def siteDomainsRow : OpenClaim := { program := "ytbhbfndenpidoaa", sum := "2f3098c1035ef1f3ebd50b8cddf9d5cf2aee0c0b74947fa35c8b2c320ca7e370", func := "majordomo/majordomolaw12.SiteDomains", spec := "siteDomains", unfollowed := true, recurses := true, apart := false }
def SiteDomainsSaid : Prop := siteDomainsRow.holds Try.pinned (OpenSpec.ofChange siteDomainsSpec)

/-- ITS FALSE NEIGHBOUR: 'it returns false'. Refute it at one input. -/
def siteDomainsWrong : ChangeSpec := { name := "siteDomains", fn := fun _ => fun
  | [d1, d2, d3, d4] => { results := [.lit (.bool false)], args := [d1, d2, d3, d4] }
  | _ => none }
def SiteDomainsWrongFalsely : Prop := siteDomainsRow.holds Try.pinned (OpenSpec.ofChange siteDomainsWrong)

/-- 'majordomolaw12.SiteParts': WHATEVER THE INPUT: true; the input reads as it did. -/
def sitePartsSpec : ChangeSpec := { name := "siteParts", fn := fun _ => fun
  | [d] => { results := [.lit (.bool true)], args := [d] }
  | _ => none }
def sitePartsRow : OpenClaim := { program := "ytbhbfndenpidoaa", sum := "2f3098c1035ef1f3ebd50b8cddf9d5cf2aee0c0b74947fa35c8b2c320ca7e370", func := "majordomo/majordomolaw12.SiteParts", spec := "siteParts", unfollowed := true, recurses := true, apart := false }
def SitePartsSaid : Prop := sitePartsRow.holds Try.pinned (OpenSpec.ofChange sitePartsSpec)

/-- ITS FALSE NEIGHBOUR: 'it returns false'. Refute it at one input. -/
def sitePartsWrong : ChangeSpec := { name := "siteParts", fn := fun _ => fun
  | [d] => { results := [.lit (.bool false)], args := [d] }
  | _ => none }
def SitePartsWrongFalsely : Prop := sitePartsRow.holds Try.pinned (OpenSpec.ofChange sitePartsWrong)

/-- 'majordomolaw12.SiteRacks': WHATEVER THE INPUT: true; the input reads as it did. -/
def siteRacksSpec : ChangeSpec := { name := "siteRacks", fn := fun _ => fun
  | [d1, d2, d3] => { results := [.lit (.bool true)], args := [d1, d2, d3] }
  | _ => none }
def siteRacksRow : OpenClaim := { program := "ytbhbfndenpidoaa", sum := "2f3098c1035ef1f3ebd50b8cddf9d5cf2aee0c0b74947fa35c8b2c320ca7e370", func := "majordomo/majordomolaw12.SiteRacks", spec := "siteRacks", unfollowed := true, recurses := true, apart := false }
def SiteRacksSaid : Prop := siteRacksRow.holds Try.pinned (OpenSpec.ofChange siteRacksSpec)

/-- ITS FALSE NEIGHBOUR: 'it returns false'. Refute it at one input. -/
def siteRacksWrong : ChangeSpec := { name := "siteRacks", fn := fun _ => fun
  | [d1, d2, d3] => { results := [.lit (.bool false)], args := [d1, d2, d3] }
  | _ => none }
def SiteRacksWrongFalsely : Prop := siteRacksRow.holds Try.pinned (OpenSpec.ofChange siteRacksWrong)

/-- 'majordomolaw12.SiteKnown': WHATEVER THE INPUT: true; the input reads as it did. -/
def siteKnownSpec : ChangeSpec := { name := "siteKnown", fn := fun _ => fun
  | [] => { results := [.lit (.bool true)], args := [] }
  | _ => none }
def siteKnownRow : OpenClaim := { program := "ytbhbfndenpidoaa", sum := "2f3098c1035ef1f3ebd50b8cddf9d5cf2aee0c0b74947fa35c8b2c320ca7e370", func := "majordomo/majordomolaw12.SiteKnown", spec := "siteKnown", unfollowed := true, recurses := true, apart := false }
def SiteKnownSaid : Prop := siteKnownRow.holds Try.pinned (OpenSpec.ofChange siteKnownSpec)

/-- ITS FALSE NEIGHBOUR: 'it returns false'. Refute it at one input. -/
def siteKnownWrong : ChangeSpec := { name := "siteKnown", fn := fun _ => fun
  | [] => { results := [.lit (.bool false)], args := [] }
  | _ => none }
def SiteKnownWrongFalsely : Prop := siteKnownRow.holds Try.pinned (OpenSpec.ofChange siteKnownWrong)

/- THE SECOND FORM. 'bulk': how many values and letters a reading holds, each counted each time it is reached (what is shared counts as often as it is met; a slice's spare places count too). A statement '..UptoSaid' is the law's where the arguments, and the package variables that the reading takes, are together of bulk at most 1048576: NARROWER than '..Said'. Prove '..Said' where nothing that the law and all that it calls make is longer than what came in: it says more and counts as full. Else prove '..UptoSaid'. A law counts once. -/
mutual
def uptoBulk {H : Type} : DataW H → Nat
  | .lit (.string bytes) => bytes.length + 1
  | .lit _ => 1
  | .nil => 1
  | .ptr d => uptoBulk d + 1
  | .slice elems spare => uptoBulkAll elems + uptoBulkAll spare + 1
  | .agg parts => uptoBulkAll parts + 1
  | .iface _ d => uptoBulk d + 1
  | .map entries => uptoBulkEntries entries + 1
  | .held _ => 1
def uptoBulkAll {H : Type} : List (DataW H) → Nat
  | [] => 0
  | d :: r => uptoBulk d + uptoBulkAll r
def uptoBulkEntries {H : Type} : List (Lit × DataW H) → Nat
  | [] => 0
  | x :: r => uptoBulkEntry x + uptoBulkEntries r
def uptoBulkEntry {H : Type} : Lit × DataW H → Nat
  | (.string bytes, d) => bytes.length + uptoBulk d + 1
  | (_, d) => uptoBulk d + 1
 end
def uptoSmall : (H : Type) → List (DataW H) → Bool := fun _ ds => decide (uptoBulkAll ds ≤ 1048576)
def OpenSpec.upto (s : _root_.Go.ChangeSpec) : _root_.Go.OpenSpec := { _root_.Go.OpenSpec.ofChange s with cond := some uptoSmall }

/-- 'majordomolaw12.SiteValid', WHERE WHAT IT READS IS OF BULK AT MOST 1048576: true; the input reads as it did. -/
def siteValidUptoRow : OpenClaim := { program := "ytbhbfndenpidoaa", sum := "2f3098c1035ef1f3ebd50b8cddf9d5cf2aee0c0b74947fa35c8b2c320ca7e370", func := "majordomo/majordomolaw12.SiteValid", spec := "siteValid", unfollowed := true, recurses := true, apart := false, narrowed := true }
def SiteValidUptoSaid : Prop := siteValidUptoRow.holds Try.pinned (OpenSpec.upto siteValidSpec)

/-- 'majordomolaw12.SiteDomains', WHERE WHAT IT READS IS OF BULK AT MOST 1048576: true; the input reads as it did. -/
def siteDomainsUptoRow : OpenClaim := { program := "ytbhbfndenpidoaa", sum := "2f3098c1035ef1f3ebd50b8cddf9d5cf2aee0c0b74947fa35c8b2c320ca7e370", func := "majordomo/majordomolaw12.SiteDomains", spec := "siteDomains", unfollowed := true, recurses := true, apart := false, narrowed := true }
def SiteDomainsUptoSaid : Prop := siteDomainsUptoRow.holds Try.pinned (OpenSpec.upto siteDomainsSpec)

/-- 'majordomolaw12.SiteParts', WHERE WHAT IT READS IS OF BULK AT MOST 1048576: true; the input reads as it did. -/
def sitePartsUptoRow : OpenClaim := { program := "ytbhbfndenpidoaa", sum := "2f3098c1035ef1f3ebd50b8cddf9d5cf2aee0c0b74947fa35c8b2c320ca7e370", func := "majordomo/majordomolaw12.SiteParts", spec := "siteParts", unfollowed := true, recurses := true, apart := false, narrowed := true }
def SitePartsUptoSaid : Prop := sitePartsUptoRow.holds Try.pinned (OpenSpec.upto sitePartsSpec)

/-- 'majordomolaw12.SiteRacks', WHERE WHAT IT READS IS OF BULK AT MOST 1048576: true; the input reads as it did. -/
def siteRacksUptoRow : OpenClaim := { program := "ytbhbfndenpidoaa", sum := "2f3098c1035ef1f3ebd50b8cddf9d5cf2aee0c0b74947fa35c8b2c320ca7e370", func := "majordomo/majordomolaw12.SiteRacks", spec := "siteRacks", unfollowed := true, recurses := true, apart := false, narrowed := true }
def SiteRacksUptoSaid : Prop := siteRacksUptoRow.holds Try.pinned (OpenSpec.upto siteRacksSpec)

/-- 'majordomolaw12.SiteKnown', WHERE WHAT IT READS IS OF BULK AT MOST 1048576: true; the input reads as it did. -/
def siteKnownUptoRow : OpenClaim := { program := "ytbhbfndenpidoaa", sum := "2f3098c1035ef1f3ebd50b8cddf9d5cf2aee0c0b74947fa35c8b2c320ca7e370", func := "majordomo/majordomolaw12.SiteKnown", spec := "siteKnown", unfollowed := true, recurses := true, apart := false, narrowed := true }
def SiteKnownUptoSaid : Prop := siteKnownUptoRow.holds Try.pinned (OpenSpec.upto siteKnownSpec)

end Rows
end Go.Proofs.Ytbhbfndenpidoaa
