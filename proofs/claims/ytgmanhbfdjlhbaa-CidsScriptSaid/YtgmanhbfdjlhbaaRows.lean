/-
  No cell of these rows narrows 'for every input' (looked for: loops, veiled, ifaces, maps, wideKeys, modest, calm, conditions, laid).
  DERIVED. THE GIVEN ROWS OF THIS SEAT. 5 by the template 'for every input the law returns true; each argument reads behind the call as it read before'; 0 by the template 'total and deterministic' (their statements: YtgmanhbfdjlhbaaTotals.lean).
  GIVEN WITH THE SEED: the statements are not yours to turn. If you find one false, say at which input.
  Laid BY PROGRAM, IN A SANDBOX (cutbox-rows.mjs): the forced cells as the released guide's own fill.sh prints them over the translation caeff9849bb8e207… (all of the seat's roots in one cut). By AI agents, Wed Nov 11 2026. No macro, syntax, notation, axiom, sorry.
-/
import Derived.Test.YtgmanhbfdjlhbaaChecked
import GoSem.Claim
import GoSem.ClaimJoined
import GoSem.ClaimMapViews
import Derived.JoinedTies
import Derived.KernelRfl
namespace Go.Proofs.Ytgmanhbfdjlhbaa
/- THE CELL 'sum', in the pinned program and in every row, IS THE sha256 OF THE DUMP (.gsa) THAT YtgmanhbfdjlhbaaProg.lean LOADS. Nothing in Lean hashes anything: it is a label: what it is worth is what the hold of that sum in a sandbox is worth. -/
noncomputable def Try.pinned : Pinned := { name := "ytgmanhbfdjlhbaa", sum := "caeff9849bb8e2077cb6675349e8c7dde39e6f5449b96b851743233c366a5dab", checked := Try.checked }
namespace Rows
def none {H : Type} : Left H := { results := [], args := [] }

/-- 'mantillalaw14.CidsScript': WHATEVER THE INPUT: true; the input reads as it did. -/
def cidsScriptSpec : ChangeSpec := { name := "cidsScript", fn := fun _ => fun
  | [d1, d2] => { results := [.lit (.bool true)], args := [d1, d2] }
  | _ => none }
def cidsScriptRow : OpenClaim := { program := "ytgmanhbfdjlhbaa", sum := "caeff9849bb8e2077cb6675349e8c7dde39e6f5449b96b851743233c366a5dab", func := "mantilla/mantillalaw14.CidsScript", spec := "cidsScript", inPlace := ["slices.overlaps[mantilla/cids.name]"], unfollowed := true, recurses := true, apart := false }
def CidsScriptSaid : Prop := cidsScriptRow.holds Try.pinned (OpenSpec.ofChange cidsScriptSpec)

/-- ITS FALSE NEIGHBOUR: 'it returns false'. Refute it at one input. -/
def cidsScriptWrong : ChangeSpec := { name := "cidsScript", fn := fun _ => fun
  | [d1, d2] => { results := [.lit (.bool false)], args := [d1, d2] }
  | _ => none }
def CidsScriptWrongFalsely : Prop := cidsScriptRow.holds Try.pinned (OpenSpec.ofChange cidsScriptWrong)

/-- 'mantillalaw14.CidsApart': WHATEVER THE INPUT: true; the input reads as it did. -/
def cidsApartSpec : ChangeSpec := { name := "cidsApart", fn := fun _ => fun
  | [d1, d2] => { results := [.lit (.bool true)], args := [d1, d2] }
  | _ => none }
def cidsApartRow : OpenClaim := { program := "ytgmanhbfdjlhbaa", sum := "caeff9849bb8e2077cb6675349e8c7dde39e6f5449b96b851743233c366a5dab", func := "mantilla/mantillalaw14.CidsApart", spec := "cidsApart", inPlace := ["slices.overlaps[mantilla/cids.name]"], unfollowed := true, recurses := true, apart := false }
def CidsApartSaid : Prop := cidsApartRow.holds Try.pinned (OpenSpec.ofChange cidsApartSpec)

/-- ITS FALSE NEIGHBOUR: 'it returns false'. Refute it at one input. -/
def cidsApartWrong : ChangeSpec := { name := "cidsApart", fn := fun _ => fun
  | [d1, d2] => { results := [.lit (.bool false)], args := [d1, d2] }
  | _ => none }
def CidsApartWrongFalsely : Prop := cidsApartRow.holds Try.pinned (OpenSpec.ofChange cidsApartWrong)

/-- 'mantillalaw14.CidsTurns': WHATEVER THE INPUT: true; the input reads as it did. -/
def cidsTurnsSpec : ChangeSpec := { name := "cidsTurns", fn := fun _ => fun
  | [d1, d2, d3] => { results := [.lit (.bool true)], args := [d1, d2, d3] }
  | _ => none }
def cidsTurnsRow : OpenClaim := { program := "ytgmanhbfdjlhbaa", sum := "caeff9849bb8e2077cb6675349e8c7dde39e6f5449b96b851743233c366a5dab", func := "mantilla/mantillalaw14.CidsTurns", spec := "cidsTurns", inPlace := ["slices.overlaps[mantilla/cids.name]"], unfollowed := true, recurses := true, apart := false }
def CidsTurnsSaid : Prop := cidsTurnsRow.holds Try.pinned (OpenSpec.ofChange cidsTurnsSpec)

/-- ITS FALSE NEIGHBOUR: 'it returns false'. Refute it at one input. -/
def cidsTurnsWrong : ChangeSpec := { name := "cidsTurns", fn := fun _ => fun
  | [d1, d2, d3] => { results := [.lit (.bool false)], args := [d1, d2, d3] }
  | _ => none }
def CidsTurnsWrongFalsely : Prop := cidsTurnsRow.holds Try.pinned (OpenSpec.ofChange cidsTurnsWrong)

/-- 'mantillalaw14.CidsPaths': WHATEVER THE INPUT: true; the input reads as it did. -/
def cidsPathsSpec : ChangeSpec := { name := "cidsPaths", fn := fun _ => fun
  | [d1, d2] => { results := [.lit (.bool true)], args := [d1, d2] }
  | _ => none }
def cidsPathsRow : OpenClaim := { program := "ytgmanhbfdjlhbaa", sum := "caeff9849bb8e2077cb6675349e8c7dde39e6f5449b96b851743233c366a5dab", func := "mantilla/mantillalaw14.CidsPaths", spec := "cidsPaths", inPlace := ["slices.overlaps[mantilla/cids.name]"], unfollowed := true, recurses := true, apart := false }
def CidsPathsSaid : Prop := cidsPathsRow.holds Try.pinned (OpenSpec.ofChange cidsPathsSpec)

/-- ITS FALSE NEIGHBOUR: 'it returns false'. Refute it at one input. -/
def cidsPathsWrong : ChangeSpec := { name := "cidsPaths", fn := fun _ => fun
  | [d1, d2] => { results := [.lit (.bool false)], args := [d1, d2] }
  | _ => none }
def CidsPathsWrongFalsely : Prop := cidsPathsRow.holds Try.pinned (OpenSpec.ofChange cidsPathsWrong)

/-- 'mantillalaw14.CidsAgain': WHATEVER THE INPUT: true; the input reads as it did. -/
def cidsAgainSpec : ChangeSpec := { name := "cidsAgain", fn := fun _ => fun
  | [d] => { results := [.lit (.bool true)], args := [d] }
  | _ => none }
def cidsAgainRow : OpenClaim := { program := "ytgmanhbfdjlhbaa", sum := "caeff9849bb8e2077cb6675349e8c7dde39e6f5449b96b851743233c366a5dab", func := "mantilla/mantillalaw14.CidsAgain", spec := "cidsAgain", inPlace := ["slices.overlaps[mantilla/cids.name]"], unfollowed := true, recurses := true, apart := false }
def CidsAgainSaid : Prop := cidsAgainRow.holds Try.pinned (OpenSpec.ofChange cidsAgainSpec)

/-- ITS FALSE NEIGHBOUR: 'it returns false'. Refute it at one input. -/
def cidsAgainWrong : ChangeSpec := { name := "cidsAgain", fn := fun _ => fun
  | [d] => { results := [.lit (.bool false)], args := [d] }
  | _ => none }
def CidsAgainWrongFalsely : Prop := cidsAgainRow.holds Try.pinned (OpenSpec.ofChange cidsAgainWrong)

/- THE SECOND FORM. 'bulk': how many values and letters a reading holds, each counted each time it is reached (what is shared counts as often as it is met; a slice's spare places count too). A statement '..UptoSaid' is the law's where the arguments, and the package variables that the reading takes, are together of bulk at most 1048576: NARROWER than '..Said'. Prove '..Said' where nothing that the law and all that it calls make is longer than what came in: it says more and counts as full. Else prove '..UptoSaid'. A law counts once. -/
mutual
def uptoBulk {H : Type} : DataW H → Nat
  | .lit (.string bytes) => bytes.length + 1
  | .lit _ => 1
  | .nil => 1
  | .ptr d => uptoBulk d + 1
  | .slice elems spare => uptoBulkAll elems + uptoBulkAll spare + 1
  | .agg parts => uptoBulkAll parts + 1
  | .iface _ d => uptoBulk d + 1
  | .map entries => uptoBulkEntries entries + 1
  | .held _ => 1
def uptoBulkAll {H : Type} : List (DataW H) → Nat
  | [] => 0
  | d :: r => uptoBulk d + uptoBulkAll r
def uptoBulkEntries {H : Type} : List (Lit × DataW H) → Nat
  | [] => 0
  | x :: r => uptoBulkEntry x + uptoBulkEntries r
def uptoBulkEntry {H : Type} : Lit × DataW H → Nat
  | (.string bytes, d) => bytes.length + uptoBulk d + 1
  | (_, d) => uptoBulk d + 1
 end
def uptoSmall : (H : Type) → List (DataW H) → Bool := fun _ ds => decide (uptoBulkAll ds ≤ 1048576)
def OpenSpec.upto (s : _root_.Go.ChangeSpec) : _root_.Go.OpenSpec := { _root_.Go.OpenSpec.ofChange s with cond := some uptoSmall }

/-- 'mantillalaw14.CidsScript', WHERE WHAT IT READS IS OF BULK AT MOST 1048576: true; the input reads as it did. -/
def cidsScriptUptoRow : OpenClaim := { program := "ytgmanhbfdjlhbaa", sum := "caeff9849bb8e2077cb6675349e8c7dde39e6f5449b96b851743233c366a5dab", func := "mantilla/mantillalaw14.CidsScript", spec := "cidsScript", inPlace := ["slices.overlaps[mantilla/cids.name]"], unfollowed := true, recurses := true, apart := false, narrowed := true }
def CidsScriptUptoSaid : Prop := cidsScriptUptoRow.holds Try.pinned (OpenSpec.upto cidsScriptSpec)

/-- 'mantillalaw14.CidsApart', WHERE WHAT IT READS IS OF BULK AT MOST 1048576: true; the input reads as it did. -/
def cidsApartUptoRow : OpenClaim := { program := "ytgmanhbfdjlhbaa", sum := "caeff9849bb8e2077cb6675349e8c7dde39e6f5449b96b851743233c366a5dab", func := "mantilla/mantillalaw14.CidsApart", spec := "cidsApart", inPlace := ["slices.overlaps[mantilla/cids.name]"], unfollowed := true, recurses := true, apart := false, narrowed := true }
def CidsApartUptoSaid : Prop := cidsApartUptoRow.holds Try.pinned (OpenSpec.upto cidsApartSpec)

/-- 'mantillalaw14.CidsTurns', WHERE WHAT IT READS IS OF BULK AT MOST 1048576: true; the input reads as it did. -/
def cidsTurnsUptoRow : OpenClaim := { program := "ytgmanhbfdjlhbaa", sum := "caeff9849bb8e2077cb6675349e8c7dde39e6f5449b96b851743233c366a5dab", func := "mantilla/mantillalaw14.CidsTurns", spec := "cidsTurns", inPlace := ["slices.overlaps[mantilla/cids.name]"], unfollowed := true, recurses := true, apart := false, narrowed := true }
def CidsTurnsUptoSaid : Prop := cidsTurnsUptoRow.holds Try.pinned (OpenSpec.upto cidsTurnsSpec)

/-- 'mantillalaw14.CidsPaths', WHERE WHAT IT READS IS OF BULK AT MOST 1048576: true; the input reads as it did. -/
def cidsPathsUptoRow : OpenClaim := { program := "ytgmanhbfdjlhbaa", sum := "caeff9849bb8e2077cb6675349e8c7dde39e6f5449b96b851743233c366a5dab", func := "mantilla/mantillalaw14.CidsPaths", spec := "cidsPaths", inPlace := ["slices.overlaps[mantilla/cids.name]"], unfollowed := true, recurses := true, apart := false, narrowed := true }
def CidsPathsUptoSaid : Prop := cidsPathsUptoRow.holds Try.pinned (OpenSpec.upto cidsPathsSpec)

/-- 'mantillalaw14.CidsAgain', WHERE WHAT IT READS IS OF BULK AT MOST 1048576: true; the input reads as it did. -/
def cidsAgainUptoRow : OpenClaim := { program := "ytgmanhbfdjlhbaa", sum := "caeff9849bb8e2077cb6675349e8c7dde39e6f5449b96b851743233c366a5dab", func := "mantilla/mantillalaw14.CidsAgain", spec := "cidsAgain", inPlace := ["slices.overlaps[mantilla/cids.name]"], unfollowed := true, recurses := true, apart := false, narrowed := true }
def CidsAgainUptoSaid : Prop := cidsAgainUptoRow.holds Try.pinned (OpenSpec.upto cidsAgainSpec)

end Rows
end Go.Proofs.Ytgmanhbfdjlhbaa
