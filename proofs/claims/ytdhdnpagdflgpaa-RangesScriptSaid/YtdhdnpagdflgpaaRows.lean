/-
  No cell of these rows narrows 'for every input' (looked for: loops, veiled, ifaces, maps, wideKeys, modest, calm, conditions, laid).
  DERIVED. THE GIVEN ROWS OF THIS SEAT. 5 by the template 'for every input the law returns true; each argument reads behind the call as it read before'; 0 by the template 'total and deterministic' (their statements: YtdhdnpagdflgpaaTotals.lean).
  GIVEN WITH THE SEED: the statements are not yours to turn. If you find one false, say at which input.
  Laid BY PROGRAM, IN A SANDBOX (cutbox-rows.mjs): the forced cells as the released guide's own fill.sh prints them over the translation f2c8c9ca9740c8f5… (all of the seat's roots in one cut). By AI agents, Wed Nov 11 2026. No macro, syntax, notation, axiom, sorry.
-/
import Derived.Test.YtdhdnpagdflgpaaChecked
import GoSem.Claim
import GoSem.ClaimJoined
import GoSem.ClaimMapViews
import Derived.JoinedTies
import Derived.KernelRfl
namespace Go.Proofs.Ytdhdnpagdflgpaa
/- THE CELL 'sum', in the pinned program and in every row, IS THE sha256 OF THE DUMP (.gsa) THAT YtdhdnpagdflgpaaProg.lean LOADS. Nothing in Lean hashes anything: it is a label: what it is worth is what the hold of that sum in a sandbox is worth. -/
noncomputable def Try.pinned : Pinned := { name := "ytdhdnpagdflgpaa", sum := "f2c8c9ca9740c8f51c4741fc5d3e4834dee68b76950e01f067bd5cfbcdec01df", checked := Try.checked }
namespace Rows
def none {H : Type} : Left H := { results := [], args := [] }

/-- 'mantillalaw8.RangesOnce': WHATEVER THE INPUT: true; the input reads as it did. -/
def rangesOnceSpec : ChangeSpec := { name := "rangesOnce", fn := fun _ => fun
  | [d1, d2] => { results := [.lit (.bool true)], args := [d1, d2] }
  | _ => none }
def rangesOnceRow : OpenClaim := { program := "ytdhdnpagdflgpaa", sum := "f2c8c9ca9740c8f51c4741fc5d3e4834dee68b76950e01f067bd5cfbcdec01df", func := "mantilla/mantillalaw8.RangesOnce", spec := "rangesOnce", inPlace := ["slices.overlaps[mantilla/api.Range]"], unfollowed := true, recurses := true, apart := false }
def RangesOnceSaid : Prop := rangesOnceRow.holds Try.pinned (OpenSpec.ofChange rangesOnceSpec)

/-- ITS FALSE NEIGHBOUR: 'it returns false'. Refute it at one input. -/
def rangesOnceWrong : ChangeSpec := { name := "rangesOnce", fn := fun _ => fun
  | [d1, d2] => { results := [.lit (.bool false)], args := [d1, d2] }
  | _ => none }
def RangesOnceWrongFalsely : Prop := rangesOnceRow.holds Try.pinned (OpenSpec.ofChange rangesOnceWrong)

/-- 'mantillalaw8.RangesFloor': WHATEVER THE INPUT: true; the input reads as it did. -/
def rangesFloorSpec : ChangeSpec := { name := "rangesFloor", fn := fun _ => fun
  | [d1, d2] => { results := [.lit (.bool true)], args := [d1, d2] }
  | _ => none }
def rangesFloorRow : OpenClaim := { program := "ytdhdnpagdflgpaa", sum := "f2c8c9ca9740c8f51c4741fc5d3e4834dee68b76950e01f067bd5cfbcdec01df", func := "mantilla/mantillalaw8.RangesFloor", spec := "rangesFloor", inPlace := ["slices.overlaps[mantilla/api.Range]"], unfollowed := true, recurses := true, apart := false }
def RangesFloorSaid : Prop := rangesFloorRow.holds Try.pinned (OpenSpec.ofChange rangesFloorSpec)

/-- ITS FALSE NEIGHBOUR: 'it returns false'. Refute it at one input. -/
def rangesFloorWrong : ChangeSpec := { name := "rangesFloor", fn := fun _ => fun
  | [d1, d2] => { results := [.lit (.bool false)], args := [d1, d2] }
  | _ => none }
def RangesFloorWrongFalsely : Prop := rangesFloorRow.holds Try.pinned (OpenSpec.ofChange rangesFloorWrong)

/-- 'mantillalaw8.RangesBits': WHATEVER THE INPUT: true; the input reads as it did. -/
def rangesBitsSpec : ChangeSpec := { name := "rangesBits", fn := fun _ => fun
  | [d1, d2] => { results := [.lit (.bool true)], args := [d1, d2] }
  | _ => none }
def rangesBitsRow : OpenClaim := { program := "ytdhdnpagdflgpaa", sum := "f2c8c9ca9740c8f51c4741fc5d3e4834dee68b76950e01f067bd5cfbcdec01df", func := "mantilla/mantillalaw8.RangesBits", spec := "rangesBits", inPlace := ["slices.overlaps[mantilla/api.Range]"], unfollowed := true, recurses := true, apart := false }
def RangesBitsSaid : Prop := rangesBitsRow.holds Try.pinned (OpenSpec.ofChange rangesBitsSpec)

/-- ITS FALSE NEIGHBOUR: 'it returns false'. Refute it at one input. -/
def rangesBitsWrong : ChangeSpec := { name := "rangesBits", fn := fun _ => fun
  | [d1, d2] => { results := [.lit (.bool false)], args := [d1, d2] }
  | _ => none }
def RangesBitsWrongFalsely : Prop := rangesBitsRow.holds Try.pinned (OpenSpec.ofChange rangesBitsWrong)

/-- 'mantillalaw8.RangesRising': WHATEVER THE INPUT: true; the input reads as it did. -/
def rangesRisingSpec : ChangeSpec := { name := "rangesRising", fn := fun _ => fun
  | [d1, d2] => { results := [.lit (.bool true)], args := [d1, d2] }
  | _ => none }
def rangesRisingRow : OpenClaim := { program := "ytdhdnpagdflgpaa", sum := "f2c8c9ca9740c8f51c4741fc5d3e4834dee68b76950e01f067bd5cfbcdec01df", func := "mantilla/mantillalaw8.RangesRising", spec := "rangesRising", inPlace := ["slices.overlaps[mantilla/api.Range]"], unfollowed := true, recurses := true, apart := false }
def RangesRisingSaid : Prop := rangesRisingRow.holds Try.pinned (OpenSpec.ofChange rangesRisingSpec)

/-- ITS FALSE NEIGHBOUR: 'it returns false'. Refute it at one input. -/
def rangesRisingWrong : ChangeSpec := { name := "rangesRising", fn := fun _ => fun
  | [d1, d2] => { results := [.lit (.bool false)], args := [d1, d2] }
  | _ => none }
def RangesRisingWrongFalsely : Prop := rangesRisingRow.holds Try.pinned (OpenSpec.ofChange rangesRisingWrong)

/-- 'mantillalaw8.RangesScript': WHATEVER THE INPUT: true; the input reads as it did. -/
def rangesScriptSpec : ChangeSpec := { name := "rangesScript", fn := fun _ => fun
  | [d1, d2, d3] => { results := [.lit (.bool true)], args := [d1, d2, d3] }
  | _ => none }
def rangesScriptRow : OpenClaim := { program := "ytdhdnpagdflgpaa", sum := "f2c8c9ca9740c8f51c4741fc5d3e4834dee68b76950e01f067bd5cfbcdec01df", func := "mantilla/mantillalaw8.RangesScript", spec := "rangesScript", inPlace := ["slices.overlaps[mantilla/api.Range]"], unfollowed := true, recurses := true, apart := false }
def RangesScriptSaid : Prop := rangesScriptRow.holds Try.pinned (OpenSpec.ofChange rangesScriptSpec)

/-- ITS FALSE NEIGHBOUR: 'it returns false'. Refute it at one input. -/
def rangesScriptWrong : ChangeSpec := { name := "rangesScript", fn := fun _ => fun
  | [d1, d2, d3] => { results := [.lit (.bool false)], args := [d1, d2, d3] }
  | _ => none }
def RangesScriptWrongFalsely : Prop := rangesScriptRow.holds Try.pinned (OpenSpec.ofChange rangesScriptWrong)

/- THE SECOND FORM. 'bulk': how many values and letters a reading holds, each counted each time it is reached (what is shared counts as often as it is met; a slice's spare places count too). A statement '..UptoSaid' is the law's where the arguments, and the package variables that the reading takes, are together of bulk at most 1048576: NARROWER than '..Said'. Prove '..Said' where nothing that the law and all that it calls make is longer than what came in: it says more and counts as full. Else prove '..UptoSaid'. A law counts once. -/
mutual
def uptoBulk {H : Type} : DataW H → Nat
  | .lit (.string bytes) => bytes.length + 1
  | .lit _ => 1
  | .nil => 1
  | .ptr d => uptoBulk d + 1
  | .slice elems spare => uptoBulkAll elems + uptoBulkAll spare + 1
  | .agg parts => uptoBulkAll parts + 1
  | .iface _ d => uptoBulk d + 1
  | .map entries => uptoBulkEntries entries + 1
  | .held _ => 1
def uptoBulkAll {H : Type} : List (DataW H) → Nat
  | [] => 0
  | d :: r => uptoBulk d + uptoBulkAll r
def uptoBulkEntries {H : Type} : List (Lit × DataW H) → Nat
  | [] => 0
  | x :: r => uptoBulkEntry x + uptoBulkEntries r
def uptoBulkEntry {H : Type} : Lit × DataW H → Nat
  | (.string bytes, d) => bytes.length + uptoBulk d + 1
  | (_, d) => uptoBulk d + 1
 end
def uptoSmall : (H : Type) → List (DataW H) → Bool := fun _ ds => decide (uptoBulkAll ds ≤ 1048576)
def OpenSpec.upto (s : _root_.Go.ChangeSpec) : _root_.Go.OpenSpec := { _root_.Go.OpenSpec.ofChange s with cond := some uptoSmall }

/-- 'mantillalaw8.RangesOnce', WHERE WHAT IT READS IS OF BULK AT MOST 1048576: true; the input reads as it did. -/
def rangesOnceUptoRow : OpenClaim := { program := "ytdhdnpagdflgpaa", sum := "f2c8c9ca9740c8f51c4741fc5d3e4834dee68b76950e01f067bd5cfbcdec01df", func := "mantilla/mantillalaw8.RangesOnce", spec := "rangesOnce", inPlace := ["slices.overlaps[mantilla/api.Range]"], unfollowed := true, recurses := true, apart := false, narrowed := true }
def RangesOnceUptoSaid : Prop := rangesOnceUptoRow.holds Try.pinned (OpenSpec.upto rangesOnceSpec)

/-- 'mantillalaw8.RangesFloor', WHERE WHAT IT READS IS OF BULK AT MOST 1048576: true; the input reads as it did. -/
def rangesFloorUptoRow : OpenClaim := { program := "ytdhdnpagdflgpaa", sum := "f2c8c9ca9740c8f51c4741fc5d3e4834dee68b76950e01f067bd5cfbcdec01df", func := "mantilla/mantillalaw8.RangesFloor", spec := "rangesFloor", inPlace := ["slices.overlaps[mantilla/api.Range]"], unfollowed := true, recurses := true, apart := false, narrowed := true }
def RangesFloorUptoSaid : Prop := rangesFloorUptoRow.holds Try.pinned (OpenSpec.upto rangesFloorSpec)

/-- 'mantillalaw8.RangesBits', WHERE WHAT IT READS IS OF BULK AT MOST 1048576: true; the input reads as it did. -/
def rangesBitsUptoRow : OpenClaim := { program := "ytdhdnpagdflgpaa", sum := "f2c8c9ca9740c8f51c4741fc5d3e4834dee68b76950e01f067bd5cfbcdec01df", func := "mantilla/mantillalaw8.RangesBits", spec := "rangesBits", inPlace := ["slices.overlaps[mantilla/api.Range]"], unfollowed := true, recurses := true, apart := false, narrowed := true }
def RangesBitsUptoSaid : Prop := rangesBitsUptoRow.holds Try.pinned (OpenSpec.upto rangesBitsSpec)

/-- 'mantillalaw8.RangesRising', WHERE WHAT IT READS IS OF BULK AT MOST 1048576: true; the input reads as it did. -/
def rangesRisingUptoRow : OpenClaim := { program := "ytdhdnpagdflgpaa", sum := "f2c8c9ca9740c8f51c4741fc5d3e4834dee68b76950e01f067bd5cfbcdec01df", func := "mantilla/mantillalaw8.RangesRising", spec := "rangesRising", inPlace := ["slices.overlaps[mantilla/api.Range]"], unfollowed := true, recurses := true, apart := false, narrowed := true }
def RangesRisingUptoSaid : Prop := rangesRisingUptoRow.holds Try.pinned (OpenSpec.upto rangesRisingSpec)

/-- 'mantillalaw8.RangesScript', WHERE WHAT IT READS IS OF BULK AT MOST 1048576: true; the input reads as it did. -/
def rangesScriptUptoRow : OpenClaim := { program := "ytdhdnpagdflgpaa", sum := "f2c8c9ca9740c8f51c4741fc5d3e4834dee68b76950e01f067bd5cfbcdec01df", func := "mantilla/mantillalaw8.RangesScript", spec := "rangesScript", inPlace := ["slices.overlaps[mantilla/api.Range]"], unfollowed := true, recurses := true, apart := false, narrowed := true }
def RangesScriptUptoSaid : Prop := rangesScriptUptoRow.holds Try.pinned (OpenSpec.upto rangesScriptSpec)

end Rows
end Go.Proofs.Ytdhdnpagdflgpaa
