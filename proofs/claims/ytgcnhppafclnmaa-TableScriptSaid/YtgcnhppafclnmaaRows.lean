/-
  No cell of these rows narrows 'for every input' (looked for: loops, veiled, ifaces, maps, wideKeys, modest, calm, conditions, laid).
  DERIVED. THE GIVEN ROWS OF THIS SEAT. 4 by the template 'for every input the law returns true; each argument reads behind the call as it read before'; 0 by the template 'total and deterministic' (their statements: YtgcnhppafclnmaaTotals.lean).
  GIVEN WITH THE SEED: the statements are not yours to turn. If you find one false, say at which input.
  Laid BY PROGRAM, IN A SANDBOX (cutbox-rows.mjs): the forced cells as the released guide's own fill.sh prints them over the translation 2c44806349818794… (all of the seat's roots in one cut). By AI agents, Wed Nov 11 2026. No macro, syntax, notation, axiom, sorry.
-/
import Derived.Test.YtgcnhppafclnmaaChecked
import GoSem.Claim
import GoSem.ClaimJoined
import GoSem.ClaimMapViews
import Derived.JoinedTies
import Derived.KernelRfl
namespace Go.Proofs.Ytgcnhppafclnmaa
/- THE CELL 'sum', in the pinned program and in every row, IS THE sha256 OF THE DUMP (.gsa) THAT YtgcnhppafclnmaaProg.lean LOADS. Nothing in Lean hashes anything: it is a label: what it is worth is what the hold of that sum in a sandbox is worth. -/
noncomputable def Try.pinned : Pinned := { name := "ytgcnhppafclnmaa", sum := "2c44806349818794bdfbdd65ae14e667e228cf31777840e337db572aa1a2b50f", checked := Try.checked }
namespace Rows
def none {H : Type} : Left H := { results := [], args := [] }

/-- 'mantillalaw20.TableScript': WHATEVER THE INPUT: true; the input reads as it did. -/
def tableScriptSpec : ChangeSpec := { name := "tableScript", fn := fun _ => fun
  | [d1, d2, d3] => { results := [.lit (.bool true)], args := [d1, d2, d3] }
  | _ => none }
def tableScriptRow : OpenClaim := { program := "ytgcnhppafclnmaa", sum := "2c44806349818794bdfbdd65ae14e667e228cf31777840e337db572aa1a2b50f", func := "mantilla/mantillalaw20.TableScript", spec := "tableScript", unfollowed := true, recurses := true, apart := false }
def TableScriptSaid : Prop := tableScriptRow.holds Try.pinned (OpenSpec.ofChange tableScriptSpec)

/-- ITS FALSE NEIGHBOUR: 'it returns false'. Refute it at one input. -/
def tableScriptWrong : ChangeSpec := { name := "tableScript", fn := fun _ => fun
  | [d1, d2, d3] => { results := [.lit (.bool false)], args := [d1, d2, d3] }
  | _ => none }
def TableScriptWrongFalsely : Prop := tableScriptRow.holds Try.pinned (OpenSpec.ofChange tableScriptWrong)

/-- 'mantillalaw20.TableTwins': WHATEVER THE INPUT: true; the input reads as it did. -/
def tableTwinsSpec : ChangeSpec := { name := "tableTwins", fn := fun _ => fun
  | [d1, d2] => { results := [.lit (.bool true)], args := [d1, d2] }
  | _ => none }
def tableTwinsRow : OpenClaim := { program := "ytgcnhppafclnmaa", sum := "2c44806349818794bdfbdd65ae14e667e228cf31777840e337db572aa1a2b50f", func := "mantilla/mantillalaw20.TableTwins", spec := "tableTwins", unfollowed := true, recurses := true, apart := false }
def TableTwinsSaid : Prop := tableTwinsRow.holds Try.pinned (OpenSpec.ofChange tableTwinsSpec)

/-- ITS FALSE NEIGHBOUR: 'it returns false'. Refute it at one input. -/
def tableTwinsWrong : ChangeSpec := { name := "tableTwins", fn := fun _ => fun
  | [d1, d2] => { results := [.lit (.bool false)], args := [d1, d2] }
  | _ => none }
def TableTwinsWrongFalsely : Prop := tableTwinsRow.holds Try.pinned (OpenSpec.ofChange tableTwinsWrong)

/-- 'mantillalaw20.TableLast': WHATEVER THE INPUT: true; the input reads as it did. -/
def tableLastSpec : ChangeSpec := { name := "tableLast", fn := fun _ => fun
  | [d1, d2] => { results := [.lit (.bool true)], args := [d1, d2] }
  | _ => none }
def tableLastRow : OpenClaim := { program := "ytgcnhppafclnmaa", sum := "2c44806349818794bdfbdd65ae14e667e228cf31777840e337db572aa1a2b50f", func := "mantilla/mantillalaw20.TableLast", spec := "tableLast", unfollowed := true, recurses := true, apart := false }
def TableLastSaid : Prop := tableLastRow.holds Try.pinned (OpenSpec.ofChange tableLastSpec)

/-- ITS FALSE NEIGHBOUR: 'it returns false'. Refute it at one input. -/
def tableLastWrong : ChangeSpec := { name := "tableLast", fn := fun _ => fun
  | [d1, d2] => { results := [.lit (.bool false)], args := [d1, d2] }
  | _ => none }
def TableLastWrongFalsely : Prop := tableLastRow.holds Try.pinned (OpenSpec.ofChange tableLastWrong)

/-- 'mantillalaw20.TableKeeps': WHATEVER THE INPUT: true; the input reads as it did. -/
def tableKeepsSpec : ChangeSpec := { name := "tableKeeps", fn := fun _ => fun
  | [d1, d2] => { results := [.lit (.bool true)], args := [d1, d2] }
  | _ => none }
def tableKeepsRow : OpenClaim := { program := "ytgcnhppafclnmaa", sum := "2c44806349818794bdfbdd65ae14e667e228cf31777840e337db572aa1a2b50f", func := "mantilla/mantillalaw20.TableKeeps", spec := "tableKeeps", unfollowed := true, recurses := true, apart := false }
def TableKeepsSaid : Prop := tableKeepsRow.holds Try.pinned (OpenSpec.ofChange tableKeepsSpec)

/-- ITS FALSE NEIGHBOUR: 'it returns false'. Refute it at one input. -/
def tableKeepsWrong : ChangeSpec := { name := "tableKeeps", fn := fun _ => fun
  | [d1, d2] => { results := [.lit (.bool false)], args := [d1, d2] }
  | _ => none }
def TableKeepsWrongFalsely : Prop := tableKeepsRow.holds Try.pinned (OpenSpec.ofChange tableKeepsWrong)

/- THE SECOND FORM. 'bulk': how many values and letters a reading holds, each counted each time it is reached (what is shared counts as often as it is met; a slice's spare places count too). A statement '..UptoSaid' is the law's where the arguments, and the package variables that the reading takes, are together of bulk at most 1048576: NARROWER than '..Said'. Prove '..Said' where nothing that the law and all that it calls make is longer than what came in: it says more and counts as full. Else prove '..UptoSaid'. A law counts once. -/
mutual
def uptoBulk {H : Type} : DataW H → Nat
  | .lit (.string bytes) => bytes.length + 1
  | .lit _ => 1
  | .nil => 1
  | .ptr d => uptoBulk d + 1
  | .slice elems spare => uptoBulkAll elems + uptoBulkAll spare + 1
  | .agg parts => uptoBulkAll parts + 1
  | .iface _ d => uptoBulk d + 1
  | .map entries => uptoBulkEntries entries + 1
  | .held _ => 1
def uptoBulkAll {H : Type} : List (DataW H) → Nat
  | [] => 0
  | d :: r => uptoBulk d + uptoBulkAll r
def uptoBulkEntries {H : Type} : List (Lit × DataW H) → Nat
  | [] => 0
  | x :: r => uptoBulkEntry x + uptoBulkEntries r
def uptoBulkEntry {H : Type} : Lit × DataW H → Nat
  | (.string bytes, d) => bytes.length + uptoBulk d + 1
  | (_, d) => uptoBulk d + 1
 end
def uptoSmall : (H : Type) → List (DataW H) → Bool := fun _ ds => decide (uptoBulkAll ds ≤ 1048576)
def OpenSpec.upto (s : _root_.Go.ChangeSpec) : _root_.Go.OpenSpec := { _root_.Go.OpenSpec.ofChange s with cond := some uptoSmall }

/-- 'mantillalaw20.TableScript', WHERE WHAT IT READS IS OF BULK AT MOST 1048576: true; the input reads as it did. -/
def tableScriptUptoRow : OpenClaim := { program := "ytgcnhppafclnmaa", sum := "2c44806349818794bdfbdd65ae14e667e228cf31777840e337db572aa1a2b50f", func := "mantilla/mantillalaw20.TableScript", spec := "tableScript", unfollowed := true, recurses := true, apart := false, narrowed := true }
def TableScriptUptoSaid : Prop := tableScriptUptoRow.holds Try.pinned (OpenSpec.upto tableScriptSpec)

/-- 'mantillalaw20.TableTwins', WHERE WHAT IT READS IS OF BULK AT MOST 1048576: true; the input reads as it did. -/
def tableTwinsUptoRow : OpenClaim := { program := "ytgcnhppafclnmaa", sum := "2c44806349818794bdfbdd65ae14e667e228cf31777840e337db572aa1a2b50f", func := "mantilla/mantillalaw20.TableTwins", spec := "tableTwins", unfollowed := true, recurses := true, apart := false, narrowed := true }
def TableTwinsUptoSaid : Prop := tableTwinsUptoRow.holds Try.pinned (OpenSpec.upto tableTwinsSpec)

/-- 'mantillalaw20.TableLast', WHERE WHAT IT READS IS OF BULK AT MOST 1048576: true; the input reads as it did. -/
def tableLastUptoRow : OpenClaim := { program := "ytgcnhppafclnmaa", sum := "2c44806349818794bdfbdd65ae14e667e228cf31777840e337db572aa1a2b50f", func := "mantilla/mantillalaw20.TableLast", spec := "tableLast", unfollowed := true, recurses := true, apart := false, narrowed := true }
def TableLastUptoSaid : Prop := tableLastUptoRow.holds Try.pinned (OpenSpec.upto tableLastSpec)

/-- 'mantillalaw20.TableKeeps', WHERE WHAT IT READS IS OF BULK AT MOST 1048576: true; the input reads as it did. -/
def tableKeepsUptoRow : OpenClaim := { program := "ytgcnhppafclnmaa", sum := "2c44806349818794bdfbdd65ae14e667e228cf31777840e337db572aa1a2b50f", func := "mantilla/mantillalaw20.TableKeeps", spec := "tableKeeps", unfollowed := true, recurses := true, apart := false, narrowed := true }
def TableKeepsUptoSaid : Prop := tableKeepsUptoRow.holds Try.pinned (OpenSpec.upto tableKeepsSpec)

end Rows
end Go.Proofs.Ytgcnhppafclnmaa
