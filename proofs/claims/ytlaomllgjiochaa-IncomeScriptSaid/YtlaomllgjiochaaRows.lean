/-
  No cell of these rows narrows 'for every input' (looked for: loops, veiled, ifaces, maps, wideKeys, modest, calm, conditions, laid).
  DERIVED. THE GIVEN ROWS OF THIS SEAT. 5 by the template 'for every input the law returns true; each argument reads behind the call as it read before'; 0 by the template 'total and deterministic' (their statements: YtlaomllgjiochaaTotals.lean).
  GIVEN WITH THE SEED: the statements are not yours to turn. If you find one false, say at which input.
  Laid BY PROGRAM, IN A SANDBOX (cutbox-rows.mjs): the forced cells as the released guide's own fill.sh prints them over the translation c0bf00132757000b… (all of the seat's roots in one cut). By AI agents, Wed Nov 11 2026. No macro, syntax, notation, axiom, sorry.
-/
import Derived.Test.YtlaomllgjiochaaChecked
import GoSem.Claim
import GoSem.ClaimJoined
import GoSem.ClaimMapViews
import Derived.JoinedTies
import Derived.KernelRfl
namespace Go.Proofs.Ytlaomllgjiochaa
/- THE CELL 'sum', in the pinned program and in every row, IS THE sha256 OF THE DUMP (.gsa) THAT YtlaomllgjiochaaProg.lean LOADS. Nothing in Lean hashes anything: it is a label: what it is worth is what the hold of that sum in a sandbox is worth. -/
noncomputable def Try.pinned : Pinned := { name := "ytlaomllgjiochaa", sum := "c0bf00132757000bff52790c624175103bf33304b82967ba54e30f8f7d993d53", checked := Try.checked }
namespace Rows
def none {H : Type} : Left H := { results := [], args := [] }

/-- 'mantillalaw12.IncomeTurns2': WHATEVER THE INPUT: true; the input reads as it did. -/
def incomeTurns2Spec : ChangeSpec := { name := "incomeTurns2", fn := fun _ => fun
  | [d1, d2, d3] => { results := [.lit (.bool true)], args := [d1, d2, d3] }
  | _ => none }
def incomeTurns2Row : OpenClaim := { program := "ytlaomllgjiochaa", sum := "c0bf00132757000bff52790c624175103bf33304b82967ba54e30f8f7d993d53", func := "mantilla/mantillalaw12.IncomeTurns2", spec := "incomeTurns2", apart := false }
def IncomeTurns2Said : Prop := incomeTurns2Row.holds Try.pinned (OpenSpec.ofChange incomeTurns2Spec)

/-- ITS FALSE NEIGHBOUR: 'it returns false'. Refute it at one input. -/
def incomeTurns2Wrong : ChangeSpec := { name := "incomeTurns2", fn := fun _ => fun
  | [d1, d2, d3] => { results := [.lit (.bool false)], args := [d1, d2, d3] }
  | _ => none }
def IncomeTurns2WrongFalsely : Prop := incomeTurns2Row.holds Try.pinned (OpenSpec.ofChange incomeTurns2Wrong)

/-- 'mantillalaw12.IncomeScript': WHATEVER THE INPUT: true; the input reads as it did. -/
def incomeScriptSpec : ChangeSpec := { name := "incomeScript", fn := fun _ => fun
  | [d1, d2] => { results := [.lit (.bool true)], args := [d1, d2] }
  | _ => none }
def incomeScriptRow : OpenClaim := { program := "ytlaomllgjiochaa", sum := "c0bf00132757000bff52790c624175103bf33304b82967ba54e30f8f7d993d53", func := "mantilla/mantillalaw12.IncomeScript", spec := "incomeScript", apart := false }
def IncomeScriptSaid : Prop := incomeScriptRow.holds Try.pinned (OpenSpec.ofChange incomeScriptSpec)

/-- ITS FALSE NEIGHBOUR: 'it returns false'. Refute it at one input. -/
def incomeScriptWrong : ChangeSpec := { name := "incomeScript", fn := fun _ => fun
  | [d1, d2] => { results := [.lit (.bool false)], args := [d1, d2] }
  | _ => none }
def IncomeScriptWrongFalsely : Prop := incomeScriptRow.holds Try.pinned (OpenSpec.ofChange incomeScriptWrong)

/-- 'mantillalaw12.IncomeAny': WHATEVER THE INPUT: true; the input reads as it did. -/
def incomeAnySpec : ChangeSpec := { name := "incomeAny", fn := fun _ => fun
  | [d1, d2, d3, d4] => { results := [.lit (.bool true)], args := [d1, d2, d3, d4] }
  | _ => none }
def incomeAnyRow : OpenClaim := { program := "ytlaomllgjiochaa", sum := "c0bf00132757000bff52790c624175103bf33304b82967ba54e30f8f7d993d53", func := "mantilla/mantillalaw12.IncomeAny", spec := "incomeAny", apart := false }
def IncomeAnySaid : Prop := incomeAnyRow.holds Try.pinned (OpenSpec.ofChange incomeAnySpec)

/-- ITS FALSE NEIGHBOUR: 'it returns false'. Refute it at one input. -/
def incomeAnyWrong : ChangeSpec := { name := "incomeAny", fn := fun _ => fun
  | [d1, d2, d3, d4] => { results := [.lit (.bool false)], args := [d1, d2, d3, d4] }
  | _ => none }
def IncomeAnyWrongFalsely : Prop := incomeAnyRow.holds Try.pinned (OpenSpec.ofChange incomeAnyWrong)

/-- 'mantillalaw12.IncomeGaps': WHATEVER THE INPUT: true; the input reads as it did. -/
def incomeGapsSpec : ChangeSpec := { name := "incomeGaps", fn := fun _ => fun
  | [d1, d2, d3] => { results := [.lit (.bool true)], args := [d1, d2, d3] }
  | _ => none }
def incomeGapsRow : OpenClaim := { program := "ytlaomllgjiochaa", sum := "c0bf00132757000bff52790c624175103bf33304b82967ba54e30f8f7d993d53", func := "mantilla/mantillalaw12.IncomeGaps", spec := "incomeGaps", apart := false }
def IncomeGapsSaid : Prop := incomeGapsRow.holds Try.pinned (OpenSpec.ofChange incomeGapsSpec)

/-- ITS FALSE NEIGHBOUR: 'it returns false'. Refute it at one input. -/
def incomeGapsWrong : ChangeSpec := { name := "incomeGaps", fn := fun _ => fun
  | [d1, d2, d3] => { results := [.lit (.bool false)], args := [d1, d2, d3] }
  | _ => none }
def IncomeGapsWrongFalsely : Prop := incomeGapsRow.holds Try.pinned (OpenSpec.ofChange incomeGapsWrong)

/-- 'mantillalaw12.IncomeTurned': WHATEVER THE INPUT: true; the input reads as it did. -/
def incomeTurnedSpec : ChangeSpec := { name := "incomeTurned", fn := fun _ => fun
  | [d1, d2, d3, d4] => { results := [.lit (.bool true)], args := [d1, d2, d3, d4] }
  | _ => none }
def incomeTurnedRow : OpenClaim := { program := "ytlaomllgjiochaa", sum := "c0bf00132757000bff52790c624175103bf33304b82967ba54e30f8f7d993d53", func := "mantilla/mantillalaw12.IncomeTurned", spec := "incomeTurned", apart := false }
def IncomeTurnedSaid : Prop := incomeTurnedRow.holds Try.pinned (OpenSpec.ofChange incomeTurnedSpec)

/-- ITS FALSE NEIGHBOUR: 'it returns false'. Refute it at one input. -/
def incomeTurnedWrong : ChangeSpec := { name := "incomeTurned", fn := fun _ => fun
  | [d1, d2, d3, d4] => { results := [.lit (.bool false)], args := [d1, d2, d3, d4] }
  | _ => none }
def IncomeTurnedWrongFalsely : Prop := incomeTurnedRow.holds Try.pinned (OpenSpec.ofChange incomeTurnedWrong)

/- THE SECOND FORM. 'bulk': how many values and letters a reading holds, each counted each time it is reached (what is shared counts as often as it is met; a slice's spare places count too). A statement '..UptoSaid' is the law's where the arguments, and the package variables that the reading takes, are together of bulk at most 1048576: NARROWER than '..Said'. Prove '..Said' where nothing that the law and all that it calls make is longer than what came in: it says more and counts as full. Else prove '..UptoSaid'. A law counts once. -/
mutual
def uptoBulk {H : Type} : DataW H → Nat
  | .lit (.string bytes) => bytes.length + 1
  | .lit _ => 1
  | .nil => 1
  | .ptr d => uptoBulk d + 1
  | .slice elems spare => uptoBulkAll elems + uptoBulkAll spare + 1
  | .agg parts => uptoBulkAll parts + 1
  | .iface _ d => uptoBulk d + 1
  | .map entries => uptoBulkEntries entries + 1
  | .held _ => 1
def uptoBulkAll {H : Type} : List (DataW H) → Nat
  | [] => 0
  | d :: r => uptoBulk d + uptoBulkAll r
def uptoBulkEntries {H : Type} : List (Lit × DataW H) → Nat
  | [] => 0
  | x :: r => uptoBulkEntry x + uptoBulkEntries r
def uptoBulkEntry {H : Type} : Lit × DataW H → Nat
  | (.string bytes, d) => bytes.length + uptoBulk d + 1
  | (_, d) => uptoBulk d + 1
 end
def uptoSmall : (H : Type) → List (DataW H) → Bool := fun _ ds => decide (uptoBulkAll ds ≤ 1048576)
def OpenSpec.upto (s : _root_.Go.ChangeSpec) : _root_.Go.OpenSpec := { _root_.Go.OpenSpec.ofChange s with cond := some uptoSmall }

/-- 'mantillalaw12.IncomeTurns2', WHERE WHAT IT READS IS OF BULK AT MOST 1048576: true; the input reads as it did. -/
def incomeTurns2UptoRow : OpenClaim := { program := "ytlaomllgjiochaa", sum := "c0bf00132757000bff52790c624175103bf33304b82967ba54e30f8f7d993d53", func := "mantilla/mantillalaw12.IncomeTurns2", spec := "incomeTurns2", apart := false, narrowed := true }
def IncomeTurns2UptoSaid : Prop := incomeTurns2UptoRow.holds Try.pinned (OpenSpec.upto incomeTurns2Spec)

/-- 'mantillalaw12.IncomeScript', WHERE WHAT IT READS IS OF BULK AT MOST 1048576: true; the input reads as it did. -/
def incomeScriptUptoRow : OpenClaim := { program := "ytlaomllgjiochaa", sum := "c0bf00132757000bff52790c624175103bf33304b82967ba54e30f8f7d993d53", func := "mantilla/mantillalaw12.IncomeScript", spec := "incomeScript", apart := false, narrowed := true }
def IncomeScriptUptoSaid : Prop := incomeScriptUptoRow.holds Try.pinned (OpenSpec.upto incomeScriptSpec)

/-- 'mantillalaw12.IncomeAny', WHERE WHAT IT READS IS OF BULK AT MOST 1048576: true; the input reads as it did. -/
def incomeAnyUptoRow : OpenClaim := { program := "ytlaomllgjiochaa", sum := "c0bf00132757000bff52790c624175103bf33304b82967ba54e30f8f7d993d53", func := "mantilla/mantillalaw12.IncomeAny", spec := "incomeAny", apart := false, narrowed := true }
def IncomeAnyUptoSaid : Prop := incomeAnyUptoRow.holds Try.pinned (OpenSpec.upto incomeAnySpec)

/-- 'mantillalaw12.IncomeGaps', WHERE WHAT IT READS IS OF BULK AT MOST 1048576: true; the input reads as it did. -/
def incomeGapsUptoRow : OpenClaim := { program := "ytlaomllgjiochaa", sum := "c0bf00132757000bff52790c624175103bf33304b82967ba54e30f8f7d993d53", func := "mantilla/mantillalaw12.IncomeGaps", spec := "incomeGaps", apart := false, narrowed := true }
def IncomeGapsUptoSaid : Prop := incomeGapsUptoRow.holds Try.pinned (OpenSpec.upto incomeGapsSpec)

/-- 'mantillalaw12.IncomeTurned', WHERE WHAT IT READS IS OF BULK AT MOST 1048576: true; the input reads as it did. -/
def incomeTurnedUptoRow : OpenClaim := { program := "ytlaomllgjiochaa", sum := "c0bf00132757000bff52790c624175103bf33304b82967ba54e30f8f7d993d53", func := "mantilla/mantillalaw12.IncomeTurned", spec := "incomeTurned", apart := false, narrowed := true }
def IncomeTurnedUptoSaid : Prop := incomeTurnedUptoRow.holds Try.pinned (OpenSpec.upto incomeTurnedSpec)

end Rows
end Go.Proofs.Ytlaomllgjiochaa
