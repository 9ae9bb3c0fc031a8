/-
  No cell of these rows narrows 'for every input' (looked for: loops, veiled, ifaces, maps, wideKeys, modest, calm, conditions, laid).
  DERIVED. THE GIVEN ROWS OF THIS SEAT. 5 by the template 'for every input the law returns true; each argument reads behind the call as it read before'; 0 by the template 'total and deterministic' (their statements: YtljpboikjhckiaaTotals.lean).
  GIVEN WITH THE SEED: the statements are not yours to turn. If you find one false, say at which input.
  Laid BY PROGRAM, IN A SANDBOX (cutbox-rows.mjs): the forced cells as the released guide's own fill.sh prints them over the translation ea8ff3d4e795abcf… (all of the seat's roots in one cut). By AI agents, Wed Nov 11 2026. No macro, syntax, notation, axiom, sorry.
-/
import Derived.Test.YtljpboikjhckiaaChecked
import GoSem.Claim
import GoSem.ClaimJoined
import GoSem.ClaimMapViews
import Derived.JoinedTies
import Derived.KernelRfl
namespace Go.Proofs.Ytljpboikjhckiaa
/- THE CELL 'sum', in the pinned program and in every row, IS THE sha256 OF THE DUMP (.gsa) THAT YtljpboikjhckiaaProg.lean LOADS. Nothing in Lean hashes anything: it is a label: what it is worth is what the hold of that sum in a sandbox is worth. -/
noncomputable def Try.pinned : Pinned := { name := "ytljpboikjhckiaa", sum := "ea8ff3d4e795abcf762e0953b7be7a0d391701ec02fea3367f4f6dda2c350b5f", checked := Try.checked }
namespace Rows
def none {H : Type} : Left H := { results := [], args := [] }

/-- 'mantillalaw11.OutgoScript': WHATEVER THE INPUT: true; the input reads as it did. -/
def outgoScriptSpec : ChangeSpec := { name := "outgoScript", fn := fun _ => fun
  | [d1, d2] => { results := [.lit (.bool true)], args := [d1, d2] }
  | _ => none }
def outgoScriptRow : OpenClaim := { program := "ytljpboikjhckiaa", sum := "ea8ff3d4e795abcf762e0953b7be7a0d391701ec02fea3367f4f6dda2c350b5f", func := "mantilla/mantillalaw11.OutgoScript", spec := "outgoScript", apart := false }
def OutgoScriptSaid : Prop := outgoScriptRow.holds Try.pinned (OpenSpec.ofChange outgoScriptSpec)

/-- ITS FALSE NEIGHBOUR: 'it returns false'. Refute it at one input. -/
def outgoScriptWrong : ChangeSpec := { name := "outgoScript", fn := fun _ => fun
  | [d1, d2] => { results := [.lit (.bool false)], args := [d1, d2] }
  | _ => none }
def OutgoScriptWrongFalsely : Prop := outgoScriptRow.holds Try.pinned (OpenSpec.ofChange outgoScriptWrong)

/-- 'mantillalaw11.OutgoArrives': WHATEVER THE INPUT: true; the input reads as it did. -/
def outgoArrivesSpec : ChangeSpec := { name := "outgoArrives", fn := fun _ => fun
  | [d1, d2, d3] => { results := [.lit (.bool true)], args := [d1, d2, d3] }
  | _ => none }
def outgoArrivesRow : OpenClaim := { program := "ytljpboikjhckiaa", sum := "ea8ff3d4e795abcf762e0953b7be7a0d391701ec02fea3367f4f6dda2c350b5f", func := "mantilla/mantillalaw11.OutgoArrives", spec := "outgoArrives", apart := false }
def OutgoArrivesSaid : Prop := outgoArrivesRow.holds Try.pinned (OpenSpec.ofChange outgoArrivesSpec)

/-- ITS FALSE NEIGHBOUR: 'it returns false'. Refute it at one input. -/
def outgoArrivesWrong : ChangeSpec := { name := "outgoArrives", fn := fun _ => fun
  | [d1, d2, d3] => { results := [.lit (.bool false)], args := [d1, d2, d3] }
  | _ => none }
def OutgoArrivesWrongFalsely : Prop := outgoArrivesRow.holds Try.pinned (OpenSpec.ofChange outgoArrivesWrong)

/-- 'mantillalaw11.OutgoOrder': WHATEVER THE INPUT: true; the input reads as it did. -/
def outgoOrderSpec : ChangeSpec := { name := "outgoOrder", fn := fun _ => fun
  | [d1, d2, d3, d4] => { results := [.lit (.bool true)], args := [d1, d2, d3, d4] }
  | _ => none }
def outgoOrderRow : OpenClaim := { program := "ytljpboikjhckiaa", sum := "ea8ff3d4e795abcf762e0953b7be7a0d391701ec02fea3367f4f6dda2c350b5f", func := "mantilla/mantillalaw11.OutgoOrder", spec := "outgoOrder", apart := false }
def OutgoOrderSaid : Prop := outgoOrderRow.holds Try.pinned (OpenSpec.ofChange outgoOrderSpec)

/-- ITS FALSE NEIGHBOUR: 'it returns false'. Refute it at one input. -/
def outgoOrderWrong : ChangeSpec := { name := "outgoOrder", fn := fun _ => fun
  | [d1, d2, d3, d4] => { results := [.lit (.bool false)], args := [d1, d2, d3, d4] }
  | _ => none }
def OutgoOrderWrongFalsely : Prop := outgoOrderRow.holds Try.pinned (OpenSpec.ofChange outgoOrderWrong)

/-- 'mantillalaw11.OutgoPieces': WHATEVER THE INPUT: true; the input reads as it did. -/
def outgoPiecesSpec : ChangeSpec := { name := "outgoPieces", fn := fun _ => fun
  | [d1, d2, d3] => { results := [.lit (.bool true)], args := [d1, d2, d3] }
  | _ => none }
def outgoPiecesRow : OpenClaim := { program := "ytljpboikjhckiaa", sum := "ea8ff3d4e795abcf762e0953b7be7a0d391701ec02fea3367f4f6dda2c350b5f", func := "mantilla/mantillalaw11.OutgoPieces", spec := "outgoPieces", apart := false }
def OutgoPiecesSaid : Prop := outgoPiecesRow.holds Try.pinned (OpenSpec.ofChange outgoPiecesSpec)

/-- ITS FALSE NEIGHBOUR: 'it returns false'. Refute it at one input. -/
def outgoPiecesWrong : ChangeSpec := { name := "outgoPieces", fn := fun _ => fun
  | [d1, d2, d3] => { results := [.lit (.bool false)], args := [d1, d2, d3] }
  | _ => none }
def OutgoPiecesWrongFalsely : Prop := outgoPiecesRow.holds Try.pinned (OpenSpec.ofChange outgoPiecesWrong)

/-- 'mantillalaw11.OutgoAllows': WHATEVER THE INPUT: true; the input reads as it did. -/
def outgoAllowsSpec : ChangeSpec := { name := "outgoAllows", fn := fun _ => fun
  | [d1, d2] => { results := [.lit (.bool true)], args := [d1, d2] }
  | _ => none }
def outgoAllowsRow : OpenClaim := { program := "ytljpboikjhckiaa", sum := "ea8ff3d4e795abcf762e0953b7be7a0d391701ec02fea3367f4f6dda2c350b5f", func := "mantilla/mantillalaw11.OutgoAllows", spec := "outgoAllows", apart := false }
def OutgoAllowsSaid : Prop := outgoAllowsRow.holds Try.pinned (OpenSpec.ofChange outgoAllowsSpec)

/-- ITS FALSE NEIGHBOUR: 'it returns false'. Refute it at one input. -/
def outgoAllowsWrong : ChangeSpec := { name := "outgoAllows", fn := fun _ => fun
  | [d1, d2] => { results := [.lit (.bool false)], args := [d1, d2] }
  | _ => none }
def OutgoAllowsWrongFalsely : Prop := outgoAllowsRow.holds Try.pinned (OpenSpec.ofChange outgoAllowsWrong)

/- THE SECOND FORM. 'bulk': how many values and letters a reading holds, each counted each time it is reached (what is shared counts as often as it is met; a slice's spare places count too). A statement '..UptoSaid' is the law's where the arguments, and the package variables that the reading takes, are together of bulk at most 1048576: NARROWER than '..Said'. Prove '..Said' where nothing that the law and all that it calls make is longer than what came in: it says more and counts as full. Else prove '..UptoSaid'. A law counts once. -/
mutual
def uptoBulk {H : Type} : DataW H → Nat
  | .lit (.string bytes) => bytes.length + 1
  | .lit _ => 1
  | .nil => 1
  | .ptr d => uptoBulk d + 1
  | .slice elems spare => uptoBulkAll elems + uptoBulkAll spare + 1
  | .agg parts => uptoBulkAll parts + 1
  | .iface _ d => uptoBulk d + 1
  | .map entries => uptoBulkEntries entries + 1
  | .held _ => 1
def uptoBulkAll {H : Type} : List (DataW H) → Nat
  | [] => 0
  | d :: r => uptoBulk d + uptoBulkAll r
def uptoBulkEntries {H : Type} : List (Lit × DataW H) → Nat
  | [] => 0
  | x :: r => uptoBulkEntry x + uptoBulkEntries r
def uptoBulkEntry {H : Type} : Lit × DataW H → Nat
  | (.string bytes, d) => bytes.length + uptoBulk d + 1
  | (_, d) => uptoBulk d + 1
 end
def uptoSmall : (H : Type) → List (DataW H) → Bool := fun _ ds => decide (uptoBulkAll ds ≤ 1048576)
def OpenSpec.upto (s : _root_.Go.ChangeSpec) : _root_.Go.OpenSpec := { _root_.Go.OpenSpec.ofChange s with cond := some uptoSmall }

/-- 'mantillalaw11.OutgoScript', WHERE WHAT IT READS IS OF BULK AT MOST 1048576: true; the input reads as it did. -/
def outgoScriptUptoRow : OpenClaim := { program := "ytljpboikjhckiaa", sum := "ea8ff3d4e795abcf762e0953b7be7a0d391701ec02fea3367f4f6dda2c350b5f", func := "mantilla/mantillalaw11.OutgoScript", spec := "outgoScript", apart := false, narrowed := true }
def OutgoScriptUptoSaid : Prop := outgoScriptUptoRow.holds Try.pinned (OpenSpec.upto outgoScriptSpec)

/-- 'mantillalaw11.OutgoArrives', WHERE WHAT IT READS IS OF BULK AT MOST 1048576: true; the input reads as it did. -/
def outgoArrivesUptoRow : OpenClaim := { program := "ytljpboikjhckiaa", sum := "ea8ff3d4e795abcf762e0953b7be7a0d391701ec02fea3367f4f6dda2c350b5f", func := "mantilla/mantillalaw11.OutgoArrives", spec := "outgoArrives", apart := false, narrowed := true }
def OutgoArrivesUptoSaid : Prop := outgoArrivesUptoRow.holds Try.pinned (OpenSpec.upto outgoArrivesSpec)

/-- 'mantillalaw11.OutgoOrder', WHERE WHAT IT READS IS OF BULK AT MOST 1048576: true; the input reads as it did. -/
def outgoOrderUptoRow : OpenClaim := { program := "ytljpboikjhckiaa", sum := "ea8ff3d4e795abcf762e0953b7be7a0d391701ec02fea3367f4f6dda2c350b5f", func := "mantilla/mantillalaw11.OutgoOrder", spec := "outgoOrder", apart := false, narrowed := true }
def OutgoOrderUptoSaid : Prop := outgoOrderUptoRow.holds Try.pinned (OpenSpec.upto outgoOrderSpec)

/-- 'mantillalaw11.OutgoPieces', WHERE WHAT IT READS IS OF BULK AT MOST 1048576: true; the input reads as it did. -/
def outgoPiecesUptoRow : OpenClaim := { program := "ytljpboikjhckiaa", sum := "ea8ff3d4e795abcf762e0953b7be7a0d391701ec02fea3367f4f6dda2c350b5f", func := "mantilla/mantillalaw11.OutgoPieces", spec := "outgoPieces", apart := false, narrowed := true }
def OutgoPiecesUptoSaid : Prop := outgoPiecesUptoRow.holds Try.pinned (OpenSpec.upto outgoPiecesSpec)

/-- 'mantillalaw11.OutgoAllows', WHERE WHAT IT READS IS OF BULK AT MOST 1048576: true; the input reads as it did. -/
def outgoAllowsUptoRow : OpenClaim := { program := "ytljpboikjhckiaa", sum := "ea8ff3d4e795abcf762e0953b7be7a0d391701ec02fea3367f4f6dda2c350b5f", func := "mantilla/mantillalaw11.OutgoAllows", spec := "outgoAllows", apart := false, narrowed := true }
def OutgoAllowsUptoSaid : Prop := outgoAllowsUptoRow.holds Try.pinned (OpenSpec.upto outgoAllowsSpec)

end Rows
end Go.Proofs.Ytljpboikjhckiaa
