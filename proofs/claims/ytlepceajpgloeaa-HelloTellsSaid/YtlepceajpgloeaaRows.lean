/-
  No cell of these rows narrows 'for every input' (looked for: loops, veiled, ifaces, maps, wideKeys, modest, calm, conditions, laid).
  DERIVED. THE GIVEN ROWS OF THIS SEAT. 5 by the template 'for every input the law returns true; each argument reads behind the call as it read before'; 0 by the template 'total and deterministic' (their statements: YtlepceajpgloeaaTotals.lean).
  GIVEN WITH THE SEED: the statements are not yours to turn. If you find one false, say at which input.
  Laid BY PROGRAM, IN A SANDBOX (cutbox-rows.mjs): the forced cells as the released guide's own fill.sh prints them over the translation bb5fb4d97f9d40f0… (all of the seat's roots in one cut). By AI agents, Wed Nov 11 2026. No macro, syntax, notation, axiom, sorry.
-/
import Derived.Test.YtlepceajpgloeaaChecked
import GoSem.Claim
import GoSem.ClaimJoined
import GoSem.ClaimMapViews
import Derived.JoinedTies
import Derived.KernelRfl
namespace Go.Proofs.Ytlepceajpgloeaa
/- THE CELL 'sum', in the pinned program and in every row, IS THE sha256 OF THE DUMP (.gsa) THAT YtlepceajpgloeaaProg.lean LOADS. Nothing in Lean hashes anything: it is a label: what it is worth is what the hold of that sum in a sandbox is worth. -/
noncomputable def Try.pinned : Pinned := { name := "ytlepceajpgloeaa", sum := "bb5fb4d97f9d40f0bfd9dc9c23348e873303f423fe7dc037efcfc3003ceff0b1", checked := Try.checked }
namespace Rows
def none {H : Type} : Left H := { results := [], args := [] }

/-- 'mantillalaw17.HelloTells': WHATEVER THE INPUT: true; the input reads as it did. -/
def helloTellsSpec : ChangeSpec := { name := "helloTells", fn := fun _ => fun
  | [d1, d2, d3, d4, d5] => { results := [.lit (.bool true)], args := [d1, d2, d3, d4, d5] }
  | _ => none }
def helloTellsRow : OpenClaim := { program := "ytlepceajpgloeaa", sum := "bb5fb4d97f9d40f0bfd9dc9c23348e873303f423fe7dc037efcfc3003ceff0b1", func := "mantilla/mantillalaw17.HelloTells", spec := "helloTells", apart := false }
def HelloTellsSaid : Prop := helloTellsRow.holds Try.pinned (OpenSpec.ofChange helloTellsSpec)

/-- ITS FALSE NEIGHBOUR: 'it returns false'. Refute it at one input. -/
def helloTellsWrong : ChangeSpec := { name := "helloTells", fn := fun _ => fun
  | [d1, d2, d3, d4, d5] => { results := [.lit (.bool false)], args := [d1, d2, d3, d4, d5] }
  | _ => none }
def HelloTellsWrongFalsely : Prop := helloTellsRow.holds Try.pinned (OpenSpec.ofChange helloTellsWrong)

/-- 'mantillalaw17.HelloTurned': WHATEVER THE INPUT: true; the input reads as it did. -/
def helloTurnedSpec : ChangeSpec := { name := "helloTurned", fn := fun _ => fun
  | [d1, d2, d3, d4, d5, d6] => { results := [.lit (.bool true)], args := [d1, d2, d3, d4, d5, d6] }
  | _ => none }
def helloTurnedRow : OpenClaim := { program := "ytlepceajpgloeaa", sum := "bb5fb4d97f9d40f0bfd9dc9c23348e873303f423fe7dc037efcfc3003ceff0b1", func := "mantilla/mantillalaw17.HelloTurned", spec := "helloTurned", apart := false }
def HelloTurnedSaid : Prop := helloTurnedRow.holds Try.pinned (OpenSpec.ofChange helloTurnedSpec)

/-- ITS FALSE NEIGHBOUR: 'it returns false'. Refute it at one input. -/
def helloTurnedWrong : ChangeSpec := { name := "helloTurned", fn := fun _ => fun
  | [d1, d2, d3, d4, d5, d6] => { results := [.lit (.bool false)], args := [d1, d2, d3, d4, d5, d6] }
  | _ => none }
def HelloTurnedWrongFalsely : Prop := helloTurnedRow.holds Try.pinned (OpenSpec.ofChange helloTurnedWrong)

/-- 'mantillalaw17.HelloRows': WHATEVER THE INPUT: true; the input reads as it did. -/
def helloRowsSpec : ChangeSpec := { name := "helloRows", fn := fun _ => fun
  | [d1, d2, d3, d4] => { results := [.lit (.bool true)], args := [d1, d2, d3, d4] }
  | _ => none }
def helloRowsRow : OpenClaim := { program := "ytlepceajpgloeaa", sum := "bb5fb4d97f9d40f0bfd9dc9c23348e873303f423fe7dc037efcfc3003ceff0b1", func := "mantilla/mantillalaw17.HelloRows", spec := "helloRows", apart := false }
def HelloRowsSaid : Prop := helloRowsRow.holds Try.pinned (OpenSpec.ofChange helloRowsSpec)

/-- ITS FALSE NEIGHBOUR: 'it returns false'. Refute it at one input. -/
def helloRowsWrong : ChangeSpec := { name := "helloRows", fn := fun _ => fun
  | [d1, d2, d3, d4] => { results := [.lit (.bool false)], args := [d1, d2, d3, d4] }
  | _ => none }
def HelloRowsWrongFalsely : Prop := helloRowsRow.holds Try.pinned (OpenSpec.ofChange helloRowsWrong)

/-- 'mantillalaw17.HelloJoins': WHATEVER THE INPUT: true; the input reads as it did. -/
def helloJoinsSpec : ChangeSpec := { name := "helloJoins", fn := fun _ => fun
  | [d1, d2, d3, d4, d5] => { results := [.lit (.bool true)], args := [d1, d2, d3, d4, d5] }
  | _ => none }
def helloJoinsRow : OpenClaim := { program := "ytlepceajpgloeaa", sum := "bb5fb4d97f9d40f0bfd9dc9c23348e873303f423fe7dc037efcfc3003ceff0b1", func := "mantilla/mantillalaw17.HelloJoins", spec := "helloJoins", apart := false }
def HelloJoinsSaid : Prop := helloJoinsRow.holds Try.pinned (OpenSpec.ofChange helloJoinsSpec)

/-- ITS FALSE NEIGHBOUR: 'it returns false'. Refute it at one input. -/
def helloJoinsWrong : ChangeSpec := { name := "helloJoins", fn := fun _ => fun
  | [d1, d2, d3, d4, d5] => { results := [.lit (.bool false)], args := [d1, d2, d3, d4, d5] }
  | _ => none }
def HelloJoinsWrongFalsely : Prop := helloJoinsRow.holds Try.pinned (OpenSpec.ofChange helloJoinsWrong)

/-- 'mantillalaw17.HelloCuts': WHATEVER THE INPUT: true; the input reads as it did. -/
def helloCutsSpec : ChangeSpec := { name := "helloCuts", fn := fun _ => fun
  | [d1, d2, d3, d4] => { results := [.lit (.bool true)], args := [d1, d2, d3, d4] }
  | _ => none }
def helloCutsRow : OpenClaim := { program := "ytlepceajpgloeaa", sum := "bb5fb4d97f9d40f0bfd9dc9c23348e873303f423fe7dc037efcfc3003ceff0b1", func := "mantilla/mantillalaw17.HelloCuts", spec := "helloCuts", apart := false }
def HelloCutsSaid : Prop := helloCutsRow.holds Try.pinned (OpenSpec.ofChange helloCutsSpec)

/-- ITS FALSE NEIGHBOUR: 'it returns false'. Refute it at one input. -/
def helloCutsWrong : ChangeSpec := { name := "helloCuts", fn := fun _ => fun
  | [d1, d2, d3, d4] => { results := [.lit (.bool false)], args := [d1, d2, d3, d4] }
  | _ => none }
def HelloCutsWrongFalsely : Prop := helloCutsRow.holds Try.pinned (OpenSpec.ofChange helloCutsWrong)

/- THE SECOND FORM. 'bulk': how many values and letters a reading holds, each counted each time it is reached (what is shared counts as often as it is met; a slice's spare places count too). A statement '..UptoSaid' is the law's where the arguments, and the package variables that the reading takes, are together of bulk at most 1048576: NARROWER than '..Said'. Prove '..Said' where nothing that the law and all that it calls make is longer than what came in: it says more and counts as full. Else prove '..UptoSaid'. A law counts once. -/
mutual
def uptoBulk {H : Type} : DataW H → Nat
  | .lit (.string bytes) => bytes.length + 1
  | .lit _ => 1
  | .nil => 1
  | .ptr d => uptoBulk d + 1
  | .slice elems spare => uptoBulkAll elems + uptoBulkAll spare + 1
  | .agg parts => uptoBulkAll parts + 1
  | .iface _ d => uptoBulk d + 1
  | .map entries => uptoBulkEntries entries + 1
  | .held _ => 1
def uptoBulkAll {H : Type} : List (DataW H) → Nat
  | [] => 0
  | d :: r => uptoBulk d + uptoBulkAll r
def uptoBulkEntries {H : Type} : List (Lit × DataW H) → Nat
  | [] => 0
  | x :: r => uptoBulkEntry x + uptoBulkEntries r
def uptoBulkEntry {H : Type} : Lit × DataW H → Nat
  | (.string bytes, d) => bytes.length + uptoBulk d + 1
  | (_, d) => uptoBulk d + 1
 end
def uptoSmall : (H : Type) → List (DataW H) → Bool := fun _ ds => decide (uptoBulkAll ds ≤ 1048576)
def OpenSpec.upto (s : _root_.Go.ChangeSpec) : _root_.Go.OpenSpec := { _root_.Go.OpenSpec.ofChange s with cond := some uptoSmall }

/-- 'mantillalaw17.HelloTells', WHERE WHAT IT READS IS OF BULK AT MOST 1048576: true; the input reads as it did. -/
def helloTellsUptoRow : OpenClaim := { program := "ytlepceajpgloeaa", sum := "bb5fb4d97f9d40f0bfd9dc9c23348e873303f423fe7dc037efcfc3003ceff0b1", func := "mantilla/mantillalaw17.HelloTells", spec := "helloTells", apart := false, narrowed := true }
def HelloTellsUptoSaid : Prop := helloTellsUptoRow.holds Try.pinned (OpenSpec.upto helloTellsSpec)

/-- 'mantillalaw17.HelloTurned', WHERE WHAT IT READS IS OF BULK AT MOST 1048576: true; the input reads as it did. -/
def helloTurnedUptoRow : OpenClaim := { program := "ytlepceajpgloeaa", sum := "bb5fb4d97f9d40f0bfd9dc9c23348e873303f423fe7dc037efcfc3003ceff0b1", func := "mantilla/mantillalaw17.HelloTurned", spec := "helloTurned", apart := false, narrowed := true }
def HelloTurnedUptoSaid : Prop := helloTurnedUptoRow.holds Try.pinned (OpenSpec.upto helloTurnedSpec)

/-- 'mantillalaw17.HelloRows', WHERE WHAT IT READS IS OF BULK AT MOST 1048576: true; the input reads as it did. -/
def helloRowsUptoRow : OpenClaim := { program := "ytlepceajpgloeaa", sum := "bb5fb4d97f9d40f0bfd9dc9c23348e873303f423fe7dc037efcfc3003ceff0b1", func := "mantilla/mantillalaw17.HelloRows", spec := "helloRows", apart := false, narrowed := true }
def HelloRowsUptoSaid : Prop := helloRowsUptoRow.holds Try.pinned (OpenSpec.upto helloRowsSpec)

/-- 'mantillalaw17.HelloJoins', WHERE WHAT IT READS IS OF BULK AT MOST 1048576: true; the input reads as it did. -/
def helloJoinsUptoRow : OpenClaim := { program := "ytlepceajpgloeaa", sum := "bb5fb4d97f9d40f0bfd9dc9c23348e873303f423fe7dc037efcfc3003ceff0b1", func := "mantilla/mantillalaw17.HelloJoins", spec := "helloJoins", apart := false, narrowed := true }
def HelloJoinsUptoSaid : Prop := helloJoinsUptoRow.holds Try.pinned (OpenSpec.upto helloJoinsSpec)

/-- 'mantillalaw17.HelloCuts', WHERE WHAT IT READS IS OF BULK AT MOST 1048576: true; the input reads as it did. -/
def helloCutsUptoRow : OpenClaim := { program := "ytlepceajpgloeaa", sum := "bb5fb4d97f9d40f0bfd9dc9c23348e873303f423fe7dc037efcfc3003ceff0b1", func := "mantilla/mantillalaw17.HelloCuts", spec := "helloCuts", apart := false, narrowed := true }
def HelloCutsUptoSaid : Prop := helloCutsUptoRow.holds Try.pinned (OpenSpec.upto helloCutsSpec)

end Rows
end Go.Proofs.Ytlepceajpgloeaa
