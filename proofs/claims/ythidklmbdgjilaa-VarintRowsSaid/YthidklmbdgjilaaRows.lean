/-
  No cell of these rows narrows 'for every input' (looked for: loops, veiled, ifaces, maps, wideKeys, modest, calm, conditions, laid).
  DERIVED. THE GIVEN ROWS OF THIS SEAT. 5 by the template 'for every input the law returns true; each argument reads behind the call as it read before'; 0 by the template 'total and deterministic' (their statements: YthidklmbdgjilaaTotals.lean).
  GIVEN WITH THE SEED: the statements are not yours to turn. If you find one false, say at which input.
  Laid BY PROGRAM, IN A SANDBOX (cutbox-rows.mjs): the forced cells as the released guide's own fill.sh prints them over the translation 6574c3a2022a0da8… (all of the seat's roots in one cut). By AI agents, Wed Nov 11 2026. No macro, syntax, notation, axiom, sorry.
-/
import Derived.Test.YthidklmbdgjilaaChecked
import GoSem.Claim
import GoSem.ClaimJoined
import GoSem.ClaimMapViews
import Derived.JoinedTies
import Derived.KernelRfl
namespace Go.Proofs.Ythidklmbdgjilaa
/- THE CELL 'sum', in the pinned program and in every row, IS THE sha256 OF THE DUMP (.gsa) THAT YthidklmbdgjilaaProg.lean LOADS. Nothing in Lean hashes anything: it is a label: what it is worth is what the hold of that sum in a sandbox is worth. -/
noncomputable def Try.pinned : Pinned := { name := "ythidklmbdgjilaa", sum := "6574c3a2022a0da890f37acd20778396faa12c75da4eeb705338b6688c7233be", checked := Try.checked }
namespace Rows
def none {H : Type} : Left H := { results := [], args := [] }

/-- 'mantillalaw1.VarintTells': WHATEVER THE INPUT: true; the input reads as it did. -/
def varintTellsSpec : ChangeSpec := { name := "varintTells", fn := fun _ => fun
  | [d1, d2, d3] => { results := [.lit (.bool true)], args := [d1, d2, d3] }
  | _ => none }
def varintTellsRow : OpenClaim := { program := "ythidklmbdgjilaa", sum := "6574c3a2022a0da890f37acd20778396faa12c75da4eeb705338b6688c7233be", func := "mantilla/mantillalaw1.VarintTells", spec := "varintTells", apart := false }
def VarintTellsSaid : Prop := varintTellsRow.holds Try.pinned (OpenSpec.ofChange varintTellsSpec)

/-- ITS FALSE NEIGHBOUR: 'it returns false'. Refute it at one input. -/
def varintTellsWrong : ChangeSpec := { name := "varintTells", fn := fun _ => fun
  | [d1, d2, d3] => { results := [.lit (.bool false)], args := [d1, d2, d3] }
  | _ => none }
def VarintTellsWrongFalsely : Prop := varintTellsRow.holds Try.pinned (OpenSpec.ofChange varintTellsWrong)

/-- 'mantillalaw1.VarintRounds': WHATEVER THE INPUT: true; the input reads as it did. -/
def varintRoundsSpec : ChangeSpec := { name := "varintRounds", fn := fun _ => fun
  | [d1, d2, d3] => { results := [.lit (.bool true)], args := [d1, d2, d3] }
  | _ => none }
def varintRoundsRow : OpenClaim := { program := "ythidklmbdgjilaa", sum := "6574c3a2022a0da890f37acd20778396faa12c75da4eeb705338b6688c7233be", func := "mantilla/mantillalaw1.VarintRounds", spec := "varintRounds", apart := false }
def VarintRoundsSaid : Prop := varintRoundsRow.holds Try.pinned (OpenSpec.ofChange varintRoundsSpec)

/-- ITS FALSE NEIGHBOUR: 'it returns false'. Refute it at one input. -/
def varintRoundsWrong : ChangeSpec := { name := "varintRounds", fn := fun _ => fun
  | [d1, d2, d3] => { results := [.lit (.bool false)], args := [d1, d2, d3] }
  | _ => none }
def VarintRoundsWrongFalsely : Prop := varintRoundsRow.holds Try.pinned (OpenSpec.ofChange varintRoundsWrong)

/-- 'mantillalaw1.VarintOrder': WHATEVER THE INPUT: true; the input reads as it did. -/
def varintOrderSpec : ChangeSpec := { name := "varintOrder", fn := fun _ => fun
  | [d1, d2] => { results := [.lit (.bool true)], args := [d1, d2] }
  | _ => none }
def varintOrderRow : OpenClaim := { program := "ythidklmbdgjilaa", sum := "6574c3a2022a0da890f37acd20778396faa12c75da4eeb705338b6688c7233be", func := "mantilla/mantillalaw1.VarintOrder", spec := "varintOrder", apart := false }
def VarintOrderSaid : Prop := varintOrderRow.holds Try.pinned (OpenSpec.ofChange varintOrderSpec)

/-- ITS FALSE NEIGHBOUR: 'it returns false'. Refute it at one input. -/
def varintOrderWrong : ChangeSpec := { name := "varintOrder", fn := fun _ => fun
  | [d1, d2] => { results := [.lit (.bool false)], args := [d1, d2] }
  | _ => none }
def VarintOrderWrongFalsely : Prop := varintOrderRow.holds Try.pinned (OpenSpec.ofChange varintOrderWrong)

/-- 'mantillalaw1.VarintPads': WHATEVER THE INPUT: true; the input reads as it did. -/
def varintPadsSpec : ChangeSpec := { name := "varintPads", fn := fun _ => fun
  | [d1, d2, d3] => { results := [.lit (.bool true)], args := [d1, d2, d3] }
  | _ => none }
def varintPadsRow : OpenClaim := { program := "ythidklmbdgjilaa", sum := "6574c3a2022a0da890f37acd20778396faa12c75da4eeb705338b6688c7233be", func := "mantilla/mantillalaw1.VarintPads", spec := "varintPads", apart := false }
def VarintPadsSaid : Prop := varintPadsRow.holds Try.pinned (OpenSpec.ofChange varintPadsSpec)

/-- ITS FALSE NEIGHBOUR: 'it returns false'. Refute it at one input. -/
def varintPadsWrong : ChangeSpec := { name := "varintPads", fn := fun _ => fun
  | [d1, d2, d3] => { results := [.lit (.bool false)], args := [d1, d2, d3] }
  | _ => none }
def VarintPadsWrongFalsely : Prop := varintPadsRow.holds Try.pinned (OpenSpec.ofChange varintPadsWrong)

/-- 'mantillalaw1.VarintRows': WHATEVER THE INPUT: true; the input reads as it did. -/
def varintRowsSpec : ChangeSpec := { name := "varintRows", fn := fun _ => fun
  | [d] => { results := [.lit (.bool true)], args := [d] }
  | _ => none }
def varintRowsRow : OpenClaim := { program := "ythidklmbdgjilaa", sum := "6574c3a2022a0da890f37acd20778396faa12c75da4eeb705338b6688c7233be", func := "mantilla/mantillalaw1.VarintRows", spec := "varintRows", apart := false }
def VarintRowsSaid : Prop := varintRowsRow.holds Try.pinned (OpenSpec.ofChange varintRowsSpec)

/-- ITS FALSE NEIGHBOUR: 'it returns false'. Refute it at one input. -/
def varintRowsWrong : ChangeSpec := { name := "varintRows", fn := fun _ => fun
  | [d] => { results := [.lit (.bool false)], args := [d] }
  | _ => none }
def VarintRowsWrongFalsely : Prop := varintRowsRow.holds Try.pinned (OpenSpec.ofChange varintRowsWrong)

/- THE SECOND FORM. 'bulk': how many values and letters a reading holds, each counted each time it is reached (what is shared counts as often as it is met; a slice's spare places count too). A statement '..UptoSaid' is the law's where the arguments, and the package variables that the reading takes, are together of bulk at most 1048576: NARROWER than '..Said'. Prove '..Said' where nothing that the law and all that it calls make is longer than what came in: it says more and counts as full. Else prove '..UptoSaid'. A law counts once. -/
mutual
def uptoBulk {H : Type} : DataW H → Nat
  | .lit (.string bytes) => bytes.length + 1
  | .lit _ => 1
  | .nil => 1
  | .ptr d => uptoBulk d + 1
  | .slice elems spare => uptoBulkAll elems + uptoBulkAll spare + 1
  | .agg parts => uptoBulkAll parts + 1
  | .iface _ d => uptoBulk d + 1
  | .map entries => uptoBulkEntries entries + 1
  | .held _ => 1
def uptoBulkAll {H : Type} : List (DataW H) → Nat
  | [] => 0
  | d :: r => uptoBulk d + uptoBulkAll r
def uptoBulkEntries {H : Type} : List (Lit × DataW H) → Nat
  | [] => 0
  | x :: r => uptoBulkEntry x + uptoBulkEntries r
def uptoBulkEntry {H : Type} : Lit × DataW H → Nat
  | (.string bytes, d) => bytes.length + uptoBulk d + 1
  | (_, d) => uptoBulk d + 1
 end
def uptoSmall : (H : Type) → List (DataW H) → Bool := fun _ ds => decide (uptoBulkAll ds ≤ 1048576)
def OpenSpec.upto (s : _root_.Go.ChangeSpec) : _root_.Go.OpenSpec := { _root_.Go.OpenSpec.ofChange s with cond := some uptoSmall }

/-- 'mantillalaw1.VarintTells', WHERE WHAT IT READS IS OF BULK AT MOST 1048576: true; the input reads as it did. -/
def varintTellsUptoRow : OpenClaim := { program := "ythidklmbdgjilaa", sum := "6574c3a2022a0da890f37acd20778396faa12c75da4eeb705338b6688c7233be", func := "mantilla/mantillalaw1.VarintTells", spec := "varintTells", apart := false, narrowed := true }
def VarintTellsUptoSaid : Prop := varintTellsUptoRow.holds Try.pinned (OpenSpec.upto varintTellsSpec)

/-- 'mantillalaw1.VarintRounds', WHERE WHAT IT READS IS OF BULK AT MOST 1048576: true; the input reads as it did. -/
def varintRoundsUptoRow : OpenClaim := { program := "ythidklmbdgjilaa", sum := "6574c3a2022a0da890f37acd20778396faa12c75da4eeb705338b6688c7233be", func := "mantilla/mantillalaw1.VarintRounds", spec := "varintRounds", apart := false, narrowed := true }
def VarintRoundsUptoSaid : Prop := varintRoundsUptoRow.holds Try.pinned (OpenSpec.upto varintRoundsSpec)

/-- 'mantillalaw1.VarintOrder', WHERE WHAT IT READS IS OF BULK AT MOST 1048576: true; the input reads as it did. -/
def varintOrderUptoRow : OpenClaim := { program := "ythidklmbdgjilaa", sum := "6574c3a2022a0da890f37acd20778396faa12c75da4eeb705338b6688c7233be", func := "mantilla/mantillalaw1.VarintOrder", spec := "varintOrder", apart := false, narrowed := true }
def VarintOrderUptoSaid : Prop := varintOrderUptoRow.holds Try.pinned (OpenSpec.upto varintOrderSpec)

/-- 'mantillalaw1.VarintPads', WHERE WHAT IT READS IS OF BULK AT MOST 1048576: true; the input reads as it did. -/
def varintPadsUptoRow : OpenClaim := { program := "ythidklmbdgjilaa", sum := "6574c3a2022a0da890f37acd20778396faa12c75da4eeb705338b6688c7233be", func := "mantilla/mantillalaw1.VarintPads", spec := "varintPads", apart := false, narrowed := true }
def VarintPadsUptoSaid : Prop := varintPadsUptoRow.holds Try.pinned (OpenSpec.upto varintPadsSpec)

/-- 'mantillalaw1.VarintRows', WHERE WHAT IT READS IS OF BULK AT MOST 1048576: true; the input reads as it did. -/
def varintRowsUptoRow : OpenClaim := { program := "ythidklmbdgjilaa", sum := "6574c3a2022a0da890f37acd20778396faa12c75da4eeb705338b6688c7233be", func := "mantilla/mantillalaw1.VarintRows", spec := "varintRows", apart := false, narrowed := true }
def VarintRowsUptoSaid : Prop := varintRowsUptoRow.holds Try.pinned (OpenSpec.upto varintRowsSpec)

end Rows
end Go.Proofs.Ythidklmbdgjilaa
