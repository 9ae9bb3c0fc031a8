/-
  No cell of these rows narrows 'for every input' (looked for: loops, veiled, ifaces, maps, wideKeys, modest, calm, conditions, laid).
  DERIVED. THE GIVEN ROWS OF THIS SEAT. 4 by the template 'for every input the law returns true; each argument reads behind the call as it read before'; 0 by the template 'total and deterministic' (their statements: YteehabfangchmaaTotals.lean).
  GIVEN WITH THE SEED: the statements are not yours to turn. If you find one false, say at which input.
  Laid BY PROGRAM, IN A SANDBOX (cutbox-rows.mjs): the forced cells as the released guide's own fill.sh prints them over the translation f577bc4f87f92b56… (all of the seat's roots in one cut). By AI agents, Wed Nov 11 2026. No macro, syntax, notation, axiom, sorry.
-/
import Derived.Test.YteehabfangchmaaChecked
import GoSem.Claim
import GoSem.ClaimJoined
import GoSem.ClaimMapViews
import Derived.JoinedTies
import Derived.KernelRfl
namespace Go.Proofs.Yteehabfangchmaa
/- THE CELL 'sum', in the pinned program and in every row, IS THE sha256 OF THE DUMP (.gsa) THAT YteehabfangchmaaProg.lean LOADS. Nothing in Lean hashes anything: it is a label: what it is worth is what the hold of that sum in a sandbox is worth. -/
noncomputable def Try.pinned : Pinned := { name := "yteehabfangchmaa", sum := "f577bc4f87f92b5615922269a145915f715217c925ea217fc21478962947f32d", checked := Try.checked }
namespace Rows
def none {H : Type} : Left H := { results := [], args := [] }

/-- 'mantillalaw19.PrefixRounds': WHATEVER THE INPUT: true; the input reads as it did. -/
def prefixRoundsSpec : ChangeSpec := { name := "prefixRounds", fn := fun _ => fun
  | [d1, d2, d3, d4, d5] => { results := [.lit (.bool true)], args := [d1, d2, d3, d4, d5] }
  | _ => none }
def prefixRoundsRow : OpenClaim := { program := "yteehabfangchmaa", sum := "f577bc4f87f92b5615922269a145915f715217c925ea217fc21478962947f32d", func := "mantilla/mantillalaw19.PrefixRounds", spec := "prefixRounds", apart := false }
def PrefixRoundsSaid : Prop := prefixRoundsRow.holds Try.pinned (OpenSpec.ofChange prefixRoundsSpec)

/-- ITS FALSE NEIGHBOUR: 'it returns false'. Refute it at one input. -/
def prefixRoundsWrong : ChangeSpec := { name := "prefixRounds", fn := fun _ => fun
  | [d1, d2, d3, d4, d5] => { results := [.lit (.bool false)], args := [d1, d2, d3, d4, d5] }
  | _ => none }
def PrefixRoundsWrongFalsely : Prop := prefixRoundsRow.holds Try.pinned (OpenSpec.ofChange prefixRoundsWrong)

/-- 'mantillalaw19.PrefixSteps': WHATEVER THE INPUT: true; the input reads as it did. -/
def prefixStepsSpec : ChangeSpec := { name := "prefixSteps", fn := fun _ => fun
  | [d1, d2] => { results := [.lit (.bool true)], args := [d1, d2] }
  | _ => none }
def prefixStepsRow : OpenClaim := { program := "yteehabfangchmaa", sum := "f577bc4f87f92b5615922269a145915f715217c925ea217fc21478962947f32d", func := "mantilla/mantillalaw19.PrefixSteps", spec := "prefixSteps", apart := false }
def PrefixStepsSaid : Prop := prefixStepsRow.holds Try.pinned (OpenSpec.ofChange prefixStepsSpec)

/-- ITS FALSE NEIGHBOUR: 'it returns false'. Refute it at one input. -/
def prefixStepsWrong : ChangeSpec := { name := "prefixSteps", fn := fun _ => fun
  | [d1, d2] => { results := [.lit (.bool false)], args := [d1, d2] }
  | _ => none }
def PrefixStepsWrongFalsely : Prop := prefixStepsRow.holds Try.pinned (OpenSpec.ofChange prefixStepsWrong)

/-- 'mantillalaw19.PrefixBits': WHATEVER THE INPUT: true; the input reads as it did. -/
def prefixBitsSpec : ChangeSpec := { name := "prefixBits", fn := fun _ => fun
  | [d1, d2, d3, d4] => { results := [.lit (.bool true)], args := [d1, d2, d3, d4] }
  | _ => none }
def prefixBitsRow : OpenClaim := { program := "yteehabfangchmaa", sum := "f577bc4f87f92b5615922269a145915f715217c925ea217fc21478962947f32d", func := "mantilla/mantillalaw19.PrefixBits", spec := "prefixBits", apart := false }
def PrefixBitsSaid : Prop := prefixBitsRow.holds Try.pinned (OpenSpec.ofChange prefixBitsSpec)

/-- ITS FALSE NEIGHBOUR: 'it returns false'. Refute it at one input. -/
def prefixBitsWrong : ChangeSpec := { name := "prefixBits", fn := fun _ => fun
  | [d1, d2, d3, d4] => { results := [.lit (.bool false)], args := [d1, d2, d3, d4] }
  | _ => none }
def PrefixBitsWrongFalsely : Prop := prefixBitsRow.holds Try.pinned (OpenSpec.ofChange prefixBitsWrong)

/-- 'mantillalaw19.PrefixCuts': WHATEVER THE INPUT: true; the input reads as it did. -/
def prefixCutsSpec : ChangeSpec := { name := "prefixCuts", fn := fun _ => fun
  | [d1, d2, d3, d4] => { results := [.lit (.bool true)], args := [d1, d2, d3, d4] }
  | _ => none }
def prefixCutsRow : OpenClaim := { program := "yteehabfangchmaa", sum := "f577bc4f87f92b5615922269a145915f715217c925ea217fc21478962947f32d", func := "mantilla/mantillalaw19.PrefixCuts", spec := "prefixCuts", apart := false }
def PrefixCutsSaid : Prop := prefixCutsRow.holds Try.pinned (OpenSpec.ofChange prefixCutsSpec)

/-- ITS FALSE NEIGHBOUR: 'it returns false'. Refute it at one input. -/
def prefixCutsWrong : ChangeSpec := { name := "prefixCuts", fn := fun _ => fun
  | [d1, d2, d3, d4] => { results := [.lit (.bool false)], args := [d1, d2, d3, d4] }
  | _ => none }
def PrefixCutsWrongFalsely : Prop := prefixCutsRow.holds Try.pinned (OpenSpec.ofChange prefixCutsWrong)

/- THE SECOND FORM. 'bulk': how many values and letters a reading holds, each counted each time it is reached (what is shared counts as often as it is met; a slice's spare places count too). A statement '..UptoSaid' is the law's where the arguments, and the package variables that the reading takes, are together of bulk at most 1048576: NARROWER than '..Said'. Prove '..Said' where nothing that the law and all that it calls make is longer than what came in: it says more and counts as full. Else prove '..UptoSaid'. A law counts once. -/
mutual
def uptoBulk {H : Type} : DataW H → Nat
  | .lit (.string bytes) => bytes.length + 1
  | .lit _ => 1
  | .nil => 1
  | .ptr d => uptoBulk d + 1
  | .slice elems spare => uptoBulkAll elems + uptoBulkAll spare + 1
  | .agg parts => uptoBulkAll parts + 1
  | .iface _ d => uptoBulk d + 1
  | .map entries => uptoBulkEntries entries + 1
  | .held _ => 1
def uptoBulkAll {H : Type} : List (DataW H) → Nat
  | [] => 0
  | d :: r => uptoBulk d + uptoBulkAll r
def uptoBulkEntries {H : Type} : List (Lit × DataW H) → Nat
  | [] => 0
  | x :: r => uptoBulkEntry x + uptoBulkEntries r
def uptoBulkEntry {H : Type} : Lit × DataW H → Nat
  | (.string bytes, d) => bytes.length + uptoBulk d + 1
  | (_, d) => uptoBulk d + 1
 end
def uptoSmall : (H : Type) → List (DataW H) → Bool := fun _ ds => decide (uptoBulkAll ds ≤ 1048576)
def OpenSpec.upto (s : _root_.Go.ChangeSpec) : _root_.Go.OpenSpec := { _root_.Go.OpenSpec.ofChange s with cond := some uptoSmall }

/-- 'mantillalaw19.PrefixRounds', WHERE WHAT IT READS IS OF BULK AT MOST 1048576: true; the input reads as it did. -/
def prefixRoundsUptoRow : OpenClaim := { program := "yteehabfangchmaa", sum := "f577bc4f87f92b5615922269a145915f715217c925ea217fc21478962947f32d", func := "mantilla/mantillalaw19.PrefixRounds", spec := "prefixRounds", apart := false, narrowed := true }
def PrefixRoundsUptoSaid : Prop := prefixRoundsUptoRow.holds Try.pinned (OpenSpec.upto prefixRoundsSpec)

/-- 'mantillalaw19.PrefixSteps', WHERE WHAT IT READS IS OF BULK AT MOST 1048576: true; the input reads as it did. -/
def prefixStepsUptoRow : OpenClaim := { program := "yteehabfangchmaa", sum := "f577bc4f87f92b5615922269a145915f715217c925ea217fc21478962947f32d", func := "mantilla/mantillalaw19.PrefixSteps", spec := "prefixSteps", apart := false, narrowed := true }
def PrefixStepsUptoSaid : Prop := prefixStepsUptoRow.holds Try.pinned (OpenSpec.upto prefixStepsSpec)

/-- 'mantillalaw19.PrefixBits', WHERE WHAT IT READS IS OF BULK AT MOST 1048576: true; the input reads as it did. -/
def prefixBitsUptoRow : OpenClaim := { program := "yteehabfangchmaa", sum := "f577bc4f87f92b5615922269a145915f715217c925ea217fc21478962947f32d", func := "mantilla/mantillalaw19.PrefixBits", spec := "prefixBits", apart := false, narrowed := true }
def PrefixBitsUptoSaid : Prop := prefixBitsUptoRow.holds Try.pinned (OpenSpec.upto prefixBitsSpec)

/-- 'mantillalaw19.PrefixCuts', WHERE WHAT IT READS IS OF BULK AT MOST 1048576: true; the input reads as it did. -/
def prefixCutsUptoRow : OpenClaim := { program := "yteehabfangchmaa", sum := "f577bc4f87f92b5615922269a145915f715217c925ea217fc21478962947f32d", func := "mantilla/mantillalaw19.PrefixCuts", spec := "prefixCuts", apart := false, narrowed := true }
def PrefixCutsUptoSaid : Prop := prefixCutsUptoRow.holds Try.pinned (OpenSpec.upto prefixCutsSpec)

end Rows
end Go.Proofs.Yteehabfangchmaa
