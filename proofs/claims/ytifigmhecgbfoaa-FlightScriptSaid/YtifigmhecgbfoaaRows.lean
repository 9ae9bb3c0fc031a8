/-
  No cell of these rows narrows 'for every input' (looked for: loops, veiled, ifaces, maps, wideKeys, modest, calm, conditions, laid).
  DERIVED. THE GIVEN ROWS OF THIS SEAT. 5 by the template 'for every input the law returns true; each argument reads behind the call as it read before'; 0 by the template 'total and deterministic' (their statements: YtifigmhecgbfoaaTotals.lean).
  GIVEN WITH THE SEED: the statements are not yours to turn. If you find one false, say at which input.
  Laid BY PROGRAM, IN A SANDBOX (cutbox-rows.mjs): the forced cells as the released guide's own fill.sh prints them over the translation d8d767b5bd9df5cd… (all of the seat's roots in one cut). By AI agents, Wed Nov 11 2026. No macro, syntax, notation, axiom, sorry.
-/
import Derived.Test.YtifigmhecgbfoaaChecked
import GoSem.Claim
import GoSem.ClaimJoined
import GoSem.ClaimMapViews
import Derived.JoinedTies
import Derived.KernelRfl
namespace Go.Proofs.Ytifigmhecgbfoaa
/- THE CELL 'sum', in the pinned program and in every row, IS THE sha256 OF THE DUMP (.gsa) THAT YtifigmhecgbfoaaProg.lean LOADS. Nothing in Lean hashes anything: it is a label: what it is worth is what the hold of that sum in a sandbox is worth. -/
noncomputable def Try.pinned : Pinned := { name := "ytifigmhecgbfoaa", sum := "d8d767b5bd9df5cd3968468a741bf46e41ec7d5b86672a85da39bb9bce17a190", checked := Try.checked }
namespace Rows
def none {H : Type} : Left H := { results := [], args := [] }

/-- 'mantillalaw15.FlightLate': WHATEVER THE INPUT: true; the input reads as it did. -/
def flightLateSpec : ChangeSpec := { name := "flightLate", fn := fun _ => fun
  | [d1, d2, d3, d4] => { results := [.lit (.bool true)], args := [d1, d2, d3, d4] }
  | _ => none }
def flightLateRow : OpenClaim := { program := "ytifigmhecgbfoaa", sum := "d8d767b5bd9df5cd3968468a741bf46e41ec7d5b86672a85da39bb9bce17a190", func := "mantilla/mantillalaw15.FlightLate", spec := "flightLate", unfollowed := true, recurses := true, apart := false }
def FlightLateSaid : Prop := flightLateRow.holds Try.pinned (OpenSpec.ofChange flightLateSpec)

/-- ITS FALSE NEIGHBOUR: 'it returns false'. Refute it at one input. -/
def flightLateWrong : ChangeSpec := { name := "flightLate", fn := fun _ => fun
  | [d1, d2, d3, d4] => { results := [.lit (.bool false)], args := [d1, d2, d3, d4] }
  | _ => none }
def FlightLateWrongFalsely : Prop := flightLateRow.holds Try.pinned (OpenSpec.ofChange flightLateWrong)

/-- 'mantillalaw15.FlightGaps': WHATEVER THE INPUT: true; the input reads as it did. -/
def flightGapsSpec : ChangeSpec := { name := "flightGaps", fn := fun _ => fun
  | [d1, d2] => { results := [.lit (.bool true)], args := [d1, d2] }
  | _ => none }
def flightGapsRow : OpenClaim := { program := "ytifigmhecgbfoaa", sum := "d8d767b5bd9df5cd3968468a741bf46e41ec7d5b86672a85da39bb9bce17a190", func := "mantilla/mantillalaw15.FlightGaps", spec := "flightGaps", unfollowed := true, recurses := true, apart := false }
def FlightGapsSaid : Prop := flightGapsRow.holds Try.pinned (OpenSpec.ofChange flightGapsSpec)

/-- ITS FALSE NEIGHBOUR: 'it returns false'. Refute it at one input. -/
def flightGapsWrong : ChangeSpec := { name := "flightGaps", fn := fun _ => fun
  | [d1, d2] => { results := [.lit (.bool false)], args := [d1, d2] }
  | _ => none }
def FlightGapsWrongFalsely : Prop := flightGapsRow.holds Try.pinned (OpenSpec.ofChange flightGapsWrong)

/-- 'mantillalaw15.FlightScript': WHATEVER THE INPUT: true; the input reads as it did. -/
def flightScriptSpec : ChangeSpec := { name := "flightScript", fn := fun _ => fun
  | [d] => { results := [.lit (.bool true)], args := [d] }
  | _ => none }
def flightScriptRow : OpenClaim := { program := "ytifigmhecgbfoaa", sum := "d8d767b5bd9df5cd3968468a741bf46e41ec7d5b86672a85da39bb9bce17a190", func := "mantilla/mantillalaw15.FlightScript", spec := "flightScript", unfollowed := true, recurses := true, apart := false }
def FlightScriptSaid : Prop := flightScriptRow.holds Try.pinned (OpenSpec.ofChange flightScriptSpec)

/-- ITS FALSE NEIGHBOUR: 'it returns false'. Refute it at one input. -/
def flightScriptWrong : ChangeSpec := { name := "flightScript", fn := fun _ => fun
  | [d] => { results := [.lit (.bool false)], args := [d] }
  | _ => none }
def FlightScriptWrongFalsely : Prop := flightScriptRow.holds Try.pinned (OpenSpec.ofChange flightScriptWrong)

/-- 'mantillalaw15.FlightOnce': WHATEVER THE INPUT: true; the input reads as it did. -/
def flightOnceSpec : ChangeSpec := { name := "flightOnce", fn := fun _ => fun
  | [d1, d2, d3] => { results := [.lit (.bool true)], args := [d1, d2, d3] }
  | _ => none }
def flightOnceRow : OpenClaim := { program := "ytifigmhecgbfoaa", sum := "d8d767b5bd9df5cd3968468a741bf46e41ec7d5b86672a85da39bb9bce17a190", func := "mantilla/mantillalaw15.FlightOnce", spec := "flightOnce", unfollowed := true, recurses := true, apart := false }
def FlightOnceSaid : Prop := flightOnceRow.holds Try.pinned (OpenSpec.ofChange flightOnceSpec)

/-- ITS FALSE NEIGHBOUR: 'it returns false'. Refute it at one input. -/
def flightOnceWrong : ChangeSpec := { name := "flightOnce", fn := fun _ => fun
  | [d1, d2, d3] => { results := [.lit (.bool false)], args := [d1, d2, d3] }
  | _ => none }
def FlightOnceWrongFalsely : Prop := flightOnceRow.holds Try.pinned (OpenSpec.ofChange flightOnceWrong)

/-- 'mantillalaw15.FlightEach': WHATEVER THE INPUT: true; the input reads as it did. -/
def flightEachSpec : ChangeSpec := { name := "flightEach", fn := fun _ => fun
  | [d1, d2] => { results := [.lit (.bool true)], args := [d1, d2] }
  | _ => none }
def flightEachRow : OpenClaim := { program := "ytifigmhecgbfoaa", sum := "d8d767b5bd9df5cd3968468a741bf46e41ec7d5b86672a85da39bb9bce17a190", func := "mantilla/mantillalaw15.FlightEach", spec := "flightEach", unfollowed := true, recurses := true, apart := false }
def FlightEachSaid : Prop := flightEachRow.holds Try.pinned (OpenSpec.ofChange flightEachSpec)

/-- ITS FALSE NEIGHBOUR: 'it returns false'. Refute it at one input. -/
def flightEachWrong : ChangeSpec := { name := "flightEach", fn := fun _ => fun
  | [d1, d2] => { results := [.lit (.bool false)], args := [d1, d2] }
  | _ => none }
def FlightEachWrongFalsely : Prop := flightEachRow.holds Try.pinned (OpenSpec.ofChange flightEachWrong)

/- THE SECOND FORM. 'bulk': how many values and letters a reading holds, each counted each time it is reached (what is shared counts as often as it is met; a slice's spare places count too). A statement '..UptoSaid' is the law's where the arguments, and the package variables that the reading takes, are together of bulk at most 1048576: NARROWER than '..Said'. Prove '..Said' where nothing that the law and all that it calls make is longer than what came in: it says more and counts as full. Else prove '..UptoSaid'. A law counts once. -/
mutual
def uptoBulk {H : Type} : DataW H → Nat
  | .lit (.string bytes) => bytes.length + 1
  | .lit _ => 1
  | .nil => 1
  | .ptr d => uptoBulk d + 1
  | .slice elems spare => uptoBulkAll elems + uptoBulkAll spare + 1
  | .agg parts => uptoBulkAll parts + 1
  | .iface _ d => uptoBulk d + 1
  | .map entries => uptoBulkEntries entries + 1
  | .held _ => 1
def uptoBulkAll {H : Type} : List (DataW H) → Nat
  | [] => 0
  | d :: r => uptoBulk d + uptoBulkAll r
def uptoBulkEntries {H : Type} : List (Lit × DataW H) → Nat
  | [] => 0
  | x :: r => uptoBulkEntry x + uptoBulkEntries r
def uptoBulkEntry {H : Type} : Lit × DataW H → Nat
  | (.string bytes, d) => bytes.length + uptoBulk d + 1
  | (_, d) => uptoBulk d + 1
 end
def uptoSmall : (H : Type) → List (DataW H) → Bool := fun _ ds => decide (uptoBulkAll ds ≤ 1048576)
def OpenSpec.upto (s : _root_.Go.ChangeSpec) : _root_.Go.OpenSpec := { _root_.Go.OpenSpec.ofChange s with cond := some uptoSmall }

/-- 'mantillalaw15.FlightLate', WHERE WHAT IT READS IS OF BULK AT MOST 1048576: true; the input reads as it did. -/
def flightLateUptoRow : OpenClaim := { program := "ytifigmhecgbfoaa", sum := "d8d767b5bd9df5cd3968468a741bf46e41ec7d5b86672a85da39bb9bce17a190", func := "mantilla/mantillalaw15.FlightLate", spec := "flightLate", unfollowed := true, recurses := true, apart := false, narrowed := true }
def FlightLateUptoSaid : Prop := flightLateUptoRow.holds Try.pinned (OpenSpec.upto flightLateSpec)

/-- 'mantillalaw15.FlightGaps', WHERE WHAT IT READS IS OF BULK AT MOST 1048576: true; the input reads as it did. -/
def flightGapsUptoRow : OpenClaim := { program := "ytifigmhecgbfoaa", sum := "d8d767b5bd9df5cd3968468a741bf46e41ec7d5b86672a85da39bb9bce17a190", func := "mantilla/mantillalaw15.FlightGaps", spec := "flightGaps", unfollowed := true, recurses := true, apart := false, narrowed := true }
def FlightGapsUptoSaid : Prop := flightGapsUptoRow.holds Try.pinned (OpenSpec.upto flightGapsSpec)

/-- 'mantillalaw15.FlightScript', WHERE WHAT IT READS IS OF BULK AT MOST 1048576: true; the input reads as it did. -/
def flightScriptUptoRow : OpenClaim := { program := "ytifigmhecgbfoaa", sum := "d8d767b5bd9df5cd3968468a741bf46e41ec7d5b86672a85da39bb9bce17a190", func := "mantilla/mantillalaw15.FlightScript", spec := "flightScript", unfollowed := true, recurses := true, apart := false, narrowed := true }
def FlightScriptUptoSaid : Prop := flightScriptUptoRow.holds Try.pinned (OpenSpec.upto flightScriptSpec)

/-- 'mantillalaw15.FlightOnce', WHERE WHAT IT READS IS OF BULK AT MOST 1048576: true; the input reads as it did. -/
def flightOnceUptoRow : OpenClaim := { program := "ytifigmhecgbfoaa", sum := "d8d767b5bd9df5cd3968468a741bf46e41ec7d5b86672a85da39bb9bce17a190", func := "mantilla/mantillalaw15.FlightOnce", spec := "flightOnce", unfollowed := true, recurses := true, apart := false, narrowed := true }
def FlightOnceUptoSaid : Prop := flightOnceUptoRow.holds Try.pinned (OpenSpec.upto flightOnceSpec)

/-- 'mantillalaw15.FlightEach', WHERE WHAT IT READS IS OF BULK AT MOST 1048576: true; the input reads as it did. -/
def flightEachUptoRow : OpenClaim := { program := "ytifigmhecgbfoaa", sum := "d8d767b5bd9df5cd3968468a741bf46e41ec7d5b86672a85da39bb9bce17a190", func := "mantilla/mantillalaw15.FlightEach", spec := "flightEach", unfollowed := true, recurses := true, apart := false, narrowed := true }
def FlightEachUptoSaid : Prop := flightEachUptoRow.holds Try.pinned (OpenSpec.upto flightEachSpec)

end Rows
end Go.Proofs.Ytifigmhecgbfoaa
