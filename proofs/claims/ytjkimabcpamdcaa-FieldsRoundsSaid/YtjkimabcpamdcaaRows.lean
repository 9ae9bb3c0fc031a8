/-
  No cell of these rows narrows 'for every input' (looked for: loops, veiled, ifaces, maps, wideKeys, modest, calm, conditions, laid).
  DERIVED. THE GIVEN ROWS OF THIS SEAT. 4 by the template 'for every input the law returns true; each argument reads behind the call as it read before'; 0 by the template 'total and deterministic' (their statements: YtjkimabcpamdcaaTotals.lean).
  GIVEN WITH THE SEED: the statements are not yours to turn. If you find one false, say at which input.
  Laid BY PROGRAM, IN A SANDBOX (cutbox-rows.mjs): the forced cells as the released guide's own fill.sh prints them over the translation 5a414d4f258bcc7e… (all of the seat's roots in one cut). By AI agents, Wed Nov 11 2026. No macro, syntax, notation, axiom, sorry.
-/
import Derived.Test.YtjkimabcpamdcaaChecked
import GoSem.Claim
import GoSem.ClaimJoined
import GoSem.ClaimMapViews
import Derived.JoinedTies
import Derived.KernelRfl
namespace Go.Proofs.Ytjkimabcpamdcaa
/- THE CELL 'sum', in the pinned program and in every row, IS THE sha256 OF THE DUMP (.gsa) THAT YtjkimabcpamdcaaProg.lean LOADS. Nothing in Lean hashes anything: it is a label: what it is worth is what the hold of that sum in a sandbox is worth. -/
noncomputable def Try.pinned : Pinned := { name := "ytjkimabcpamdcaa", sum := "5a414d4f258bcc7e91dae266df3be783ec91430b76eaf15028b682b09074bab4", checked := Try.checked }
namespace Rows
def none {H : Type} : Left H := { results := [], args := [] }

/-- 'mantillalaw21.FieldsRounds': WHATEVER THE INPUT: true; the input reads as it did. -/
def fieldsRoundsSpec : ChangeSpec := { name := "fieldsRounds", fn := fun _ => fun
  | [d1, d2, d3] => { results := [.lit (.bool true)], args := [d1, d2, d3] }
  | _ => none }
def fieldsRoundsRow : OpenClaim := { program := "ytjkimabcpamdcaa", sum := "5a414d4f258bcc7e91dae266df3be783ec91430b76eaf15028b682b09074bab4", func := "mantilla/mantillalaw21.FieldsRounds", spec := "fieldsRounds", unfollowed := true, recurses := true, apart := false }
def FieldsRoundsSaid : Prop := fieldsRoundsRow.holds Try.pinned (OpenSpec.ofChange fieldsRoundsSpec)

/-- ITS FALSE NEIGHBOUR: 'it returns false'. Refute it at one input. -/
def fieldsRoundsWrong : ChangeSpec := { name := "fieldsRounds", fn := fun _ => fun
  | [d1, d2, d3] => { results := [.lit (.bool false)], args := [d1, d2, d3] }
  | _ => none }
def FieldsRoundsWrongFalsely : Prop := fieldsRoundsRow.holds Try.pinned (OpenSpec.ofChange fieldsRoundsWrong)

/-- 'mantillalaw21.FieldsForms': WHATEVER THE INPUT: true; the input reads as it did. -/
def fieldsFormsSpec : ChangeSpec := { name := "fieldsForms", fn := fun _ => fun
  | [d1, d2, d3] => { results := [.lit (.bool true)], args := [d1, d2, d3] }
  | _ => none }
def fieldsFormsRow : OpenClaim := { program := "ytjkimabcpamdcaa", sum := "5a414d4f258bcc7e91dae266df3be783ec91430b76eaf15028b682b09074bab4", func := "mantilla/mantillalaw21.FieldsForms", spec := "fieldsForms", unfollowed := true, recurses := true, apart := false }
def FieldsFormsSaid : Prop := fieldsFormsRow.holds Try.pinned (OpenSpec.ofChange fieldsFormsSpec)

/-- ITS FALSE NEIGHBOUR: 'it returns false'. Refute it at one input. -/
def fieldsFormsWrong : ChangeSpec := { name := "fieldsForms", fn := fun _ => fun
  | [d1, d2, d3] => { results := [.lit (.bool false)], args := [d1, d2, d3] }
  | _ => none }
def FieldsFormsWrongFalsely : Prop := fieldsFormsRow.holds Try.pinned (OpenSpec.ofChange fieldsFormsWrong)

/-- 'mantillalaw21.FieldsJoins': WHATEVER THE INPUT: true; the input reads as it did. -/
def fieldsJoinsSpec : ChangeSpec := { name := "fieldsJoins", fn := fun _ => fun
  | [d1, d2] => { results := [.lit (.bool true)], args := [d1, d2] }
  | _ => none }
def fieldsJoinsRow : OpenClaim := { program := "ytjkimabcpamdcaa", sum := "5a414d4f258bcc7e91dae266df3be783ec91430b76eaf15028b682b09074bab4", func := "mantilla/mantillalaw21.FieldsJoins", spec := "fieldsJoins", unfollowed := true, recurses := true, apart := false }
def FieldsJoinsSaid : Prop := fieldsJoinsRow.holds Try.pinned (OpenSpec.ofChange fieldsJoinsSpec)

/-- ITS FALSE NEIGHBOUR: 'it returns false'. Refute it at one input. -/
def fieldsJoinsWrong : ChangeSpec := { name := "fieldsJoins", fn := fun _ => fun
  | [d1, d2] => { results := [.lit (.bool false)], args := [d1, d2] }
  | _ => none }
def FieldsJoinsWrongFalsely : Prop := fieldsJoinsRow.holds Try.pinned (OpenSpec.ofChange fieldsJoinsWrong)

/-- 'mantillalaw21.FieldsCuts': WHATEVER THE INPUT: true; the input reads as it did. -/
def fieldsCutsSpec : ChangeSpec := { name := "fieldsCuts", fn := fun _ => fun
  | [d1, d2] => { results := [.lit (.bool true)], args := [d1, d2] }
  | _ => none }
def fieldsCutsRow : OpenClaim := { program := "ytjkimabcpamdcaa", sum := "5a414d4f258bcc7e91dae266df3be783ec91430b76eaf15028b682b09074bab4", func := "mantilla/mantillalaw21.FieldsCuts", spec := "fieldsCuts", unfollowed := true, recurses := true, apart := false }
def FieldsCutsSaid : Prop := fieldsCutsRow.holds Try.pinned (OpenSpec.ofChange fieldsCutsSpec)

/-- ITS FALSE NEIGHBOUR: 'it returns false'. Refute it at one input. -/
def fieldsCutsWrong : ChangeSpec := { name := "fieldsCuts", fn := fun _ => fun
  | [d1, d2] => { results := [.lit (.bool false)], args := [d1, d2] }
  | _ => none }
def FieldsCutsWrongFalsely : Prop := fieldsCutsRow.holds Try.pinned (OpenSpec.ofChange fieldsCutsWrong)

/- THE SECOND FORM. 'bulk': how many values and letters a reading holds, each counted each time it is reached (what is shared counts as often as it is met; a slice's spare places count too). A statement '..UptoSaid' is the law's where the arguments, and the package variables that the reading takes, are together of bulk at most 1048576: NARROWER than '..Said'. Prove '..Said' where nothing that the law and all that it calls make is longer than what came in: it says more and counts as full. Else prove '..UptoSaid'. A law counts once. -/
mutual
def uptoBulk {H : Type} : DataW H → Nat
  | .lit (.string bytes) => bytes.length + 1
  | .lit _ => 1
  | .nil => 1
  | .ptr d => uptoBulk d + 1
  | .slice elems spare => uptoBulkAll elems + uptoBulkAll spare + 1
  | .agg parts => uptoBulkAll parts + 1
  | .iface _ d => uptoBulk d + 1
  | .map entries => uptoBulkEntries entries + 1
  | .held _ => 1
def uptoBulkAll {H : Type} : List (DataW H) → Nat
  | [] => 0
  | d :: r => uptoBulk d + uptoBulkAll r
def uptoBulkEntries {H : Type} : List (Lit × DataW H) → Nat
  | [] => 0
  | x :: r => uptoBulkEntry x + uptoBulkEntries r
def uptoBulkEntry {H : Type} : Lit × DataW H → Nat
  | (.string bytes, d) => bytes.length + uptoBulk d + 1
  | (_, d) => uptoBulk d + 1
 end
def uptoSmall : (H : Type) → List (DataW H) → Bool := fun _ ds => decide (uptoBulkAll ds ≤ 1048576)
def OpenSpec.upto (s : _root_.Go.ChangeSpec) : _root_.Go.OpenSpec := { _root_.Go.OpenSpec.ofChange s with cond := some uptoSmall }

/-- 'mantillalaw21.FieldsRounds', WHERE WHAT IT READS IS OF BULK AT MOST 1048576: true; the input reads as it did. -/
def fieldsRoundsUptoRow : OpenClaim := { program := "ytjkimabcpamdcaa", sum := "5a414d4f258bcc7e91dae266df3be783ec91430b76eaf15028b682b09074bab4", func := "mantilla/mantillalaw21.FieldsRounds", spec := "fieldsRounds", unfollowed := true, recurses := true, apart := false, narrowed := true }
def FieldsRoundsUptoSaid : Prop := fieldsRoundsUptoRow.holds Try.pinned (OpenSpec.upto fieldsRoundsSpec)

/-- 'mantillalaw21.FieldsForms', WHERE WHAT IT READS IS OF BULK AT MOST 1048576: true; the input reads as it did. -/
def fieldsFormsUptoRow : OpenClaim := { program := "ytjkimabcpamdcaa", sum := "5a414d4f258bcc7e91dae266df3be783ec91430b76eaf15028b682b09074bab4", func := "mantilla/mantillalaw21.FieldsForms", spec := "fieldsForms", unfollowed := true, recurses := true, apart := false, narrowed := true }
def FieldsFormsUptoSaid : Prop := fieldsFormsUptoRow.holds Try.pinned (OpenSpec.upto fieldsFormsSpec)

/-- 'mantillalaw21.FieldsJoins', WHERE WHAT IT READS IS OF BULK AT MOST 1048576: true; the input reads as it did. -/
def fieldsJoinsUptoRow : OpenClaim := { program := "ytjkimabcpamdcaa", sum := "5a414d4f258bcc7e91dae266df3be783ec91430b76eaf15028b682b09074bab4", func := "mantilla/mantillalaw21.FieldsJoins", spec := "fieldsJoins", unfollowed := true, recurses := true, apart := false, narrowed := true }
def FieldsJoinsUptoSaid : Prop := fieldsJoinsUptoRow.holds Try.pinned (OpenSpec.upto fieldsJoinsSpec)

/-- 'mantillalaw21.FieldsCuts', WHERE WHAT IT READS IS OF BULK AT MOST 1048576: true; the input reads as it did. -/
def fieldsCutsUptoRow : OpenClaim := { program := "ytjkimabcpamdcaa", sum := "5a414d4f258bcc7e91dae266df3be783ec91430b76eaf15028b682b09074bab4", func := "mantilla/mantillalaw21.FieldsCuts", spec := "fieldsCuts", unfollowed := true, recurses := true, apart := false, narrowed := true }
def FieldsCutsUptoSaid : Prop := fieldsCutsUptoRow.holds Try.pinned (OpenSpec.upto fieldsCutsSpec)

end Rows
end Go.Proofs.Ytjkimabcpamdcaa
