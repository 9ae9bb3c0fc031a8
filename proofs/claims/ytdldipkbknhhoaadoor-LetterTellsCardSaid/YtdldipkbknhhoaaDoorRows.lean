/-
  NARROWER THAN 'FOR EVERY INPUT', by the rows' own cells (each row's printed sentence says how): LetterTells: laid · LetterReads: laid · LetterEdges: laid · LetterSame: laid.
  DERIVED. THE GIVEN ROWS OF THIS SEAT. 4 by the template 'for every input the law returns true; each argument reads behind the call as it read before'; 0 by the template 'total and deterministic' (their statements: YtdldipkbknhhoaaDoorTotals.lean).
  GIVEN WITH THE SEED: the statements are not yours to turn. If you find one false, say at which input.
  Laid BY PROGRAM, IN A SANDBOX (cutbox-rows.mjs): the forced cells as the released guide's own fill.sh prints them over the translation 77a794db27d86b14… (all of the seat's roots in one cut). By AI agents, Wed Nov 11 2026. No macro, syntax, notation, axiom, sorry.
-/
import Derived.Test.YtdldipkbknhhoaaDoorChecked
import GoSem.Claim
import GoSem.ClaimJoined
import GoSem.ClaimMapViews
import Derived.JoinedTies
import Derived.KernelRfl
namespace Go.Proofs.YtdldipkbknhhoaaDoor
/- THE CELL 'sum', in the pinned program and in every row, IS THE sha256 OF THE DUMP (.gsa) THAT YtdldipkbknhhoaaDoorProg.lean LOADS. Nothing in Lean hashes anything: it is a label: what it is worth is what the hold of that sum in a sandbox is worth. -/
noncomputable def Tryd.pinned : Pinned := { name := "ytdldipkbknhhoaadoor", sum := "77a794db27d86b142d651af9fdb611c7b0399bef7b12d8aedb630f3112b061a2", checked := Tryd.checked }
namespace Rows
def none {H : Type} : Left H := { results := [], args := [] }

/- WHAT THE LISTED PACKAGE-LEVEL VARIABLES READ AS WHEN THE CALL BEGINS. Each datum BY PROGRAM (the guide's laid-datum.mjs) off the statement by which the dump's own 'gosem.cut.vars' lays the variable. In a bare row this is a premise. The card (YtdldipkbknhhoaaDoorCards.lean) ties it to the program's text. -/
def laid_mantilla_letter_buckets {H : Type} : DataW H := .agg [.lit (.int .i64 256), .lit (.int .i64 512), .lit (.int .i64 1024)]

/-- 'mantillalaw22.LetterTells': WHATEVER THE INPUT: true; the input reads as it did. -/
def letterTellsSpec : ChangeSpec := { name := "letterTells", fn := fun _ => fun
  | [d1, d2] => { results := [.lit (.bool true)], args := [d1, d2] }
  | _ => none }
def letterTellsRow : OpenClaim := { program := "ytdldipkbknhhoaadoor", sum := "77a794db27d86b142d651af9fdb611c7b0399bef7b12d8aedb630f3112b061a2", func := "mantilla/mantillalaw22.LetterTells", spec := "letterTells", unfollowed := true, recurses := true, named := ["mantilla/letter.buckets"], apart := false, laid := [("mantilla/letter.buckets", laid_mantilla_letter_buckets)] }
def LetterTellsSaid : Prop := letterTellsRow.holds Tryd.pinned (OpenSpec.ofChange letterTellsSpec)

/-- ITS FALSE NEIGHBOUR: 'it returns false'. Refute it at one input. -/
def letterTellsWrong : ChangeSpec := { name := "letterTells", fn := fun _ => fun
  | [d1, d2] => { results := [.lit (.bool false)], args := [d1, d2] }
  | _ => none }
def LetterTellsWrongFalsely : Prop := letterTellsRow.holds Tryd.pinned (OpenSpec.ofChange letterTellsWrong)

/-- 'mantillalaw22.LetterReads': WHATEVER THE INPUT: true; the input reads as it did. -/
def letterReadsSpec : ChangeSpec := { name := "letterReads", fn := fun _ => fun
  | [d1, d2, d3, d4, d5] => { results := [.lit (.bool true)], args := [d1, d2, d3, d4, d5] }
  | _ => none }
def letterReadsRow : OpenClaim := { program := "ytdldipkbknhhoaadoor", sum := "77a794db27d86b142d651af9fdb611c7b0399bef7b12d8aedb630f3112b061a2", func := "mantilla/mantillalaw22.LetterReads", spec := "letterReads", unfollowed := true, recurses := true, named := ["mantilla/letter.buckets"], apart := false, laid := [("mantilla/letter.buckets", laid_mantilla_letter_buckets)] }
def LetterReadsSaid : Prop := letterReadsRow.holds Tryd.pinned (OpenSpec.ofChange letterReadsSpec)

/-- ITS FALSE NEIGHBOUR: 'it returns false'. Refute it at one input. -/
def letterReadsWrong : ChangeSpec := { name := "letterReads", fn := fun _ => fun
  | [d1, d2, d3, d4, d5] => { results := [.lit (.bool false)], args := [d1, d2, d3, d4, d5] }
  | _ => none }
def LetterReadsWrongFalsely : Prop := letterReadsRow.holds Tryd.pinned (OpenSpec.ofChange letterReadsWrong)

/-- 'mantillalaw22.LetterEdges': WHATEVER THE INPUT: true; the input reads as it did. -/
def letterEdgesSpec : ChangeSpec := { name := "letterEdges", fn := fun _ => fun
  | [d1, d2] => { results := [.lit (.bool true)], args := [d1, d2] }
  | _ => none }
def letterEdgesRow : OpenClaim := { program := "ytdldipkbknhhoaadoor", sum := "77a794db27d86b142d651af9fdb611c7b0399bef7b12d8aedb630f3112b061a2", func := "mantilla/mantillalaw22.LetterEdges", spec := "letterEdges", unfollowed := true, recurses := true, named := ["mantilla/letter.buckets"], apart := false, laid := [("mantilla/letter.buckets", laid_mantilla_letter_buckets)] }
def LetterEdgesSaid : Prop := letterEdgesRow.holds Tryd.pinned (OpenSpec.ofChange letterEdgesSpec)

/-- ITS FALSE NEIGHBOUR: 'it returns false'. Refute it at one input. -/
def letterEdgesWrong : ChangeSpec := { name := "letterEdges", fn := fun _ => fun
  | [d1, d2] => { results := [.lit (.bool false)], args := [d1, d2] }
  | _ => none }
def LetterEdgesWrongFalsely : Prop := letterEdgesRow.holds Tryd.pinned (OpenSpec.ofChange letterEdgesWrong)

/-- 'mantillalaw22.LetterSame': WHATEVER THE INPUT: true; the input reads as it did. -/
def letterSameSpec : ChangeSpec := { name := "letterSame", fn := fun _ => fun
  | [d1, d2] => { results := [.lit (.bool true)], args := [d1, d2] }
  | _ => none }
def letterSameRow : OpenClaim := { program := "ytdldipkbknhhoaadoor", sum := "77a794db27d86b142d651af9fdb611c7b0399bef7b12d8aedb630f3112b061a2", func := "mantilla/mantillalaw22.LetterSame", spec := "letterSame", unfollowed := true, recurses := true, named := ["mantilla/letter.buckets"], apart := false, laid := [("mantilla/letter.buckets", laid_mantilla_letter_buckets)] }
def LetterSameSaid : Prop := letterSameRow.holds Tryd.pinned (OpenSpec.ofChange letterSameSpec)

/-- ITS FALSE NEIGHBOUR: 'it returns false'. Refute it at one input. -/
def letterSameWrong : ChangeSpec := { name := "letterSame", fn := fun _ => fun
  | [d1, d2] => { results := [.lit (.bool false)], args := [d1, d2] }
  | _ => none }
def LetterSameWrongFalsely : Prop := letterSameRow.holds Tryd.pinned (OpenSpec.ofChange letterSameWrong)

/- THE SECOND FORM. 'bulk': how many values and letters a reading holds, each counted each time it is reached (what is shared counts as often as it is met; a slice's spare places count too). A statement '..UptoSaid' is the law's where the arguments, and the package variables that the reading takes, are together of bulk at most 1048576: NARROWER than '..Said'. Prove '..Said' where nothing that the law and all that it calls make is longer than what came in: it says more and counts as full. Else prove '..UptoSaid'. A law counts once. -/
mutual
def uptoBulk {H : Type} : DataW H → Nat
  | .lit (.string bytes) => bytes.length + 1
  | .lit _ => 1
  | .nil => 1
  | .ptr d => uptoBulk d + 1
  | .slice elems spare => uptoBulkAll elems + uptoBulkAll spare + 1
  | .agg parts => uptoBulkAll parts + 1
  | .iface _ d => uptoBulk d + 1
  | .map entries => uptoBulkEntries entries + 1
  | .held _ => 1
def uptoBulkAll {H : Type} : List (DataW H) → Nat
  | [] => 0
  | d :: r => uptoBulk d + uptoBulkAll r
def uptoBulkEntries {H : Type} : List (Lit × DataW H) → Nat
  | [] => 0
  | x :: r => uptoBulkEntry x + uptoBulkEntries r
def uptoBulkEntry {H : Type} : Lit × DataW H → Nat
  | (.string bytes, d) => bytes.length + uptoBulk d + 1
  | (_, d) => uptoBulk d + 1
 end
def uptoSmall : (H : Type) → List (DataW H) → Bool := fun _ ds => decide (uptoBulkAll ds ≤ 1048576)
def OpenSpec.upto (s : _root_.Go.ChangeSpec) : _root_.Go.OpenSpec := { _root_.Go.OpenSpec.ofChange s with cond := some uptoSmall }

/-- 'mantillalaw22.LetterTells', WHERE WHAT IT READS IS OF BULK AT MOST 1048576: true; the input reads as it did. -/
def letterTellsUptoRow : OpenClaim := { program := "ytdldipkbknhhoaadoor", sum := "77a794db27d86b142d651af9fdb611c7b0399bef7b12d8aedb630f3112b061a2", func := "mantilla/mantillalaw22.LetterTells", spec := "letterTells", unfollowed := true, recurses := true, named := ["mantilla/letter.buckets"], apart := false, laid := [("mantilla/letter.buckets", laid_mantilla_letter_buckets)], narrowed := true }
def LetterTellsUptoSaid : Prop := letterTellsUptoRow.holds Tryd.pinned (OpenSpec.upto letterTellsSpec)

/-- 'mantillalaw22.LetterReads', WHERE WHAT IT READS IS OF BULK AT MOST 1048576: true; the input reads as it did. -/
def letterReadsUptoRow : OpenClaim := { program := "ytdldipkbknhhoaadoor", sum := "77a794db27d86b142d651af9fdb611c7b0399bef7b12d8aedb630f3112b061a2", func := "mantilla/mantillalaw22.LetterReads", spec := "letterReads", unfollowed := true, recurses := true, named := ["mantilla/letter.buckets"], apart := false, laid := [("mantilla/letter.buckets", laid_mantilla_letter_buckets)], narrowed := true }
def LetterReadsUptoSaid : Prop := letterReadsUptoRow.holds Tryd.pinned (OpenSpec.upto letterReadsSpec)

/-- 'mantillalaw22.LetterEdges', WHERE WHAT IT READS IS OF BULK AT MOST 1048576: true; the input reads as it did. -/
def letterEdgesUptoRow : OpenClaim := { program := "ytdldipkbknhhoaadoor", sum := "77a794db27d86b142d651af9fdb611c7b0399bef7b12d8aedb630f3112b061a2", func := "mantilla/mantillalaw22.LetterEdges", spec := "letterEdges", unfollowed := true, recurses := true, named := ["mantilla/letter.buckets"], apart := false, laid := [("mantilla/letter.buckets", laid_mantilla_letter_buckets)], narrowed := true }
def LetterEdgesUptoSaid : Prop := letterEdgesUptoRow.holds Tryd.pinned (OpenSpec.upto letterEdgesSpec)

/-- 'mantillalaw22.LetterSame', WHERE WHAT IT READS IS OF BULK AT MOST 1048576: true; the input reads as it did. -/
def letterSameUptoRow : OpenClaim := { program := "ytdldipkbknhhoaadoor", sum := "77a794db27d86b142d651af9fdb611c7b0399bef7b12d8aedb630f3112b061a2", func := "mantilla/mantillalaw22.LetterSame", spec := "letterSame", unfollowed := true, recurses := true, named := ["mantilla/letter.buckets"], apart := false, laid := [("mantilla/letter.buckets", laid_mantilla_letter_buckets)], narrowed := true }
def LetterSameUptoSaid : Prop := letterSameUptoRow.holds Tryd.pinned (OpenSpec.upto letterSameSpec)

end Rows
end Go.Proofs.YtdldipkbknhhoaaDoor
