/-
  DERIVED. GIVEN WITH THE SEED: THE CARDS: each row of YtdldipkbknhhoaaDoorRows.lean that lists a variable, with what it lists TIED to the program's text (the seventh form; the later family's looks); each row that meets fmt, with fmt's text TOLD by the authors' own Lean function (tested against real Go, not proved from fmt's source: count such statements apart). THE CARD IS WHAT COUNTS. Prove the row's statement (the work); the ties are given (YtdldipkbknhhoaaDoorTie.lean); close each card by the builder's one call (the guide's Derived/Test/ToyasCard.lean, 'card_holds'). Laid BY PROGRAM, IN A SANDBOX (cutbox-door.mjs). By AI agents, Wed Nov 11 2026. No macro, syntax, notation, axiom, sorry.
-/
import Derived.Test.YtdldipkbknhhoaaDoorRows
import GoSem.ClaimSeven
namespace Go.Proofs.YtdldipkbknhhoaaDoor
namespace Rows

/-- THE TIED CARD OF 'mantillalaw22.LetterTells'. -/
def letterTellsCard : Claim7 := { stood := { row := letterTellsRow, standIns := [], harness := (true, "6653848acb56f7c58fa38f46fbf2cd10606fcf9c9e1372d8d522e253f3f47d9c"), looks := false }, kinds := [], alts := [], laidByText := true, laidKinds := [.widerDeep], laidTests := true, laidLooks := .later }
def LetterTellsCardSaid : Prop := Claim7.holds Tryd.pinned (.plain (OpenSpec.ofChange letterTellsSpec)) letterTellsCard

/-- THE TIED CARD OF 'mantillalaw22.LetterReads'. -/
def letterReadsCard : Claim7 := { stood := { row := letterReadsRow, standIns := [], harness := (true, "6653848acb56f7c58fa38f46fbf2cd10606fcf9c9e1372d8d522e253f3f47d9c"), looks := false }, kinds := [], alts := [], laidByText := true, laidKinds := [.widerDeep], laidTests := true, laidLooks := .later }
def LetterReadsCardSaid : Prop := Claim7.holds Tryd.pinned (.plain (OpenSpec.ofChange letterReadsSpec)) letterReadsCard

/-- THE TIED CARD OF 'mantillalaw22.LetterEdges'. -/
def letterEdgesCard : Claim7 := { stood := { row := letterEdgesRow, standIns := [], harness := (true, "6653848acb56f7c58fa38f46fbf2cd10606fcf9c9e1372d8d522e253f3f47d9c"), looks := false }, kinds := [], alts := [], laidByText := true, laidKinds := [.widerDeep], laidTests := true, laidLooks := .later }
def LetterEdgesCardSaid : Prop := Claim7.holds Tryd.pinned (.plain (OpenSpec.ofChange letterEdgesSpec)) letterEdgesCard

/-- THE TIED CARD OF 'mantillalaw22.LetterSame'. -/
def letterSameCard : Claim7 := { stood := { row := letterSameRow, standIns := [], harness := (true, "6653848acb56f7c58fa38f46fbf2cd10606fcf9c9e1372d8d522e253f3f47d9c"), looks := false }, kinds := [], alts := [], laidByText := true, laidKinds := [.widerDeep], laidTests := true, laidLooks := .later }
def LetterSameCardSaid : Prop := Claim7.holds Tryd.pinned (.plain (OpenSpec.ofChange letterSameSpec)) letterSameCard

/-- THE SECOND FORM's CARD OF 'mantillalaw22.LetterTells'. -/
def letterTellsUptoCard : Claim7 := { stood := { row := letterTellsUptoRow, standIns := [], harness := (true, "6653848acb56f7c58fa38f46fbf2cd10606fcf9c9e1372d8d522e253f3f47d9c"), looks := false }, kinds := [], alts := [], laidByText := true, laidKinds := [.widerDeep], laidTests := true, laidLooks := .later }
def LetterTellsUptoCardSaid : Prop := Claim7.holds Tryd.pinned (.plain (OpenSpec.upto letterTellsSpec)) letterTellsUptoCard

/-- THE SECOND FORM's CARD OF 'mantillalaw22.LetterReads'. -/
def letterReadsUptoCard : Claim7 := { stood := { row := letterReadsUptoRow, standIns := [], harness := (true, "6653848acb56f7c58fa38f46fbf2cd10606fcf9c9e1372d8d522e253f3f47d9c"), looks := false }, kinds := [], alts := [], laidByText := true, laidKinds := [.widerDeep], laidTests := true, laidLooks := .later }
def LetterReadsUptoCardSaid : Prop := Claim7.holds Tryd.pinned (.plain (OpenSpec.upto letterReadsSpec)) letterReadsUptoCard

/-- THE SECOND FORM's CARD OF 'mantillalaw22.LetterEdges'. -/
def letterEdgesUptoCard : Claim7 := { stood := { row := letterEdgesUptoRow, standIns := [], harness := (true, "6653848acb56f7c58fa38f46fbf2cd10606fcf9c9e1372d8d522e253f3f47d9c"), looks := false }, kinds := [], alts := [], laidByText := true, laidKinds := [.widerDeep], laidTests := true, laidLooks := .later }
def LetterEdgesUptoCardSaid : Prop := Claim7.holds Tryd.pinned (.plain (OpenSpec.upto letterEdgesSpec)) letterEdgesUptoCard

/-- THE SECOND FORM's CARD OF 'mantillalaw22.LetterSame'. -/
def letterSameUptoCard : Claim7 := { stood := { row := letterSameUptoRow, standIns := [], harness := (true, "6653848acb56f7c58fa38f46fbf2cd10606fcf9c9e1372d8d522e253f3f47d9c"), looks := false }, kinds := [], alts := [], laidByText := true, laidKinds := [.widerDeep], laidTests := true, laidLooks := .later }
def LetterSameUptoCardSaid : Prop := Claim7.holds Tryd.pinned (.plain (OpenSpec.upto letterSameSpec)) letterSameUptoCard
end Rows
end Go.Proofs.YtdldipkbknhhoaaDoor
