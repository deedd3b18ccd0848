/-
  DERIVED. GIVEN WITH THE SEED: THE CARDS: each row of YtfelpmijieomaaaGreatDoorRows.lean that lists a variable, with what it lists TIED to the program's text (the seventh form; the later family's looks); each row that meets fmt, with fmt's text TOLD by the authors' own Lean function (tested against real Go, not proved from fmt's source: count such statements apart). THE CARD IS WHAT COUNTS. Prove the row's statement (the work); the ties are given (YtfelpmijieomaaaGreatDoorTie.lean); close each card by the builder's one call (the guide's Derived/Test/ToyasCard.lean, 'card_holds'). Laid BY PROGRAM, IN A SANDBOX (cutbox-door.mjs). By AI agents, Wed Nov 11 2026. No macro, syntax, notation, axiom, sorry.
-/
import Derived.Test.YtfelpmijieomaaaGreatDoorRows
import GoSem.ClaimSeven
namespace Go.Proofs.YtfelpmijieomaaaGreatDoor
namespace Rows

/-- THE TIED CARD OF 'gleaninglaw28.WordsBack'. -/
def wordsBackCard : Claim7 := { stood := { row := wordsBackRow, standIns := [], harness := (true, "ac80bb39c00c2b193814f85e5a5947e8b48de99fe6a5c9b99127ec5c42b31569"), looks := true }, kinds := [], alts := [], laidByText := true, laidKinds := [.data, .data, .data, .sentinel, .sentinel], laidTests := true, laidLooks := .later }
def WordsBackCardSaid : Prop := Claim7.holds Tryz.pinned (.plain (OpenSpec.ofChange wordsBackSpec)) wordsBackCard

/-- THE TIED CARD OF 'gleaninglaw28.WordsWrong'. -/
def wordsWrongCard : Claim7 := { stood := { row := wordsWrongRow, standIns := [], harness := (true, "ac80bb39c00c2b193814f85e5a5947e8b48de99fe6a5c9b99127ec5c42b31569"), looks := true }, kinds := [], alts := [], laidByText := true, laidKinds := [.data, .data, .data, .sentinel, .sentinel], laidTests := true, laidLooks := .later }
def WordsWrongCardSaid : Prop := Claim7.holds Tryz.pinned (.plain (OpenSpec.ofChange wordsWrongSpec)) wordsWrongCard

/-- THE TIED CARD OF 'gleaninglaw28.WordsBlank'. -/
def wordsBlankCard : Claim7 := { stood := { row := wordsBlankRow, standIns := [], harness := (true, "ac80bb39c00c2b193814f85e5a5947e8b48de99fe6a5c9b99127ec5c42b31569"), looks := true }, kinds := [], alts := [], laidByText := true, laidKinds := [.data, .data, .data, .sentinel, .sentinel], laidTests := true, laidLooks := .later }
def WordsBlankCardSaid : Prop := Claim7.holds Tryz.pinned (.plain (OpenSpec.ofChange wordsBlankSpec)) wordsBlankCard

/-- THE SECOND FORM's CARD OF 'gleaninglaw28.WordsBack'. -/
def wordsBackUptoCard : Claim7 := { stood := { row := wordsBackUptoRow, standIns := [], harness := (true, "ac80bb39c00c2b193814f85e5a5947e8b48de99fe6a5c9b99127ec5c42b31569"), looks := true }, kinds := [], alts := [], laidByText := true, laidKinds := [.data, .data, .data, .sentinel, .sentinel], laidTests := true, laidLooks := .later }
def WordsBackUptoCardSaid : Prop := Claim7.holds Tryz.pinned (.plain (OpenSpec.upto wordsBackSpec)) wordsBackUptoCard

/-- THE SECOND FORM's CARD OF 'gleaninglaw28.WordsWrong'. -/
def wordsWrongUptoCard : Claim7 := { stood := { row := wordsWrongUptoRow, standIns := [], harness := (true, "ac80bb39c00c2b193814f85e5a5947e8b48de99fe6a5c9b99127ec5c42b31569"), looks := true }, kinds := [], alts := [], laidByText := true, laidKinds := [.data, .data, .data, .sentinel, .sentinel], laidTests := true, laidLooks := .later }
def WordsWrongUptoCardSaid : Prop := Claim7.holds Tryz.pinned (.plain (OpenSpec.upto wordsWrongSpec)) wordsWrongUptoCard

/-- THE SECOND FORM's CARD OF 'gleaninglaw28.WordsBlank'. -/
def wordsBlankUptoCard : Claim7 := { stood := { row := wordsBlankUptoRow, standIns := [], harness := (true, "ac80bb39c00c2b193814f85e5a5947e8b48de99fe6a5c9b99127ec5c42b31569"), looks := true }, kinds := [], alts := [], laidByText := true, laidKinds := [.data, .data, .data, .sentinel, .sentinel], laidTests := true, laidLooks := .later }
def WordsBlankUptoCardSaid : Prop := Claim7.holds Tryz.pinned (.plain (OpenSpec.upto wordsBlankSpec)) wordsBlankUptoCard
end Rows
end Go.Proofs.YtfelpmijieomaaaGreatDoor
