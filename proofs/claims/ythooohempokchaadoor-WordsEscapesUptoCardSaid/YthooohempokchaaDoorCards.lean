/-
  DERIVED. GIVEN WITH THE SEED: THE CARDS: each row of YthooohempokchaaDoorRows.lean that lists a variable, with what it lists TIED to the program's text (the seventh form; the later family's looks); each row that meets fmt, with fmt's text TOLD by the authors' own Lean function (tested against real Go, not proved from fmt's source: count such statements apart). THE CARD IS WHAT COUNTS. Prove the row's statement (the work); the ties are given (YthooohempokchaaDoorTie.lean); close each card by the builder's one call (the guide's Derived/Test/ToyasCard.lean, 'card_holds'). Laid BY PROGRAM, IN A SANDBOX (cutbox-door.mjs). By AI agents, Wed Nov 11 2026. No macro, syntax, notation, axiom, sorry.
-/
import Derived.Test.YthooohempokchaaDoorRows
import GoSem.ClaimSeven
namespace Go.Proofs.YthooohempokchaaDoor
namespace Rows

/-- THE TIED CARD OF 'farrierlaw01.WordsTexts'. -/
def wordsTextsCard : Claim7 := { stood := { row := wordsTextsRow, standIns := [], harness := (true, "1aa6d36b26fa554a9a284daedd7405faf6b9ff27d3e5479dd607972df5115de5"), looks := false }, kinds := [], alts := [], laidByText := true, laidKinds := [.data, .pinned], laidTests := true, laidLooks := .later }
def WordsTextsCardSaid : Prop := Claim7.holds Tryd.pinned (.plain (OpenSpec.ofChange wordsTextsSpec)) wordsTextsCard

/-- THE TIED CARD OF 'farrierlaw01.WordsPaths'. -/
def wordsPathsCard : Claim7 := { stood := { row := wordsPathsRow, standIns := [], harness := (true, "1aa6d36b26fa554a9a284daedd7405faf6b9ff27d3e5479dd607972df5115de5"), looks := false }, kinds := [], alts := [], laidByText := true, laidKinds := [.data, .pinned], laidTests := true, laidLooks := .later }
def WordsPathsCardSaid : Prop := Claim7.holds Tryd.pinned (.plain (OpenSpec.ofChange wordsPathsSpec)) wordsPathsCard

/-- THE TIED CARD OF 'farrierlaw01.WordsEscapes'. -/
def wordsEscapesCard : Claim7 := { stood := { row := wordsEscapesRow, standIns := [], harness := (true, "1aa6d36b26fa554a9a284daedd7405faf6b9ff27d3e5479dd607972df5115de5"), looks := false }, kinds := [], alts := [], laidByText := true, laidKinds := [.data, .pinned], laidTests := true, laidLooks := .later }
def WordsEscapesCardSaid : Prop := Claim7.holds Tryd.pinned (.plain (OpenSpec.ofChange wordsEscapesSpec)) wordsEscapesCard

/-- THE TIED CARD OF 'farrierlaw01.WordsBack'. -/
def wordsBackCard : Claim7 := { stood := { row := wordsBackRow, standIns := [], harness := (true, "1aa6d36b26fa554a9a284daedd7405faf6b9ff27d3e5479dd607972df5115de5"), looks := false }, kinds := [], alts := [], laidByText := true, laidKinds := [.data, .pinned], laidTests := true, laidLooks := .later }
def WordsBackCardSaid : Prop := Claim7.holds Tryd.pinned (.plain (OpenSpec.ofChange wordsBackSpec)) wordsBackCard

/-- THE TIED CARD OF 'farrierlaw01.WordsJoin'. -/
def wordsJoinCard : Claim7 := { stood := { row := wordsJoinRow, standIns := [], harness := (true, "1aa6d36b26fa554a9a284daedd7405faf6b9ff27d3e5479dd607972df5115de5"), looks := false }, kinds := [], alts := [], laidByText := true, laidKinds := [.data, .pinned], laidTests := true, laidLooks := .later }
def WordsJoinCardSaid : Prop := Claim7.holds Tryd.pinned (.plain (OpenSpec.ofChange wordsJoinSpec)) wordsJoinCard

/-- THE TIED CARD OF 'farrierlaw01.WordsPieces'. -/
def wordsPiecesCard : Claim7 := { stood := { row := wordsPiecesRow, standIns := [], harness := (true, "1aa6d36b26fa554a9a284daedd7405faf6b9ff27d3e5479dd607972df5115de5"), looks := false }, kinds := [], alts := [], laidByText := true, laidKinds := [.data, .pinned], laidTests := true, laidLooks := .later }
def WordsPiecesCardSaid : Prop := Claim7.holds Tryd.pinned (.plain (OpenSpec.ofChange wordsPiecesSpec)) wordsPiecesCard

/-- THE TIED CARD OF 'farrierlaw01.WordsOnce'. -/
def wordsOnceCard : Claim7 := { stood := { row := wordsOnceRow, standIns := [], harness := (true, "1aa6d36b26fa554a9a284daedd7405faf6b9ff27d3e5479dd607972df5115de5"), looks := false }, kinds := [], alts := [], laidByText := true, laidKinds := [.data, .pinned], laidTests := true, laidLooks := .later }
def WordsOnceCardSaid : Prop := Claim7.holds Tryd.pinned (.plain (OpenSpec.ofChange wordsOnceSpec)) wordsOnceCard

/-- THE SECOND FORM's CARD OF 'farrierlaw01.WordsTexts'. -/
def wordsTextsUptoCard : Claim7 := { stood := { row := wordsTextsUptoRow, standIns := [], harness := (true, "1aa6d36b26fa554a9a284daedd7405faf6b9ff27d3e5479dd607972df5115de5"), looks := false }, kinds := [], alts := [], laidByText := true, laidKinds := [.data, .pinned], laidTests := true, laidLooks := .later }
def WordsTextsUptoCardSaid : Prop := Claim7.holds Tryd.pinned (.plain (OpenSpec.upto wordsTextsSpec)) wordsTextsUptoCard

/-- THE SECOND FORM's CARD OF 'farrierlaw01.WordsPaths'. -/
def wordsPathsUptoCard : Claim7 := { stood := { row := wordsPathsUptoRow, standIns := [], harness := (true, "1aa6d36b26fa554a9a284daedd7405faf6b9ff27d3e5479dd607972df5115de5"), looks := false }, kinds := [], alts := [], laidByText := true, laidKinds := [.data, .pinned], laidTests := true, laidLooks := .later }
def WordsPathsUptoCardSaid : Prop := Claim7.holds Tryd.pinned (.plain (OpenSpec.upto wordsPathsSpec)) wordsPathsUptoCard

/-- THE SECOND FORM's CARD OF 'farrierlaw01.WordsEscapes'. -/
def wordsEscapesUptoCard : Claim7 := { stood := { row := wordsEscapesUptoRow, standIns := [], harness := (true, "1aa6d36b26fa554a9a284daedd7405faf6b9ff27d3e5479dd607972df5115de5"), looks := false }, kinds := [], alts := [], laidByText := true, laidKinds := [.data, .pinned], laidTests := true, laidLooks := .later }
def WordsEscapesUptoCardSaid : Prop := Claim7.holds Tryd.pinned (.plain (OpenSpec.upto wordsEscapesSpec)) wordsEscapesUptoCard

/-- THE SECOND FORM's CARD OF 'farrierlaw01.WordsBack'. -/
def wordsBackUptoCard : Claim7 := { stood := { row := wordsBackUptoRow, standIns := [], harness := (true, "1aa6d36b26fa554a9a284daedd7405faf6b9ff27d3e5479dd607972df5115de5"), looks := false }, kinds := [], alts := [], laidByText := true, laidKinds := [.data, .pinned], laidTests := true, laidLooks := .later }
def WordsBackUptoCardSaid : Prop := Claim7.holds Tryd.pinned (.plain (OpenSpec.upto wordsBackSpec)) wordsBackUptoCard

/-- THE SECOND FORM's CARD OF 'farrierlaw01.WordsJoin'. -/
def wordsJoinUptoCard : Claim7 := { stood := { row := wordsJoinUptoRow, standIns := [], harness := (true, "1aa6d36b26fa554a9a284daedd7405faf6b9ff27d3e5479dd607972df5115de5"), looks := false }, kinds := [], alts := [], laidByText := true, laidKinds := [.data, .pinned], laidTests := true, laidLooks := .later }
def WordsJoinUptoCardSaid : Prop := Claim7.holds Tryd.pinned (.plain (OpenSpec.upto wordsJoinSpec)) wordsJoinUptoCard

/-- THE SECOND FORM's CARD OF 'farrierlaw01.WordsPieces'. -/
def wordsPiecesUptoCard : Claim7 := { stood := { row := wordsPiecesUptoRow, standIns := [], harness := (true, "1aa6d36b26fa554a9a284daedd7405faf6b9ff27d3e5479dd607972df5115de5"), looks := false }, kinds := [], alts := [], laidByText := true, laidKinds := [.data, .pinned], laidTests := true, laidLooks := .later }
def WordsPiecesUptoCardSaid : Prop := Claim7.holds Tryd.pinned (.plain (OpenSpec.upto wordsPiecesSpec)) wordsPiecesUptoCard

/-- THE SECOND FORM's CARD OF 'farrierlaw01.WordsOnce'. -/
def wordsOnceUptoCard : Claim7 := { stood := { row := wordsOnceUptoRow, standIns := [], harness := (true, "1aa6d36b26fa554a9a284daedd7405faf6b9ff27d3e5479dd607972df5115de5"), looks := false }, kinds := [], alts := [], laidByText := true, laidKinds := [.data, .pinned], laidTests := true, laidLooks := .later }
def WordsOnceUptoCardSaid : Prop := Claim7.holds Tryd.pinned (.plain (OpenSpec.upto wordsOnceSpec)) wordsOnceUptoCard
end Rows
end Go.Proofs.YthooohempokchaaDoor
