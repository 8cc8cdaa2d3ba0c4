/-
  DERIVED. GIVEN WITH THE SEED: THE CARDS: each row of YtcpicndapmaiaaaDoorRows.lean that lists a variable, with what it lists TIED to the program's text (the seventh form; the later family's looks); each row that meets fmt, with fmt's text TOLD by the authors' own Lean function (tested against real Go, not proved from fmt's source: count such statements apart). THE CARD IS WHAT COUNTS. Prove the row's statement (the work); the ties are given (YtcpicndapmaiaaaDoorTie.lean); close each card by the builder's one call (the guide's Derived/Test/ToyasCard.lean, 'card_holds'). Laid BY PROGRAM, IN A SANDBOX (cutbox-door.mjs). By AI agents, Wed Nov 11 2026. No macro, syntax, notation, axiom, sorry.
-/
import Derived.Test.YtcpicndapmaiaaaDoorRows
import GoSem.ClaimSeven
namespace Go.Proofs.YtcpicndapmaiaaaDoor
namespace Rows

/-- THE TIED CARD OF 'rostrumlaw13.CodeVerifies'. -/
def codeVerifiesCard : Claim7 := { stood := { row := codeVerifiesRow, standIns := [], harness := (true, "81f8296c11b6b958e0cb05401414e78e0b3af3e241ea3c0f989a4d1fe35d6b88"), looks := true }, kinds := [], alts := [], laidByText := true, laidKinds := [.data], laidTests := true, laidLooks := .later }
def CodeVerifiesCardSaid : Prop := Claim7.holds Tryd.pinned (.plain (OpenSpec.ofChange codeVerifiesSpec)) codeVerifiesCard

/-- THE TIED CARD OF 'rostrumlaw10.DatumBack'. -/
def datumBackCard : Claim7 := { stood := { row := datumBackRow, standIns := [], harness := (true, "81f8296c11b6b958e0cb05401414e78e0b3af3e241ea3c0f989a4d1fe35d6b88"), looks := true }, kinds := [], alts := [], laidByText := true, laidKinds := [.data, .pinned], laidTests := true, laidLooks := .later }
def DatumBackCardSaid : Prop := Claim7.holds Tryd.pinned (.plain (OpenSpec.ofChange datumBackSpec)) datumBackCard

/-- THE SECOND FORM's CARD OF 'rostrumlaw13.CodeVerifies'. -/
def codeVerifiesUptoCard : Claim7 := { stood := { row := codeVerifiesUptoRow, standIns := [], harness := (true, "81f8296c11b6b958e0cb05401414e78e0b3af3e241ea3c0f989a4d1fe35d6b88"), looks := true }, kinds := [], alts := [], laidByText := true, laidKinds := [.data], laidTests := true, laidLooks := .later }
def CodeVerifiesUptoCardSaid : Prop := Claim7.holds Tryd.pinned (.plain (OpenSpec.upto codeVerifiesSpec)) codeVerifiesUptoCard

/-- THE SECOND FORM's CARD OF 'rostrumlaw10.DatumBack'. -/
def datumBackUptoCard : Claim7 := { stood := { row := datumBackUptoRow, standIns := [], harness := (true, "81f8296c11b6b958e0cb05401414e78e0b3af3e241ea3c0f989a4d1fe35d6b88"), looks := true }, kinds := [], alts := [], laidByText := true, laidKinds := [.data, .pinned], laidTests := true, laidLooks := .later }
def DatumBackUptoCardSaid : Prop := Claim7.holds Tryd.pinned (.plain (OpenSpec.upto datumBackSpec)) datumBackUptoCard
end Rows
end Go.Proofs.YtcpicndapmaiaaaDoor
