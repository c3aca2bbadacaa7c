/-
  DERIVED. GIVEN WITH THE SEED: THE CARDS: each row of YtmgfbjhgcdpleaaDoorRows.lean that lists a variable, with what it lists TIED to the program's text (the seventh form; the later family's looks); each row that meets fmt, with fmt's text TOLD by the authors' own Lean function (tested against real Go, not proved from fmt's source: count such statements apart). THE CARD IS WHAT COUNTS. Prove the row's statement (the work); the ties are given (YtmgfbjhgcdpleaaDoorTie.lean); close each card by the builder's one call (the guide's Derived/Test/ToyasCard.lean, 'card_holds'). Laid BY PROGRAM, IN A SANDBOX (cutbox-door.mjs). By AI agents, Wed Nov 11 2026. No macro, syntax, notation, axiom, sorry.
-/
import Derived.Test.YtmgfbjhgcdpleaaDoorRows
import GoSem.ClaimSeven
namespace Go.Proofs.YtmgfbjhgcdpleaaDoor
namespace Rows

/-- THE TIED CARD OF 'slotlaw2.MaskNext'. -/
def maskNextCard : Claim7 := { stood := { row := maskNextRow, standIns := [], harness := (true, "4f4f826b1f39b3b8601fb9c049870b6312c5d204c5a2600b883f813a9f28f2b5"), looks := false }, kinds := [], alts := [], laidByText := true, laidKinds := [.data], laidTests := true, laidLooks := .later }
def MaskNextCardSaid : Prop := Claim7.holds Tryd.pinned (.plain (OpenSpec.ofChange maskNextSpec)) maskNextCard

/-- THE TIED CARD OF 'slotlaw2.MaskTurns'. -/
def maskTurnsCard : Claim7 := { stood := { row := maskTurnsRow, standIns := [], harness := (true, "4f4f826b1f39b3b8601fb9c049870b6312c5d204c5a2600b883f813a9f28f2b5"), looks := false }, kinds := [], alts := [], laidByText := true, laidKinds := [.data], laidTests := true, laidLooks := .later }
def MaskTurnsCardSaid : Prop := Claim7.holds Tryd.pinned (.plain (OpenSpec.ofChange maskTurnsSpec)) maskTurnsCard

/-- THE TIED CARD OF 'slotlaw2.MaskPart'. -/
def maskPartCard : Claim7 := { stood := { row := maskPartRow, standIns := [], harness := (true, "4f4f826b1f39b3b8601fb9c049870b6312c5d204c5a2600b883f813a9f28f2b5"), looks := false }, kinds := [], alts := [], laidByText := true, laidKinds := [.data], laidTests := true, laidLooks := .later }
def MaskPartCardSaid : Prop := Claim7.holds Tryd.pinned (.plain (OpenSpec.ofChange maskPartSpec)) maskPartCard

/-- THE TIED CARD OF 'slotlaw2.MaskSets'. -/
def maskSetsCard : Claim7 := { stood := { row := maskSetsRow, standIns := [], harness := (true, "4f4f826b1f39b3b8601fb9c049870b6312c5d204c5a2600b883f813a9f28f2b5"), looks := false }, kinds := [], alts := [], laidByText := true, laidKinds := [.data], laidTests := true, laidLooks := .later }
def MaskSetsCardSaid : Prop := Claim7.holds Tryd.pinned (.plain (OpenSpec.ofChange maskSetsSpec)) maskSetsCard

/-- THE TIED CARD OF 'slotlaw2.MaskTells'. -/
def maskTellsCard : Claim7 := { stood := { row := maskTellsRow, standIns := [], harness := (true, "4f4f826b1f39b3b8601fb9c049870b6312c5d204c5a2600b883f813a9f28f2b5"), looks := false }, kinds := [], alts := [], laidByText := true, laidKinds := [.data], laidTests := true, laidLooks := .later }
def MaskTellsCardSaid : Prop := Claim7.holds Tryd.pinned (.plain (OpenSpec.ofChange maskTellsSpec)) maskTellsCard

/-- THE TIED CARD OF 'slotlaw2.MaskShift'. -/
def maskShiftCard : Claim7 := { stood := { row := maskShiftRow, standIns := [], harness := (true, "4f4f826b1f39b3b8601fb9c049870b6312c5d204c5a2600b883f813a9f28f2b5"), looks := false }, kinds := [], alts := [], laidByText := true, laidKinds := [.data], laidTests := true, laidLooks := .later }
def MaskShiftCardSaid : Prop := Claim7.holds Tryd.pinned (.plain (OpenSpec.ofChange maskShiftSpec)) maskShiftCard

/-- THE SECOND FORM's CARD OF 'slotlaw2.MaskNext'. -/
def maskNextUptoCard : Claim7 := { stood := { row := maskNextUptoRow, standIns := [], harness := (true, "4f4f826b1f39b3b8601fb9c049870b6312c5d204c5a2600b883f813a9f28f2b5"), looks := false }, kinds := [], alts := [], laidByText := true, laidKinds := [.data], laidTests := true, laidLooks := .later }
def MaskNextUptoCardSaid : Prop := Claim7.holds Tryd.pinned (.plain (OpenSpec.upto maskNextSpec)) maskNextUptoCard

/-- THE SECOND FORM's CARD OF 'slotlaw2.MaskTurns'. -/
def maskTurnsUptoCard : Claim7 := { stood := { row := maskTurnsUptoRow, standIns := [], harness := (true, "4f4f826b1f39b3b8601fb9c049870b6312c5d204c5a2600b883f813a9f28f2b5"), looks := false }, kinds := [], alts := [], laidByText := true, laidKinds := [.data], laidTests := true, laidLooks := .later }
def MaskTurnsUptoCardSaid : Prop := Claim7.holds Tryd.pinned (.plain (OpenSpec.upto maskTurnsSpec)) maskTurnsUptoCard

/-- THE SECOND FORM's CARD OF 'slotlaw2.MaskPart'. -/
def maskPartUptoCard : Claim7 := { stood := { row := maskPartUptoRow, standIns := [], harness := (true, "4f4f826b1f39b3b8601fb9c049870b6312c5d204c5a2600b883f813a9f28f2b5"), looks := false }, kinds := [], alts := [], laidByText := true, laidKinds := [.data], laidTests := true, laidLooks := .later }
def MaskPartUptoCardSaid : Prop := Claim7.holds Tryd.pinned (.plain (OpenSpec.upto maskPartSpec)) maskPartUptoCard

/-- THE SECOND FORM's CARD OF 'slotlaw2.MaskSets'. -/
def maskSetsUptoCard : Claim7 := { stood := { row := maskSetsUptoRow, standIns := [], harness := (true, "4f4f826b1f39b3b8601fb9c049870b6312c5d204c5a2600b883f813a9f28f2b5"), looks := false }, kinds := [], alts := [], laidByText := true, laidKinds := [.data], laidTests := true, laidLooks := .later }
def MaskSetsUptoCardSaid : Prop := Claim7.holds Tryd.pinned (.plain (OpenSpec.upto maskSetsSpec)) maskSetsUptoCard

/-- THE SECOND FORM's CARD OF 'slotlaw2.MaskTells'. -/
def maskTellsUptoCard : Claim7 := { stood := { row := maskTellsUptoRow, standIns := [], harness := (true, "4f4f826b1f39b3b8601fb9c049870b6312c5d204c5a2600b883f813a9f28f2b5"), looks := false }, kinds := [], alts := [], laidByText := true, laidKinds := [.data], laidTests := true, laidLooks := .later }
def MaskTellsUptoCardSaid : Prop := Claim7.holds Tryd.pinned (.plain (OpenSpec.upto maskTellsSpec)) maskTellsUptoCard

/-- THE SECOND FORM's CARD OF 'slotlaw2.MaskShift'. -/
def maskShiftUptoCard : Claim7 := { stood := { row := maskShiftUptoRow, standIns := [], harness := (true, "4f4f826b1f39b3b8601fb9c049870b6312c5d204c5a2600b883f813a9f28f2b5"), looks := false }, kinds := [], alts := [], laidByText := true, laidKinds := [.data], laidTests := true, laidLooks := .later }
def MaskShiftUptoCardSaid : Prop := Claim7.holds Tryd.pinned (.plain (OpenSpec.upto maskShiftSpec)) maskShiftUptoCard
end Rows
end Go.Proofs.YtmgfbjhgcdpleaaDoor
