/-
  DERIVED. GIVEN WITH THE SEED: THE CARDS: each row of YtbadplbdgpbdaaaDoorRows.lean that lists a variable, with what it lists TIED to the program's text (the seventh form; the later family's looks); each row that meets fmt, with fmt's text TOLD by the authors' own Lean function (tested against real Go, not proved from fmt's source: count such statements apart). THE CARD IS WHAT COUNTS. Prove the row's statement (the work); the ties are given (YtbadplbdgpbdaaaDoorTie.lean); close each card by the builder's one call (the guide's Derived/Test/ToyasCard.lean, 'card_holds'). Laid BY PROGRAM, IN A SANDBOX (cutbox-door.mjs). By AI agents, Wed Nov 11 2026. No macro, syntax, notation, axiom, sorry.
-/
import Derived.Test.YtbadplbdgpbdaaaDoorRows
import GoSem.ClaimSeven
namespace Go.Proofs.YtbadplbdgpbdaaaDoor
namespace Rows

/-- THE TIED CARD OF 'slotlaw7.CodeTells'. -/
def codeTellsCard : Claim7 := { stood := { row := codeTellsRow, standIns := [], harness := (true, "2fecf4a987912e0c16ff5c602acec93f7eb645111231d0e700c527c1fcec3849"), looks := true }, kinds := [], alts := [], laidByText := true, laidKinds := [.data], laidTests := true, laidLooks := .later }
def CodeTellsCardSaid : Prop := Claim7.holds Tryd.pinned (.plain (OpenSpec.ofChange codeTellsSpec)) codeTellsCard

/-- THE TIED CARD OF 'slotlaw8.VmWell'. -/
def vmWellCard : Claim7 := { stood := { row := vmWellRow, standIns := [], harness := (true, "2fecf4a987912e0c16ff5c602acec93f7eb645111231d0e700c527c1fcec3849"), looks := true }, kinds := [], alts := [], laidByText := true, laidKinds := [.data], laidTests := true, laidLooks := .later }
def VmWellCardSaid : Prop := Claim7.holds Tryd.pinned (.plain (OpenSpec.ofChange vmWellSpec)) vmWellCard

/-- THE TIED CARD OF 'slotlaw8.VmRight'. -/
def vmRightCard : Claim7 := { stood := { row := vmRightRow, standIns := [], harness := (true, "2fecf4a987912e0c16ff5c602acec93f7eb645111231d0e700c527c1fcec3849"), looks := true }, kinds := [], alts := [], laidByText := true, laidKinds := [.data], laidTests := true, laidLooks := .later }
def VmRightCardSaid : Prop := Claim7.holds Tryd.pinned (.plain (OpenSpec.ofChange vmRightSpec)) vmRightCard

/-- THE TIED CARD OF 'slotlaw7.CodeSize'. -/
def codeSizeCard : Claim7 := { stood := { row := codeSizeRow, standIns := [], harness := (true, "2fecf4a987912e0c16ff5c602acec93f7eb645111231d0e700c527c1fcec3849"), looks := true }, kinds := [], alts := [], laidByText := true, laidKinds := [.data], laidTests := true, laidLooks := .later }
def CodeSizeCardSaid : Prop := Claim7.holds Tryd.pinned (.plain (OpenSpec.ofChange codeSizeSpec)) codeSizeCard

/-- THE SECOND FORM's CARD OF 'slotlaw7.CodeTells'. -/
def codeTellsUptoCard : Claim7 := { stood := { row := codeTellsUptoRow, standIns := [], harness := (true, "2fecf4a987912e0c16ff5c602acec93f7eb645111231d0e700c527c1fcec3849"), looks := true }, kinds := [], alts := [], laidByText := true, laidKinds := [.data], laidTests := true, laidLooks := .later }
def CodeTellsUptoCardSaid : Prop := Claim7.holds Tryd.pinned (.plain (OpenSpec.upto codeTellsSpec)) codeTellsUptoCard

/-- THE SECOND FORM's CARD OF 'slotlaw8.VmWell'. -/
def vmWellUptoCard : Claim7 := { stood := { row := vmWellUptoRow, standIns := [], harness := (true, "2fecf4a987912e0c16ff5c602acec93f7eb645111231d0e700c527c1fcec3849"), looks := true }, kinds := [], alts := [], laidByText := true, laidKinds := [.data], laidTests := true, laidLooks := .later }
def VmWellUptoCardSaid : Prop := Claim7.holds Tryd.pinned (.plain (OpenSpec.upto vmWellSpec)) vmWellUptoCard

/-- THE SECOND FORM's CARD OF 'slotlaw8.VmRight'. -/
def vmRightUptoCard : Claim7 := { stood := { row := vmRightUptoRow, standIns := [], harness := (true, "2fecf4a987912e0c16ff5c602acec93f7eb645111231d0e700c527c1fcec3849"), looks := true }, kinds := [], alts := [], laidByText := true, laidKinds := [.data], laidTests := true, laidLooks := .later }
def VmRightUptoCardSaid : Prop := Claim7.holds Tryd.pinned (.plain (OpenSpec.upto vmRightSpec)) vmRightUptoCard

/-- THE SECOND FORM's CARD OF 'slotlaw7.CodeSize'. -/
def codeSizeUptoCard : Claim7 := { stood := { row := codeSizeUptoRow, standIns := [], harness := (true, "2fecf4a987912e0c16ff5c602acec93f7eb645111231d0e700c527c1fcec3849"), looks := true }, kinds := [], alts := [], laidByText := true, laidKinds := [.data], laidTests := true, laidLooks := .later }
def CodeSizeUptoCardSaid : Prop := Claim7.holds Tryd.pinned (.plain (OpenSpec.upto codeSizeSpec)) codeSizeUptoCard
end Rows
end Go.Proofs.YtbadplbdgpbdaaaDoor
