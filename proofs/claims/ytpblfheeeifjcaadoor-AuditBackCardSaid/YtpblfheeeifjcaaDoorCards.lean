/-
  DERIVED. GIVEN WITH THE SEED: THE CARDS: each row of YtpblfheeeifjcaaDoorRows.lean that lists a variable, with what it lists TIED to the program's text (the seventh form; the later family's looks); each row that meets fmt, with fmt's text TOLD by the authors' own Lean function (tested against real Go, not proved from fmt's source: count such statements apart). THE CARD IS WHAT COUNTS. Prove the row's statement (the work); the ties are given (YtpblfheeeifjcaaDoorTie.lean); close each card by the builder's one call (the guide's Derived/Test/ToyasCard.lean, 'card_holds'). Laid BY PROGRAM, IN A SANDBOX (cutbox-door.mjs). By AI agents, Wed Nov 11 2026. No macro, syntax, notation, axiom, sorry.
-/
import Derived.Test.YtpblfheeeifjcaaDoorRows
import GoSem.ClaimSeven
namespace Go.Proofs.YtpblfheeeifjcaaDoor
namespace Rows

/-- THE TIED CARD OF 'chattellaw20.AuditRows'. -/
def auditRowsCard : Claim7 := { stood := { row := auditRowsRow, standIns := [], harness := (true, "bd181b4bd13b9ae69864f0dcdee58cfd9856800cddae063ae8a3680c9a777d97"), looks := true }, kinds := [], alts := [], laidByText := true, laidKinds := [.data, .data, .data, .funcs], laidTests := true, laidLooks := .later }
def AuditRowsCardSaid : Prop := Claim7.holds Tryd.pinned (.plain (OpenSpec.ofChange auditRowsSpec)) auditRowsCard

/-- THE TIED CARD OF 'chattellaw20.AuditFirst'. -/
def auditFirstCard : Claim7 := { stood := { row := auditFirstRow, standIns := [], harness := (true, "bd181b4bd13b9ae69864f0dcdee58cfd9856800cddae063ae8a3680c9a777d97"), looks := true }, kinds := [], alts := [], laidByText := true, laidKinds := [.data, .data, .data, .funcs], laidTests := true, laidLooks := .later }
def AuditFirstCardSaid : Prop := Claim7.holds Tryd.pinned (.plain (OpenSpec.ofChange auditFirstSpec)) auditFirstCard

/-- THE TIED CARD OF 'chattellaw20.AuditBack'. -/
def auditBackCard : Claim7 := { stood := { row := auditBackRow, standIns := [], harness := (true, "bd181b4bd13b9ae69864f0dcdee58cfd9856800cddae063ae8a3680c9a777d97"), looks := true }, kinds := [], alts := [], laidByText := true, laidKinds := [.data, .data, .data, .funcs], laidTests := true, laidLooks := .later }
def AuditBackCardSaid : Prop := Claim7.holds Tryd.pinned (.plain (OpenSpec.ofChange auditBackSpec)) auditBackCard

/-- THE SECOND FORM's CARD OF 'chattellaw20.AuditRows'. -/
def auditRowsUptoCard : Claim7 := { stood := { row := auditRowsUptoRow, standIns := [], harness := (true, "bd181b4bd13b9ae69864f0dcdee58cfd9856800cddae063ae8a3680c9a777d97"), looks := true }, kinds := [], alts := [], laidByText := true, laidKinds := [.data, .data, .data, .funcs], laidTests := true, laidLooks := .later }
def AuditRowsUptoCardSaid : Prop := Claim7.holds Tryd.pinned (.plain (OpenSpec.upto auditRowsSpec)) auditRowsUptoCard

/-- THE SECOND FORM's CARD OF 'chattellaw20.AuditFirst'. -/
def auditFirstUptoCard : Claim7 := { stood := { row := auditFirstUptoRow, standIns := [], harness := (true, "bd181b4bd13b9ae69864f0dcdee58cfd9856800cddae063ae8a3680c9a777d97"), looks := true }, kinds := [], alts := [], laidByText := true, laidKinds := [.data, .data, .data, .funcs], laidTests := true, laidLooks := .later }
def AuditFirstUptoCardSaid : Prop := Claim7.holds Tryd.pinned (.plain (OpenSpec.upto auditFirstSpec)) auditFirstUptoCard

/-- THE SECOND FORM's CARD OF 'chattellaw20.AuditBack'. -/
def auditBackUptoCard : Claim7 := { stood := { row := auditBackUptoRow, standIns := [], harness := (true, "bd181b4bd13b9ae69864f0dcdee58cfd9856800cddae063ae8a3680c9a777d97"), looks := true }, kinds := [], alts := [], laidByText := true, laidKinds := [.data, .data, .data, .funcs], laidTests := true, laidLooks := .later }
def AuditBackUptoCardSaid : Prop := Claim7.holds Tryd.pinned (.plain (OpenSpec.upto auditBackSpec)) auditBackUptoCard
end Rows
end Go.Proofs.YtpblfheeeifjcaaDoor
