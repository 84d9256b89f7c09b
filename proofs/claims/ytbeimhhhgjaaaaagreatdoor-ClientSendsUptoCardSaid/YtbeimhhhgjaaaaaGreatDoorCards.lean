/-
  DERIVED. GIVEN WITH THE SEED: THE CARDS: each row of YtbeimhhhgjaaaaaGreatDoorRows.lean that lists a variable, with what it lists TIED to the program's text (the seventh form; the later family's looks); each row that meets fmt, with fmt's text TOLD by the authors' own Lean function (tested against real Go, not proved from fmt's source: count such statements apart). THE CARD IS WHAT COUNTS. Prove the row's statement (the work); the ties are given (YtbeimhhhgjaaaaaGreatDoorTie.lean); close each card by the builder's one call (the guide's Derived/Test/ToyasCard.lean, 'card_holds'). Laid BY PROGRAM, IN A SANDBOX (cutbox-door.mjs). By AI agents, Wed Nov 11 2026. No macro, syntax, notation, axiom, sorry.
-/
import Derived.Test.YtbeimhhhgjaaaaaGreatDoorRows
import GoSem.ClaimSeven
namespace Go.Proofs.YtbeimhhhgjaaaaaGreatDoor
namespace Rows

/-- THE TIED CARD OF 'tetherlaw.ClientNews'. -/
def clientNewsCard : Claim7 := { stood := { row := clientNewsRow, standIns := [], harness := (true, "aee6e88d6ac83f4af38e1b7f2dae3259c965914cb43f3fc01a3396c69bee4d53"), looks := false }, kinds := [], alts := [], laidByText := true, laidKinds := [.data, .data, .data, .data, .pinned], laidTests := true, laidLooks := .later }
def ClientNewsCardSaid : Prop := Claim7.holds Tryz.pinned (.plain (OpenSpec.ofChange clientNewsSpec)) clientNewsCard

/-- THE TIED CARD OF 'tetherlaw.ClientChecks'. -/
def clientChecksCard : Claim7 := { stood := { row := clientChecksRow, standIns := [], harness := (true, "aee6e88d6ac83f4af38e1b7f2dae3259c965914cb43f3fc01a3396c69bee4d53"), looks := false }, kinds := [], alts := [], laidByText := true, laidKinds := [.data, .data, .data, .data, .pinned], laidTests := true, laidLooks := .later }
def ClientChecksCardSaid : Prop := Claim7.holds Tryz.pinned (.plain (OpenSpec.ofChange clientChecksSpec)) clientChecksCard

/-- THE TIED CARD OF 'tetherlaw.ClientSends'. -/
def clientSendsCard : Claim7 := { stood := { row := clientSendsRow, standIns := [], harness := (true, "aee6e88d6ac83f4af38e1b7f2dae3259c965914cb43f3fc01a3396c69bee4d53"), looks := false }, kinds := [], alts := [], laidByText := true, laidKinds := [.data, .data, .data, .data, .pinned], laidTests := true, laidLooks := .later }
def ClientSendsCardSaid : Prop := Claim7.holds Tryz.pinned (.plain (OpenSpec.ofChange clientSendsSpec)) clientSendsCard

/-- THE TIED CARD OF 'tetherlaw.ClientEdits'. -/
def clientEditsCard : Claim7 := { stood := { row := clientEditsRow, standIns := [], harness := (true, "aee6e88d6ac83f4af38e1b7f2dae3259c965914cb43f3fc01a3396c69bee4d53"), looks := false }, kinds := [], alts := [], laidByText := true, laidKinds := [.data, .data, .data, .data, .pinned], laidTests := true, laidLooks := .later }
def ClientEditsCardSaid : Prop := Claim7.holds Tryz.pinned (.plain (OpenSpec.ofChange clientEditsSpec)) clientEditsCard

/-- THE TIED CARD OF 'tetherlaw.ClientHears'. -/
def clientHearsCard : Claim7 := { stood := { row := clientHearsRow, standIns := [], harness := (true, "aee6e88d6ac83f4af38e1b7f2dae3259c965914cb43f3fc01a3396c69bee4d53"), looks := false }, kinds := [], alts := [], laidByText := true, laidKinds := [.data, .data, .data, .data, .pinned], laidTests := true, laidLooks := .later }
def ClientHearsCardSaid : Prop := Claim7.holds Tryz.pinned (.plain (OpenSpec.ofChange clientHearsSpec)) clientHearsCard

/-- THE TIED CARD OF 'tetherlaw.ClientKeeps'. -/
def clientKeepsCard : Claim7 := { stood := { row := clientKeepsRow, standIns := [], harness := (true, "aee6e88d6ac83f4af38e1b7f2dae3259c965914cb43f3fc01a3396c69bee4d53"), looks := false }, kinds := [], alts := [], laidByText := true, laidKinds := [.data, .data, .data, .data, .pinned], laidTests := true, laidLooks := .later }
def ClientKeepsCardSaid : Prop := Claim7.holds Tryz.pinned (.plain (OpenSpec.ofChange clientKeepsSpec)) clientKeepsCard

/-- THE SECOND FORM's CARD OF 'tetherlaw.ClientNews'. -/
def clientNewsUptoCard : Claim7 := { stood := { row := clientNewsUptoRow, standIns := [], harness := (true, "aee6e88d6ac83f4af38e1b7f2dae3259c965914cb43f3fc01a3396c69bee4d53"), looks := false }, kinds := [], alts := [], laidByText := true, laidKinds := [.data, .data, .data, .data, .pinned], laidTests := true, laidLooks := .later }
def ClientNewsUptoCardSaid : Prop := Claim7.holds Tryz.pinned (.plain (OpenSpec.upto clientNewsSpec)) clientNewsUptoCard

/-- THE SECOND FORM's CARD OF 'tetherlaw.ClientChecks'. -/
def clientChecksUptoCard : Claim7 := { stood := { row := clientChecksUptoRow, standIns := [], harness := (true, "aee6e88d6ac83f4af38e1b7f2dae3259c965914cb43f3fc01a3396c69bee4d53"), looks := false }, kinds := [], alts := [], laidByText := true, laidKinds := [.data, .data, .data, .data, .pinned], laidTests := true, laidLooks := .later }
def ClientChecksUptoCardSaid : Prop := Claim7.holds Tryz.pinned (.plain (OpenSpec.upto clientChecksSpec)) clientChecksUptoCard

/-- THE SECOND FORM's CARD OF 'tetherlaw.ClientSends'. -/
def clientSendsUptoCard : Claim7 := { stood := { row := clientSendsUptoRow, standIns := [], harness := (true, "aee6e88d6ac83f4af38e1b7f2dae3259c965914cb43f3fc01a3396c69bee4d53"), looks := false }, kinds := [], alts := [], laidByText := true, laidKinds := [.data, .data, .data, .data, .pinned], laidTests := true, laidLooks := .later }
def ClientSendsUptoCardSaid : Prop := Claim7.holds Tryz.pinned (.plain (OpenSpec.upto clientSendsSpec)) clientSendsUptoCard

/-- THE SECOND FORM's CARD OF 'tetherlaw.ClientEdits'. -/
def clientEditsUptoCard : Claim7 := { stood := { row := clientEditsUptoRow, standIns := [], harness := (true, "aee6e88d6ac83f4af38e1b7f2dae3259c965914cb43f3fc01a3396c69bee4d53"), looks := false }, kinds := [], alts := [], laidByText := true, laidKinds := [.data, .data, .data, .data, .pinned], laidTests := true, laidLooks := .later }
def ClientEditsUptoCardSaid : Prop := Claim7.holds Tryz.pinned (.plain (OpenSpec.upto clientEditsSpec)) clientEditsUptoCard

/-- THE SECOND FORM's CARD OF 'tetherlaw.ClientHears'. -/
def clientHearsUptoCard : Claim7 := { stood := { row := clientHearsUptoRow, standIns := [], harness := (true, "aee6e88d6ac83f4af38e1b7f2dae3259c965914cb43f3fc01a3396c69bee4d53"), looks := false }, kinds := [], alts := [], laidByText := true, laidKinds := [.data, .data, .data, .data, .pinned], laidTests := true, laidLooks := .later }
def ClientHearsUptoCardSaid : Prop := Claim7.holds Tryz.pinned (.plain (OpenSpec.upto clientHearsSpec)) clientHearsUptoCard

/-- THE SECOND FORM's CARD OF 'tetherlaw.ClientKeeps'. -/
def clientKeepsUptoCard : Claim7 := { stood := { row := clientKeepsUptoRow, standIns := [], harness := (true, "aee6e88d6ac83f4af38e1b7f2dae3259c965914cb43f3fc01a3396c69bee4d53"), looks := false }, kinds := [], alts := [], laidByText := true, laidKinds := [.data, .data, .data, .data, .pinned], laidTests := true, laidLooks := .later }
def ClientKeepsUptoCardSaid : Prop := Claim7.holds Tryz.pinned (.plain (OpenSpec.upto clientKeepsSpec)) clientKeepsUptoCard
end Rows
end Go.Proofs.YtbeimhhhgjaaaaaGreatDoor
