/-
  DERIVED. GIVEN WITH THE SEED: THE CARDS: each row of YthlccacnoolpjaaDoorRows.lean that lists a variable, with what it lists TIED to the program's text (the seventh form; the later family's looks); each row that meets fmt, with fmt's text TOLD by the authors' own Lean function (tested against real Go, not proved from fmt's source: count such statements apart). THE CARD IS WHAT COUNTS. Prove the row's statement (the work); the ties are given (YthlccacnoolpjaaDoorTie.lean); close each card by the builder's one call (the guide's Derived/Test/ToyasCard.lean, 'card_holds'). Laid BY PROGRAM, IN A SANDBOX (cutbox-door.mjs). By AI agents, Wed Nov 11 2026. No macro, syntax, notation, axiom, sorry.
-/
import Derived.Test.YthlccacnoolpjaaDoorRows
import GoSem.ClaimSeven
namespace Go.Proofs.YthlccacnoolpjaaDoor
namespace Rows

/-- THE TIED CARD OF 'wicketgatelaw12.RolesTells'. -/
def rolesTellsCard : Claim7 := { stood := { row := rolesTellsRow, standIns := [], harness := (true, "60c890d6ffff405f5baf61f62f60d2d75be923060e025e511824b338e2ffa610"), looks := false }, kinds := [], alts := [], laidByText := true, laidKinds := [.data, .data, .data], laidTests := true, laidLooks := .later }
def RolesTellsCardSaid : Prop := Claim7.holds Tryd.pinned (.plain (OpenSpec.ofChange rolesTellsSpec)) rolesTellsCard

/-- THE TIED CARD OF 'wicketgatelaw12.RolesFinds'. -/
def rolesFindsCard : Claim7 := { stood := { row := rolesFindsRow, standIns := [], harness := (true, "60c890d6ffff405f5baf61f62f60d2d75be923060e025e511824b338e2ffa610"), looks := false }, kinds := [], alts := [], laidByText := true, laidKinds := [.data], laidTests := true, laidLooks := .later }
def RolesFindsCardSaid : Prop := Claim7.holds Tryd.pinned (.plain (OpenSpec.ofChange rolesFindsSpec)) rolesFindsCard

/-- THE TIED CARD OF 'wicketgatelaw12.RolesMore'. -/
def rolesMoreCard : Claim7 := { stood := { row := rolesMoreRow, standIns := [], harness := (true, "60c890d6ffff405f5baf61f62f60d2d75be923060e025e511824b338e2ffa610"), looks := false }, kinds := [], alts := [], laidByText := true, laidKinds := [.data], laidTests := true, laidLooks := .later }
def RolesMoreCardSaid : Prop := Claim7.holds Tryd.pinned (.plain (OpenSpec.ofChange rolesMoreSpec)) rolesMoreCard

/-- THE TIED CARD OF 'wicketgatelaw12.RolesBack'. -/
def rolesBackCard : Claim7 := { stood := { row := rolesBackRow, standIns := [], harness := (true, "60c890d6ffff405f5baf61f62f60d2d75be923060e025e511824b338e2ffa610"), looks := false }, kinds := [], alts := [], laidByText := true, laidKinds := [.data], laidTests := true, laidLooks := .later }
def RolesBackCardSaid : Prop := Claim7.holds Tryd.pinned (.plain (OpenSpec.ofChange rolesBackSpec)) rolesBackCard

/-- THE TIED CARD OF 'wicketgatelaw12.RolesOne'. -/
def rolesOneCard : Claim7 := { stood := { row := rolesOneRow, standIns := [], harness := (true, "60c890d6ffff405f5baf61f62f60d2d75be923060e025e511824b338e2ffa610"), looks := false }, kinds := [], alts := [], laidByText := true, laidKinds := [.data], laidTests := true, laidLooks := .later }
def RolesOneCardSaid : Prop := Claim7.holds Tryd.pinned (.plain (OpenSpec.ofChange rolesOneSpec)) rolesOneCard

/-- THE SECOND FORM's CARD OF 'wicketgatelaw12.RolesTells'. -/
def rolesTellsUptoCard : Claim7 := { stood := { row := rolesTellsUptoRow, standIns := [], harness := (true, "60c890d6ffff405f5baf61f62f60d2d75be923060e025e511824b338e2ffa610"), looks := false }, kinds := [], alts := [], laidByText := true, laidKinds := [.data, .data, .data], laidTests := true, laidLooks := .later }
def RolesTellsUptoCardSaid : Prop := Claim7.holds Tryd.pinned (.plain (OpenSpec.upto rolesTellsSpec)) rolesTellsUptoCard

/-- THE SECOND FORM's CARD OF 'wicketgatelaw12.RolesFinds'. -/
def rolesFindsUptoCard : Claim7 := { stood := { row := rolesFindsUptoRow, standIns := [], harness := (true, "60c890d6ffff405f5baf61f62f60d2d75be923060e025e511824b338e2ffa610"), looks := false }, kinds := [], alts := [], laidByText := true, laidKinds := [.data], laidTests := true, laidLooks := .later }
def RolesFindsUptoCardSaid : Prop := Claim7.holds Tryd.pinned (.plain (OpenSpec.upto rolesFindsSpec)) rolesFindsUptoCard

/-- THE SECOND FORM's CARD OF 'wicketgatelaw12.RolesMore'. -/
def rolesMoreUptoCard : Claim7 := { stood := { row := rolesMoreUptoRow, standIns := [], harness := (true, "60c890d6ffff405f5baf61f62f60d2d75be923060e025e511824b338e2ffa610"), looks := false }, kinds := [], alts := [], laidByText := true, laidKinds := [.data], laidTests := true, laidLooks := .later }
def RolesMoreUptoCardSaid : Prop := Claim7.holds Tryd.pinned (.plain (OpenSpec.upto rolesMoreSpec)) rolesMoreUptoCard

/-- THE SECOND FORM's CARD OF 'wicketgatelaw12.RolesBack'. -/
def rolesBackUptoCard : Claim7 := { stood := { row := rolesBackUptoRow, standIns := [], harness := (true, "60c890d6ffff405f5baf61f62f60d2d75be923060e025e511824b338e2ffa610"), looks := false }, kinds := [], alts := [], laidByText := true, laidKinds := [.data], laidTests := true, laidLooks := .later }
def RolesBackUptoCardSaid : Prop := Claim7.holds Tryd.pinned (.plain (OpenSpec.upto rolesBackSpec)) rolesBackUptoCard

/-- THE SECOND FORM's CARD OF 'wicketgatelaw12.RolesOne'. -/
def rolesOneUptoCard : Claim7 := { stood := { row := rolesOneUptoRow, standIns := [], harness := (true, "60c890d6ffff405f5baf61f62f60d2d75be923060e025e511824b338e2ffa610"), looks := false }, kinds := [], alts := [], laidByText := true, laidKinds := [.data], laidTests := true, laidLooks := .later }
def RolesOneUptoCardSaid : Prop := Claim7.holds Tryd.pinned (.plain (OpenSpec.upto rolesOneSpec)) rolesOneUptoCard
end Rows
end Go.Proofs.YthlccacnoolpjaaDoor
