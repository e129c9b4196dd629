/-
  DERIVED. GIVEN WITH THE SEED: THE CARDS: each row of YtiakcjckebghlaaDoorRows.lean that lists a variable, with what it lists TIED to the program's text (the seventh form; the later family's looks); each row that meets fmt, with fmt's text TOLD by the authors' own Lean function (tested against real Go, not proved from fmt's source: count such statements apart). THE CARD IS WHAT COUNTS. Prove the row's statement (the work); the ties are given (YtiakcjckebghlaaDoorTie.lean); close each card by the builder's one call (the guide's Derived/Test/ToyasCard.lean, 'card_holds'). Laid BY PROGRAM, IN A SANDBOX (cutbox-door.mjs). By AI agents, Wed Nov 11 2026. No macro, syntax, notation, axiom, sorry.
-/
import Derived.Test.YtiakcjckebghlaaDoorRows
import GoSem.ClaimSeven
namespace Go.Proofs.YtiakcjckebghlaaDoor
namespace Rows

/-- THE TIED CARD OF 'wicketgatelaw04.ShaSums'. -/
def shaSumsCard : Claim7 := { stood := { row := shaSumsRow, standIns := [], harness := (true, "1d5594fc68fe16b6b6082c7528d4114541c10ca713ba9273e057623b0509d17f"), looks := false }, kinds := [], alts := [], laidByText := true, laidKinds := [.data, .data], laidTests := true, laidLooks := .later }
def ShaSumsCardSaid : Prop := Claim7.holds Tryd.pinned (.plain (OpenSpec.ofChange shaSumsSpec)) shaSumsCard

/-- THE TIED CARD OF 'wicketgatelaw04.ShaDigits'. -/
def shaDigitsCard : Claim7 := { stood := { row := shaDigitsRow, standIns := [], harness := (true, "1d5594fc68fe16b6b6082c7528d4114541c10ca713ba9273e057623b0509d17f"), looks := false }, kinds := [], alts := [], laidByText := true, laidKinds := [.data], laidTests := true, laidLooks := .later }
def ShaDigitsCardSaid : Prop := Claim7.holds Tryd.pinned (.plain (OpenSpec.ofChange shaDigitsSpec)) shaDigitsCard

/-- THE TIED CARD OF 'wicketgatelaw04.ShaPads'. -/
def shaPadsCard : Claim7 := { stood := { row := shaPadsRow, standIns := [], harness := (true, "1d5594fc68fe16b6b6082c7528d4114541c10ca713ba9273e057623b0509d17f"), looks := false }, kinds := [], alts := [], laidByText := true, laidKinds := [.data], laidTests := true, laidLooks := .later }
def ShaPadsCardSaid : Prop := Claim7.holds Tryd.pinned (.plain (OpenSpec.ofChange shaPadsSpec)) shaPadsCard

/-- THE TIED CARD OF 'wicketgatelaw04.ShaBack'. -/
def shaBackCard : Claim7 := { stood := { row := shaBackRow, standIns := [], harness := (true, "1d5594fc68fe16b6b6082c7528d4114541c10ca713ba9273e057623b0509d17f"), looks := false }, kinds := [], alts := [], laidByText := true, laidKinds := [.data], laidTests := true, laidLooks := .later }
def ShaBackCardSaid : Prop := Claim7.holds Tryd.pinned (.plain (OpenSpec.ofChange shaBackSpec)) shaBackCard

/-- THE TIED CARD OF 'wicketgatelaw04.ShaJoins'. -/
def shaJoinsCard : Claim7 := { stood := { row := shaJoinsRow, standIns := [], harness := (true, "1d5594fc68fe16b6b6082c7528d4114541c10ca713ba9273e057623b0509d17f"), looks := false }, kinds := [], alts := [], laidByText := true, laidKinds := [.data], laidTests := true, laidLooks := .later }
def ShaJoinsCardSaid : Prop := Claim7.holds Tryd.pinned (.plain (OpenSpec.ofChange shaJoinsSpec)) shaJoinsCard

/-- THE TIED CARD OF 'wicketgatelaw04.ShaHalves'. -/
def shaHalvesCard : Claim7 := { stood := { row := shaHalvesRow, standIns := [], harness := (true, "1d5594fc68fe16b6b6082c7528d4114541c10ca713ba9273e057623b0509d17f"), looks := false }, kinds := [], alts := [], laidByText := true, laidKinds := [.data], laidTests := true, laidLooks := .later }
def ShaHalvesCardSaid : Prop := Claim7.holds Tryd.pinned (.plain (OpenSpec.ofChange shaHalvesSpec)) shaHalvesCard

/-- THE SECOND FORM's CARD OF 'wicketgatelaw04.ShaSums'. -/
def shaSumsUptoCard : Claim7 := { stood := { row := shaSumsUptoRow, standIns := [], harness := (true, "1d5594fc68fe16b6b6082c7528d4114541c10ca713ba9273e057623b0509d17f"), looks := false }, kinds := [], alts := [], laidByText := true, laidKinds := [.data, .data], laidTests := true, laidLooks := .later }
def ShaSumsUptoCardSaid : Prop := Claim7.holds Tryd.pinned (.plain (OpenSpec.upto shaSumsSpec)) shaSumsUptoCard

/-- THE SECOND FORM's CARD OF 'wicketgatelaw04.ShaDigits'. -/
def shaDigitsUptoCard : Claim7 := { stood := { row := shaDigitsUptoRow, standIns := [], harness := (true, "1d5594fc68fe16b6b6082c7528d4114541c10ca713ba9273e057623b0509d17f"), looks := false }, kinds := [], alts := [], laidByText := true, laidKinds := [.data], laidTests := true, laidLooks := .later }
def ShaDigitsUptoCardSaid : Prop := Claim7.holds Tryd.pinned (.plain (OpenSpec.upto shaDigitsSpec)) shaDigitsUptoCard

/-- THE SECOND FORM's CARD OF 'wicketgatelaw04.ShaPads'. -/
def shaPadsUptoCard : Claim7 := { stood := { row := shaPadsUptoRow, standIns := [], harness := (true, "1d5594fc68fe16b6b6082c7528d4114541c10ca713ba9273e057623b0509d17f"), looks := false }, kinds := [], alts := [], laidByText := true, laidKinds := [.data], laidTests := true, laidLooks := .later }
def ShaPadsUptoCardSaid : Prop := Claim7.holds Tryd.pinned (.plain (OpenSpec.upto shaPadsSpec)) shaPadsUptoCard

/-- THE SECOND FORM's CARD OF 'wicketgatelaw04.ShaBack'. -/
def shaBackUptoCard : Claim7 := { stood := { row := shaBackUptoRow, standIns := [], harness := (true, "1d5594fc68fe16b6b6082c7528d4114541c10ca713ba9273e057623b0509d17f"), looks := false }, kinds := [], alts := [], laidByText := true, laidKinds := [.data], laidTests := true, laidLooks := .later }
def ShaBackUptoCardSaid : Prop := Claim7.holds Tryd.pinned (.plain (OpenSpec.upto shaBackSpec)) shaBackUptoCard

/-- THE SECOND FORM's CARD OF 'wicketgatelaw04.ShaJoins'. -/
def shaJoinsUptoCard : Claim7 := { stood := { row := shaJoinsUptoRow, standIns := [], harness := (true, "1d5594fc68fe16b6b6082c7528d4114541c10ca713ba9273e057623b0509d17f"), looks := false }, kinds := [], alts := [], laidByText := true, laidKinds := [.data], laidTests := true, laidLooks := .later }
def ShaJoinsUptoCardSaid : Prop := Claim7.holds Tryd.pinned (.plain (OpenSpec.upto shaJoinsSpec)) shaJoinsUptoCard

/-- THE SECOND FORM's CARD OF 'wicketgatelaw04.ShaHalves'. -/
def shaHalvesUptoCard : Claim7 := { stood := { row := shaHalvesUptoRow, standIns := [], harness := (true, "1d5594fc68fe16b6b6082c7528d4114541c10ca713ba9273e057623b0509d17f"), looks := false }, kinds := [], alts := [], laidByText := true, laidKinds := [.data], laidTests := true, laidLooks := .later }
def ShaHalvesUptoCardSaid : Prop := Claim7.holds Tryd.pinned (.plain (OpenSpec.upto shaHalvesSpec)) shaHalvesUptoCard
end Rows
end Go.Proofs.YtiakcjckebghlaaDoor
