/-
  DERIVED. GIVEN WITH THE SEED: THE PROGRAM's TIES (one call each: nine closed facts by the kernel) AND EACH ROW's TIE, after the 31st guide's Derived/Test/Toyas{Tie, Card}.lean. No idea stands in it: it is a product of the set-up. Laid BY PROGRAM, IN A SANDBOX (cutbox-door.mjs). By AI agents, Wed Nov 11 2026. No macro, syntax, notation, axiom, sorry.
-/
import Derived.Test.YthlccacnoolpjaaDoorRows
import Derived.LaidByTextLater
import Derived.SevenTiedAt
import Derived.LaidSub
import Derived.LaidOnce
namespace Go.Proofs.YthlccacnoolpjaaDoor
open Go
set_option maxRecDepth 100000
theorem seatTie1 : Tryd.prog.laidByTextLater [("wicketgate/wicketgateref12.verbs", Rows.laid_wicketgate_wicketgateref12_verbs), ("wicketgate/wicketgateref12.roles", Rows.laid_wicketgate_wicketgateref12_roles), ("wicketgate/roles.verbs", Rows.laid_wicketgate_roles_verbs)] [.data, .data, .data] true :=
  Program.laidByTextLater_by_one 34 8 31 (by kernel_rfl) (by kernel_rfl) (by kernel_rfl) (by kernel_rfl) (by kernel_rfl) (by kernel_rfl) (fun _ _ => by kernel_rfl)
theorem noOwnUnsafe : Tryd.pinned.checked.prog.headLifts.contains "ownunsafe" = false := by kernel_rfl
theorem tie : Tryd.prog.laidByTextLater [("wicketgate/wicketgateref12.verbs", Rows.laid_wicketgate_wicketgateref12_verbs), ("wicketgate/wicketgateref12.roles", Rows.laid_wicketgate_wicketgateref12_roles), ("wicketgate/roles.verbs", Rows.laid_wicketgate_roles_verbs)] [.data, .data, .data] true :=
  Program.laidByTextLater.sub seatTie1 ["wicketgate/wicketgateref12.verbs", "wicketgate/wicketgateref12.roles", "wicketgate/roles.verbs"] (by kernel_rfl) (by kernel_rfl)
theorem rolesTells_row_tie : Rows.rolesTellsRow.laidByTextAt .later Tryd.pinned [.data, .data, .data] true :=
  OpenClaim.laidByTextAt_later rfl rfl tie noOwnUnsafe
theorem tie2 : Tryd.prog.laidByTextLater [("wicketgate/roles.verbs", Rows.laid_wicketgate_roles_verbs)] [.data] true :=
  Program.laidByTextLater.sub seatTie1 ["wicketgate/roles.verbs"] (by kernel_rfl) (by kernel_rfl)
theorem rolesFinds_row_tie : Rows.rolesFindsRow.laidByTextAt .later Tryd.pinned [.data] true :=
  OpenClaim.laidByTextAt_later rfl rfl tie2 noOwnUnsafe
theorem rolesMore_row_tie : Rows.rolesMoreRow.laidByTextAt .later Tryd.pinned [.data] true :=
  OpenClaim.laidByTextAt_later rfl rfl tie2 noOwnUnsafe
theorem rolesBack_row_tie : Rows.rolesBackRow.laidByTextAt .later Tryd.pinned [.data] true :=
  OpenClaim.laidByTextAt_later rfl rfl tie2 noOwnUnsafe
theorem rolesOne_row_tie : Rows.rolesOneRow.laidByTextAt .later Tryd.pinned [.data] true :=
  OpenClaim.laidByTextAt_later rfl rfl tie2 noOwnUnsafe
theorem rolesTellsUpto_row_tie : Rows.rolesTellsUptoRow.laidByTextAt .later Tryd.pinned [.data, .data, .data] true :=
  OpenClaim.laidByTextAt_later rfl rfl tie noOwnUnsafe
theorem rolesFindsUpto_row_tie : Rows.rolesFindsUptoRow.laidByTextAt .later Tryd.pinned [.data] true :=
  OpenClaim.laidByTextAt_later rfl rfl tie2 noOwnUnsafe
theorem rolesMoreUpto_row_tie : Rows.rolesMoreUptoRow.laidByTextAt .later Tryd.pinned [.data] true :=
  OpenClaim.laidByTextAt_later rfl rfl tie2 noOwnUnsafe
theorem rolesBackUpto_row_tie : Rows.rolesBackUptoRow.laidByTextAt .later Tryd.pinned [.data] true :=
  OpenClaim.laidByTextAt_later rfl rfl tie2 noOwnUnsafe
theorem rolesOneUpto_row_tie : Rows.rolesOneUptoRow.laidByTextAt .later Tryd.pinned [.data] true :=
  OpenClaim.laidByTextAt_later rfl rfl tie2 noOwnUnsafe
end Go.Proofs.YthlccacnoolpjaaDoor
