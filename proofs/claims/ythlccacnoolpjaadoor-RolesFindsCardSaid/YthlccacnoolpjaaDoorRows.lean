/-
  NARROWER THAN 'FOR EVERY INPUT', by the rows' own cells (each row's printed sentence says how): RolesTells: laid · RolesFinds: laid · RolesMore: laid · RolesBack: laid · RolesOne: laid.
  DERIVED. THE GIVEN ROWS OF THIS SEAT. 5 by the template 'for every input the law returns true; each argument reads behind the call as it read before'; 0 by the template 'total and deterministic' (their statements: YthlccacnoolpjaaDoorTotals.lean).
  GIVEN WITH THE SEED: the statements are not yours to turn. If you find one false, say at which input.
  Laid BY PROGRAM, IN A SANDBOX (cutbox-rows.mjs): the forced cells as the released guide's own fill.sh prints them over the translation 5c1281fb242fc31e… (all of the seat's roots in one cut). By AI agents, Wed Nov 11 2026. No macro, syntax, notation, axiom, sorry.
-/
import Derived.Test.YthlccacnoolpjaaDoorChecked
import GoSem.Claim
import GoSem.ClaimJoined
import GoSem.ClaimMapViews
import Derived.JoinedTies
import Derived.KernelRfl
namespace Go.Proofs.YthlccacnoolpjaaDoor
/- THE CELL 'sum', in the pinned program and in every row, IS THE sha256 OF THE DUMP (.gsa) THAT YthlccacnoolpjaaDoorProg.lean LOADS. Nothing in Lean hashes anything: it is a label: what it is worth is what the hold of that sum in a sandbox is worth. -/
noncomputable def Tryd.pinned : Pinned := { name := "ythlccacnoolpjaadoor", sum := "5c1281fb242fc31e2722d6dc491d3bea0c3476677bac7882879115bdb8c9bddc", checked := Tryd.checked }
namespace Rows
def none {H : Type} : Left H := { results := [], args := [] }

/- WHAT THE LISTED PACKAGE-LEVEL VARIABLES READ AS WHEN THE CALL BEGINS. Each datum BY PROGRAM (the guide's laid-datum.mjs) off the statement by which the dump's own 'gosem.cut.vars' lays the variable. In a bare row this is a premise. The card (YthlccacnoolpjaaDoorCards.lean) ties it to the program's text. -/
def laid_wicketgate_wicketgateref12_verbs {H : Type} : DataW H := .agg [.lit (.string [99, 114, 101, 97, 116, 101]), .lit (.string [115, 117, 115, 112, 101, 110, 100]), .lit (.string [114, 101, 115, 117, 109, 101]), .lit (.string [100, 114, 97, 105, 110]), .lit (.string [100, 101, 108, 101, 116, 101]), .lit (.string [114, 111, 116, 97, 116, 101]), .lit (.string [97, 99, 108]), .lit (.string [107, 105, 108, 108]), .lit (.string [108, 105, 115, 116]), .lit (.string [115, 104, 111, 119])]
def laid_wicketgate_wicketgateref12_roles {H : Type} : DataW H := .agg [.lit (.string [118, 105, 101, 119, 101, 114]), .lit (.string [107, 101, 101, 112, 101, 114]), .lit (.string [103, 111, 118, 101, 114, 110, 111, 114])]
def laid_wicketgate_roles_verbs {H : Type} : DataW H := .agg [.agg [.lit (.int .i64 1), .lit (.string [99, 114, 101, 97, 116, 101]), .lit (.int .i64 4)], .agg [.lit (.int .i64 2), .lit (.string [115, 117, 115, 112, 101, 110, 100]), .lit (.int .i64 2)], .agg [.lit (.int .i64 3), .lit (.string [114, 101, 115, 117, 109, 101]), .lit (.int .i64 2)], .agg [.lit (.int .i64 4), .lit (.string [100, 114, 97, 105, 110]), .lit (.int .i64 2)], .agg [.lit (.int .i64 5), .lit (.string [100, 101, 108, 101, 116, 101]), .lit (.int .i64 4)], .agg [.lit (.int .i64 6), .lit (.string [114, 111, 116, 97, 116, 101]), .lit (.int .i64 4)], .agg [.lit (.int .i64 7), .lit (.string [97, 99, 108]), .lit (.int .i64 4)], .agg [.lit (.int .i64 8), .lit (.string [107, 105, 108, 108]), .lit (.int .i64 2)], .agg [.lit (.int .i64 9), .lit (.string [108, 105, 115, 116]), .lit (.int .i64 1)], .agg [.lit (.int .i64 10), .lit (.string [115, 104, 111, 119]), .lit (.int .i64 1)]]

/-- 'wicketgatelaw12.RolesTells': WHATEVER THE INPUT: true; the input reads as it did. -/
def rolesTellsSpec : ChangeSpec := { name := "rolesTells", fn := fun _ => fun
  | [d1, d2, d3] => { results := [.lit (.bool true)], args := [d1, d2, d3] }
  | _ => none }
def rolesTellsRow : OpenClaim := { program := "ythlccacnoolpjaadoor", sum := "5c1281fb242fc31e2722d6dc491d3bea0c3476677bac7882879115bdb8c9bddc", func := "wicketgate/wicketgatelaw12.RolesTells", spec := "rolesTells", unfollowed := true, recurses := true, named := ["wicketgate/roles.verbs", "wicketgate/wicketgateref12.roles", "wicketgate/wicketgateref12.verbs"], apart := false, laid := [("wicketgate/wicketgateref12.verbs", laid_wicketgate_wicketgateref12_verbs), ("wicketgate/wicketgateref12.roles", laid_wicketgate_wicketgateref12_roles), ("wicketgate/roles.verbs", laid_wicketgate_roles_verbs)] }
def RolesTellsSaid : Prop := rolesTellsRow.holds Tryd.pinned (OpenSpec.ofChange rolesTellsSpec)

/-- ITS FALSE NEIGHBOUR: 'it returns false'. Refute it at one input. -/
def rolesTellsWrong : ChangeSpec := { name := "rolesTells", fn := fun _ => fun
  | [d1, d2, d3] => { results := [.lit (.bool false)], args := [d1, d2, d3] }
  | _ => none }
def RolesTellsWrongFalsely : Prop := rolesTellsRow.holds Tryd.pinned (OpenSpec.ofChange rolesTellsWrong)

/-- 'wicketgatelaw12.RolesFinds': WHATEVER THE INPUT: true; the input reads as it did. -/
def rolesFindsSpec : ChangeSpec := { name := "rolesFinds", fn := fun _ => fun
  | [d1, d2] => { results := [.lit (.bool true)], args := [d1, d2] }
  | _ => none }
def rolesFindsRow : OpenClaim := { program := "ythlccacnoolpjaadoor", sum := "5c1281fb242fc31e2722d6dc491d3bea0c3476677bac7882879115bdb8c9bddc", func := "wicketgate/wicketgatelaw12.RolesFinds", spec := "rolesFinds", unfollowed := true, recurses := true, named := ["wicketgate/roles.verbs"], apart := false, laid := [("wicketgate/roles.verbs", laid_wicketgate_roles_verbs)] }
def RolesFindsSaid : Prop := rolesFindsRow.holds Tryd.pinned (OpenSpec.ofChange rolesFindsSpec)

/-- ITS FALSE NEIGHBOUR: 'it returns false'. Refute it at one input. -/
def rolesFindsWrong : ChangeSpec := { name := "rolesFinds", fn := fun _ => fun
  | [d1, d2] => { results := [.lit (.bool false)], args := [d1, d2] }
  | _ => none }
def RolesFindsWrongFalsely : Prop := rolesFindsRow.holds Tryd.pinned (OpenSpec.ofChange rolesFindsWrong)

/-- 'wicketgatelaw12.RolesMore': WHATEVER THE INPUT: true; the input reads as it did. -/
def rolesMoreSpec : ChangeSpec := { name := "rolesMore", fn := fun _ => fun
  | [d1, d2, d3] => { results := [.lit (.bool true)], args := [d1, d2, d3] }
  | _ => none }
def rolesMoreRow : OpenClaim := { program := "ythlccacnoolpjaadoor", sum := "5c1281fb242fc31e2722d6dc491d3bea0c3476677bac7882879115bdb8c9bddc", func := "wicketgate/wicketgatelaw12.RolesMore", spec := "rolesMore", unfollowed := true, recurses := true, named := ["wicketgate/roles.verbs"], apart := false, laid := [("wicketgate/roles.verbs", laid_wicketgate_roles_verbs)] }
def RolesMoreSaid : Prop := rolesMoreRow.holds Tryd.pinned (OpenSpec.ofChange rolesMoreSpec)

/-- ITS FALSE NEIGHBOUR: 'it returns false'. Refute it at one input. -/
def rolesMoreWrong : ChangeSpec := { name := "rolesMore", fn := fun _ => fun
  | [d1, d2, d3] => { results := [.lit (.bool false)], args := [d1, d2, d3] }
  | _ => none }
def RolesMoreWrongFalsely : Prop := rolesMoreRow.holds Tryd.pinned (OpenSpec.ofChange rolesMoreWrong)

/-- 'wicketgatelaw12.RolesBack': WHATEVER THE INPUT: true; the input reads as it did. -/
def rolesBackSpec : ChangeSpec := { name := "rolesBack", fn := fun _ => fun
  | [d1, d2] => { results := [.lit (.bool true)], args := [d1, d2] }
  | _ => none }
def rolesBackRow : OpenClaim := { program := "ythlccacnoolpjaadoor", sum := "5c1281fb242fc31e2722d6dc491d3bea0c3476677bac7882879115bdb8c9bddc", func := "wicketgate/wicketgatelaw12.RolesBack", spec := "rolesBack", unfollowed := true, recurses := true, named := ["wicketgate/roles.verbs"], apart := false, laid := [("wicketgate/roles.verbs", laid_wicketgate_roles_verbs)] }
def RolesBackSaid : Prop := rolesBackRow.holds Tryd.pinned (OpenSpec.ofChange rolesBackSpec)

/-- ITS FALSE NEIGHBOUR: 'it returns false'. Refute it at one input. -/
def rolesBackWrong : ChangeSpec := { name := "rolesBack", fn := fun _ => fun
  | [d1, d2] => { results := [.lit (.bool false)], args := [d1, d2] }
  | _ => none }
def RolesBackWrongFalsely : Prop := rolesBackRow.holds Tryd.pinned (OpenSpec.ofChange rolesBackWrong)

/-- 'wicketgatelaw12.RolesOne': WHATEVER THE INPUT: true; the input reads as it did. -/
def rolesOneSpec : ChangeSpec := { name := "rolesOne", fn := fun _ => fun
  | [d1, d2, d3] => { results := [.lit (.bool true)], args := [d1, d2, d3] }
  | _ => none }
def rolesOneRow : OpenClaim := { program := "ythlccacnoolpjaadoor", sum := "5c1281fb242fc31e2722d6dc491d3bea0c3476677bac7882879115bdb8c9bddc", func := "wicketgate/wicketgatelaw12.RolesOne", spec := "rolesOne", unfollowed := true, recurses := true, named := ["wicketgate/roles.verbs"], apart := false, laid := [("wicketgate/roles.verbs", laid_wicketgate_roles_verbs)] }
def RolesOneSaid : Prop := rolesOneRow.holds Tryd.pinned (OpenSpec.ofChange rolesOneSpec)

/-- ITS FALSE NEIGHBOUR: 'it returns false'. Refute it at one input. -/
def rolesOneWrong : ChangeSpec := { name := "rolesOne", fn := fun _ => fun
  | [d1, d2, d3] => { results := [.lit (.bool false)], args := [d1, d2, d3] }
  | _ => none }
def RolesOneWrongFalsely : Prop := rolesOneRow.holds Tryd.pinned (OpenSpec.ofChange rolesOneWrong)

/- THE SECOND FORM. 'bulk': how many values and letters a reading holds, each counted each time it is reached (what is shared counts as often as it is met; a slice's spare places count too). A statement '..UptoSaid' is the law's where the arguments, and the package variables that the reading takes, are together of bulk at most 1048576: NARROWER than '..Said'. Prove '..Said' where nothing that the law and all that it calls make is longer than what came in: it says more and counts as full. Else prove '..UptoSaid'. A law counts once. -/
mutual
def uptoBulk {H : Type} : DataW H → Nat
  | .lit (.string bytes) => bytes.length + 1
  | .lit _ => 1
  | .nil => 1
  | .ptr d => uptoBulk d + 1
  | .slice elems spare => uptoBulkAll elems + uptoBulkAll spare + 1
  | .agg parts => uptoBulkAll parts + 1
  | .iface _ d => uptoBulk d + 1
  | .map entries => uptoBulkEntries entries + 1
  | .held _ => 1
def uptoBulkAll {H : Type} : List (DataW H) → Nat
  | [] => 0
  | d :: r => uptoBulk d + uptoBulkAll r
def uptoBulkEntries {H : Type} : List (Lit × DataW H) → Nat
  | [] => 0
  | x :: r => uptoBulkEntry x + uptoBulkEntries r
def uptoBulkEntry {H : Type} : Lit × DataW H → Nat
  | (.string bytes, d) => bytes.length + uptoBulk d + 1
  | (_, d) => uptoBulk d + 1
 end
def uptoSmall : (H : Type) → List (DataW H) → Bool := fun _ ds => decide (uptoBulkAll ds ≤ 1048576)
def OpenSpec.upto (s : _root_.Go.ChangeSpec) : _root_.Go.OpenSpec := { _root_.Go.OpenSpec.ofChange s with cond := some uptoSmall }

/-- 'wicketgatelaw12.RolesTells', WHERE WHAT IT READS IS OF BULK AT MOST 1048576: true; the input reads as it did. -/
def rolesTellsUptoRow : OpenClaim := { program := "ythlccacnoolpjaadoor", sum := "5c1281fb242fc31e2722d6dc491d3bea0c3476677bac7882879115bdb8c9bddc", func := "wicketgate/wicketgatelaw12.RolesTells", spec := "rolesTells", unfollowed := true, recurses := true, named := ["wicketgate/roles.verbs", "wicketgate/wicketgateref12.roles", "wicketgate/wicketgateref12.verbs"], apart := false, laid := [("wicketgate/wicketgateref12.verbs", laid_wicketgate_wicketgateref12_verbs), ("wicketgate/wicketgateref12.roles", laid_wicketgate_wicketgateref12_roles), ("wicketgate/roles.verbs", laid_wicketgate_roles_verbs)], narrowed := true }
def RolesTellsUptoSaid : Prop := rolesTellsUptoRow.holds Tryd.pinned (OpenSpec.upto rolesTellsSpec)

/-- 'wicketgatelaw12.RolesFinds', WHERE WHAT IT READS IS OF BULK AT MOST 1048576: true; the input reads as it did. -/
def rolesFindsUptoRow : OpenClaim := { program := "ythlccacnoolpjaadoor", sum := "5c1281fb242fc31e2722d6dc491d3bea0c3476677bac7882879115bdb8c9bddc", func := "wicketgate/wicketgatelaw12.RolesFinds", spec := "rolesFinds", unfollowed := true, recurses := true, named := ["wicketgate/roles.verbs"], apart := false, laid := [("wicketgate/roles.verbs", laid_wicketgate_roles_verbs)], narrowed := true }
def RolesFindsUptoSaid : Prop := rolesFindsUptoRow.holds Tryd.pinned (OpenSpec.upto rolesFindsSpec)

/-- 'wicketgatelaw12.RolesMore', WHERE WHAT IT READS IS OF BULK AT MOST 1048576: true; the input reads as it did. -/
def rolesMoreUptoRow : OpenClaim := { program := "ythlccacnoolpjaadoor", sum := "5c1281fb242fc31e2722d6dc491d3bea0c3476677bac7882879115bdb8c9bddc", func := "wicketgate/wicketgatelaw12.RolesMore", spec := "rolesMore", unfollowed := true, recurses := true, named := ["wicketgate/roles.verbs"], apart := false, laid := [("wicketgate/roles.verbs", laid_wicketgate_roles_verbs)], narrowed := true }
def RolesMoreUptoSaid : Prop := rolesMoreUptoRow.holds Tryd.pinned (OpenSpec.upto rolesMoreSpec)

/-- 'wicketgatelaw12.RolesBack', WHERE WHAT IT READS IS OF BULK AT MOST 1048576: true; the input reads as it did. -/
def rolesBackUptoRow : OpenClaim := { program := "ythlccacnoolpjaadoor", sum := "5c1281fb242fc31e2722d6dc491d3bea0c3476677bac7882879115bdb8c9bddc", func := "wicketgate/wicketgatelaw12.RolesBack", spec := "rolesBack", unfollowed := true, recurses := true, named := ["wicketgate/roles.verbs"], apart := false, laid := [("wicketgate/roles.verbs", laid_wicketgate_roles_verbs)], narrowed := true }
def RolesBackUptoSaid : Prop := rolesBackUptoRow.holds Tryd.pinned (OpenSpec.upto rolesBackSpec)

/-- 'wicketgatelaw12.RolesOne', WHERE WHAT IT READS IS OF BULK AT MOST 1048576: true; the input reads as it did. -/
def rolesOneUptoRow : OpenClaim := { program := "ythlccacnoolpjaadoor", sum := "5c1281fb242fc31e2722d6dc491d3bea0c3476677bac7882879115bdb8c9bddc", func := "wicketgate/wicketgatelaw12.RolesOne", spec := "rolesOne", unfollowed := true, recurses := true, named := ["wicketgate/roles.verbs"], apart := false, laid := [("wicketgate/roles.verbs", laid_wicketgate_roles_verbs)], narrowed := true }
def RolesOneUptoSaid : Prop := rolesOneUptoRow.holds Tryd.pinned (OpenSpec.upto rolesOneSpec)

end Rows
end Go.Proofs.YthlccacnoolpjaaDoor
