/-
  No cell of these rows narrows 'for every input' (looked for: loops, veiled, ifaces, maps, wideKeys, modest, calm, conditions, laid).
  DERIVED. THE GIVEN ROWS OF THIS SEAT. 6 by the template 'for every input the law returns true; each argument reads behind the call as it read before'; 0 by the template 'total and deterministic' (their statements: YtbajhnmgimggfaaTotals.lean).
  GIVEN WITH THE SEED: the statements are not yours to turn. If you find one false, say at which input.
  Laid BY PROGRAM, IN A SANDBOX (cutbox-rows.mjs): the forced cells as the released guide's own fill.sh prints them over the translation b638a71c2591fe6d… (all of the seat's roots in one cut). By AI agents, Wed Nov 11 2026. No macro, syntax, notation, axiom, sorry.
-/
import Derived.Test.YtbajhnmgimggfaaChecked
import GoSem.Claim
import GoSem.ClaimJoined
import GoSem.ClaimMapViews
import Derived.JoinedTies
import Derived.KernelRfl
namespace Go.Proofs.Ytbajhnmgimggfaa
/- THE CELL 'sum', in the pinned program and in every row, IS THE sha256 OF THE DUMP (.gsa) THAT YtbajhnmgimggfaaProg.lean LOADS. Nothing in Lean hashes anything: it is a label: what it is worth is what the hold of that sum in a sandbox is worth. -/
noncomputable def Try.pinned : Pinned := { name := "ytbajhnmgimggfaa", sum := "b638a71c2591fe6d5b437c564dd686e946f54a9175a9acb21ea504ff34b2d546", checked := Try.checked }
namespace Rows
def none {H : Type} : Left H := { results := [], args := [] }

/-- 'wicketgatelaw13.CreditTells': WHATEVER THE INPUT: true; the input reads as it did. -/
def creditTellsSpec : ChangeSpec := { name := "creditTells", fn := fun _ => fun
  | [d1, d2, d3] => { results := [.lit (.bool true)], args := [d1, d2, d3] }
  | _ => none }
def creditTellsRow : OpenClaim := { program := "ytbajhnmgimggfaa", sum := "b638a71c2591fe6d5b437c564dd686e946f54a9175a9acb21ea504ff34b2d546", func := "wicketgate/wicketgatelaw13.CreditTells", spec := "creditTells", unfollowed := true, recurses := true, apart := false }
def CreditTellsSaid : Prop := creditTellsRow.holds Try.pinned (OpenSpec.ofChange creditTellsSpec)

/-- ITS FALSE NEIGHBOUR: 'it returns false'. Refute it at one input. -/
def creditTellsWrong : ChangeSpec := { name := "creditTells", fn := fun _ => fun
  | [d1, d2, d3] => { results := [.lit (.bool false)], args := [d1, d2, d3] }
  | _ => none }
def CreditTellsWrongFalsely : Prop := creditTellsRow.holds Try.pinned (OpenSpec.ofChange creditTellsWrong)

/-- 'wicketgatelaw13.CreditTurns': WHATEVER THE INPUT: true; the input reads as it did. -/
def creditTurnsSpec : ChangeSpec := { name := "creditTurns", fn := fun _ => fun
  | [d1, d2] => { results := [.lit (.bool true)], args := [d1, d2] }
  | _ => none }
def creditTurnsRow : OpenClaim := { program := "ytbajhnmgimggfaa", sum := "b638a71c2591fe6d5b437c564dd686e946f54a9175a9acb21ea504ff34b2d546", func := "wicketgate/wicketgatelaw13.CreditTurns", spec := "creditTurns", unfollowed := true, recurses := true, apart := false }
def CreditTurnsSaid : Prop := creditTurnsRow.holds Try.pinned (OpenSpec.ofChange creditTurnsSpec)

/-- ITS FALSE NEIGHBOUR: 'it returns false'. Refute it at one input. -/
def creditTurnsWrong : ChangeSpec := { name := "creditTurns", fn := fun _ => fun
  | [d1, d2] => { results := [.lit (.bool false)], args := [d1, d2] }
  | _ => none }
def CreditTurnsWrongFalsely : Prop := creditTurnsRow.holds Try.pinned (OpenSpec.ofChange creditTurnsWrong)

/-- 'wicketgatelaw13.CreditParts': WHATEVER THE INPUT: true; the input reads as it did. -/
def creditPartsSpec : ChangeSpec := { name := "creditParts", fn := fun _ => fun
  | [d1, d2, d3] => { results := [.lit (.bool true)], args := [d1, d2, d3] }
  | _ => none }
def creditPartsRow : OpenClaim := { program := "ytbajhnmgimggfaa", sum := "b638a71c2591fe6d5b437c564dd686e946f54a9175a9acb21ea504ff34b2d546", func := "wicketgate/wicketgatelaw13.CreditParts", spec := "creditParts", unfollowed := true, recurses := true, apart := false }
def CreditPartsSaid : Prop := creditPartsRow.holds Try.pinned (OpenSpec.ofChange creditPartsSpec)

/-- ITS FALSE NEIGHBOUR: 'it returns false'. Refute it at one input. -/
def creditPartsWrong : ChangeSpec := { name := "creditParts", fn := fun _ => fun
  | [d1, d2, d3] => { results := [.lit (.bool false)], args := [d1, d2, d3] }
  | _ => none }
def CreditPartsWrongFalsely : Prop := creditPartsRow.holds Try.pinned (OpenSpec.ofChange creditPartsWrong)

/-- 'wicketgatelaw13.CreditNever': WHATEVER THE INPUT: true; the input reads as it did. -/
def creditNeverSpec : ChangeSpec := { name := "creditNever", fn := fun _ => fun
  | [d1, d2] => { results := [.lit (.bool true)], args := [d1, d2] }
  | _ => none }
def creditNeverRow : OpenClaim := { program := "ytbajhnmgimggfaa", sum := "b638a71c2591fe6d5b437c564dd686e946f54a9175a9acb21ea504ff34b2d546", func := "wicketgate/wicketgatelaw13.CreditNever", spec := "creditNever", unfollowed := true, recurses := true, apart := false }
def CreditNeverSaid : Prop := creditNeverRow.holds Try.pinned (OpenSpec.ofChange creditNeverSpec)

/-- ITS FALSE NEIGHBOUR: 'it returns false'. Refute it at one input. -/
def creditNeverWrong : ChangeSpec := { name := "creditNever", fn := fun _ => fun
  | [d1, d2] => { results := [.lit (.bool false)], args := [d1, d2] }
  | _ => none }
def CreditNeverWrongFalsely : Prop := creditNeverRow.holds Try.pinned (OpenSpec.ofChange creditNeverWrong)

/-- 'wicketgatelaw13.CreditMost': WHATEVER THE INPUT: true; the input reads as it did. -/
def creditMostSpec : ChangeSpec := { name := "creditMost", fn := fun _ => fun
  | [d1, d2] => { results := [.lit (.bool true)], args := [d1, d2] }
  | _ => none }
def creditMostRow : OpenClaim := { program := "ytbajhnmgimggfaa", sum := "b638a71c2591fe6d5b437c564dd686e946f54a9175a9acb21ea504ff34b2d546", func := "wicketgate/wicketgatelaw13.CreditMost", spec := "creditMost", unfollowed := true, recurses := true, apart := false }
def CreditMostSaid : Prop := creditMostRow.holds Try.pinned (OpenSpec.ofChange creditMostSpec)

/-- ITS FALSE NEIGHBOUR: 'it returns false'. Refute it at one input. -/
def creditMostWrong : ChangeSpec := { name := "creditMost", fn := fun _ => fun
  | [d1, d2] => { results := [.lit (.bool false)], args := [d1, d2] }
  | _ => none }
def CreditMostWrongFalsely : Prop := creditMostRow.holds Try.pinned (OpenSpec.ofChange creditMostWrong)

/-- 'wicketgatelaw13.CreditNothing': WHATEVER THE INPUT: true; the input reads as it did. -/
def creditNothingSpec : ChangeSpec := { name := "creditNothing", fn := fun _ => fun
  | [d] => { results := [.lit (.bool true)], args := [d] }
  | _ => none }
def creditNothingRow : OpenClaim := { program := "ytbajhnmgimggfaa", sum := "b638a71c2591fe6d5b437c564dd686e946f54a9175a9acb21ea504ff34b2d546", func := "wicketgate/wicketgatelaw13.CreditNothing", spec := "creditNothing", unfollowed := true, recurses := true, apart := false }
def CreditNothingSaid : Prop := creditNothingRow.holds Try.pinned (OpenSpec.ofChange creditNothingSpec)

/-- ITS FALSE NEIGHBOUR: 'it returns false'. Refute it at one input. -/
def creditNothingWrong : ChangeSpec := { name := "creditNothing", fn := fun _ => fun
  | [d] => { results := [.lit (.bool false)], args := [d] }
  | _ => none }
def CreditNothingWrongFalsely : Prop := creditNothingRow.holds Try.pinned (OpenSpec.ofChange creditNothingWrong)

/- THE SECOND FORM. 'bulk': how many values and letters a reading holds, each counted each time it is reached (what is shared counts as often as it is met; a slice's spare places count too). A statement '..UptoSaid' is the law's where the arguments, and the package variables that the reading takes, are together of bulk at most 1048576: NARROWER than '..Said'. Prove '..Said' where nothing that the law and all that it calls make is longer than what came in: it says more and counts as full. Else prove '..UptoSaid'. A law counts once. -/
mutual
def uptoBulk {H : Type} : DataW H → Nat
  | .lit (.string bytes) => bytes.length + 1
  | .lit _ => 1
  | .nil => 1
  | .ptr d => uptoBulk d + 1
  | .slice elems spare => uptoBulkAll elems + uptoBulkAll spare + 1
  | .agg parts => uptoBulkAll parts + 1
  | .iface _ d => uptoBulk d + 1
  | .map entries => uptoBulkEntries entries + 1
  | .held _ => 1
def uptoBulkAll {H : Type} : List (DataW H) → Nat
  | [] => 0
  | d :: r => uptoBulk d + uptoBulkAll r
def uptoBulkEntries {H : Type} : List (Lit × DataW H) → Nat
  | [] => 0
  | x :: r => uptoBulkEntry x + uptoBulkEntries r
def uptoBulkEntry {H : Type} : Lit × DataW H → Nat
  | (.string bytes, d) => bytes.length + uptoBulk d + 1
  | (_, d) => uptoBulk d + 1
 end
def uptoSmall : (H : Type) → List (DataW H) → Bool := fun _ ds => decide (uptoBulkAll ds ≤ 1048576)
def OpenSpec.upto (s : _root_.Go.ChangeSpec) : _root_.Go.OpenSpec := { _root_.Go.OpenSpec.ofChange s with cond := some uptoSmall }

/-- 'wicketgatelaw13.CreditTells', WHERE WHAT IT READS IS OF BULK AT MOST 1048576: true; the input reads as it did. -/
def creditTellsUptoRow : OpenClaim := { program := "ytbajhnmgimggfaa", sum := "b638a71c2591fe6d5b437c564dd686e946f54a9175a9acb21ea504ff34b2d546", func := "wicketgate/wicketgatelaw13.CreditTells", spec := "creditTells", unfollowed := true, recurses := true, apart := false, narrowed := true }
def CreditTellsUptoSaid : Prop := creditTellsUptoRow.holds Try.pinned (OpenSpec.upto creditTellsSpec)

/-- 'wicketgatelaw13.CreditTurns', WHERE WHAT IT READS IS OF BULK AT MOST 1048576: true; the input reads as it did. -/
def creditTurnsUptoRow : OpenClaim := { program := "ytbajhnmgimggfaa", sum := "b638a71c2591fe6d5b437c564dd686e946f54a9175a9acb21ea504ff34b2d546", func := "wicketgate/wicketgatelaw13.CreditTurns", spec := "creditTurns", unfollowed := true, recurses := true, apart := false, narrowed := true }
def CreditTurnsUptoSaid : Prop := creditTurnsUptoRow.holds Try.pinned (OpenSpec.upto creditTurnsSpec)

/-- 'wicketgatelaw13.CreditParts', WHERE WHAT IT READS IS OF BULK AT MOST 1048576: true; the input reads as it did. -/
def creditPartsUptoRow : OpenClaim := { program := "ytbajhnmgimggfaa", sum := "b638a71c2591fe6d5b437c564dd686e946f54a9175a9acb21ea504ff34b2d546", func := "wicketgate/wicketgatelaw13.CreditParts", spec := "creditParts", unfollowed := true, recurses := true, apart := false, narrowed := true }
def CreditPartsUptoSaid : Prop := creditPartsUptoRow.holds Try.pinned (OpenSpec.upto creditPartsSpec)

/-- 'wicketgatelaw13.CreditNever', WHERE WHAT IT READS IS OF BULK AT MOST 1048576: true; the input reads as it did. -/
def creditNeverUptoRow : OpenClaim := { program := "ytbajhnmgimggfaa", sum := "b638a71c2591fe6d5b437c564dd686e946f54a9175a9acb21ea504ff34b2d546", func := "wicketgate/wicketgatelaw13.CreditNever", spec := "creditNever", unfollowed := true, recurses := true, apart := false, narrowed := true }
def CreditNeverUptoSaid : Prop := creditNeverUptoRow.holds Try.pinned (OpenSpec.upto creditNeverSpec)

/-- 'wicketgatelaw13.CreditMost', WHERE WHAT IT READS IS OF BULK AT MOST 1048576: true; the input reads as it did. -/
def creditMostUptoRow : OpenClaim := { program := "ytbajhnmgimggfaa", sum := "b638a71c2591fe6d5b437c564dd686e946f54a9175a9acb21ea504ff34b2d546", func := "wicketgate/wicketgatelaw13.CreditMost", spec := "creditMost", unfollowed := true, recurses := true, apart := false, narrowed := true }
def CreditMostUptoSaid : Prop := creditMostUptoRow.holds Try.pinned (OpenSpec.upto creditMostSpec)

/-- 'wicketgatelaw13.CreditNothing', WHERE WHAT IT READS IS OF BULK AT MOST 1048576: true; the input reads as it did. -/
def creditNothingUptoRow : OpenClaim := { program := "ytbajhnmgimggfaa", sum := "b638a71c2591fe6d5b437c564dd686e946f54a9175a9acb21ea504ff34b2d546", func := "wicketgate/wicketgatelaw13.CreditNothing", spec := "creditNothing", unfollowed := true, recurses := true, apart := false, narrowed := true }
def CreditNothingUptoSaid : Prop := creditNothingUptoRow.holds Try.pinned (OpenSpec.upto creditNothingSpec)

end Rows
end Go.Proofs.Ytbajhnmgimggfaa
