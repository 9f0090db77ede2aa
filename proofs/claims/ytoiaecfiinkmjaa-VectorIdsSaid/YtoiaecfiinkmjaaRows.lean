/-
  No cell of these rows narrows 'for every input' (looked for: loops, veiled, ifaces, maps, wideKeys, modest, calm, conditions, laid).
  DERIVED. THE GIVEN ROWS OF THIS SEAT. 4 by the template 'for every input the law returns true; each argument reads behind the call as it read before'; 0 by the template 'total and deterministic' (their statements: YtoiaecfiinkmjaaTotals.lean).
  GIVEN WITH THE SEED: the statements are not yours to turn. If you find one false, say at which input.
  Laid BY PROGRAM, IN A SANDBOX (cutbox-rows.mjs): the forced cells as the released guide's own fill.sh prints them over the translation 952e0c69ba7e1368… (all of the seat's roots in one cut). By AI agents, Wed Nov 11 2026. No macro, syntax, notation, axiom, sorry.
-/
import Derived.Test.YtoiaecfiinkmjaaChecked
import GoSem.Claim
import GoSem.ClaimJoined
import GoSem.ClaimMapViews
import Derived.JoinedTies
import Derived.KernelRfl
namespace Go.Proofs.Ytoiaecfiinkmjaa
/- THE CELL 'sum', in the pinned program and in every row, IS THE sha256 OF THE DUMP (.gsa) THAT YtoiaecfiinkmjaaProg.lean LOADS. Nothing in Lean hashes anything: it is a label: what it is worth is what the hold of that sum in a sandbox is worth. -/
noncomputable def Try.pinned : Pinned := { name := "ytoiaecfiinkmjaa", sum := "952e0c69ba7e136886d24135dfc571617b2b4c2d4bfcf971b4ba281d93908239", checked := Try.checked }
namespace Rows
def none {H : Type} : Left H := { results := [], args := [] }

/-- 'gessolaw13.VectorBounds': WHATEVER THE INPUT: true; the input reads as it did. -/
def vectorBoundsSpec : ChangeSpec := { name := "vectorBounds", fn := fun _ => fun
  | [d1, d2, d3] => { results := [.lit (.bool true)], args := [d1, d2, d3] }
  | _ => none }
def vectorBoundsRow : OpenClaim := { program := "ytoiaecfiinkmjaa", sum := "952e0c69ba7e136886d24135dfc571617b2b4c2d4bfcf971b4ba281d93908239", func := "gesso/gessolaw13.VectorBounds", spec := "vectorBounds", unfollowed := true, recurses := true, apart := false }
def VectorBoundsSaid : Prop := vectorBoundsRow.holds Try.pinned (OpenSpec.ofChange vectorBoundsSpec)

/-- ITS FALSE NEIGHBOUR: 'it returns false'. Refute it at one input. -/
def vectorBoundsWrong : ChangeSpec := { name := "vectorBounds", fn := fun _ => fun
  | [d1, d2, d3] => { results := [.lit (.bool false)], args := [d1, d2, d3] }
  | _ => none }
def VectorBoundsWrongFalsely : Prop := vectorBoundsRow.holds Try.pinned (OpenSpec.ofChange vectorBoundsWrong)

/-- 'gessolaw13.VectorFills': WHATEVER THE INPUT: true; the input reads as it did. -/
def vectorFillsSpec : ChangeSpec := { name := "vectorFills", fn := fun _ => fun
  | [d1, d2] => { results := [.lit (.bool true)], args := [d1, d2] }
  | _ => none }
def vectorFillsRow : OpenClaim := { program := "ytoiaecfiinkmjaa", sum := "952e0c69ba7e136886d24135dfc571617b2b4c2d4bfcf971b4ba281d93908239", func := "gesso/gessolaw13.VectorFills", spec := "vectorFills", unfollowed := true, recurses := true, apart := false }
def VectorFillsSaid : Prop := vectorFillsRow.holds Try.pinned (OpenSpec.ofChange vectorFillsSpec)

/-- ITS FALSE NEIGHBOUR: 'it returns false'. Refute it at one input. -/
def vectorFillsWrong : ChangeSpec := { name := "vectorFills", fn := fun _ => fun
  | [d1, d2] => { results := [.lit (.bool false)], args := [d1, d2] }
  | _ => none }
def VectorFillsWrongFalsely : Prop := vectorFillsRow.holds Try.pinned (OpenSpec.ofChange vectorFillsWrong)

/-- 'gessolaw13.VectorMeets': WHATEVER THE INPUT: true; the input reads as it did. -/
def vectorMeetsSpec : ChangeSpec := { name := "vectorMeets", fn := fun _ => fun
  | [d1, d2] => { results := [.lit (.bool true)], args := [d1, d2] }
  | _ => none }
def vectorMeetsRow : OpenClaim := { program := "ytoiaecfiinkmjaa", sum := "952e0c69ba7e136886d24135dfc571617b2b4c2d4bfcf971b4ba281d93908239", func := "gesso/gessolaw13.VectorMeets", spec := "vectorMeets", unfollowed := true, recurses := true, apart := false }
def VectorMeetsSaid : Prop := vectorMeetsRow.holds Try.pinned (OpenSpec.ofChange vectorMeetsSpec)

/-- ITS FALSE NEIGHBOUR: 'it returns false'. Refute it at one input. -/
def vectorMeetsWrong : ChangeSpec := { name := "vectorMeets", fn := fun _ => fun
  | [d1, d2] => { results := [.lit (.bool false)], args := [d1, d2] }
  | _ => none }
def VectorMeetsWrongFalsely : Prop := vectorMeetsRow.holds Try.pinned (OpenSpec.ofChange vectorMeetsWrong)

/-- 'gessolaw13.VectorIds': WHATEVER THE INPUT: true; the input reads as it did. -/
def vectorIdsSpec : ChangeSpec := { name := "vectorIds", fn := fun _ => fun
  | [d1, d2] => { results := [.lit (.bool true)], args := [d1, d2] }
  | _ => none }
def vectorIdsRow : OpenClaim := { program := "ytoiaecfiinkmjaa", sum := "952e0c69ba7e136886d24135dfc571617b2b4c2d4bfcf971b4ba281d93908239", func := "gesso/gessolaw13.VectorIds", spec := "vectorIds", unfollowed := true, recurses := true, apart := false }
def VectorIdsSaid : Prop := vectorIdsRow.holds Try.pinned (OpenSpec.ofChange vectorIdsSpec)

/-- ITS FALSE NEIGHBOUR: 'it returns false'. Refute it at one input. -/
def vectorIdsWrong : ChangeSpec := { name := "vectorIds", fn := fun _ => fun
  | [d1, d2] => { results := [.lit (.bool false)], args := [d1, d2] }
  | _ => none }
def VectorIdsWrongFalsely : Prop := vectorIdsRow.holds Try.pinned (OpenSpec.ofChange vectorIdsWrong)

/- THE SECOND FORM. 'bulk': how many values and letters a reading holds, each counted each time it is reached (what is shared counts as often as it is met; a slice's spare places count too). A statement '..UptoSaid' is the law's where the arguments, and the package variables that the reading takes, are together of bulk at most 1048576: NARROWER than '..Said'. Prove '..Said' where nothing that the law and all that it calls make is longer than what came in: it says more and counts as full. Else prove '..UptoSaid'. A law counts once. -/
mutual
def uptoBulk {H : Type} : DataW H → Nat
  | .lit (.string bytes) => bytes.length + 1
  | .lit _ => 1
  | .nil => 1
  | .ptr d => uptoBulk d + 1
  | .slice elems spare => uptoBulkAll elems + uptoBulkAll spare + 1
  | .agg parts => uptoBulkAll parts + 1
  | .iface _ d => uptoBulk d + 1
  | .map entries => uptoBulkEntries entries + 1
  | .held _ => 1
def uptoBulkAll {H : Type} : List (DataW H) → Nat
  | [] => 0
  | d :: r => uptoBulk d + uptoBulkAll r
def uptoBulkEntries {H : Type} : List (Lit × DataW H) → Nat
  | [] => 0
  | x :: r => uptoBulkEntry x + uptoBulkEntries r
def uptoBulkEntry {H : Type} : Lit × DataW H → Nat
  | (.string bytes, d) => bytes.length + uptoBulk d + 1
  | (_, d) => uptoBulk d + 1
 end
def uptoSmall : (H : Type) → List (DataW H) → Bool := fun _ ds => decide (uptoBulkAll ds ≤ 1048576)
def OpenSpec.upto (s : _root_.Go.ChangeSpec) : _root_.Go.OpenSpec := { _root_.Go.OpenSpec.ofChange s with cond := some uptoSmall }

/-- 'gessolaw13.VectorBounds', WHERE WHAT IT READS IS OF BULK AT MOST 1048576: true; the input reads as it did. -/
def vectorBoundsUptoRow : OpenClaim := { program := "ytoiaecfiinkmjaa", sum := "952e0c69ba7e136886d24135dfc571617b2b4c2d4bfcf971b4ba281d93908239", func := "gesso/gessolaw13.VectorBounds", spec := "vectorBounds", unfollowed := true, recurses := true, apart := false, narrowed := true }
def VectorBoundsUptoSaid : Prop := vectorBoundsUptoRow.holds Try.pinned (OpenSpec.upto vectorBoundsSpec)

/-- 'gessolaw13.VectorFills', WHERE WHAT IT READS IS OF BULK AT MOST 1048576: true; the input reads as it did. -/
def vectorFillsUptoRow : OpenClaim := { program := "ytoiaecfiinkmjaa", sum := "952e0c69ba7e136886d24135dfc571617b2b4c2d4bfcf971b4ba281d93908239", func := "gesso/gessolaw13.VectorFills", spec := "vectorFills", unfollowed := true, recurses := true, apart := false, narrowed := true }
def VectorFillsUptoSaid : Prop := vectorFillsUptoRow.holds Try.pinned (OpenSpec.upto vectorFillsSpec)

/-- 'gessolaw13.VectorMeets', WHERE WHAT IT READS IS OF BULK AT MOST 1048576: true; the input reads as it did. -/
def vectorMeetsUptoRow : OpenClaim := { program := "ytoiaecfiinkmjaa", sum := "952e0c69ba7e136886d24135dfc571617b2b4c2d4bfcf971b4ba281d93908239", func := "gesso/gessolaw13.VectorMeets", spec := "vectorMeets", unfollowed := true, recurses := true, apart := false, narrowed := true }
def VectorMeetsUptoSaid : Prop := vectorMeetsUptoRow.holds Try.pinned (OpenSpec.upto vectorMeetsSpec)

/-- 'gessolaw13.VectorIds', WHERE WHAT IT READS IS OF BULK AT MOST 1048576: true; the input reads as it did. -/
def vectorIdsUptoRow : OpenClaim := { program := "ytoiaecfiinkmjaa", sum := "952e0c69ba7e136886d24135dfc571617b2b4c2d4bfcf971b4ba281d93908239", func := "gesso/gessolaw13.VectorIds", spec := "vectorIds", unfollowed := true, recurses := true, apart := false, narrowed := true }
def VectorIdsUptoSaid : Prop := vectorIdsUptoRow.holds Try.pinned (OpenSpec.upto vectorIdsSpec)

end Rows
end Go.Proofs.Ytoiaecfiinkmjaa
