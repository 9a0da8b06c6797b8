/-
  No cell of these rows narrows 'for every input' (looked for: loops, veiled, ifaces, maps, wideKeys, modest, calm, conditions, laid).
  DERIVED. THE GIVEN ROWS OF THIS SEAT. 4 by the template 'for every input the law returns true; each argument reads behind the call as it read before'; 0 by the template 'total and deterministic' (their statements: YtjanepkjjmcchaaTotals.lean).
  GIVEN WITH THE SEED: the statements are not yours to turn. If you find one false, say at which input.
  Laid BY PROGRAM, IN A SANDBOX (cutbox-rows.mjs): the forced cells as the released guide's own fill.sh prints them over the translation 3548afbfadc0d1b3… (all of the seat's roots in one cut). By AI agents, Wed Nov 11 2026. No macro, syntax, notation, axiom, sorry.
-/
import Derived.Test.YtjanepkjjmcchaaChecked
import GoSem.Claim
import GoSem.ClaimJoined
import GoSem.ClaimMapViews
import Derived.JoinedTies
import Derived.KernelRfl
namespace Go.Proofs.Ytjanepkjjmcchaa
/- THE CELL 'sum', in the pinned program and in every row, IS THE sha256 OF THE DUMP (.gsa) THAT YtjanepkjjmcchaaProg.lean LOADS. Nothing in Lean hashes anything: it is a label: what it is worth is what the hold of that sum in a sandbox is worth. -/
noncomputable def Try.pinned : Pinned := { name := "ytjanepkjjmcchaa", sum := "3548afbfadc0d1b3aecec1775142c279ddde247153d4f5a6ae071c1c48495888", checked := Try.checked }
namespace Rows
def none {H : Type} : Left H := { results := [], args := [] }

/-- 'laws.FnRunsSorted': WHATEVER THE INPUT: true; the input reads as it did. -/
def fnRunsSortedSpec : ChangeSpec := { name := "fnRunsSorted", fn := fun _ => fun
  | [d] => { results := [.lit (.bool true)], args := [d] }
  | _ => none }
def fnRunsSortedRow : OpenClaim := { program := "ytjanepkjjmcchaa", sum := "3548afbfadc0d1b3aecec1775142c279ddde247153d4f5a6ae071c1c48495888", func := "loop.example/slowworm/laws.FnRunsSorted", spec := "fnRunsSorted", inPlace := ["slices.overlaps[loop.example/slowworm/impl.Item]"], unfollowed := true, recurses := true, apart := false }
def FnRunsSortedSaid : Prop := fnRunsSortedRow.holds Try.pinned (OpenSpec.ofChange fnRunsSortedSpec)

/-- ITS FALSE NEIGHBOUR: 'it returns false'. Refute it at one input. -/
def fnRunsSortedWrong : ChangeSpec := { name := "fnRunsSorted", fn := fun _ => fun
  | [d] => { results := [.lit (.bool false)], args := [d] }
  | _ => none }
def FnRunsSortedWrongFalsely : Prop := fnRunsSortedRow.holds Try.pinned (OpenSpec.ofChange fnRunsSortedWrong)

/-- 'laws.FnSortParts': WHATEVER THE INPUT: true; the input reads as it did. -/
def fnSortPartsSpec : ChangeSpec := { name := "fnSortParts", fn := fun _ => fun
  | [d] => { results := [.lit (.bool true)], args := [d] }
  | _ => none }
def fnSortPartsRow : OpenClaim := { program := "ytjanepkjjmcchaa", sum := "3548afbfadc0d1b3aecec1775142c279ddde247153d4f5a6ae071c1c48495888", func := "loop.example/slowworm/laws.FnSortParts", spec := "fnSortParts", inPlace := ["slices.overlaps[loop.example/slowworm/impl.Item]"], unfollowed := true, recurses := true, apart := false }
def FnSortPartsSaid : Prop := fnSortPartsRow.holds Try.pinned (OpenSpec.ofChange fnSortPartsSpec)

/-- ITS FALSE NEIGHBOUR: 'it returns false'. Refute it at one input. -/
def fnSortPartsWrong : ChangeSpec := { name := "fnSortParts", fn := fun _ => fun
  | [d] => { results := [.lit (.bool false)], args := [d] }
  | _ => none }
def FnSortPartsWrongFalsely : Prop := fnSortPartsRow.holds Try.pinned (OpenSpec.ofChange fnSortPartsWrong)

/-- 'laws.FnExactSortItems': WHATEVER THE INPUT: true; the input reads as it did. -/
def fnExactSortItemsSpec : ChangeSpec := { name := "fnExactSortItems", fn := fun _ => fun
  | [d] => { results := [.lit (.bool true)], args := [d] }
  | _ => none }
def fnExactSortItemsRow : OpenClaim := { program := "ytjanepkjjmcchaa", sum := "3548afbfadc0d1b3aecec1775142c279ddde247153d4f5a6ae071c1c48495888", func := "loop.example/slowworm/laws.FnExactSortItems", spec := "fnExactSortItems", inPlace := ["slices.overlaps[loop.example/slowworm/impl.Item]"], unfollowed := true, recurses := true, apart := false }
def FnExactSortItemsSaid : Prop := fnExactSortItemsRow.holds Try.pinned (OpenSpec.ofChange fnExactSortItemsSpec)

/-- ITS FALSE NEIGHBOUR: 'it returns false'. Refute it at one input. -/
def fnExactSortItemsWrong : ChangeSpec := { name := "fnExactSortItems", fn := fun _ => fun
  | [d] => { results := [.lit (.bool false)], args := [d] }
  | _ => none }
def FnExactSortItemsWrongFalsely : Prop := fnExactSortItemsRow.holds Try.pinned (OpenSpec.ofChange fnExactSortItemsWrong)

/-- 'laws.FnSortItems': WHATEVER THE INPUT: true; the input reads as it did. -/
def fnSortItemsSpec : ChangeSpec := { name := "fnSortItems", fn := fun _ => fun
  | [d] => { results := [.lit (.bool true)], args := [d] }
  | _ => none }
def fnSortItemsRow : OpenClaim := { program := "ytjanepkjjmcchaa", sum := "3548afbfadc0d1b3aecec1775142c279ddde247153d4f5a6ae071c1c48495888", func := "loop.example/slowworm/laws.FnSortItems", spec := "fnSortItems", inPlace := ["slices.overlaps[loop.example/slowworm/impl.Item]"], unfollowed := true, recurses := true, apart := false }
def FnSortItemsSaid : Prop := fnSortItemsRow.holds Try.pinned (OpenSpec.ofChange fnSortItemsSpec)

/-- ITS FALSE NEIGHBOUR: 'it returns false'. Refute it at one input. -/
def fnSortItemsWrong : ChangeSpec := { name := "fnSortItems", fn := fun _ => fun
  | [d] => { results := [.lit (.bool false)], args := [d] }
  | _ => none }
def FnSortItemsWrongFalsely : Prop := fnSortItemsRow.holds Try.pinned (OpenSpec.ofChange fnSortItemsWrong)

/- THE SECOND FORM. 'bulk': how many values and letters a reading holds, each counted each time it is reached (what is shared counts as often as it is met; a slice's spare places count too). A statement '..UptoSaid' is the law's where the arguments, and the package variables that the reading takes, are together of bulk at most 1048576: NARROWER than '..Said'. Prove '..Said' where nothing that the law and all that it calls make is longer than what came in: it says more and counts as full. Else prove '..UptoSaid'. A law counts once. -/
mutual
def uptoBulk {H : Type} : DataW H → Nat
  | .lit (.string bytes) => bytes.length + 1
  | .lit _ => 1
  | .nil => 1
  | .ptr d => uptoBulk d + 1
  | .slice elems spare => uptoBulkAll elems + uptoBulkAll spare + 1
  | .agg parts => uptoBulkAll parts + 1
  | .iface _ d => uptoBulk d + 1
  | .map entries => uptoBulkEntries entries + 1
  | .held _ => 1
def uptoBulkAll {H : Type} : List (DataW H) → Nat
  | [] => 0
  | d :: r => uptoBulk d + uptoBulkAll r
def uptoBulkEntries {H : Type} : List (Lit × DataW H) → Nat
  | [] => 0
  | x :: r => uptoBulkEntry x + uptoBulkEntries r
def uptoBulkEntry {H : Type} : Lit × DataW H → Nat
  | (.string bytes, d) => bytes.length + uptoBulk d + 1
  | (_, d) => uptoBulk d + 1
 end
def uptoSmall : (H : Type) → List (DataW H) → Bool := fun _ ds => decide (uptoBulkAll ds ≤ 1048576)
def OpenSpec.upto (s : _root_.Go.ChangeSpec) : _root_.Go.OpenSpec := { _root_.Go.OpenSpec.ofChange s with cond := some uptoSmall }

/-- 'laws.FnRunsSorted', WHERE WHAT IT READS IS OF BULK AT MOST 1048576: true; the input reads as it did. -/
def fnRunsSortedUptoRow : OpenClaim := { program := "ytjanepkjjmcchaa", sum := "3548afbfadc0d1b3aecec1775142c279ddde247153d4f5a6ae071c1c48495888", func := "loop.example/slowworm/laws.FnRunsSorted", spec := "fnRunsSorted", inPlace := ["slices.overlaps[loop.example/slowworm/impl.Item]"], unfollowed := true, recurses := true, apart := false, narrowed := true }
def FnRunsSortedUptoSaid : Prop := fnRunsSortedUptoRow.holds Try.pinned (OpenSpec.upto fnRunsSortedSpec)

/-- 'laws.FnSortParts', WHERE WHAT IT READS IS OF BULK AT MOST 1048576: true; the input reads as it did. -/
def fnSortPartsUptoRow : OpenClaim := { program := "ytjanepkjjmcchaa", sum := "3548afbfadc0d1b3aecec1775142c279ddde247153d4f5a6ae071c1c48495888", func := "loop.example/slowworm/laws.FnSortParts", spec := "fnSortParts", inPlace := ["slices.overlaps[loop.example/slowworm/impl.Item]"], unfollowed := true, recurses := true, apart := false, narrowed := true }
def FnSortPartsUptoSaid : Prop := fnSortPartsUptoRow.holds Try.pinned (OpenSpec.upto fnSortPartsSpec)

/-- 'laws.FnExactSortItems', WHERE WHAT IT READS IS OF BULK AT MOST 1048576: true; the input reads as it did. -/
def fnExactSortItemsUptoRow : OpenClaim := { program := "ytjanepkjjmcchaa", sum := "3548afbfadc0d1b3aecec1775142c279ddde247153d4f5a6ae071c1c48495888", func := "loop.example/slowworm/laws.FnExactSortItems", spec := "fnExactSortItems", inPlace := ["slices.overlaps[loop.example/slowworm/impl.Item]"], unfollowed := true, recurses := true, apart := false, narrowed := true }
def FnExactSortItemsUptoSaid : Prop := fnExactSortItemsUptoRow.holds Try.pinned (OpenSpec.upto fnExactSortItemsSpec)

/-- 'laws.FnSortItems', WHERE WHAT IT READS IS OF BULK AT MOST 1048576: true; the input reads as it did. -/
def fnSortItemsUptoRow : OpenClaim := { program := "ytjanepkjjmcchaa", sum := "3548afbfadc0d1b3aecec1775142c279ddde247153d4f5a6ae071c1c48495888", func := "loop.example/slowworm/laws.FnSortItems", spec := "fnSortItems", inPlace := ["slices.overlaps[loop.example/slowworm/impl.Item]"], unfollowed := true, recurses := true, apart := false, narrowed := true }
def FnSortItemsUptoSaid : Prop := fnSortItemsUptoRow.holds Try.pinned (OpenSpec.upto fnSortItemsSpec)

end Rows
end Go.Proofs.Ytjanepkjjmcchaa
