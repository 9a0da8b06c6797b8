/-
  No cell of these rows narrows 'for every input' (looked for: loops, veiled, ifaces, maps, wideKeys, modest, calm, conditions, laid).
  DERIVED. THE GIVEN ROWS OF THIS SEAT. 4 by the template 'for every input the law returns true; each argument reads behind the call as it read before'; 0 by the template 'total and deterministic' (their statements: YtjfmfpnnjgfffaaTotals.lean).
  GIVEN WITH THE SEED: the statements are not yours to turn. If you find one false, say at which input.
  Laid BY PROGRAM, IN A SANDBOX (cutbox-rows.mjs): the forced cells as the released guide's own fill.sh prints them over the translation af523719a6215e64… (all of the seat's roots in one cut). By AI agents, Wed Nov 11 2026. No macro, syntax, notation, axiom, sorry.
-/
import Derived.Test.YtjfmfpnnjgfffaaChecked
import GoSem.Claim
import GoSem.ClaimJoined
import GoSem.ClaimMapViews
import Derived.JoinedTies
import Derived.KernelRfl
namespace Go.Proofs.Ytjfmfpnnjgfffaa
/- THE CELL 'sum', in the pinned program and in every row, IS THE sha256 OF THE DUMP (.gsa) THAT YtjfmfpnnjgfffaaProg.lean LOADS. Nothing in Lean hashes anything: it is a label: what it is worth is what the hold of that sum in a sandbox is worth. -/
noncomputable def Try.pinned : Pinned := { name := "ytjfmfpnnjgfffaa", sum := "af523719a6215e64efb6ca54e9ab1b558feb75c1f53542fdf4615003583e6bce", checked := Try.checked }
namespace Rows
def none {H : Type} : Left H := { results := [], args := [] }

/-- 'laws.FnExactImportNeeds': WHATEVER THE INPUT: true; the input reads as it did. -/
def fnExactImportNeedsSpec : ChangeSpec := { name := "fnExactImportNeeds", fn := fun _ => fun
  | [d1, d2] => { results := [.lit (.bool true)], args := [d1, d2] }
  | _ => none }
def fnExactImportNeedsRow : OpenClaim := { program := "ytjfmfpnnjgfffaa", sum := "af523719a6215e64efb6ca54e9ab1b558feb75c1f53542fdf4615003583e6bce", func := "loop.example/slowworm/laws.FnExactImportNeeds", spec := "fnExactImportNeeds", apart := false }
def FnExactImportNeedsSaid : Prop := fnExactImportNeedsRow.holds Try.pinned (OpenSpec.ofChange fnExactImportNeedsSpec)

/-- ITS FALSE NEIGHBOUR: 'it returns false'. Refute it at one input. -/
def fnExactImportNeedsWrong : ChangeSpec := { name := "fnExactImportNeeds", fn := fun _ => fun
  | [d1, d2] => { results := [.lit (.bool false)], args := [d1, d2] }
  | _ => none }
def FnExactImportNeedsWrongFalsely : Prop := fnExactImportNeedsRow.holds Try.pinned (OpenSpec.ofChange fnExactImportNeedsWrong)

/-- 'laws.FnImportTwice': WHATEVER THE INPUT: true; the input reads as it did. -/
def fnImportTwiceSpec : ChangeSpec := { name := "fnImportTwice", fn := fun _ => fun
  | [d] => { results := [.lit (.bool true)], args := [d] }
  | _ => none }
def fnImportTwiceRow : OpenClaim := { program := "ytjfmfpnnjgfffaa", sum := "af523719a6215e64efb6ca54e9ab1b558feb75c1f53542fdf4615003583e6bce", func := "loop.example/slowworm/laws.FnImportTwice", spec := "fnImportTwice", recurses := true, apart := false }
def FnImportTwiceSaid : Prop := fnImportTwiceRow.holds Try.pinned (OpenSpec.ofChange fnImportTwiceSpec)

/-- ITS FALSE NEIGHBOUR: 'it returns false'. Refute it at one input. -/
def fnImportTwiceWrong : ChangeSpec := { name := "fnImportTwice", fn := fun _ => fun
  | [d] => { results := [.lit (.bool false)], args := [d] }
  | _ => none }
def FnImportTwiceWrongFalsely : Prop := fnImportTwiceRow.holds Try.pinned (OpenSpec.ofChange fnImportTwiceWrong)

/-- 'laws.FnImportRun': WHATEVER THE INPUT: true; the input reads as it did. -/
def fnImportRunSpec : ChangeSpec := { name := "fnImportRun", fn := fun _ => fun
  | [d] => { results := [.lit (.bool true)], args := [d] }
  | _ => none }
def fnImportRunRow : OpenClaim := { program := "ytjfmfpnnjgfffaa", sum := "af523719a6215e64efb6ca54e9ab1b558feb75c1f53542fdf4615003583e6bce", func := "loop.example/slowworm/laws.FnImportRun", spec := "fnImportRun", recurses := true, apart := false }
def FnImportRunSaid : Prop := fnImportRunRow.holds Try.pinned (OpenSpec.ofChange fnImportRunSpec)

/-- ITS FALSE NEIGHBOUR: 'it returns false'. Refute it at one input. -/
def fnImportRunWrong : ChangeSpec := { name := "fnImportRun", fn := fun _ => fun
  | [d] => { results := [.lit (.bool false)], args := [d] }
  | _ => none }
def FnImportRunWrongFalsely : Prop := fnImportRunRow.holds Try.pinned (OpenSpec.ofChange fnImportRunWrong)

/-- 'laws.FnImportOrder': WHATEVER THE INPUT: true; the input reads as it did. -/
def fnImportOrderSpec : ChangeSpec := { name := "fnImportOrder", fn := fun _ => fun
  | [d] => { results := [.lit (.bool true)], args := [d] }
  | _ => none }
def fnImportOrderRow : OpenClaim := { program := "ytjfmfpnnjgfffaa", sum := "af523719a6215e64efb6ca54e9ab1b558feb75c1f53542fdf4615003583e6bce", func := "loop.example/slowworm/laws.FnImportOrder", spec := "fnImportOrder", recurses := true, apart := false }
def FnImportOrderSaid : Prop := fnImportOrderRow.holds Try.pinned (OpenSpec.ofChange fnImportOrderSpec)

/-- ITS FALSE NEIGHBOUR: 'it returns false'. Refute it at one input. -/
def fnImportOrderWrong : ChangeSpec := { name := "fnImportOrder", fn := fun _ => fun
  | [d] => { results := [.lit (.bool false)], args := [d] }
  | _ => none }
def FnImportOrderWrongFalsely : Prop := fnImportOrderRow.holds Try.pinned (OpenSpec.ofChange fnImportOrderWrong)

/- THE SECOND FORM. 'bulk': how many values and letters a reading holds, each counted each time it is reached (what is shared counts as often as it is met; a slice's spare places count too). A statement '..UptoSaid' is the law's where the arguments, and the package variables that the reading takes, are together of bulk at most 1048576: NARROWER than '..Said'. Prove '..Said' where nothing that the law and all that it calls make is longer than what came in: it says more and counts as full. Else prove '..UptoSaid'. A law counts once. -/
mutual
def uptoBulk {H : Type} : DataW H → Nat
  | .lit (.string bytes) => bytes.length + 1
  | .lit _ => 1
  | .nil => 1
  | .ptr d => uptoBulk d + 1
  | .slice elems spare => uptoBulkAll elems + uptoBulkAll spare + 1
  | .agg parts => uptoBulkAll parts + 1
  | .iface _ d => uptoBulk d + 1
  | .map entries => uptoBulkEntries entries + 1
  | .held _ => 1
def uptoBulkAll {H : Type} : List (DataW H) → Nat
  | [] => 0
  | d :: r => uptoBulk d + uptoBulkAll r
def uptoBulkEntries {H : Type} : List (Lit × DataW H) → Nat
  | [] => 0
  | x :: r => uptoBulkEntry x + uptoBulkEntries r
def uptoBulkEntry {H : Type} : Lit × DataW H → Nat
  | (.string bytes, d) => bytes.length + uptoBulk d + 1
  | (_, d) => uptoBulk d + 1
 end
def uptoSmall : (H : Type) → List (DataW H) → Bool := fun _ ds => decide (uptoBulkAll ds ≤ 1048576)
def OpenSpec.upto (s : _root_.Go.ChangeSpec) : _root_.Go.OpenSpec := { _root_.Go.OpenSpec.ofChange s with cond := some uptoSmall }

/-- 'laws.FnExactImportNeeds', WHERE WHAT IT READS IS OF BULK AT MOST 1048576: true; the input reads as it did. -/
def fnExactImportNeedsUptoRow : OpenClaim := { program := "ytjfmfpnnjgfffaa", sum := "af523719a6215e64efb6ca54e9ab1b558feb75c1f53542fdf4615003583e6bce", func := "loop.example/slowworm/laws.FnExactImportNeeds", spec := "fnExactImportNeeds", apart := false, narrowed := true }
def FnExactImportNeedsUptoSaid : Prop := fnExactImportNeedsUptoRow.holds Try.pinned (OpenSpec.upto fnExactImportNeedsSpec)

/-- 'laws.FnImportTwice', WHERE WHAT IT READS IS OF BULK AT MOST 1048576: true; the input reads as it did. -/
def fnImportTwiceUptoRow : OpenClaim := { program := "ytjfmfpnnjgfffaa", sum := "af523719a6215e64efb6ca54e9ab1b558feb75c1f53542fdf4615003583e6bce", func := "loop.example/slowworm/laws.FnImportTwice", spec := "fnImportTwice", recurses := true, apart := false, narrowed := true }
def FnImportTwiceUptoSaid : Prop := fnImportTwiceUptoRow.holds Try.pinned (OpenSpec.upto fnImportTwiceSpec)

/-- 'laws.FnImportRun', WHERE WHAT IT READS IS OF BULK AT MOST 1048576: true; the input reads as it did. -/
def fnImportRunUptoRow : OpenClaim := { program := "ytjfmfpnnjgfffaa", sum := "af523719a6215e64efb6ca54e9ab1b558feb75c1f53542fdf4615003583e6bce", func := "loop.example/slowworm/laws.FnImportRun", spec := "fnImportRun", recurses := true, apart := false, narrowed := true }
def FnImportRunUptoSaid : Prop := fnImportRunUptoRow.holds Try.pinned (OpenSpec.upto fnImportRunSpec)

/-- 'laws.FnImportOrder', WHERE WHAT IT READS IS OF BULK AT MOST 1048576: true; the input reads as it did. -/
def fnImportOrderUptoRow : OpenClaim := { program := "ytjfmfpnnjgfffaa", sum := "af523719a6215e64efb6ca54e9ab1b558feb75c1f53542fdf4615003583e6bce", func := "loop.example/slowworm/laws.FnImportOrder", spec := "fnImportOrder", recurses := true, apart := false, narrowed := true }
def FnImportOrderUptoSaid : Prop := fnImportOrderUptoRow.holds Try.pinned (OpenSpec.upto fnImportOrderSpec)

end Rows
end Go.Proofs.Ytjfmfpnnjgfffaa
