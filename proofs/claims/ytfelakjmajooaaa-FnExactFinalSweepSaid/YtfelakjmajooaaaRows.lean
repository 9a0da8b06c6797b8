/-
  No cell of these rows narrows 'for every input' (looked for: loops, veiled, ifaces, maps, wideKeys, modest, calm, conditions, laid).
  DERIVED. THE GIVEN ROWS OF THIS SEAT. 2 by the template 'for every input the law returns true; each argument reads behind the call as it read before'; 0 by the template 'total and deterministic' (their statements: YtfelakjmajooaaaTotals.lean).
  GIVEN WITH THE SEED: the statements are not yours to turn. If you find one false, say at which input.
  Laid BY PROGRAM, IN A SANDBOX (cutbox-rows.mjs): the forced cells as the released guide's own fill.sh prints them over the translation 84b3ba6eea253746… (all of the seat's roots in one cut). By AI agents, Wed Nov 11 2026. No macro, syntax, notation, axiom, sorry.
-/
import Derived.Test.YtfelakjmajooaaaChecked
import GoSem.Claim
import GoSem.ClaimJoined
import GoSem.ClaimMapViews
import Derived.JoinedTies
import Derived.KernelRfl
namespace Go.Proofs.Ytfelakjmajooaaa
/- THE CELL 'sum', in the pinned program and in every row, IS THE sha256 OF THE DUMP (.gsa) THAT YtfelakjmajooaaaProg.lean LOADS. Nothing in Lean hashes anything: it is a label: what it is worth is what the hold of that sum in a sandbox is worth. -/
noncomputable def Try.pinned : Pinned := { name := "ytfelakjmajooaaa", sum := "84b3ba6eea2537467c2353e58d29f3669a0894e8e695a7ad7d95bc5cfa96fd74", checked := Try.checked }
namespace Rows
def none {H : Type} : Left H := { results := [], args := [] }

/-- 'laws.FnExactFinalSweep': WHATEVER THE INPUT: true; the input reads as it did. -/
def fnExactFinalSweepSpec : ChangeSpec := { name := "fnExactFinalSweep", fn := fun _ => fun
  | [d1, d2, d3] => { results := [.lit (.bool true)], args := [d1, d2, d3] }
  | _ => none }
def fnExactFinalSweepRow : OpenClaim := { program := "ytfelakjmajooaaa", sum := "84b3ba6eea2537467c2353e58d29f3669a0894e8e695a7ad7d95bc5cfa96fd74", func := "loop.example/slowworm/laws.FnExactFinalSweep", spec := "fnExactFinalSweep", unfollowed := true, recurses := true, apart := false }
def FnExactFinalSweepSaid : Prop := fnExactFinalSweepRow.holds Try.pinned (OpenSpec.ofChange fnExactFinalSweepSpec)

/-- ITS FALSE NEIGHBOUR: 'it returns false'. Refute it at one input. -/
def fnExactFinalSweepWrong : ChangeSpec := { name := "fnExactFinalSweep", fn := fun _ => fun
  | [d1, d2, d3] => { results := [.lit (.bool false)], args := [d1, d2, d3] }
  | _ => none }
def FnExactFinalSweepWrongFalsely : Prop := fnExactFinalSweepRow.holds Try.pinned (OpenSpec.ofChange fnExactFinalSweepWrong)

/-- 'laws.FnScriptsOk': WHATEVER THE INPUT: true; the input reads as it did. -/
def fnScriptsOkSpec : ChangeSpec := { name := "fnScriptsOk", fn := fun _ => fun
  | [d] => { results := [.lit (.bool true)], args := [d] }
  | _ => none }
def fnScriptsOkRow : OpenClaim := { program := "ytfelakjmajooaaa", sum := "84b3ba6eea2537467c2353e58d29f3669a0894e8e695a7ad7d95bc5cfa96fd74", func := "loop.example/slowworm/laws.FnScriptsOk", spec := "fnScriptsOk", unfollowed := true, recurses := true, apart := false }
def FnScriptsOkSaid : Prop := fnScriptsOkRow.holds Try.pinned (OpenSpec.ofChange fnScriptsOkSpec)

/-- ITS FALSE NEIGHBOUR: 'it returns false'. Refute it at one input. -/
def fnScriptsOkWrong : ChangeSpec := { name := "fnScriptsOk", fn := fun _ => fun
  | [d] => { results := [.lit (.bool false)], args := [d] }
  | _ => none }
def FnScriptsOkWrongFalsely : Prop := fnScriptsOkRow.holds Try.pinned (OpenSpec.ofChange fnScriptsOkWrong)

/- THE SECOND FORM. 'bulk': how many values and letters a reading holds, each counted each time it is reached (what is shared counts as often as it is met; a slice's spare places count too). A statement '..UptoSaid' is the law's where the arguments, and the package variables that the reading takes, are together of bulk at most 1048576: NARROWER than '..Said'. Prove '..Said' where nothing that the law and all that it calls make is longer than what came in: it says more and counts as full. Else prove '..UptoSaid'. A law counts once. -/
mutual
def uptoBulk {H : Type} : DataW H → Nat
  | .lit (.string bytes) => bytes.length + 1
  | .lit _ => 1
  | .nil => 1
  | .ptr d => uptoBulk d + 1
  | .slice elems spare => uptoBulkAll elems + uptoBulkAll spare + 1
  | .agg parts => uptoBulkAll parts + 1
  | .iface _ d => uptoBulk d + 1
  | .map entries => uptoBulkEntries entries + 1
  | .held _ => 1
def uptoBulkAll {H : Type} : List (DataW H) → Nat
  | [] => 0
  | d :: r => uptoBulk d + uptoBulkAll r
def uptoBulkEntries {H : Type} : List (Lit × DataW H) → Nat
  | [] => 0
  | x :: r => uptoBulkEntry x + uptoBulkEntries r
def uptoBulkEntry {H : Type} : Lit × DataW H → Nat
  | (.string bytes, d) => bytes.length + uptoBulk d + 1
  | (_, d) => uptoBulk d + 1
 end
def uptoSmall : (H : Type) → List (DataW H) → Bool := fun _ ds => decide (uptoBulkAll ds ≤ 1048576)
def OpenSpec.upto (s : _root_.Go.ChangeSpec) : _root_.Go.OpenSpec := { _root_.Go.OpenSpec.ofChange s with cond := some uptoSmall }

/-- 'laws.FnExactFinalSweep', WHERE WHAT IT READS IS OF BULK AT MOST 1048576: true; the input reads as it did. -/
def fnExactFinalSweepUptoRow : OpenClaim := { program := "ytfelakjmajooaaa", sum := "84b3ba6eea2537467c2353e58d29f3669a0894e8e695a7ad7d95bc5cfa96fd74", func := "loop.example/slowworm/laws.FnExactFinalSweep", spec := "fnExactFinalSweep", unfollowed := true, recurses := true, apart := false, narrowed := true }
def FnExactFinalSweepUptoSaid : Prop := fnExactFinalSweepUptoRow.holds Try.pinned (OpenSpec.upto fnExactFinalSweepSpec)

/-- 'laws.FnScriptsOk', WHERE WHAT IT READS IS OF BULK AT MOST 1048576: true; the input reads as it did. -/
def fnScriptsOkUptoRow : OpenClaim := { program := "ytfelakjmajooaaa", sum := "84b3ba6eea2537467c2353e58d29f3669a0894e8e695a7ad7d95bc5cfa96fd74", func := "loop.example/slowworm/laws.FnScriptsOk", spec := "fnScriptsOk", unfollowed := true, recurses := true, apart := false, narrowed := true }
def FnScriptsOkUptoSaid : Prop := fnScriptsOkUptoRow.holds Try.pinned (OpenSpec.upto fnScriptsOkSpec)

end Rows
end Go.Proofs.Ytfelakjmajooaaa
