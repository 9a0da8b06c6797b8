/-
  No cell of these rows narrows 'for every input' (looked for: loops, veiled, ifaces, maps, wideKeys, modest, calm, conditions, laid).
  DERIVED. THE GIVEN ROWS OF THIS SEAT. 4 by the template 'for every input the law returns true; each argument reads behind the call as it read before'; 0 by the template 'total and deterministic' (their statements: YtfknenaecihchaaTotals.lean).
  GIVEN WITH THE SEED: the statements are not yours to turn. If you find one false, say at which input.
  Laid BY PROGRAM, IN A SANDBOX (cutbox-rows.mjs): the forced cells as the released guide's own fill.sh prints them over the translation 346b5f1834205698… (all of the seat's roots in one cut). By AI agents, Wed Nov 11 2026. No macro, syntax, notation, axiom, sorry.
-/
import Derived.Test.YtfknenaecihchaaChecked
import GoSem.Claim
import GoSem.ClaimJoined
import GoSem.ClaimMapViews
import Derived.JoinedTies
import Derived.KernelRfl
namespace Go.Proofs.Ytfknenaecihchaa
/- THE CELL 'sum', in the pinned program and in every row, IS THE sha256 OF THE DUMP (.gsa) THAT YtfknenaecihchaaProg.lean LOADS. Nothing in Lean hashes anything: it is a label: what it is worth is what the hold of that sum in a sandbox is worth. -/
noncomputable def Try.pinned : Pinned := { name := "ytfknenaecihchaa", sum := "346b5f1834205698adc1cd7ac93c83daceab0ec7a41a7339900e391c36f3fa85", checked := Try.checked }
namespace Rows
def none {H : Type} : Left H := { results := [], args := [] }

/-- 'laws.FnHeapNewShows': WHATEVER THE INPUT: true; the input reads as it did. -/
def fnHeapNewShowsSpec : ChangeSpec := { name := "fnHeapNewShows", fn := fun _ => fun
  | [d] => { results := [.lit (.bool true)], args := [d] }
  | _ => none }
def fnHeapNewShowsRow : OpenClaim := { program := "ytfknenaecihchaa", sum := "346b5f1834205698adc1cd7ac93c83daceab0ec7a41a7339900e391c36f3fa85", func := "loop.example/slowworm/laws.FnHeapNewShows", spec := "fnHeapNewShows", inPlace := ["internal/abi.NoEscape"], recurses := true, apart := false }
def FnHeapNewShowsSaid : Prop := fnHeapNewShowsRow.holds Try.pinned (OpenSpec.ofChange fnHeapNewShowsSpec)

/-- ITS FALSE NEIGHBOUR: 'it returns false'. Refute it at one input. -/
def fnHeapNewShowsWrong : ChangeSpec := { name := "fnHeapNewShows", fn := fun _ => fun
  | [d] => { results := [.lit (.bool false)], args := [d] }
  | _ => none }
def FnHeapNewShowsWrongFalsely : Prop := fnHeapNewShowsRow.holds Try.pinned (OpenSpec.ofChange fnHeapNewShowsWrong)

/-- 'laws.FnExactHeapOk': WHATEVER THE INPUT: true; the input reads as it did. -/
def fnExactHeapOkSpec : ChangeSpec := { name := "fnExactHeapOk", fn := fun _ => fun
  | [d] => { results := [.lit (.bool true)], args := [d] }
  | _ => none }
def fnExactHeapOkRow : OpenClaim := { program := "ytfknenaecihchaa", sum := "346b5f1834205698adc1cd7ac93c83daceab0ec7a41a7339900e391c36f3fa85", func := "loop.example/slowworm/laws.FnExactHeapOk", spec := "fnExactHeapOk", apart := false }
def FnExactHeapOkSaid : Prop := fnExactHeapOkRow.holds Try.pinned (OpenSpec.ofChange fnExactHeapOkSpec)

/-- ITS FALSE NEIGHBOUR: 'it returns false'. Refute it at one input. -/
def fnExactHeapOkWrong : ChangeSpec := { name := "fnExactHeapOk", fn := fun _ => fun
  | [d] => { results := [.lit (.bool false)], args := [d] }
  | _ => none }
def FnExactHeapOkWrongFalsely : Prop := fnExactHeapOkRow.holds Try.pinned (OpenSpec.ofChange fnExactHeapOkWrong)

/-- 'laws.FnExactHeapTruth': WHATEVER THE INPUT: true; the input reads as it did. -/
def fnExactHeapTruthSpec : ChangeSpec := { name := "fnExactHeapTruth", fn := fun _ => fun
  | [d1, d2] => { results := [.lit (.bool true)], args := [d1, d2] }
  | _ => none }
def fnExactHeapTruthRow : OpenClaim := { program := "ytfknenaecihchaa", sum := "346b5f1834205698adc1cd7ac93c83daceab0ec7a41a7339900e391c36f3fa85", func := "loop.example/slowworm/laws.FnExactHeapTruth", spec := "fnExactHeapTruth", apart := false }
def FnExactHeapTruthSaid : Prop := fnExactHeapTruthRow.holds Try.pinned (OpenSpec.ofChange fnExactHeapTruthSpec)

/-- ITS FALSE NEIGHBOUR: 'it returns false'. Refute it at one input. -/
def fnExactHeapTruthWrong : ChangeSpec := { name := "fnExactHeapTruth", fn := fun _ => fun
  | [d1, d2] => { results := [.lit (.bool false)], args := [d1, d2] }
  | _ => none }
def FnExactHeapTruthWrongFalsely : Prop := fnExactHeapTruthRow.holds Try.pinned (OpenSpec.ofChange fnExactHeapTruthWrong)

/-- 'laws.FnHeapOk': WHATEVER THE INPUT: true; the input reads as it did. -/
def fnHeapOkSpec : ChangeSpec := { name := "fnHeapOk", fn := fun _ => fun
  | [d] => { results := [.lit (.bool true)], args := [d] }
  | _ => none }
def fnHeapOkRow : OpenClaim := { program := "ytfknenaecihchaa", sum := "346b5f1834205698adc1cd7ac93c83daceab0ec7a41a7339900e391c36f3fa85", func := "loop.example/slowworm/laws.FnHeapOk", spec := "fnHeapOk", unfollowed := true, recurses := true, apart := false }
def FnHeapOkSaid : Prop := fnHeapOkRow.holds Try.pinned (OpenSpec.ofChange fnHeapOkSpec)

/-- ITS FALSE NEIGHBOUR: 'it returns false'. Refute it at one input. -/
def fnHeapOkWrong : ChangeSpec := { name := "fnHeapOk", fn := fun _ => fun
  | [d] => { results := [.lit (.bool false)], args := [d] }
  | _ => none }
def FnHeapOkWrongFalsely : Prop := fnHeapOkRow.holds Try.pinned (OpenSpec.ofChange fnHeapOkWrong)

/- THE SECOND FORM. 'bulk': how many values and letters a reading holds, each counted each time it is reached (what is shared counts as often as it is met; a slice's spare places count too). A statement '..UptoSaid' is the law's where the arguments, and the package variables that the reading takes, are together of bulk at most 1048576: NARROWER than '..Said'. Prove '..Said' where nothing that the law and all that it calls make is longer than what came in: it says more and counts as full. Else prove '..UptoSaid'. A law counts once. -/
mutual
def uptoBulk {H : Type} : DataW H → Nat
  | .lit (.string bytes) => bytes.length + 1
  | .lit _ => 1
  | .nil => 1
  | .ptr d => uptoBulk d + 1
  | .slice elems spare => uptoBulkAll elems + uptoBulkAll spare + 1
  | .agg parts => uptoBulkAll parts + 1
  | .iface _ d => uptoBulk d + 1
  | .map entries => uptoBulkEntries entries + 1
  | .held _ => 1
def uptoBulkAll {H : Type} : List (DataW H) → Nat
  | [] => 0
  | d :: r => uptoBulk d + uptoBulkAll r
def uptoBulkEntries {H : Type} : List (Lit × DataW H) → Nat
  | [] => 0
  | x :: r => uptoBulkEntry x + uptoBulkEntries r
def uptoBulkEntry {H : Type} : Lit × DataW H → Nat
  | (.string bytes, d) => bytes.length + uptoBulk d + 1
  | (_, d) => uptoBulk d + 1
 end
def uptoSmall : (H : Type) → List (DataW H) → Bool := fun _ ds => decide (uptoBulkAll ds ≤ 1048576)
def OpenSpec.upto (s : _root_.Go.ChangeSpec) : _root_.Go.OpenSpec := { _root_.Go.OpenSpec.ofChange s with cond := some uptoSmall }

/-- 'laws.FnHeapNewShows', WHERE WHAT IT READS IS OF BULK AT MOST 1048576: true; the input reads as it did. -/
def fnHeapNewShowsUptoRow : OpenClaim := { program := "ytfknenaecihchaa", sum := "346b5f1834205698adc1cd7ac93c83daceab0ec7a41a7339900e391c36f3fa85", func := "loop.example/slowworm/laws.FnHeapNewShows", spec := "fnHeapNewShows", inPlace := ["internal/abi.NoEscape"], recurses := true, apart := false, narrowed := true }
def FnHeapNewShowsUptoSaid : Prop := fnHeapNewShowsUptoRow.holds Try.pinned (OpenSpec.upto fnHeapNewShowsSpec)

/-- 'laws.FnExactHeapOk', WHERE WHAT IT READS IS OF BULK AT MOST 1048576: true; the input reads as it did. -/
def fnExactHeapOkUptoRow : OpenClaim := { program := "ytfknenaecihchaa", sum := "346b5f1834205698adc1cd7ac93c83daceab0ec7a41a7339900e391c36f3fa85", func := "loop.example/slowworm/laws.FnExactHeapOk", spec := "fnExactHeapOk", apart := false, narrowed := true }
def FnExactHeapOkUptoSaid : Prop := fnExactHeapOkUptoRow.holds Try.pinned (OpenSpec.upto fnExactHeapOkSpec)

/-- 'laws.FnExactHeapTruth', WHERE WHAT IT READS IS OF BULK AT MOST 1048576: true; the input reads as it did. -/
def fnExactHeapTruthUptoRow : OpenClaim := { program := "ytfknenaecihchaa", sum := "346b5f1834205698adc1cd7ac93c83daceab0ec7a41a7339900e391c36f3fa85", func := "loop.example/slowworm/laws.FnExactHeapTruth", spec := "fnExactHeapTruth", apart := false, narrowed := true }
def FnExactHeapTruthUptoSaid : Prop := fnExactHeapTruthUptoRow.holds Try.pinned (OpenSpec.upto fnExactHeapTruthSpec)

/-- 'laws.FnHeapOk', WHERE WHAT IT READS IS OF BULK AT MOST 1048576: true; the input reads as it did. -/
def fnHeapOkUptoRow : OpenClaim := { program := "ytfknenaecihchaa", sum := "346b5f1834205698adc1cd7ac93c83daceab0ec7a41a7339900e391c36f3fa85", func := "loop.example/slowworm/laws.FnHeapOk", spec := "fnHeapOk", unfollowed := true, recurses := true, apart := false, narrowed := true }
def FnHeapOkUptoSaid : Prop := fnHeapOkUptoRow.holds Try.pinned (OpenSpec.upto fnHeapOkSpec)

end Rows
end Go.Proofs.Ytfknenaecihchaa
