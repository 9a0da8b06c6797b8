/-
  NARROWER THAN 'FOR EVERY INPUT', by the rows' own cells (each row's printed sentence says how): FnExactExprOk: loops · FnExactExprSize: loops · FnExactExprSame: loops · FnExactExprNames: loops.
  DERIVED. THE GIVEN ROWS OF THIS SEAT. 6 by the template 'for every input the law returns true; each argument reads behind the call as it read before'; 0 by the template 'total and deterministic' (their statements: YtdfnlaikelijeaaTotals.lean).
  GIVEN WITH THE SEED: the statements are not yours to turn. If you find one false, say at which input.
  Laid BY PROGRAM, IN A SANDBOX (cutbox-rows.mjs): the forced cells as the released guide's own fill.sh prints them over the translation 3807304474897ccd… (all of the seat's roots in one cut). By AI agents, Wed Nov 11 2026. No macro, syntax, notation, axiom, sorry.
-/
import Derived.Test.YtdfnlaikelijeaaChecked
import GoSem.Claim
import GoSem.ClaimJoined
import GoSem.ClaimMapViews
import Derived.JoinedTies
import Derived.KernelRfl
namespace Go.Proofs.Ytdfnlaikelijeaa
/- THE CELL 'sum', in the pinned program and in every row, IS THE sha256 OF THE DUMP (.gsa) THAT YtdfnlaikelijeaaProg.lean LOADS. Nothing in Lean hashes anything: it is a label: what it is worth is what the hold of that sum in a sandbox is worth. -/
noncomputable def Try.pinned : Pinned := { name := "ytdfnlaikelijeaa", sum := "3807304474897ccda61c6f1f2a807a434010d4bd5a3dcfb7787f9b0711214857", checked := Try.checked }
namespace Rows
def none {H : Type} : Left H := { results := [], args := [] }

/-- 'laws.FnExactExprOk': WHATEVER THE INPUT: true; the input reads as it did. -/
def fnExactExprOkSpec : ChangeSpec := { name := "fnExactExprOk", fn := fun _ => fun
  | [d] => { results := [.lit (.bool true)], args := [d] }
  | _ => none }
def fnExactExprOkRow : OpenClaim := { program := "ytdfnlaikelijeaa", sum := "3807304474897ccda61c6f1f2a807a434010d4bd5a3dcfb7787f9b0711214857", func := "loop.example/slowworm/laws.FnExactExprOk", spec := "fnExactExprOk", unfollowed := true, recurses := true, loops := true, apart := false }
def FnExactExprOkSaid : Prop := fnExactExprOkRow.holds Try.pinned (OpenSpec.ofChange fnExactExprOkSpec)

/-- ITS FALSE NEIGHBOUR: 'it returns false'. Refute it at one input. -/
def fnExactExprOkWrong : ChangeSpec := { name := "fnExactExprOk", fn := fun _ => fun
  | [d] => { results := [.lit (.bool false)], args := [d] }
  | _ => none }
def FnExactExprOkWrongFalsely : Prop := fnExactExprOkRow.holds Try.pinned (OpenSpec.ofChange fnExactExprOkWrong)

/-- 'laws.FnExactExprSize': WHATEVER THE INPUT: true; the input reads as it did. -/
def fnExactExprSizeSpec : ChangeSpec := { name := "fnExactExprSize", fn := fun _ => fun
  | [d] => { results := [.lit (.bool true)], args := [d] }
  | _ => none }
def fnExactExprSizeRow : OpenClaim := { program := "ytdfnlaikelijeaa", sum := "3807304474897ccda61c6f1f2a807a434010d4bd5a3dcfb7787f9b0711214857", func := "loop.example/slowworm/laws.FnExactExprSize", spec := "fnExactExprSize", unfollowed := true, recurses := true, loops := true, apart := false }
def FnExactExprSizeSaid : Prop := fnExactExprSizeRow.holds Try.pinned (OpenSpec.ofChange fnExactExprSizeSpec)

/-- ITS FALSE NEIGHBOUR: 'it returns false'. Refute it at one input. -/
def fnExactExprSizeWrong : ChangeSpec := { name := "fnExactExprSize", fn := fun _ => fun
  | [d] => { results := [.lit (.bool false)], args := [d] }
  | _ => none }
def FnExactExprSizeWrongFalsely : Prop := fnExactExprSizeRow.holds Try.pinned (OpenSpec.ofChange fnExactExprSizeWrong)

/-- 'laws.FnExactExprSame': WHATEVER THE INPUT: true; the input reads as it did. -/
def fnExactExprSameSpec : ChangeSpec := { name := "fnExactExprSame", fn := fun _ => fun
  | [d1, d2] => { results := [.lit (.bool true)], args := [d1, d2] }
  | _ => none }
def fnExactExprSameRow : OpenClaim := { program := "ytdfnlaikelijeaa", sum := "3807304474897ccda61c6f1f2a807a434010d4bd5a3dcfb7787f9b0711214857", func := "loop.example/slowworm/laws.FnExactExprSame", spec := "fnExactExprSame", unfollowed := true, recurses := true, loops := true, apart := false }
def FnExactExprSameSaid : Prop := fnExactExprSameRow.holds Try.pinned (OpenSpec.ofChange fnExactExprSameSpec)

/-- ITS FALSE NEIGHBOUR: 'it returns false'. Refute it at one input. -/
def fnExactExprSameWrong : ChangeSpec := { name := "fnExactExprSame", fn := fun _ => fun
  | [d1, d2] => { results := [.lit (.bool false)], args := [d1, d2] }
  | _ => none }
def FnExactExprSameWrongFalsely : Prop := fnExactExprSameRow.holds Try.pinned (OpenSpec.ofChange fnExactExprSameWrong)

/-- 'laws.FnExprSize': WHATEVER THE INPUT: true; the input reads as it did. -/
def fnExprSizeSpec : ChangeSpec := { name := "fnExprSize", fn := fun _ => fun
  | [d] => { results := [.lit (.bool true)], args := [d] }
  | _ => none }
def fnExprSizeRow : OpenClaim := { program := "ytdfnlaikelijeaa", sum := "3807304474897ccda61c6f1f2a807a434010d4bd5a3dcfb7787f9b0711214857", func := "loop.example/slowworm/laws.FnExprSize", spec := "fnExprSize", unfollowed := true, recurses := true, apart := false }
def FnExprSizeSaid : Prop := fnExprSizeRow.holds Try.pinned (OpenSpec.ofChange fnExprSizeSpec)

/-- ITS FALSE NEIGHBOUR: 'it returns false'. Refute it at one input. -/
def fnExprSizeWrong : ChangeSpec := { name := "fnExprSize", fn := fun _ => fun
  | [d] => { results := [.lit (.bool false)], args := [d] }
  | _ => none }
def FnExprSizeWrongFalsely : Prop := fnExprSizeRow.holds Try.pinned (OpenSpec.ofChange fnExprSizeWrong)

/-- 'laws.FnExactExprNames': WHATEVER THE INPUT: true; the input reads as it did. -/
def fnExactExprNamesSpec : ChangeSpec := { name := "fnExactExprNames", fn := fun _ => fun
  | [d] => { results := [.lit (.bool true)], args := [d] }
  | _ => none }
def fnExactExprNamesRow : OpenClaim := { program := "ytdfnlaikelijeaa", sum := "3807304474897ccda61c6f1f2a807a434010d4bd5a3dcfb7787f9b0711214857", func := "loop.example/slowworm/laws.FnExactExprNames", spec := "fnExactExprNames", unfollowed := true, recurses := true, loops := true, apart := false }
def FnExactExprNamesSaid : Prop := fnExactExprNamesRow.holds Try.pinned (OpenSpec.ofChange fnExactExprNamesSpec)

/-- ITS FALSE NEIGHBOUR: 'it returns false'. Refute it at one input. -/
def fnExactExprNamesWrong : ChangeSpec := { name := "fnExactExprNames", fn := fun _ => fun
  | [d] => { results := [.lit (.bool false)], args := [d] }
  | _ => none }
def FnExactExprNamesWrongFalsely : Prop := fnExactExprNamesRow.holds Try.pinned (OpenSpec.ofChange fnExactExprNamesWrong)

/-- 'laws.FnExprNames': WHATEVER THE INPUT: true; the input reads as it did. -/
def fnExprNamesSpec : ChangeSpec := { name := "fnExprNames", fn := fun _ => fun
  | [d] => { results := [.lit (.bool true)], args := [d] }
  | _ => none }
def fnExprNamesRow : OpenClaim := { program := "ytdfnlaikelijeaa", sum := "3807304474897ccda61c6f1f2a807a434010d4bd5a3dcfb7787f9b0711214857", func := "loop.example/slowworm/laws.FnExprNames", spec := "fnExprNames", unfollowed := true, recurses := true, apart := false }
def FnExprNamesSaid : Prop := fnExprNamesRow.holds Try.pinned (OpenSpec.ofChange fnExprNamesSpec)

/-- ITS FALSE NEIGHBOUR: 'it returns false'. Refute it at one input. -/
def fnExprNamesWrong : ChangeSpec := { name := "fnExprNames", fn := fun _ => fun
  | [d] => { results := [.lit (.bool false)], args := [d] }
  | _ => none }
def FnExprNamesWrongFalsely : Prop := fnExprNamesRow.holds Try.pinned (OpenSpec.ofChange fnExprNamesWrong)

/- THE SECOND FORM. 'bulk': how many values and letters a reading holds, each counted each time it is reached (what is shared counts as often as it is met; a slice's spare places count too). A statement '..UptoSaid' is the law's where the arguments, and the package variables that the reading takes, are together of bulk at most 1048576: NARROWER than '..Said'. Prove '..Said' where nothing that the law and all that it calls make is longer than what came in: it says more and counts as full. Else prove '..UptoSaid'. A law counts once. -/
mutual
def uptoBulk {H : Type} : DataW H → Nat
  | .lit (.string bytes) => bytes.length + 1
  | .lit _ => 1
  | .nil => 1
  | .ptr d => uptoBulk d + 1
  | .slice elems spare => uptoBulkAll elems + uptoBulkAll spare + 1
  | .agg parts => uptoBulkAll parts + 1
  | .iface _ d => uptoBulk d + 1
  | .map entries => uptoBulkEntries entries + 1
  | .held _ => 1
def uptoBulkAll {H : Type} : List (DataW H) → Nat
  | [] => 0
  | d :: r => uptoBulk d + uptoBulkAll r
def uptoBulkEntries {H : Type} : List (Lit × DataW H) → Nat
  | [] => 0
  | x :: r => uptoBulkEntry x + uptoBulkEntries r
def uptoBulkEntry {H : Type} : Lit × DataW H → Nat
  | (.string bytes, d) => bytes.length + uptoBulk d + 1
  | (_, d) => uptoBulk d + 1
 end
def uptoSmall : (H : Type) → List (DataW H) → Bool := fun _ ds => decide (uptoBulkAll ds ≤ 1048576)
def OpenSpec.upto (s : _root_.Go.ChangeSpec) : _root_.Go.OpenSpec := { _root_.Go.OpenSpec.ofChange s with cond := some uptoSmall }

/-- 'laws.FnExactExprOk', WHERE WHAT IT READS IS OF BULK AT MOST 1048576: true; the input reads as it did. -/
def fnExactExprOkUptoRow : OpenClaim := { program := "ytdfnlaikelijeaa", sum := "3807304474897ccda61c6f1f2a807a434010d4bd5a3dcfb7787f9b0711214857", func := "loop.example/slowworm/laws.FnExactExprOk", spec := "fnExactExprOk", unfollowed := true, recurses := true, loops := true, apart := false, narrowed := true }
def FnExactExprOkUptoSaid : Prop := fnExactExprOkUptoRow.holds Try.pinned (OpenSpec.upto fnExactExprOkSpec)

/-- 'laws.FnExactExprSize', WHERE WHAT IT READS IS OF BULK AT MOST 1048576: true; the input reads as it did. -/
def fnExactExprSizeUptoRow : OpenClaim := { program := "ytdfnlaikelijeaa", sum := "3807304474897ccda61c6f1f2a807a434010d4bd5a3dcfb7787f9b0711214857", func := "loop.example/slowworm/laws.FnExactExprSize", spec := "fnExactExprSize", unfollowed := true, recurses := true, loops := true, apart := false, narrowed := true }
def FnExactExprSizeUptoSaid : Prop := fnExactExprSizeUptoRow.holds Try.pinned (OpenSpec.upto fnExactExprSizeSpec)

/-- 'laws.FnExactExprSame', WHERE WHAT IT READS IS OF BULK AT MOST 1048576: true; the input reads as it did. -/
def fnExactExprSameUptoRow : OpenClaim := { program := "ytdfnlaikelijeaa", sum := "3807304474897ccda61c6f1f2a807a434010d4bd5a3dcfb7787f9b0711214857", func := "loop.example/slowworm/laws.FnExactExprSame", spec := "fnExactExprSame", unfollowed := true, recurses := true, loops := true, apart := false, narrowed := true }
def FnExactExprSameUptoSaid : Prop := fnExactExprSameUptoRow.holds Try.pinned (OpenSpec.upto fnExactExprSameSpec)

/-- 'laws.FnExprSize', WHERE WHAT IT READS IS OF BULK AT MOST 1048576: true; the input reads as it did. -/
def fnExprSizeUptoRow : OpenClaim := { program := "ytdfnlaikelijeaa", sum := "3807304474897ccda61c6f1f2a807a434010d4bd5a3dcfb7787f9b0711214857", func := "loop.example/slowworm/laws.FnExprSize", spec := "fnExprSize", unfollowed := true, recurses := true, apart := false, narrowed := true }
def FnExprSizeUptoSaid : Prop := fnExprSizeUptoRow.holds Try.pinned (OpenSpec.upto fnExprSizeSpec)

/-- 'laws.FnExactExprNames', WHERE WHAT IT READS IS OF BULK AT MOST 1048576: true; the input reads as it did. -/
def fnExactExprNamesUptoRow : OpenClaim := { program := "ytdfnlaikelijeaa", sum := "3807304474897ccda61c6f1f2a807a434010d4bd5a3dcfb7787f9b0711214857", func := "loop.example/slowworm/laws.FnExactExprNames", spec := "fnExactExprNames", unfollowed := true, recurses := true, loops := true, apart := false, narrowed := true }
def FnExactExprNamesUptoSaid : Prop := fnExactExprNamesUptoRow.holds Try.pinned (OpenSpec.upto fnExactExprNamesSpec)

/-- 'laws.FnExprNames', WHERE WHAT IT READS IS OF BULK AT MOST 1048576: true; the input reads as it did. -/
def fnExprNamesUptoRow : OpenClaim := { program := "ytdfnlaikelijeaa", sum := "3807304474897ccda61c6f1f2a807a434010d4bd5a3dcfb7787f9b0711214857", func := "loop.example/slowworm/laws.FnExprNames", spec := "fnExprNames", unfollowed := true, recurses := true, apart := false, narrowed := true }
def FnExprNamesUptoSaid : Prop := fnExprNamesUptoRow.holds Try.pinned (OpenSpec.upto fnExprNamesSpec)

end Rows
end Go.Proofs.Ytdfnlaikelijeaa
