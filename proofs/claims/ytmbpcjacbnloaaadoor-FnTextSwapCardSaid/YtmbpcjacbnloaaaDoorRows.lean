/-
  NARROWER THAN 'FOR EVERY INPUT', by the rows' own cells (each row's printed sentence says how): FnExactTextSwap: laid · FnTextSplit: laid · FnSplitSwap: laid · FnTextSwap: laid.
  DERIVED. THE GIVEN ROWS OF THIS SEAT. 4 by the template 'for every input the law returns true; each argument reads behind the call as it read before'; 0 by the template 'total and deterministic' (their statements: YtmbpcjacbnloaaaDoorTotals.lean).
  GIVEN WITH THE SEED: the statements are not yours to turn. If you find one false, say at which input.
  Laid BY PROGRAM, IN A SANDBOX (cutbox-rows.mjs): the forced cells as the released guide's own fill.sh prints them over the translation 6dc5fc206d6191ad… (all of the seat's roots in one cut). By AI agents, Wed Nov 11 2026. No macro, syntax, notation, axiom, sorry.
-/
import Derived.Test.YtmbpcjacbnloaaaDoorChecked
import GoSem.PinnedTables
import GoSem.Claim
import GoSem.ClaimJoined
import GoSem.ClaimMapViews
import Derived.JoinedTies
import Derived.KernelRfl
namespace Go.Proofs.YtmbpcjacbnloaaaDoor
/- THE CELL 'sum', in the pinned program and in every row, IS THE sha256 OF THE DUMP (.gsa) THAT YtmbpcjacbnloaaaDoorProg.lean LOADS. Nothing in Lean hashes anything: it is a label: what it is worth is what the hold of that sum in a sandbox is worth. -/
noncomputable def Tryd.pinned : Pinned := { name := "ytmbpcjacbnloaaadoor", sum := "6dc5fc206d6191ad04ce29a7f774e8018b51599a9aafc79aa03e34bae49aab4f", checked := Tryd.checked }
namespace Rows
def none {H : Type} : Left H := { results := [], args := [] }

/- WHAT THE LISTED PACKAGE-LEVEL VARIABLES READ AS WHEN THE CALL BEGINS. Each datum BY PROGRAM (the guide's laid-datum.mjs) off the statement by which the dump's own 'gosem.cut.vars' lays the variable. In a bare row this is a premise. The card (YtmbpcjacbnloaaaDoorCards.lean) ties it to the program's text. -/
def laid_unicode_utf8_acceptRanges {H : Type} : DataW H := .agg [.agg [.lit (.int .u8 128), .lit (.int .u8 191)], .agg [.lit (.int .u8 160), .lit (.int .u8 191)], .agg [.lit (.int .u8 128), .lit (.int .u8 159)], .agg [.lit (.int .u8 144), .lit (.int .u8 191)], .agg [.lit (.int .u8 128), .lit (.int .u8 143)], .agg [.lit (.int .u8 0), .lit (.int .u8 0)], .agg [.lit (.int .u8 0), .lit (.int .u8 0)], .agg [.lit (.int .u8 0), .lit (.int .u8 0)], .agg [.lit (.int .u8 0), .lit (.int .u8 0)], .agg [.lit (.int .u8 0), .lit (.int .u8 0)], .agg [.lit (.int .u8 0), .lit (.int .u8 0)], .agg [.lit (.int .u8 0), .lit (.int .u8 0)], .agg [.lit (.int .u8 0), .lit (.int .u8 0)], .agg [.lit (.int .u8 0), .lit (.int .u8 0)], .agg [.lit (.int .u8 0), .lit (.int .u8 0)], .agg [.lit (.int .u8 0), .lit (.int .u8 0)]]
/-- One of Go's own tables, pinned by name: the form's constant. -/
def laid_unicode_utf8_first : DataW Unit := Go.Pinned.utf8First

/-- 'laws.FnExactTextSwap': WHATEVER THE INPUT: true; the input reads as it did. -/
def fnExactTextSwapSpec : ChangeSpec := { name := "fnExactTextSwap", fn := fun _ => fun
  | [d1, d2, d3] => { results := [.lit (.bool true)], args := [d1, d2, d3] }
  | _ => none }
def fnExactTextSwapRow : OpenClaim := { program := "ytmbpcjacbnloaaadoor", sum := "6dc5fc206d6191ad04ce29a7f774e8018b51599a9aafc79aa03e34bae49aab4f", func := "loop.example/slowworm/laws.FnExactTextSwap", spec := "fnExactTextSwap", inPlace := ["internal/bytealg.CountString", "internal/bytealg.IndexByteString", "internal/bytealg.IndexString", "internal/abi.NoEscape", "internal/bytealg.MakeNoZero"], named := ["unicode/utf8.first", "unicode/utf8.acceptRanges", "internal/bytealg.MaxLen"], apart := false, laid := [("unicode/utf8.acceptRanges", laid_unicode_utf8_acceptRanges), ("unicode/utf8.first", laid_unicode_utf8_first)] }
def FnExactTextSwapSaid : Prop := fnExactTextSwapRow.holds Tryd.pinned (OpenSpec.ofChange fnExactTextSwapSpec)

/-- ITS FALSE NEIGHBOUR: 'it returns false'. Refute it at one input. -/
def fnExactTextSwapWrong : ChangeSpec := { name := "fnExactTextSwap", fn := fun _ => fun
  | [d1, d2, d3] => { results := [.lit (.bool false)], args := [d1, d2, d3] }
  | _ => none }
def FnExactTextSwapWrongFalsely : Prop := fnExactTextSwapRow.holds Tryd.pinned (OpenSpec.ofChange fnExactTextSwapWrong)

/-- 'laws.FnTextSplit': WHATEVER THE INPUT: true; the input reads as it did. -/
def fnTextSplitSpec : ChangeSpec := { name := "fnTextSplit", fn := fun _ => fun
  | [d] => { results := [.lit (.bool true)], args := [d] }
  | _ => none }
def fnTextSplitRow : OpenClaim := { program := "ytmbpcjacbnloaaadoor", sum := "6dc5fc206d6191ad04ce29a7f774e8018b51599a9aafc79aa03e34bae49aab4f", func := "loop.example/slowworm/laws.FnTextSplit", spec := "fnTextSplit", inPlace := ["internal/bytealg.CountString", "internal/bytealg.IndexByteString", "internal/bytealg.IndexString", "internal/abi.NoEscape", "internal/bytealg.MakeNoZero"], named := ["unicode/utf8.first", "unicode/utf8.acceptRanges", "internal/bytealg.MaxLen"], apart := false, laid := [("unicode/utf8.acceptRanges", laid_unicode_utf8_acceptRanges), ("unicode/utf8.first", laid_unicode_utf8_first)] }
def FnTextSplitSaid : Prop := fnTextSplitRow.holds Tryd.pinned (OpenSpec.ofChange fnTextSplitSpec)

/-- ITS FALSE NEIGHBOUR: 'it returns false'. Refute it at one input. -/
def fnTextSplitWrong : ChangeSpec := { name := "fnTextSplit", fn := fun _ => fun
  | [d] => { results := [.lit (.bool false)], args := [d] }
  | _ => none }
def FnTextSplitWrongFalsely : Prop := fnTextSplitRow.holds Tryd.pinned (OpenSpec.ofChange fnTextSplitWrong)

/-- 'laws.FnSplitSwap': WHATEVER THE INPUT: true; the input reads as it did. -/
def fnSplitSwapSpec : ChangeSpec := { name := "fnSplitSwap", fn := fun _ => fun
  | [d] => { results := [.lit (.bool true)], args := [d] }
  | _ => none }
def fnSplitSwapRow : OpenClaim := { program := "ytmbpcjacbnloaaadoor", sum := "6dc5fc206d6191ad04ce29a7f774e8018b51599a9aafc79aa03e34bae49aab4f", func := "loop.example/slowworm/laws.FnSplitSwap", spec := "fnSplitSwap", inPlace := ["internal/bytealg.CountString", "internal/bytealg.IndexByteString", "internal/bytealg.IndexString", "internal/abi.NoEscape", "internal/bytealg.MakeNoZero"], named := ["unicode/utf8.first", "unicode/utf8.acceptRanges", "internal/bytealg.MaxLen"], apart := false, laid := [("unicode/utf8.acceptRanges", laid_unicode_utf8_acceptRanges), ("unicode/utf8.first", laid_unicode_utf8_first)] }
def FnSplitSwapSaid : Prop := fnSplitSwapRow.holds Tryd.pinned (OpenSpec.ofChange fnSplitSwapSpec)

/-- ITS FALSE NEIGHBOUR: 'it returns false'. Refute it at one input. -/
def fnSplitSwapWrong : ChangeSpec := { name := "fnSplitSwap", fn := fun _ => fun
  | [d] => { results := [.lit (.bool false)], args := [d] }
  | _ => none }
def FnSplitSwapWrongFalsely : Prop := fnSplitSwapRow.holds Tryd.pinned (OpenSpec.ofChange fnSplitSwapWrong)

/-- 'laws.FnTextSwap': WHATEVER THE INPUT: true; the input reads as it did. -/
def fnTextSwapSpec : ChangeSpec := { name := "fnTextSwap", fn := fun _ => fun
  | [d] => { results := [.lit (.bool true)], args := [d] }
  | _ => none }
def fnTextSwapRow : OpenClaim := { program := "ytmbpcjacbnloaaadoor", sum := "6dc5fc206d6191ad04ce29a7f774e8018b51599a9aafc79aa03e34bae49aab4f", func := "loop.example/slowworm/laws.FnTextSwap", spec := "fnTextSwap", inPlace := ["internal/bytealg.CountString", "internal/bytealg.IndexByteString", "internal/bytealg.IndexString", "internal/abi.NoEscape", "internal/bytealg.MakeNoZero"], named := ["unicode/utf8.first", "unicode/utf8.acceptRanges", "internal/bytealg.MaxLen"], apart := false, laid := [("unicode/utf8.acceptRanges", laid_unicode_utf8_acceptRanges), ("unicode/utf8.first", laid_unicode_utf8_first)] }
def FnTextSwapSaid : Prop := fnTextSwapRow.holds Tryd.pinned (OpenSpec.ofChange fnTextSwapSpec)

/-- ITS FALSE NEIGHBOUR: 'it returns false'. Refute it at one input. -/
def fnTextSwapWrong : ChangeSpec := { name := "fnTextSwap", fn := fun _ => fun
  | [d] => { results := [.lit (.bool false)], args := [d] }
  | _ => none }
def FnTextSwapWrongFalsely : Prop := fnTextSwapRow.holds Tryd.pinned (OpenSpec.ofChange fnTextSwapWrong)

/- THE SECOND FORM. 'bulk': how many values and letters a reading holds, each counted each time it is reached (what is shared counts as often as it is met; a slice's spare places count too). A statement '..UptoSaid' is the law's where the arguments, and the package variables that the reading takes, are together of bulk at most 1048576: NARROWER than '..Said'. Prove '..Said' where nothing that the law and all that it calls make is longer than what came in: it says more and counts as full. Else prove '..UptoSaid'. A law counts once. -/
mutual
def uptoBulk {H : Type} : DataW H → Nat
  | .lit (.string bytes) => bytes.length + 1
  | .lit _ => 1
  | .nil => 1
  | .ptr d => uptoBulk d + 1
  | .slice elems spare => uptoBulkAll elems + uptoBulkAll spare + 1
  | .agg parts => uptoBulkAll parts + 1
  | .iface _ d => uptoBulk d + 1
  | .map entries => uptoBulkEntries entries + 1
  | .held _ => 1
def uptoBulkAll {H : Type} : List (DataW H) → Nat
  | [] => 0
  | d :: r => uptoBulk d + uptoBulkAll r
def uptoBulkEntries {H : Type} : List (Lit × DataW H) → Nat
  | [] => 0
  | x :: r => uptoBulkEntry x + uptoBulkEntries r
def uptoBulkEntry {H : Type} : Lit × DataW H → Nat
  | (.string bytes, d) => bytes.length + uptoBulk d + 1
  | (_, d) => uptoBulk d + 1
 end
def uptoSmall : (H : Type) → List (DataW H) → Bool := fun _ ds => decide (uptoBulkAll ds ≤ 1048576)
def OpenSpec.upto (s : _root_.Go.ChangeSpec) : _root_.Go.OpenSpec := { _root_.Go.OpenSpec.ofChange s with cond := some uptoSmall }

/-- 'laws.FnExactTextSwap', WHERE WHAT IT READS IS OF BULK AT MOST 1048576: true; the input reads as it did. -/
def fnExactTextSwapUptoRow : OpenClaim := { program := "ytmbpcjacbnloaaadoor", sum := "6dc5fc206d6191ad04ce29a7f774e8018b51599a9aafc79aa03e34bae49aab4f", func := "loop.example/slowworm/laws.FnExactTextSwap", spec := "fnExactTextSwap", inPlace := ["internal/bytealg.CountString", "internal/bytealg.IndexByteString", "internal/bytealg.IndexString", "internal/abi.NoEscape", "internal/bytealg.MakeNoZero"], named := ["unicode/utf8.first", "unicode/utf8.acceptRanges", "internal/bytealg.MaxLen"], apart := false, laid := [("unicode/utf8.acceptRanges", laid_unicode_utf8_acceptRanges), ("unicode/utf8.first", laid_unicode_utf8_first)], narrowed := true }
def FnExactTextSwapUptoSaid : Prop := fnExactTextSwapUptoRow.holds Tryd.pinned (OpenSpec.upto fnExactTextSwapSpec)

/-- 'laws.FnTextSplit', WHERE WHAT IT READS IS OF BULK AT MOST 1048576: true; the input reads as it did. -/
def fnTextSplitUptoRow : OpenClaim := { program := "ytmbpcjacbnloaaadoor", sum := "6dc5fc206d6191ad04ce29a7f774e8018b51599a9aafc79aa03e34bae49aab4f", func := "loop.example/slowworm/laws.FnTextSplit", spec := "fnTextSplit", inPlace := ["internal/bytealg.CountString", "internal/bytealg.IndexByteString", "internal/bytealg.IndexString", "internal/abi.NoEscape", "internal/bytealg.MakeNoZero"], named := ["unicode/utf8.first", "unicode/utf8.acceptRanges", "internal/bytealg.MaxLen"], apart := false, laid := [("unicode/utf8.acceptRanges", laid_unicode_utf8_acceptRanges), ("unicode/utf8.first", laid_unicode_utf8_first)], narrowed := true }
def FnTextSplitUptoSaid : Prop := fnTextSplitUptoRow.holds Tryd.pinned (OpenSpec.upto fnTextSplitSpec)

/-- 'laws.FnSplitSwap', WHERE WHAT IT READS IS OF BULK AT MOST 1048576: true; the input reads as it did. -/
def fnSplitSwapUptoRow : OpenClaim := { program := "ytmbpcjacbnloaaadoor", sum := "6dc5fc206d6191ad04ce29a7f774e8018b51599a9aafc79aa03e34bae49aab4f", func := "loop.example/slowworm/laws.FnSplitSwap", spec := "fnSplitSwap", inPlace := ["internal/bytealg.CountString", "internal/bytealg.IndexByteString", "internal/bytealg.IndexString", "internal/abi.NoEscape", "internal/bytealg.MakeNoZero"], named := ["unicode/utf8.first", "unicode/utf8.acceptRanges", "internal/bytealg.MaxLen"], apart := false, laid := [("unicode/utf8.acceptRanges", laid_unicode_utf8_acceptRanges), ("unicode/utf8.first", laid_unicode_utf8_first)], narrowed := true }
def FnSplitSwapUptoSaid : Prop := fnSplitSwapUptoRow.holds Tryd.pinned (OpenSpec.upto fnSplitSwapSpec)

/-- 'laws.FnTextSwap', WHERE WHAT IT READS IS OF BULK AT MOST 1048576: true; the input reads as it did. -/
def fnTextSwapUptoRow : OpenClaim := { program := "ytmbpcjacbnloaaadoor", sum := "6dc5fc206d6191ad04ce29a7f774e8018b51599a9aafc79aa03e34bae49aab4f", func := "loop.example/slowworm/laws.FnTextSwap", spec := "fnTextSwap", inPlace := ["internal/bytealg.CountString", "internal/bytealg.IndexByteString", "internal/bytealg.IndexString", "internal/abi.NoEscape", "internal/bytealg.MakeNoZero"], named := ["unicode/utf8.first", "unicode/utf8.acceptRanges", "internal/bytealg.MaxLen"], apart := false, laid := [("unicode/utf8.acceptRanges", laid_unicode_utf8_acceptRanges), ("unicode/utf8.first", laid_unicode_utf8_first)], narrowed := true }
def FnTextSwapUptoSaid : Prop := fnTextSwapUptoRow.holds Tryd.pinned (OpenSpec.upto fnTextSwapSpec)

end Rows
end Go.Proofs.YtmbpcjacbnloaaaDoor
