/-
  No cell of these rows narrows 'for every input' (looked for: loops, veiled, ifaces, maps, wideKeys, modest, calm, conditions, laid).
  DERIVED. THE GIVEN ROWS OF THIS SEAT. 7 by the template 'for every input the law returns true; each argument reads behind the call as it read before'; 0 by the template 'total and deterministic' (their statements: YtehcejlbfngfdaaTotals.lean).
  GIVEN WITH THE SEED: the statements are not yours to turn. If you find one false, say at which input.
  Laid BY PROGRAM, IN A SANDBOX (cutbox-rows.mjs): the forced cells as the released guide's own fill.sh prints them over the translation f2024000b21e8377… (all of the seat's roots in one cut). By AI agents, Wed Nov 11 2026. No macro, syntax, notation, axiom, sorry.
-/
import Derived.Test.YtehcejlbfngfdaaChecked
import GoSem.Claim
import GoSem.ClaimJoined
import GoSem.ClaimMapViews
import Derived.JoinedTies
import Derived.KernelRfl
namespace Go.Proofs.Ytehcejlbfngfdaa
/- THE CELL 'sum', in the pinned program and in every row, IS THE sha256 OF THE DUMP (.gsa) THAT YtehcejlbfngfdaaProg.lean LOADS. Nothing in Lean hashes anything: it is a label: what it is worth is what the hold of that sum in a sandbox is worth. -/
noncomputable def Try.pinned : Pinned := { name := "ytehcejlbfngfdaa", sum := "f2024000b21e83774daa59810bf11752bd529e8d010a5a50f44c5f5a71bb817c", checked := Try.checked }
namespace Rows
def none {H : Type} : Left H := { results := [], args := [] }

/-- 'laws.FnClassesOk': WHATEVER THE INPUT: true; the input reads as it did. -/
def fnClassesOkSpec : ChangeSpec := { name := "fnClassesOk", fn := fun _ => fun
  | [d] => { results := [.lit (.bool true)], args := [d] }
  | _ => none }
def fnClassesOkRow : OpenClaim := { program := "ytehcejlbfngfdaa", sum := "f2024000b21e83774daa59810bf11752bd529e8d010a5a50f44c5f5a71bb817c", func := "loop.example/slowworm/laws.FnClassesOk", spec := "fnClassesOk", unfollowed := true, recurses := true, apart := false }
def FnClassesOkSaid : Prop := fnClassesOkRow.holds Try.pinned (OpenSpec.ofChange fnClassesOkSpec)

/-- ITS FALSE NEIGHBOUR: 'it returns false'. Refute it at one input. -/
def fnClassesOkWrong : ChangeSpec := { name := "fnClassesOk", fn := fun _ => fun
  | [d] => { results := [.lit (.bool false)], args := [d] }
  | _ => none }
def FnClassesOkWrongFalsely : Prop := fnClassesOkRow.holds Try.pinned (OpenSpec.ofChange fnClassesOkWrong)

/-- 'laws.FnExactClassesOk': WHATEVER THE INPUT: true; the input reads as it did. -/
def fnExactClassesOkSpec : ChangeSpec := { name := "fnExactClassesOk", fn := fun _ => fun
  | [d] => { results := [.lit (.bool true)], args := [d] }
  | _ => none }
def fnExactClassesOkRow : OpenClaim := { program := "ytehcejlbfngfdaa", sum := "f2024000b21e83774daa59810bf11752bd529e8d010a5a50f44c5f5a71bb817c", func := "loop.example/slowworm/laws.FnExactClassesOk", spec := "fnExactClassesOk", unfollowed := true, recurses := true, apart := false }
def FnExactClassesOkSaid : Prop := fnExactClassesOkRow.holds Try.pinned (OpenSpec.ofChange fnExactClassesOkSpec)

/-- ITS FALSE NEIGHBOUR: 'it returns false'. Refute it at one input. -/
def fnExactClassesOkWrong : ChangeSpec := { name := "fnExactClassesOk", fn := fun _ => fun
  | [d] => { results := [.lit (.bool false)], args := [d] }
  | _ => none }
def FnExactClassesOkWrongFalsely : Prop := fnExactClassesOkRow.holds Try.pinned (OpenSpec.ofChange fnExactClassesOkWrong)

/-- 'laws.FnAttrFind': WHATEVER THE INPUT: true; the input reads as it did. -/
def fnAttrFindSpec : ChangeSpec := { name := "fnAttrFind", fn := fun _ => fun
  | [d] => { results := [.lit (.bool true)], args := [d] }
  | _ => none }
def fnAttrFindRow : OpenClaim := { program := "ytehcejlbfngfdaa", sum := "f2024000b21e83774daa59810bf11752bd529e8d010a5a50f44c5f5a71bb817c", func := "loop.example/slowworm/laws.FnAttrFind", spec := "fnAttrFind", unfollowed := true, recurses := true, apart := false }
def FnAttrFindSaid : Prop := fnAttrFindRow.holds Try.pinned (OpenSpec.ofChange fnAttrFindSpec)

/-- ITS FALSE NEIGHBOUR: 'it returns false'. Refute it at one input. -/
def fnAttrFindWrong : ChangeSpec := { name := "fnAttrFind", fn := fun _ => fun
  | [d] => { results := [.lit (.bool false)], args := [d] }
  | _ => none }
def FnAttrFindWrongFalsely : Prop := fnAttrFindRow.holds Try.pinned (OpenSpec.ofChange fnAttrFindWrong)

/-- 'laws.FnAttrGet': WHATEVER THE INPUT: true; the input reads as it did. -/
def fnAttrGetSpec : ChangeSpec := { name := "fnAttrGet", fn := fun _ => fun
  | [d] => { results := [.lit (.bool true)], args := [d] }
  | _ => none }
def fnAttrGetRow : OpenClaim := { program := "ytehcejlbfngfdaa", sum := "f2024000b21e83774daa59810bf11752bd529e8d010a5a50f44c5f5a71bb817c", func := "loop.example/slowworm/laws.FnAttrGet", spec := "fnAttrGet", unfollowed := true, recurses := true, apart := false }
def FnAttrGetSaid : Prop := fnAttrGetRow.holds Try.pinned (OpenSpec.ofChange fnAttrGetSpec)

/-- ITS FALSE NEIGHBOUR: 'it returns false'. Refute it at one input. -/
def fnAttrGetWrong : ChangeSpec := { name := "fnAttrGet", fn := fun _ => fun
  | [d] => { results := [.lit (.bool false)], args := [d] }
  | _ => none }
def FnAttrGetWrongFalsely : Prop := fnAttrGetRow.holds Try.pinned (OpenSpec.ofChange fnAttrGetWrong)

/-- 'laws.FnAttrOwn': WHATEVER THE INPUT: true; the input reads as it did. -/
def fnAttrOwnSpec : ChangeSpec := { name := "fnAttrOwn", fn := fun _ => fun
  | [d] => { results := [.lit (.bool true)], args := [d] }
  | _ => none }
def fnAttrOwnRow : OpenClaim := { program := "ytehcejlbfngfdaa", sum := "f2024000b21e83774daa59810bf11752bd529e8d010a5a50f44c5f5a71bb817c", func := "loop.example/slowworm/laws.FnAttrOwn", spec := "fnAttrOwn", unfollowed := true, recurses := true, apart := false }
def FnAttrOwnSaid : Prop := fnAttrOwnRow.holds Try.pinned (OpenSpec.ofChange fnAttrOwnSpec)

/-- ITS FALSE NEIGHBOUR: 'it returns false'. Refute it at one input. -/
def fnAttrOwnWrong : ChangeSpec := { name := "fnAttrOwn", fn := fun _ => fun
  | [d] => { results := [.lit (.bool false)], args := [d] }
  | _ => none }
def FnAttrOwnWrongFalsely : Prop := fnAttrOwnRow.holds Try.pinned (OpenSpec.ofChange fnAttrOwnWrong)

/-- 'laws.FnAttrSet': WHATEVER THE INPUT: true; the input reads as it did. -/
def fnAttrSetSpec : ChangeSpec := { name := "fnAttrSet", fn := fun _ => fun
  | [d] => { results := [.lit (.bool true)], args := [d] }
  | _ => none }
def fnAttrSetRow : OpenClaim := { program := "ytehcejlbfngfdaa", sum := "f2024000b21e83774daa59810bf11752bd529e8d010a5a50f44c5f5a71bb817c", func := "loop.example/slowworm/laws.FnAttrSet", spec := "fnAttrSet", unfollowed := true, recurses := true, apart := false }
def FnAttrSetSaid : Prop := fnAttrSetRow.holds Try.pinned (OpenSpec.ofChange fnAttrSetSpec)

/-- ITS FALSE NEIGHBOUR: 'it returns false'. Refute it at one input. -/
def fnAttrSetWrong : ChangeSpec := { name := "fnAttrSet", fn := fun _ => fun
  | [d] => { results := [.lit (.bool false)], args := [d] }
  | _ => none }
def FnAttrSetWrongFalsely : Prop := fnAttrSetRow.holds Try.pinned (OpenSpec.ofChange fnAttrSetWrong)

/-- 'laws.FnExactAttrFind': WHATEVER THE INPUT: true; the input reads as it did. -/
def fnExactAttrFindSpec : ChangeSpec := { name := "fnExactAttrFind", fn := fun _ => fun
  | [d1, d2, d3] => { results := [.lit (.bool true)], args := [d1, d2, d3] }
  | _ => none }
def fnExactAttrFindRow : OpenClaim := { program := "ytehcejlbfngfdaa", sum := "f2024000b21e83774daa59810bf11752bd529e8d010a5a50f44c5f5a71bb817c", func := "loop.example/slowworm/laws.FnExactAttrFind", spec := "fnExactAttrFind", unfollowed := true, recurses := true, apart := false }
def FnExactAttrFindSaid : Prop := fnExactAttrFindRow.holds Try.pinned (OpenSpec.ofChange fnExactAttrFindSpec)

/-- ITS FALSE NEIGHBOUR: 'it returns false'. Refute it at one input. -/
def fnExactAttrFindWrong : ChangeSpec := { name := "fnExactAttrFind", fn := fun _ => fun
  | [d1, d2, d3] => { results := [.lit (.bool false)], args := [d1, d2, d3] }
  | _ => none }
def FnExactAttrFindWrongFalsely : Prop := fnExactAttrFindRow.holds Try.pinned (OpenSpec.ofChange fnExactAttrFindWrong)

/- THE SECOND FORM. 'bulk': how many values and letters a reading holds, each counted each time it is reached (what is shared counts as often as it is met; a slice's spare places count too). A statement '..UptoSaid' is the law's where the arguments, and the package variables that the reading takes, are together of bulk at most 1048576: NARROWER than '..Said'. Prove '..Said' where nothing that the law and all that it calls make is longer than what came in: it says more and counts as full. Else prove '..UptoSaid'. A law counts once. -/
mutual
def uptoBulk {H : Type} : DataW H → Nat
  | .lit (.string bytes) => bytes.length + 1
  | .lit _ => 1
  | .nil => 1
  | .ptr d => uptoBulk d + 1
  | .slice elems spare => uptoBulkAll elems + uptoBulkAll spare + 1
  | .agg parts => uptoBulkAll parts + 1
  | .iface _ d => uptoBulk d + 1
  | .map entries => uptoBulkEntries entries + 1
  | .held _ => 1
def uptoBulkAll {H : Type} : List (DataW H) → Nat
  | [] => 0
  | d :: r => uptoBulk d + uptoBulkAll r
def uptoBulkEntries {H : Type} : List (Lit × DataW H) → Nat
  | [] => 0
  | x :: r => uptoBulkEntry x + uptoBulkEntries r
def uptoBulkEntry {H : Type} : Lit × DataW H → Nat
  | (.string bytes, d) => bytes.length + uptoBulk d + 1
  | (_, d) => uptoBulk d + 1
 end
def uptoSmall : (H : Type) → List (DataW H) → Bool := fun _ ds => decide (uptoBulkAll ds ≤ 1048576)
def OpenSpec.upto (s : _root_.Go.ChangeSpec) : _root_.Go.OpenSpec := { _root_.Go.OpenSpec.ofChange s with cond := some uptoSmall }

/-- 'laws.FnClassesOk', WHERE WHAT IT READS IS OF BULK AT MOST 1048576: true; the input reads as it did. -/
def fnClassesOkUptoRow : OpenClaim := { program := "ytehcejlbfngfdaa", sum := "f2024000b21e83774daa59810bf11752bd529e8d010a5a50f44c5f5a71bb817c", func := "loop.example/slowworm/laws.FnClassesOk", spec := "fnClassesOk", unfollowed := true, recurses := true, apart := false, narrowed := true }
def FnClassesOkUptoSaid : Prop := fnClassesOkUptoRow.holds Try.pinned (OpenSpec.upto fnClassesOkSpec)

/-- 'laws.FnExactClassesOk', WHERE WHAT IT READS IS OF BULK AT MOST 1048576: true; the input reads as it did. -/
def fnExactClassesOkUptoRow : OpenClaim := { program := "ytehcejlbfngfdaa", sum := "f2024000b21e83774daa59810bf11752bd529e8d010a5a50f44c5f5a71bb817c", func := "loop.example/slowworm/laws.FnExactClassesOk", spec := "fnExactClassesOk", unfollowed := true, recurses := true, apart := false, narrowed := true }
def FnExactClassesOkUptoSaid : Prop := fnExactClassesOkUptoRow.holds Try.pinned (OpenSpec.upto fnExactClassesOkSpec)

/-- 'laws.FnAttrFind', WHERE WHAT IT READS IS OF BULK AT MOST 1048576: true; the input reads as it did. -/
def fnAttrFindUptoRow : OpenClaim := { program := "ytehcejlbfngfdaa", sum := "f2024000b21e83774daa59810bf11752bd529e8d010a5a50f44c5f5a71bb817c", func := "loop.example/slowworm/laws.FnAttrFind", spec := "fnAttrFind", unfollowed := true, recurses := true, apart := false, narrowed := true }
def FnAttrFindUptoSaid : Prop := fnAttrFindUptoRow.holds Try.pinned (OpenSpec.upto fnAttrFindSpec)

/-- 'laws.FnAttrGet', WHERE WHAT IT READS IS OF BULK AT MOST 1048576: true; the input reads as it did. -/
def fnAttrGetUptoRow : OpenClaim := { program := "ytehcejlbfngfdaa", sum := "f2024000b21e83774daa59810bf11752bd529e8d010a5a50f44c5f5a71bb817c", func := "loop.example/slowworm/laws.FnAttrGet", spec := "fnAttrGet", unfollowed := true, recurses := true, apart := false, narrowed := true }
def FnAttrGetUptoSaid : Prop := fnAttrGetUptoRow.holds Try.pinned (OpenSpec.upto fnAttrGetSpec)

/-- 'laws.FnAttrOwn', WHERE WHAT IT READS IS OF BULK AT MOST 1048576: true; the input reads as it did. -/
def fnAttrOwnUptoRow : OpenClaim := { program := "ytehcejlbfngfdaa", sum := "f2024000b21e83774daa59810bf11752bd529e8d010a5a50f44c5f5a71bb817c", func := "loop.example/slowworm/laws.FnAttrOwn", spec := "fnAttrOwn", unfollowed := true, recurses := true, apart := false, narrowed := true }
def FnAttrOwnUptoSaid : Prop := fnAttrOwnUptoRow.holds Try.pinned (OpenSpec.upto fnAttrOwnSpec)

/-- 'laws.FnAttrSet', WHERE WHAT IT READS IS OF BULK AT MOST 1048576: true; the input reads as it did. -/
def fnAttrSetUptoRow : OpenClaim := { program := "ytehcejlbfngfdaa", sum := "f2024000b21e83774daa59810bf11752bd529e8d010a5a50f44c5f5a71bb817c", func := "loop.example/slowworm/laws.FnAttrSet", spec := "fnAttrSet", unfollowed := true, recurses := true, apart := false, narrowed := true }
def FnAttrSetUptoSaid : Prop := fnAttrSetUptoRow.holds Try.pinned (OpenSpec.upto fnAttrSetSpec)

/-- 'laws.FnExactAttrFind', WHERE WHAT IT READS IS OF BULK AT MOST 1048576: true; the input reads as it did. -/
def fnExactAttrFindUptoRow : OpenClaim := { program := "ytehcejlbfngfdaa", sum := "f2024000b21e83774daa59810bf11752bd529e8d010a5a50f44c5f5a71bb817c", func := "loop.example/slowworm/laws.FnExactAttrFind", spec := "fnExactAttrFind", unfollowed := true, recurses := true, apart := false, narrowed := true }
def FnExactAttrFindUptoSaid : Prop := fnExactAttrFindUptoRow.holds Try.pinned (OpenSpec.upto fnExactAttrFindSpec)

end Rows
end Go.Proofs.Ytehcejlbfngfdaa
